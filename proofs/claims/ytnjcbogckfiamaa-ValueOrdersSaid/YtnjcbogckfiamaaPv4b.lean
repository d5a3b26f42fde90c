/- A part of the proof: Pv4b. -/
import Derived.Test.YtnjcbogckfiamaaPv4
namespace Go.Eng
set_option linter.unusedVariables false
set_option linter.unusedSimpArgs false
theorem values_loop (a : List (List tAtom)) (ha : a.length < 4611686018427387904) (hv : ∀ v ∈ a, v.length < 4611686018427387904) : ∀ (d i : Nat), i + d = a.length → iter st_law07_values (.l4 a a (i : Int)) = some true
  | 0, i, hi => by
    rw [iter_eq']
    have : ¬ (i : Int) < (a.length : Int) := by omega
    simp only [st_law07_values, sg_law07_values_4, this, decide_false, Bool.false_eq_true, if_false]; rfl
  | d + 1, i, hi => by
    rw [iter_eq']
    obtain ⟨c, r, hL⟩ := drop_ex (show i < a.length by omega)
    obtain ⟨hc, hr, hlen⟩ := drop_cons (d := ([] : List tAtom)) hL
    have hlt : (i : Int) < (a.length : Int) := by omega
    have hG : 0 ≤ (i : Int) ∧ (i : Int) < (a.length : Int) := ⟨by omega, hlt⟩
    have e6 : w64 ((i : Int) + 1) = ((i + 1 : Nat) : Int) := w64_eq (by omega) (by omega)
    have hcv := hv c (List.mem_of_mem_drop (by rw [hL]; simp))
    simp only [st_law07_values, sg_law07_values_4, decide_eq_true_eq, if_pos hlt, G_pos hG, Int.toNat_natCast, hc, e6, vsame_eq c c hcv, Option.bind_some, decide_true, Bool.not_true, Bool.false_eq_true, if_false]
    show iter _ _ = _
    exact values_loop a ha hv d (i + 1) (by omega)
theorem values_eq (a : List (List tAtom)) (ha : a.length < 4611686018427387904) (hv : ∀ v ∈ a, v.length < 4611686018427387904) : law07_values a a = some true := by
  unfold law07_values en_law07_values
  simp only [decide_true, Bool.not_true, Bool.false_eq_true, if_false]
  show iter _ _ = _
  exact values_loop a ha hv a.length 0 (by omega)
theorem copied_loop (l : List (List tAtom)) (hl : vsizes l) : ∀ (d i : Nat), i + d = l.length → iter st_law07_copied (.l3 l (l.take i) (i : Int)) = some l
  | 0, i, hi => by
    rw [iter_eq']
    have : ¬ (i : Int) < (l.length : Int) := by omega
    simp only [st_law07_copied, sg_law07_copied_3, this, decide_false, Bool.false_eq_true, if_false]
    rw [List.take_of_length_le (by omega)]; rfl
  | d + 1, i, hi => by
    rw [iter_eq']
    obtain ⟨c, r, hL⟩ := drop_ex (show i < l.length by omega)
    obtain ⟨hc, hr, hlen⟩ := drop_cons (d := ([] : List tAtom)) hL
    have hcv := hl.2 c (List.mem_of_mem_drop (by rw [hL]; simp))
    have hl1 := hl.1
    have hlt : (i : Int) < (l.length : Int) := by omega
    have hG : 0 ≤ (i : Int) ∧ (i : Int) < (l.length : Int) := ⟨by omega, hlt⟩
    have e6 : w64 ((i : Int) + 1) = ((i + 1 : Nat) : Int) := w64_eq (by omega) (by omega)
    have ht : l.take i ++ [c] = l.take (i + 1) := by
      rw [List.take_add_one]
      have : l[i]? = some c := by
        have := congrArg (fun l => l[0]?) hL
        simpa using this
      rw [this]; rfl
    simp only [st_law07_copied, sg_law07_copied_3, decide_eq_true_eq, if_pos hlt, G_pos hG, Int.toNat_natCast, hc, e6, vcopy_eq c (by omega), Option.bind_some, ht]
    rw [G_pos (by rw [List.length_take]; simp only [List.length_cons, List.length_nil]; omega)]
    show iter _ _ = _
    exact copied_loop l hl d (i + 1) (by omega)
theorem copied_eq (l : List (List tAtom)) (hl : vsizes l) : law07_copied l = some l := by
  unfold law07_copied en_law07_copied
  show iter _ _ = _
  have := copied_loop l hl l.length 0 (by omega)
  simpa using this
end Go.Eng
