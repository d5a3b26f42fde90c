/- A part of the proof: Pv4. -/
import Derived.Test.YtnjcbogckfiamaaPv3
namespace Go.Eng
set_option linter.unusedVariables false
set_option linter.unusedSimpArgs false
def vsizes (l : List (List tAtom)) : Prop := l.length * 24 ≤ 140737488351232 ∧ ∀ v ∈ l, v.length * 40 ≤ 140737488351232
noncomputable def firstV : List (List tAtom) → Int
  | [] => 0
  | v :: r => if checkV v = 0 then firstV r else checkV v
theorem vfirst_loop (l : List (List tAtom)) (hl : l.length < 4611686018427387904) : ∀ (d i : Nat), i + d = l.length → iter st_value_first (.l2 l (l.length : Int) (i : Int)) = some (firstV (l.drop i))
  | 0, i, hi => by
    rw [iter_eq']
    have hd : l.drop i = [] := List.drop_eq_nil_of_le (by omega)
    have : ¬ (i : Int) < (l.length : Int) := by omega
    simp only [st_value_first, sg_value_first_2, this, decide_false, Bool.false_eq_true, if_false, hd, firstV]; rfl
  | d + 1, i, hi => by
    rw [iter_eq']
    obtain ⟨c, r, hL⟩ := drop_ex (show i < l.length by omega)
    obtain ⟨hc, hr, hlen⟩ := drop_cons (d := ([] : List tAtom)) hL
    have hlt : (i : Int) < (l.length : Int) := by omega
    have hG : 0 ≤ (i : Int) ∧ (i : Int) < (l.length : Int) := ⟨by omega, hlt⟩
    have e6 : w64 ((i : Int) + 1) = ((i + 1 : Nat) : Int) := w64_eq (by omega) (by omega)
    rw [hL, firstV]
    simp only [st_value_first, sg_value_first_2, decide_eq_true_eq, if_pos hlt, G_pos hG, Int.toNat_natCast, hc, vcheck_eq, Option.bind_some, e6]
    by_cases h : checkV c = 0
    · simp only [h, decide_true, Bool.not_true, Bool.false_eq_true, if_false, if_true]
      show iter _ _ = _
      rw [vfirst_loop l hl d (i + 1) (by omega), hr]
    · simp only [h, decide_false, Bool.not_false, if_true, if_false]; rfl
theorem vfirst_eq (l : List (List tAtom)) (hl : l.length < 4611686018427387904) : value_first l = some (firstV l) := by
  unfold value_first en_value_first
  show iter _ _ = _
  have := vfirst_loop l hl l.length 0 (by omega)
  simpa using this
theorem rfirst_loop (l : List (List tAtom)) (hl : l.length < 4611686018427387904) : ∀ (d i : Nat), i + d = l.length → iter st_ref07_first (.l2 l (i : Int)) = some (firstV (l.drop i))
  | 0, i, hi => by
    rw [iter_eq']
    have hd : l.drop i = [] := List.drop_eq_nil_of_le (by omega)
    have : ¬ (i : Int) < (l.length : Int) := by omega
    simp only [st_ref07_first, sg_ref07_first_2, this, decide_false, Bool.false_eq_true, if_false, hd, firstV]; rfl
  | d + 1, i, hi => by
    rw [iter_eq']
    obtain ⟨c, r, hL⟩ := drop_ex (show i < l.length by omega)
    obtain ⟨hc, hr, hlen⟩ := drop_cons (d := ([] : List tAtom)) hL
    have hlt : (i : Int) < (l.length : Int) := by omega
    have hG : 0 ≤ (i : Int) ∧ (i : Int) < (l.length : Int) := ⟨by omega, hlt⟩
    have e6 : w64 ((i : Int) + 1) = ((i + 1 : Nat) : Int) := w64_eq (by omega) (by omega)
    rw [hL, firstV]
    simp only [st_ref07_first, sg_ref07_first_2, decide_eq_true_eq, if_pos hlt, G_pos hG, Int.toNat_natCast, hc, rcheck_eq, Option.bind_some, e6]
    by_cases h : checkV c = 0
    · simp only [h, decide_true, Bool.not_true, Bool.false_eq_true, if_false, if_true]
      show iter _ _ = _
      rw [rfirst_loop l hl d (i + 1) (by omega), hr]
    · simp only [h, decide_false, Bool.not_false, if_true, if_false]; rfl
theorem rfirst_eq (l : List (List tAtom)) (hl : l.length < 4611686018427387904) : ref07_first l = some (firstV l) := by
  unfold ref07_first en_ref07_first
  show iter _ _ = _
  have := rfirst_loop l hl l.length 0 (by omega)
  simpa using this
end Go.Eng
