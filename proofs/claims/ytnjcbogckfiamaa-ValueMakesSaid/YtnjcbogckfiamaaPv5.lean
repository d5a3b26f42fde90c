/- A part of the proof: Pv5. -/
import Derived.Test.YtnjcbogckfiamaaPv4
namespace Go.Eng
set_option linter.unusedVariables false
set_option linter.unusedSimpArgs false

theorem makes_spoil (l : List (List tAtom)) (i : Int) : ∀ (d k : Nat) (p : List (Bool × List tAtom)), k + d = p.length → p.length < 4611686018427387904 → (∀ y ∈ p, y.1 = true) →
    iter st_law07_ValueMakes (.l25 l l i p (k : Int)) = iter st_law07_ValueMakes (.l16 l l (w64 (i + 1)))
  | 0, k, p, hk, hp, ht => by
    rw [iter_eq']
    have : ¬ (k : Int) < (p.length : Int) := by omega
    simp only [st_law07_ValueMakes, sg_law07_ValueMakes_25, this, decide_false, Bool.false_eq_true, if_false]; rfl
  | d + 1, k, p, hk, hp, ht => by
    rw [iter_eq']
    obtain ⟨c, r, hL⟩ := drop_ex (show k < p.length by omega)
    obtain ⟨hc, hr, hlen⟩ := drop_cons (d := (false, ([] : List tAtom))) hL
    have hcm := ht c (List.mem_of_mem_drop (by rw [hL]; simp))
    have hlt : (k : Int) < (p.length : Int) := by omega
    have hG : 0 ≤ (k : Int) ∧ (k : Int) < (p.length : Int) := ⟨by omega, hlt⟩
    have e6 : w64 ((k : Int) + 1) = ((k + 1 : Nat) : Int) := w64_eq (by omega) (by omega)
    have hel : el2D p k = c := hc
    simp only [st_law07_ValueMakes, sg_law07_ValueMakes_25, decide_eq_true_eq, if_pos hlt, G_pos hG, Int.toNat_natCast, hel, e6]
    rw [G_pos hcm, G_pos trivial]
    show iter _ _ = _
    refine makes_spoil l i d (k + 1) _ (by rw [List.length_set]; omega) (by rw [List.length_set]; exact hp) (fun y hy => ?_)
    rcases List.mem_or_eq_of_mem_set hy with hy | rfl
    · exact ht y hy
    · rfl
theorem makes_loop (l : List (List tAtom)) (hl : vsizes l) : ∀ (d i : Nat), i + d = l.length → iter st_law07_ValueMakes (.l16 l l (i : Int)) = some true
  | 0, i, hi => by
    obtain ⟨h1, h2⟩ := sizes_lt hl
    rw [iter_eq']
    have : ¬ (i : Int) < (l.length : Int) := by omega
    simp only [st_law07_ValueMakes, sg_law07_ValueMakes_16, this, decide_false, Bool.false_eq_true, if_false, values_eq l h1 h2]; rfl
  | d + 1, i, hi => by
    obtain ⟨h1, h2⟩ := sizes_lt hl
    rw [iter_eq']
    obtain ⟨c, r, hL⟩ := drop_ex (show i < l.length by omega)
    obtain ⟨hc, hr, hlen⟩ := drop_cons (d := ([] : List tAtom)) hL
    have hlt : (i : Int) < (l.length : Int) := by omega
    have hG : 0 ≤ (i : Int) ∧ (i : Int) < (l.length : Int) := ⟨by omega, hlt⟩
    have e6 : w64 ((i : Int) + 1) = ((i + 1 : Nat) : Int) := w64_eq (by omega) (by omega)
    obtain ⟨m1, m2⟩ := membersV_len c
    have hmap : ((membersV c).1.map (fun y => ((true, y) : Bool × List tAtom))).map (fun y => y.2) = (membersV c).1 := by rw [List.map_map]; exact List.map_id _
    have hval : law07_values (membersV c).1 (membersV c).1 = some true := values_eq _ (by omega) (fun y hy => by have := m2 y hy; omega)
    simp only [st_law07_ValueMakes, sg_law07_ValueMakes_16, decide_eq_true_eq, if_pos hlt, G_pos hG, Int.toNat_natCast, hc, vcheck_eq, rcheck_eq, vMembers_eq, rMembers_eq, Option.bind_some, decide_true, Bool.not_true, Bool.not_false, Bool.false_eq_true, if_false, if_true, hmap, hval, Bool.or_self]
    rw [G_pos (fun _ => trivial)]
    show iter _ _ = _
    have hsp := makes_spoil l (i : Int) (membersV c).1.length 0 ((membersV c).1.map fun y => (true, y)) (by rw [List.length_map]; omega) (by rw [List.length_map]; omega) (fun y hy => by obtain ⟨u, _, rfl⟩ := List.mem_map.1 hy; rfl)
    refine Eq.trans hsp ?_
    rw [e6]
    exact makes_loop l hl d (i + 1) (by omega)
theorem int_len (n : Int) : ∃ p : List tAtom × Int, value_Int n = some p ∧ ref07_Int n = some p ∧ p.1.length ≤ 1 := by
  unfold value_Int ref07_Int
  split
  · exact ⟨_, rfl, rfl, by simp⟩
  · exact ⟨_, rfl, rfl, by simp⟩
theorem text_len (s : List UInt8) : ∃ p : List tAtom × Int, value_Text s = some p ∧ ref07_Text s = some p ∧ p.1.length ≤ 1 := by
  unfold value_Text ref07_Text
  split
  · exact ⟨_, rfl, rfl, by simp⟩
  · exact ⟨_, rfl, rfl, by simp⟩
theorem ValueMakes_pure (n : Int) (s : List UInt8) (l : List (List tAtom)) (hl : vsizes l) : law07_ValueMakes n s l = some true := by
  obtain ⟨p, p1, p2, p3⟩ := int_len n
  obtain ⟨q, q1, q2, q3⟩ := text_len s
  have hll := listV_len l
  unfold law07_ValueMakes en_law07_ValueMakes
  simp only [p1, p2, q1, q2, Option.bind_some, decide_true, Bool.not_true, Bool.not_false, Bool.false_eq_true, if_false, if_true, vsame_eq p.1 p.1 (by omega), vsame_eq q.1 q.1 (by omega), Bool.or_self, copied_eq l hl, vlist_eq l hl, rlist_eq l hl, vsame_eq (listV l).1 _ (by omega)]
  show iter _ _ = _
  exact makes_loop l hl l.length 0 (by omega)
end Go.Eng
