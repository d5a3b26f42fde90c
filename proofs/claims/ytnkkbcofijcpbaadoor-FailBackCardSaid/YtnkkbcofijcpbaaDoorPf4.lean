/- A part of the proof: Pf4. -/
import Derived.Test.YtnkkbcofijcpbaaDoorPf2
namespace Go.Eng
set_option linter.unusedVariables false
set_option linter.unusedSimpArgs false
theorem same_loop (a b : List tCrack) (ha : a.length < 4611686018427387904) (hab : a.length = b.length) : ∀ (d i : Nat), i + d = a.length → iter st_base_SameFail (.l4 a b (i : Int)) = some (decide (a.drop i = b.drop i))
  | 0, i, hi => by
    rw [iter_eq']
    have hd : a.drop i = [] := List.drop_eq_nil_of_le (by omega)
    have hd2 : b.drop i = [] := List.drop_eq_nil_of_le (by omega)
    have : ¬ (i : Int) < (a.length : Int) := by omega
    simp only [st_base_SameFail, sg_base_SameFail_4, this, decide_false, Bool.false_eq_true, if_false, hd, hd2]; rfl
  | d + 1, i, hi => by
    rw [iter_eq']
    obtain ⟨c, r, hL⟩ := drop_ex (show i < a.length by omega)
    obtain ⟨hc, hr, hlen⟩ := drop_cons (d := dCrack) hL
    obtain ⟨c2, r2, hL2⟩ := drop_ex (show i < b.length by omega)
    obtain ⟨hc2, hr2, hlen2⟩ := drop_cons (d := dCrack) hL2
    have hlt : (i : Int) < (a.length : Int) := by omega
    have hG : 0 ≤ (i : Int) ∧ (i : Int) < (a.length : Int) := ⟨by omega, hlt⟩
    have hG2 : 0 ≤ (i : Int) ∧ (i : Int) < (b.length : Int) := ⟨by omega, by omega⟩
    have e6 : w64 ((i : Int) + 1) = ((i + 1 : Nat) : Int) := w64_eq (by omega) (by omega)
    simp only [st_base_SameFail, sg_base_SameFail_4, decide_eq_true_eq, if_pos hlt, G_pos hG, G_pos hG2, Int.toNat_natCast, hc, hc2, e6]
    have he := eqR_iff tyCrack c c2 rfl rfl
    cases hq : eqR tyCrack c c2 with
    | false =>
      have hne : ¬ c = c2 := fun e => by rw [he.2 e] at hq; cases hq
      rw [hL, hL2]
      simp [runL, hne]
    | true =>
      have heq : c = c2 := he.1 hq
      simp only [Bool.not_true, Bool.false_eq_true, if_false]
      show iter _ _ = _
      rw [same_loop a b ha hab d (i + 1) (by omega), hL, hL2, hr, hr2, heq]
      simp
theorem same_eq (a b : List tCrack) (ha : a.length < 4611686018427387904) : base_SameFail a b = some (decide (a = b)) := by
  unfold base_SameFail en_base_SameFail
  by_cases h : a.length = b.length
  · have h' : (a.length : Int) = (b.length : Int) := by omega
    simp only [h', decide_true, Bool.not_true, Bool.false_eq_true, if_false]
    show iter _ _ = _
    have := same_loop a b ha h a.length 0 (by omega)
    simpa using this
  · have h' : ¬ (a.length : Int) = (b.length : Int) := by omega
    have hne : ¬ a = b := fun e => h (by rw [e])
    simp only [h', decide_false, Bool.not_false, if_true, hne]; rfl
end Go.Eng
