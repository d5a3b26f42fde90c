/- A part of the proof: Pf4. -/
import Derived.Test.YtemlflhalcehmaaDoorPf3
namespace Go.Eng
set_option linter.unusedVariables false
set_option linter.unusedSimpArgs false

def leafS (k : Int) (t : List UInt8) : List tCrack × Int :=
  if (1 ≤ k ∧ k ≤ 8) ∨ k = 11 then (if 4096 < t.length then ([], 3) else if fitS k t = true then ([(k, 0, t, ())], 0) else ([], 2)) else ([], 1)
theorem leaf_eq (k : Int) (t : List UInt8) : fail_Leaf k t = some (leafS k t) := by
  unfold fail_Leaf leafS
  rw [sort_eq, fits_eq]
  simp only [Option.bind_some, decide_eq_true_eq]
  have hl : ((4096 : Int) < (t.length : Int)) = (4096 < t.length) := by apply propext; omega
  by_cases h : (1 ≤ k ∧ k ≤ 8) ∨ k = 11
  · have hs : sortS k = 1 ∨ sortS k = 2 := by
      unfold sortS
      rw [if_neg (by omega), if_neg (by omega)]
      split
      · exact .inr rfl
      · rw [if_pos (by omega)]; exact .inl rfl
    have hq : ¬ (((!decide (sortS k = 1)) && (!decide (sortS k = 2))) = true) := by
      rcases hs with e | e <;> simp [e]
    rw [if_neg hq, if_pos h]
    simp only [hl]
    by_cases h4 : 4096 < t.length
    · rw [if_pos h4, if_pos h4]
    · rw [if_neg h4, if_neg h4]
      cases fitS k t <;> simp
  · have hs : ¬ sortS k = 1 ∧ ¬ sortS k = 2 := by
      unfold sortS
      by_cases h9 : k = 9
      · simp [h9]
      · by_cases h10 : k = 10
        · simp [h10]
        · rw [if_neg h9, if_neg h10, if_neg (by omega), if_neg (by omega)]; decide
    rw [if_neg h]
    simp [hs.1, hs.2]
theorem refLeaf_eq (k : Int) (t : List UInt8) : ref03_Leaf k t = some (leafS k t) := by
  unfold ref03_Leaf leafS
  rw [crack_eq]
  simp only [Option.bind_some, decide_eq_true_eq]
  have hl : ((4096 : Int) < (t.length : Int)) = (4096 < t.length) := by apply propext; omega
  by_cases h : (1 ≤ k ∧ k ≤ 8) ∨ k = 11
  · have hq : ¬ ((((decide (k < 1) || decide (11 < k)) || decide (k = 9)) || decide (k = 10)) = true) := by
      simp only [Bool.or_eq_true, decide_eq_true_eq]; omega
    rw [if_neg hq, if_pos h]
    simp only [hl]
    by_cases h4 : 4096 < t.length
    · rw [if_pos h4, if_pos h4]
    · rw [if_neg h4, if_neg h4]
      have hp : crackS (k, 0, t, ()) = fitS k t := by
        unfold crackS partS
        simp only [decide_true, Bool.true_or, Bool.and_true]
        rw [if_neg (by omega), if_neg (by omega), decide_eq_true (p := t.length ≤ 4096) (by omega), decide_eq_true (p := 1 ≤ k ∧ k ≤ 11) (by omega)]
        simp
      rw [hp]
      cases fitS k t <;> simp
  · have hq : ((((decide (k < 1) || decide (11 < k)) || decide (k = 9)) || decide (k = 10)) = true) := by
      simp only [Bool.or_eq_true, decide_eq_true_eq]; omega
    rw [if_pos hq, if_neg h]

theorem same_loop (a b : List tCrack) (ha : a.length < 4611686018427387904) (hab : a.length = b.length) : ∀ (d i : Nat), i + d = a.length → iter st_base_SameFail (.l4 a b (i : Int)) = some (decide (a.drop i = b.drop i))
  | 0, i, hi => by
    rw [iter_eq']
    have hd : a.drop i = [] := List.drop_eq_nil_of_le (by omega)
    have hd2 : b.drop i = [] := List.drop_eq_nil_of_le (by omega)
    have : ¬ (i : Int) < (a.length : Int) := by omega
    simp only [st_base_SameFail, sg_base_SameFail_4, this, decide_false, Bool.false_eq_true, if_false, hd, hd2]; rfl
  | d + 1, i, hi => by
    rw [iter_eq']
    obtain ⟨c, r, hL⟩ := drop_ex (show i < a.length by omega)
    obtain ⟨hc, hr, hlen⟩ := drop_cons (d := dCrack) hL
    obtain ⟨c2, r2, hL2⟩ := drop_ex (show i < b.length by omega)
    obtain ⟨hc2, hr2, hlen2⟩ := drop_cons (d := dCrack) hL2
    have hlt : (i : Int) < (a.length : Int) := by omega
    have hG : 0 ≤ (i : Int) ∧ (i : Int) < (a.length : Int) := ⟨by omega, hlt⟩
    have hG2 : 0 ≤ (i : Int) ∧ (i : Int) < (b.length : Int) := ⟨by omega, by omega⟩
    have e6 : w64 ((i : Int) + 1) = ((i + 1 : Nat) : Int) := w64_eq (by omega) (by omega)
    simp only [st_base_SameFail, sg_base_SameFail_4, decide_eq_true_eq, if_pos hlt, G_pos hG, G_pos hG2, Int.toNat_natCast, hc, hc2, e6]
    have he := eqR_iff tyCrack c c2 rfl rfl
    cases hq : eqR tyCrack c c2 with
    | false =>
      have hne : ¬ c = c2 := fun e => by rw [he.2 e] at hq; cases hq
      rw [hL, hL2]
      simp [runL, hne]
    | true =>
      have heq : c = c2 := he.1 hq
      simp only [Bool.not_true, Bool.false_eq_true, if_false]
      show iter _ _ = _
      rw [same_loop a b ha hab d (i + 1) (by omega), hL, hL2, hr, hr2, heq]
      simp
theorem same_eq (a b : List tCrack) (ha : a.length < 4611686018427387904) : base_SameFail a b = some (decide (a = b)) := by
  unfold base_SameFail en_base_SameFail
  by_cases h : a.length = b.length
  · have h' : (a.length : Int) = (b.length : Int) := by omega
    simp only [h', decide_true, Bool.not_true, Bool.false_eq_true, if_false]
    show iter _ _ = _
    have := same_loop a b ha h a.length 0 (by omega)
    simpa using this
  · have h' : ¬ (a.length : Int) = (b.length : Int) := by omega
    have hne : ¬ a = b := fun e => h (by rw [e])
    simp only [h', decide_false, Bool.not_false, if_true, hne]; rfl

theorem copy_eq (f : List tCrack) (hf : f.length * 32 ≤ 140737488351232) : base_CopyFail f = some f := by
  unfold base_CopyFail
  rw [G_pos (by simp only [List.length_nil]; omega)]
theorem FailChecks_pure (f : List tCrack) (k : Int) (t : List UInt8) (hf : f.length * 32 ≤ 140737488351232) : law03_FailChecks f k t = some true := by
  unfold law03_FailChecks
  have hlen : (leafS k t).1.length < 4611686018427387904 := by
    unfold leafS; split
    · split
      · simp
      · split <;> simp
    · simp
  simp only [copy_eq f hf, deep_eq, refDeep_eq, leaf_eq, refLeaf_eq, check_eq, refCheck_eq, Option.bind_some, same_eq _ _ hlen, same_eq f f (by omega), decide_true, Bool.and_self, if_true]
end Go.Eng
