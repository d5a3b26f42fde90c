/- A part of the proof: Pf1. -/
import Derived.Test.YtnkkbcofijcpbaaDoorPn
namespace Go.Eng
set_option linter.unusedVariables false
set_option linter.unusedSimpArgs false
def fitS (k : Int) (t : List UInt8) : Bool :=
  if k = 1 ∨ k = 2 ∨ k = 8 then true else if k = 3 then gl_onceweb_fail_values.contains t else if k = 4 ∨ k = 5 ∨ k = 9 then nameS t else decide (t = [])
theorem fits_eq (k : Int) (t : List UInt8) : fail_fits k t = some (fitS k t) := by
  unfold fail_fits fitS
  simp only [Contains_eq gl_onceweb_fail_values t (by decide), IsName_eq, Option.bind_some, decide_eq_true_eq]
  by_cases h1 : k = 1
  · simp [h1]
  by_cases h2 : k = 2
  · simp [h2]
  by_cases h8 : k = 8
  · simp [h8]
  by_cases h3 : k = 3
  · simp [h3]
  by_cases h4 : k = 4
  · simp [h4]
  by_cases h5 : k = 5
  · simp [h5]
  by_cases h9 : k = 9
  · simp [h9]
  simp only [h1, h2, h3, h4, h5, h8, h9, if_false, or_self]
theorem kinds (k : Int) : (k ≤ 0 ∨ 12 ≤ k) ∨ k = 1 ∨ k = 2 ∨ k = 3 ∨ k = 4 ∨ k = 5 ∨ k = 6 ∨ k = 7 ∨ k = 8 ∨ k = 9 ∨ k = 10 ∨ k = 11 := by omega
def sortS (k : Int) : Int := if k = 9 then 3 else if k = 10 then 4 else if k = 8 then 2 else if 1 ≤ k ∧ k ≤ 11 then 1 else 0
theorem sort_eq (k : Int) : fail_sort k = some (sortS k) := by
  unfold fail_sort sortS
  rcases kinds k with h | rfl | rfl | rfl | rfl | rfl | rfl | rfl | rfl | rfl | rfl | rfl
  · by_cases h0 : k = 0
    · subst h0; rfl
    · have : (decide (k < 0) || decide (12 ≤ k)) = true := by simp only [Bool.or_eq_true, decide_eq_true_eq]; omega
      rw [if_pos this, if_neg (by omega), if_neg (by omega), if_neg (by omega), if_neg (by omega)]
  all_goals rfl
def partS (k n : Int) : Bool := if k = 9 then decide (n = 1) else if k = 10 then decide (1 ≤ n) else if k = 8 then decide (n = 0) || decide (n = 1) else decide (1 ≤ k ∧ k ≤ 11) && decide (n = 0)
def crackS (c : tCrack) : Bool := partS c.1 c.2.1 && decide (c.2.2.1.length ≤ 4096) && fitS c.1 c.2.2.1
theorem crackS_pos {c : tCrack} (h : crackS c = true) : 0 ≤ c.2.1 := by
  simp only [crackS, Bool.and_eq_true] at h
  have h := h.1.1
  unfold partS at h
  split at h
  · simp only [decide_eq_true_eq] at h; omega
  · split at h
    · simp only [decide_eq_true_eq] at h; omega
    · split at h <;> simp only [Bool.and_eq_true, Bool.or_eq_true, decide_eq_true_eq] at h <;> omega
theorem dec_len (t : List UInt8) : decide ((t.length : Int) ≤ 4096) = decide (t.length ≤ 4096) := by
  by_cases h : t.length ≤ 4096
  · rw [decide_eq_true h, decide_eq_true (by omega)]
  · rw [decide_eq_false h, decide_eq_false (by omega)]
theorem well_eq (c : tCrack) : fail_well c = some (crackS c) := by
  have step : ∀ (k n : Int) (t : List UInt8) (b : Bool), runL st_fail_well (some (.inl (.l11 k n t b))) = some (b && decide (t.length ≤ 4096) && fitS k t) := by
    intro k n t b
    show iter _ _ = _
    rw [iter_eq']
    simp only [st_fail_well, sg_fail_well_11, fits_eq, dec_len]
    cases b <;> cases decide (t.length ≤ 4096) <;> simp [runL]
  unfold fail_well en_fail_well crackS partS
  rw [sort_eq]
  simp only [Option.bind_some, decide_eq_true_eq]
  rcases kinds c.1 with h | h | h | h | h | h | h | h | h | h | h | h
  · have e : sortS c.1 = 0 := by unfold sortS; rw [if_neg (by omega), if_neg (by omega), if_neg (by omega), if_neg (by omega)]
    rw [e, if_neg (by decide), if_neg (by decide), if_neg (by decide), if_neg (by decide), step, if_neg (by omega), if_neg (by omega), if_neg (by omega), decide_eq_false (p := 1 ≤ c.1 ∧ c.1 ≤ 11) (by omega)]; rfl
  all_goals simp [h, sortS, step]
end Go.Eng
