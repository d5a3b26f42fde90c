/- A part of the proof: Pf1. -/
import Derived.Test.YtnkkbcofijcpbaaDoorPn
namespace Go.Eng
set_option linter.unusedVariables false
set_option linter.unusedSimpArgs false
theorem values_len (t : List UInt8) (h : gl_onceweb_fail_values.contains t = true) : t.length ≤ 4096 := by
  have hm := List.contains_iff_mem.1 h
  simp only [gl_onceweb_fail_values, List.mem_cons, List.not_mem_nil, or_false] at hm
  rcases hm with rfl | rfl | rfl | rfl | rfl | rfl | rfl | rfl | rfl | rfl <;> decide
theorem name_len (t : List UInt8) (h : nameS t = true) : t.length ≤ 4096 := by
  simp only [nameS, Bool.and_eq_true, decide_eq_true_eq] at h
  omega
def fitS (k : Int) (t : List UInt8) : Bool :=
  if k = 1 ∨ k = 2 ∨ k = 8 then true else if k = 3 then gl_onceweb_fail_values.contains t else if k = 4 ∨ k = 5 ∨ k = 9 then nameS t else decide (t = [])
theorem fits_eq (k : Int) (t : List UInt8) : fail_fits k t = some (fitS k t) := by
  unfold fail_fits fitS
  simp only [Contains_eq gl_onceweb_fail_values t (by decide), IsName_eq, Option.bind_some, decide_eq_true_eq]
  by_cases h1 : k = 1
  · simp [h1]
  by_cases h2 : k = 2
  · simp [h2]
  by_cases h8 : k = 8
  · simp [h8]
  by_cases h3 : k = 3
  · simp [h3]
  by_cases h4 : k = 4
  · simp [h4]
  by_cases h5 : k = 5
  · simp [h5]
  by_cases h9 : k = 9
  · simp [h9]
  simp only [h1, h2, h3, h4, h5, h8, h9, if_false, or_self]
theorem kinds (k : Int) : (k ≤ 0 ∨ 12 ≤ k) ∨ k = 1 ∨ k = 2 ∨ k = 3 ∨ k = 4 ∨ k = 5 ∨ k = 6 ∨ k = 7 ∨ k = 8 ∨ k = 9 ∨ k = 10 ∨ k = 11 := by omega
def sortS (k : Int) : Int := if k = 9 then 3 else if k = 10 then 4 else if k = 8 then 2 else if 1 ≤ k ∧ k ≤ 11 then 1 else 0
theorem sort_eq (k : Int) : fail_sort k = some (sortS k) := by
  unfold fail_sort sortS
  rcases kinds k with h | rfl | rfl | rfl | rfl | rfl | rfl | rfl | rfl | rfl | rfl | rfl
  · by_cases h0 : k = 0
    · subst h0; rfl
    · have : (decide (k < 0) || decide (12 ≤ k)) = true := by simp only [Bool.or_eq_true, decide_eq_true_eq]; omega
      rw [if_pos this, if_neg (by omega), if_neg (by omega), if_neg (by omega), if_neg (by omega)]
  all_goals rfl
def partS (k n : Int) : Bool := if k = 9 then decide (n = 1) else if k = 10 then decide (1 ≤ n) else if k = 8 then decide (n = 0) || decide (n = 1) else decide (1 ≤ k ∧ k ≤ 11) && decide (n = 0)
def crackS (c : tCrack) : Bool := partS c.1 c.2.1 && decide (c.2.2.1.length ≤ 4096) && fitS c.1 c.2.2.1
theorem crackS_pos {c : tCrack} (h : crackS c = true) : 0 ≤ c.2.1 := by
  simp only [crackS, Bool.and_eq_true] at h
  have h := h.1.1
  unfold partS at h
  split at h
  · simp only [decide_eq_true_eq] at h; omega
  · split at h
    · simp only [decide_eq_true_eq] at h; omega
    · split at h <;> simp only [Bool.and_eq_true, Bool.or_eq_true, decide_eq_true_eq] at h <;> omega
theorem dec_len (t : List UInt8) : decide ((t.length : Int) ≤ 4096) = decide (t.length ≤ 4096) := by
  by_cases h : t.length ≤ 4096
  · rw [decide_eq_true h, decide_eq_true (by omega)]
  · rw [decide_eq_false h, decide_eq_false (by omega)]
theorem well_eq (c : tCrack) : fail_well c = some (crackS c) := by
  have step : ∀ (k n : Int) (t : List UInt8) (b : Bool), runL st_fail_well (some (.inl (.l11 k n t b))) = some (b && decide (t.length ≤ 4096) && fitS k t) := by
    intro k n t b
    show iter _ _ = _
    rw [iter_eq']
    simp only [st_fail_well, sg_fail_well_11, fits_eq, dec_len]
    cases b <;> cases decide (t.length ≤ 4096) <;> simp [runL]
  unfold fail_well en_fail_well crackS partS
  rw [sort_eq]
  simp only [Option.bind_some, decide_eq_true_eq]
  rcases kinds c.1 with h | h | h | h | h | h | h | h | h | h | h | h
  · have e : sortS c.1 = 0 := by unfold sortS; rw [if_neg (by omega), if_neg (by omega), if_neg (by omega), if_neg (by omega)]
    rw [e, if_neg (by decide), if_neg (by decide), if_neg (by decide), if_neg (by decide), step, if_neg (by omega), if_neg (by omega), if_neg (by omega), decide_eq_false (p := 1 ≤ c.1 ∧ c.1 ≤ 11) (by omega)]; rfl
  all_goals simp [h, sortS, step]
theorem crack_eq (c : tCrack) : ref03_crack c = some (crackS c) := by
  have hw : ref03_words = some gl_onceweb_fail_values := rfl
  have hv : ∀ b : Bool, (if b = true then ref03_words else some ([] : List (List UInt8))).bind (fun t39 => (if b = true then base_In t39 c.2.2.1 else some false).bind fun t42 => some (b && t42)) = some (b && gl_onceweb_fail_values.contains c.2.2.1) := by
    intro b
    cases b
    · simp
    · simp only [hw, if_true, Option.bind_some, In_eq gl_onceweb_fail_values c.2.2.1 (by decide), Bool.true_and]
  have hn : ∀ b : Bool, (if b = true then base_Name c.2.2.1 else some false).bind (fun t53 => some (b && t53)) = some (b && nameS c.2.2.1) := by
    intro b
    cases b
    · simp
    · simp only [Name_eq, if_true, Option.bind_some, Bool.true_and]
  have n1 : (decide (c.2.2.1.length ≤ 4096) && nameS c.2.2.1) = nameS c.2.2.1 := by
    cases e : nameS c.2.2.1 with
    | false => simp
    | true => simp [name_len _ e]
  have v1 : (decide (c.2.2.1.length ≤ 4096) && gl_onceweb_fail_values.contains c.2.2.1) = gl_onceweb_fail_values.contains c.2.2.1 := by
    cases e : gl_onceweb_fail_values.contains c.2.2.1 with
    | false => simp
    | true => simp [values_len _ e]
  have z1 : (decide (c.2.2.1.length ≤ 4096) && decide (c.2.2.1 = [])) = decide (c.2.2.1 = []) := by
    by_cases e : c.2.2.1 = []
    · rw [e]; rfl
    · simp [e]
  unfold ref03_crack crackS partS fitS
  simp only [hv, hn, dec_len]
  rcases kinds c.1 with h | h | h | h | h | h | h | h | h | h | h | h
  · have k1 : ¬ c.1 = 1 := by omega
    have k2 : ¬ c.1 = 2 := by omega
    have k3 : ¬ c.1 = 3 := by omega
    have k4 : ¬ c.1 = 4 := by omega
    have k5 : ¬ c.1 = 5 := by omega
    have k6 : ¬ c.1 = 6 := by omega
    have k7 : ¬ c.1 = 7 := by omega
    have k8 : ¬ c.1 = 8 := by omega
    have k9 : ¬ c.1 = 9 := by omega
    have k10 : ¬ c.1 = 10 := by omega
    have k11 : ¬ c.1 = 11 := by omega
    have k12 : ¬ (1 ≤ c.1 ∧ c.1 ≤ 11) := by omega
    simp only [k1, k2, k3, k4, k5, k6, k7, k8, k9, k10, k11, k12, decide_false, Bool.false_eq_true, if_false, or_self, Bool.false_and]
  all_goals
    simp only [h, decide_true, decide_false, if_true, if_false, Bool.false_eq_true, reduceCtorEq, Int.reduceEq, Int.reduceLE, and_self, or_true, true_or, or_self, or_false, false_or, Bool.true_and, Bool.and_true, Bool.and_assoc, n1, v1, z1]
end Go.Eng
