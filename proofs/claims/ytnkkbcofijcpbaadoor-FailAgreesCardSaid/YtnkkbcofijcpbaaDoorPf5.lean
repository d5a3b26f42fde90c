/- A part of the proof: Pf5. -/
import Derived.Test.YtnkkbcofijcpbaaDoorPf4
namespace Go.Eng
set_option linter.unusedVariables false
set_option linter.unusedSimpArgs false
def longS (f : List tCrack) : List tCrack := if 1024 < f.length then [(11, 0, [], ())] else f
theorem bounded_eq (f : List tCrack) : fail_bounded_o f = some (longS f) := by
  unfold fail_bounded_o longS
  have hl : ((1024 : Int) < (f.length : Int)) = (1024 < f.length) := by apply propext; omega
  simp only [decide_eq_true_eq, hl]
  split <;> rfl
theorem clone_eq (f : List tCrack) (hf : f.length * 32 ≤ 140737488351232) : slices_Clone f = some f := by
  unfold slices_Clone
  rw [G_pos (by simp only [List.length_nil]; omega)]
theorem check_len {f : List tCrack} (h : checkS f = 0) : f.length ≤ 1024 := (okF_check h).2
def wrapS (s : List UInt8) (f : List tCrack) : List tCrack × Int :=
  if nameS s = true then (if checkS f = 0 then (longS (f ++ [(9, 1, s, ())]), 0) else ([], checkS f)) else ([], 2)
theorem wrap_eq (s : List UInt8) (f : List tCrack) : fail_Wrap s f = some (wrapS s f) := by
  unfold fail_Wrap wrapS
  rw [IsName_eq, check_eq]
  simp only [Option.bind_some]
  cases hn : nameS s
  · simp
  · by_cases hc : checkS f = 0
    · have := check_len hc
      simp only [hc, decide_true, Bool.not_true, Bool.false_eq_true, if_false, if_true]
      rw [clone_eq f (by omega), Option.bind_some, G_pos (by simp only [List.length_cons, List.length_nil]; omega), bounded_eq]; rfl
    · simp [hc]
end Go.Eng
