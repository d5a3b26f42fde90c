/- A part of the proof: Pf5. -/
import Derived.Test.YtnkkbcofijcpbaaDoorPf4
namespace Go.Eng
set_option linter.unusedVariables false
set_option linter.unusedSimpArgs false
def longS (f : List tCrack) : List tCrack := if 1024 < f.length then [(11, 0, [], ())] else f
theorem bounded_eq (f : List tCrack) : fail_bounded_o f = some (longS f) := by
  unfold fail_bounded_o longS
  have hl : ((1024 : Int) < (f.length : Int)) = (1024 < f.length) := by apply propext; omega
  simp only [decide_eq_true_eq, hl]
  split <;> rfl
theorem clone_eq (f : List tCrack) (hf : f.length * 32 ≤ 140737488351232) : slices_Clone f = some f := by
  unfold slices_Clone
  rw [G_pos (by simp only [List.length_nil]; omega)]
theorem check_len {f : List tCrack} (h : checkS f = 0) : f.length ≤ 1024 := (okF_check h).2
def wrapS (s : List UInt8) (f : List tCrack) : List tCrack × Int :=
  if nameS s = true then (if checkS f = 0 then (longS (f ++ [(9, 1, s, ())]), 0) else ([], checkS f)) else ([], 2)
theorem wrap_eq (s : List UInt8) (f : List tCrack) : fail_Wrap s f = some (wrapS s f) := by
  unfold fail_Wrap wrapS
  rw [IsName_eq, check_eq]
  simp only [Option.bind_some]
  cases hn : nameS s
  · simp
  · by_cases hc : checkS f = 0
    · have := check_len hc
      simp only [hc, decide_true, Bool.not_true, Bool.false_eq_true, if_false, if_true]
      rw [clone_eq f (by omega), Option.bind_some, G_pos (by simp only [List.length_cons, List.length_nil]; omega), bounded_eq]; rfl
    · simp [hc]
def joinF : List (List tCrack) → Nat → List tCrack → List tCrack × Int
  | [], n, out => if n = 0 then ([], 0) else (longS (out ++ [(10, (n : Int), [], ())]), 0)
  | f :: r, n, out => if f.length = 0 then joinF r n out else if checkS f = 0 then joinF r (n + 1) (if out.length ≤ 1024 then out ++ f else out) else ([], checkS f)
theorem join_loop (l : List (List tCrack)) (hl : l.length ≤ 4096) : ∀ (d i : Nat) (n : Nat) (out : List tCrack), i + d = l.length → n ≤ i → out.length ≤ 2048 →
    iter st_fail_Join (.l6 (n : Int) out l (l.length : Int) (i : Int)) = some (joinF (l.drop i) n out)
  | 0, i, n, out, hi, hn, ho => by
    rw [iter_eq']
    have hd : l.drop i = [] := List.drop_eq_nil_of_le (by omega)
    have : ¬ (i : Int) < (l.length : Int) := by omega
    have h2 : ((n : Int) = 0) = (n = 0) := by apply propext; omega
    simp only [st_fail_Join, sg_fail_Join_6, this, decide_false, Bool.false_eq_true, if_false, hd, joinF, decide_eq_true_eq, h2]
    split
    · rfl
    · rw [G_pos (by simp only [List.length_cons, List.length_nil]; omega), bounded_eq]; rfl
  | d + 1, i, n, out, hi, hn, ho => by
    rw [iter_eq']
    obtain ⟨c, r, hL⟩ := drop_ex (show i < l.length by omega)
    obtain ⟨hc, hr, hlen⟩ := drop_cons (d := ([] : List tCrack)) hL
    have hlt : (i : Int) < (l.length : Int) := by omega
    have hG : 0 ≤ (i : Int) ∧ (i : Int) < (l.length : Int) := ⟨by omega, hlt⟩
    have e6 : w64 ((i : Int) + 1) = ((i + 1 : Nat) : Int) := w64_eq (by omega) (by omega)
    have e7 : w64 ((n : Int) + 1) = ((n + 1 : Nat) : Int) := w64_eq (by omega) (by omega)
    have h2 : ((c.length : Int) = 0) = (c.length = 0) := by apply propext; omega
    have h3 : ((out.length : Int) ≤ (1024 : Int)) = (out.length ≤ 1024) := by apply propext; omega
    simp only [st_fail_Join, sg_fail_Join_6, decide_eq_true_eq, if_pos hlt, G_pos hG, Int.toNat_natCast, hc, e6, e7, h2, h3, check_eq, Option.bind_some, hL, joinF]
    by_cases hz : c.length = 0
    · simp only [hz, if_true]
      show iter _ _ = _
      rw [join_loop l hl d (i + 1) n out (by omega) (by omega) ho, hr]
    · by_cases hk : checkS c = 0
      · have := check_len hk
        simp only [hz, hk, decide_true, Bool.not_true, Bool.false_eq_true, if_true, if_false]
        by_cases ho2 : out.length ≤ 1024
        · simp only [ho2, if_true]
          rw [G_pos (by omega)]
          show iter _ _ = _
          rw [join_loop l hl d (i + 1) (n + 1) _ (by omega) (by omega) (by rw [List.length_append]; omega), hr]
        · simp only [ho2, if_false]
          show iter _ _ = _
          rw [join_loop l hl d (i + 1) (n + 1) _ (by omega) (by omega) ho, hr]
      · simp only [hz, hk, decide_false, Bool.not_false, if_true, if_false]; rfl
def joinS (l : List (List tCrack)) : List tCrack × Int := if 4096 < l.length then ([], 3) else joinF l 0 []
theorem join_eq (l : List (List tCrack)) : fail_Join l = some (joinS l) := by
  unfold fail_Join en_fail_Join joinS
  have hl : ((4096 : Int) < (l.length : Int)) = (4096 < l.length) := by apply propext; omega
  simp only [decide_eq_true_eq, hl]
  split
  · rfl
  · show iter _ _ = _
    exact join_loop l (by omega) l.length 0 0 [] (by omega) (by omega) (by simp)
end Go.Eng
