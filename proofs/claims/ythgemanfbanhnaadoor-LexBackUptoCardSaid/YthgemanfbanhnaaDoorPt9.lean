/- A part of the proof: Pt9. -/
import Derived.Test.YthgemanfbanhnaaDoorPt8
import Derived.Test.YthgemanfbanhnaaDoorD4
namespace Go.Eng
set_option linter.unusedVariables false
set_option linter.unusedSimpArgs false

theorem sum_mem {α : Type} (f : α → Nat) : ∀ {l : List α} {x : α}, x ∈ l → f x ≤ (l.map f).sum
  | y :: l, x, h => by
    rw [List.map_cons, List.sum_cons]
    rcases List.mem_cons.1 h with rfl | h
    · omega
    · have := sum_mem f h; omega
theorem len_sum {α : Type} (f : α → Nat) (h1 : ∀ x, 1 ≤ f x) : ∀ (l : List α), l.length ≤ (l.map f).sum
  | [] => Nat.zero_le _
  | x :: l => by
    have := len_sum f h1 l; have := h1 x
    rw [List.map_cons, List.sum_cons, List.length_cons]; omega
theorem toks_sz {l : List tToken} (h : (l.map (msz tyToken)).sum + 1 ≤ 1048576) (hs : ∀ y ∈ l, szOk tyToken y) : l.length ≤ 1048576 ∧ ∀ t ∈ l, okTok t := by
  have hm : ∀ t : tToken, msz tyToken t = 1 + (1 + (1 + (t.2.2.2.1.length + 1 + 0))) := fun _ => rfl
  refine ⟨?_, fun t ht => ?_⟩
  · have := len_sum (msz tyToken) (fun x => by rw [hm]; omega) l
    omega
  · have h1 := sum_mem (msz tyToken) ht
    rw [hm] at h1
    obtain ⟨_, _, h2, _, _⟩ := hs t ht
    have hwf : (Lit.int .i64 t.2.2.1).wf = true := h2
    simp only [Lit.wf, Bool.and_eq_true, decide_eq_true_eq] at hwf
    have e1 : IntKind.min .i64 = -9223372036854775808 := rfl
    have e2 : IntKind.max .i64 = 9223372036854775807 := rfl
    rw [e1, e2] at hwf
    exact ⟨by omega, by omega, by omega⟩
theorem toks_sz2 {l : List tToken} (h : (l.map fun x => 1 + (1 + (1 + (List.length x.2.2.2.1 + 1 + 0)))).sum + 1 ≤ 1048576) (hs : ∀ y ∈ l, szOk tyToken y) : l.length ≤ 1048576 ∧ ∀ t ∈ l, okTok t := toks_sz h hs
end Go.Eng
