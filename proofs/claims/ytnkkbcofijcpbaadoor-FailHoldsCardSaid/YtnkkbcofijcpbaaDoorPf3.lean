/- A part of the proof: Pf3. -/
import Derived.Test.YtnkkbcofijcpbaaDoorPf2
namespace Go.Eng
set_option linter.unusedVariables false
set_option linter.unusedSimpArgs false
def okF : List tCrack → Nat → Prop
  | [], n => n = 1
  | c :: r, n => crackS c = true ∧ c.2.1 ≤ (n : Int) ∧ okF r (n - c.2.1.toNat + 1)
theorem okF_of : ∀ (r : List tCrack) (i : Nat) (fr st : List Int), (begF r i fr st).2 = true → okF r st.length
  | [], i, fr, st, h => by simpa [begF, okF] using h
  | c :: r, i, fr, st, h => by
    simp only [begF] at h
    cases hs : stepB i c st with
    | none => rw [hs] at h; cases h
    | some p =>
      obtain ⟨b, st'⟩ := p
      rw [hs] at h
      have h2 := okF_of r (i + 1) _ st' h
      unfold stepB at hs
      split at hs
      · rename_i hc
        have hp := crackS_pos hc.1
        refine ⟨hc.1, hc.2, ?_⟩
        split at hs
        · simp only [Option.some.injEq, Prod.mk.injEq] at hs
          obtain ⟨_, rfl⟩ := hs
          rw [List.length_append, List.length_take, List.length_singleton, Nat.min_eq_left (by omega)] at h2
          exact h2
        · simp only [Option.some.injEq, Prod.mk.injEq] at hs
          obtain ⟨_, rfl⟩ := hs
          have : c.2.1.toNat = 0 := by omega
          rw [this, Nat.sub_zero]
          simpa using h2
      · cases hs
theorem okF_check {f : List tCrack} (h : checkS f = 0) : okF f 0 ∧ f.length ≤ 1024 := by
  unfold checkS at h
  split at h
  · cases h
  · split at h
    · rename_i h1 h2; exact ⟨okF_of f 0 [] [] h2, by omega⟩
    · cases h
end Go.Eng
