/- A part of the proof: Cn. -/
import Derived.Test.YtnkkbcofijcpbaaDoorD3
namespace Go.Eng
section
variable {L R α β : Type}
def Le (a b : Option α) : Prop := ∀ r, a = some r → b = some r
theorem Le.refl (a : Option α) : Le a a := fun _ h => h
theorem Le.bind {a b : Option α} {f g : α → Option β} (h : Le a b) (k : ∀ x, Le (f x) (g x)) : Le (a.bind f) (b.bind g) := by
  intro r hr
  obtain ⟨x, h1, h2⟩ := Option.bind_eq_some_iff.1 hr
  rw [h x h1]; exact k x r h2
theorem Le.ite {c : Prop} [Decidable c] {a a' b b' : Option α} (h : Le a a') (k : Le b b') : Le (if c then a else b) (if c then a' else b') := by
  split
  · exact h
  · exact k
theorem Le.G {p : Prop} [Decidable p] {a b : Option α} (h : Le a b) : Le (Go.Eng.G p a) (Go.Eng.G p b) := by
  unfold Go.Eng.G
  split
  · exact h
  · exact Le.refl _
noncomputable def runLN (k : Nat) (step : L → Option (L ⊕ R)) (e : Option (L ⊕ R)) : Option R := match e with
  | some (.inl l) => iterN step k l
  | some (.inr r) => some r
  | none => none
theorem iterN_le {st st' : L → Option (L ⊕ R)} (h : ∀ l, Le (st l) (st' l)) : ∀ (k : Nat) (l : L), Le (iterN st k l) (iter st' l)
  | 0, l => fun r hr => by cases hr
  | k + 1, l => fun r hr => by
    rw [iter_eq']
    simp only [iterN] at hr
    split at hr
    · rename_i l' hl
      rw [h l _ hl]; exact iterN_le h k l' r hr
    · rename_i x hl
      cases hr
      rw [h l _ hl]; rfl
    · cases hr
theorem Le.runL {k : Nat} {st st' : L → Option (L ⊕ R)} {e e' : Option (L ⊕ R)} (h : ∀ l, Le (st l) (st' l)) (k' : Le e e') : Le (runLN k st e) (Go.Eng.runL st' e') := by
  intro r hr
  unfold runLN at hr
  split at hr
  · rename_i l
    rw [k' _ rfl]; exact iterN_le h k l r hr
  · rename_i x
    cases hr
    rw [k' _ rfl]; rfl
  · cases hr
end
end Go.Eng
