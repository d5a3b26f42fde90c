/- Operations, guards, regions, in typed trees: that it is so. -/
import Derived.Test.YthgemanfbanhnaaDoorDvI
namespace Go.Eng
open Go.RowKit (Below)
set_option linter.unusedVariables false
set_option linter.unusedSimpArgs false
variable {X : Ctx} {Y : DX} {n : Nat} {Z : List Nat} {st : DSt} {E : Env} {ρ : Type} {r : ρ}

theorem opD_sound (hY : DXOk Y X) (hE : EnvOk X E) (hw : WF st) {o : Oper} {K : DSt → Option ρ} (h : opD Y n Z st E o K = some r) : ∃ st', Step X n Z (stG n st.toSt) o (stG n st'.toSt) ∧ WF st' ∧ K st' = some r := by
  unfold opD at h
  split at h
  · rename_i s ho
    split at h
    · rename_i e t l hs; exact moveD_sound hw ho hs rfl h
    · rename_i e cs hs; exact moveD_sound hw ho hs rfl h
    · exact localD_sound hY hE hw h
  · rename_i r' i ho
    split at h
    · rename_i cs hr
      split at h
      · rename_i c hc
        split at h
        · exact localD_sound hY hE hw h
        · split at h
          · rename_i d hd
            obtain ⟨h0, h⟩ := tst_some h
            exact extract_own_sound hw ho hd hr hc h0 h
          · cases h
      · cases h
    · cases h
  · rename_i x y t u ho
    split at h
    · rename_i d r' p off k v hd hx
      split at h
      · rename_i t0 e ty l e' ty' b ht hr hs
        obtain ⟨h0, h2⟩ := tst_some h
        simp only [Bool.and_eq_true, decide_eq_true_eq] at h0
        obtain ⟨⟨h0, h3⟩, rfl⟩ := h0
        have := Nat.eq_of_beq_eq_true h3
        subst this
        have hvw := viewOk_vw (rdD_spec (n := n) (X := X) hY hw (γ := none) trivial hx).2.2.2 hr
        have h0' : (dstD n Z st d && !Nat.beq d r') = true := by simp only [Bool.and_eq_true]; exact h0
        split at h2
        · obtain ⟨q1, q2⟩ := hvw
          exact append_sound hY hw ho hd hx ht hr hs h0' q1 (by rw [q2, List.take_length]) h2
        · obtain ⟨q1, q2⟩ := hvw
          exact append_sound hY hw ho hd hx ht hr hs h0' q1 rfl h2
        · cases h2
      · cases h
    · cases h
  · rename_i t a v ho
    split at h
    · rename_i r' off tv x hd ha hv
      split at h
      · rename_i e cs w hr hT
        obtain ⟨h0, h⟩ := tst_some h
        exact store_box_sound hY hw ho hd ha hv hr hT h0 h
      · cases h
    · rename_i r' i j tv x hd ha hv
      split at h
      · rename_i e ty l w hr hT
        split at h
        · rename_i y hp
          obtain ⟨h0, h⟩ := tst_some h
          exact store_elem_sound hY hw ho hd ha hv hr hT hp h0 h
        · cases h
      · cases h
    · cases h
  · exact localD_sound hY hE hw h
end Go.Eng
