/- Operations, guards, regions, in typed trees: that it is so. -/
import Derived.Test.YthgemanfbanhnaaDoorDvF
namespace Go.Eng
open Go.RowKit (Below)
set_option linter.unusedVariables false
set_option linter.unusedSimpArgs false
variable {X : Ctx} {Y : DX} {n : Nat} {Z : List Nat} {st : DSt} {E : Env} {ρ : Type} {r : ρ}

theorem extract_own_sound (hw : WF st) {o : Oper} {r' i d : Nat} {cs : List DT} {c : DT} {K : DSt → Option ρ} (ho : o.op = .extract (.tmp r') i) (hd : o.dst = some d) (hr : st.find r' = some (.t (.tup cs))) (hc : cs[i]? = some c)
    (h0 : (dstD n Z st d && !Nat.beq d r') = true) (h : K ((st.put r' (.t (.tup (cs.set i .u)))).put d (.t c)) = some r) : ∃ st', Step X n Z (stG n st.toSt) o (stG n st'.toSt) ∧ WF st' ∧ K st' = some r := by
  simp only [Bool.and_eq_true, Bool.not_eq_true'] at h0
  have hds : d ≠ r' := by rintro rfl; rw [Nat.beq_refl] at h0; cases h0.2
  obtain ⟨k1, k2, k3⟩ := dstD_spec h0.1
  refine ⟨_, ?_, ?_, h⟩
  · rw [put_toSt, put_toSt, stG_put, stG_put]
    have := step_extract (X := X) (cs := cs.map DT.toT) ho hd ⟨k1.1, k1.2.1⟩ hds k1.2.2 (by rw [stG_toSt, hr]; simp only [DA.toA, DT.toT, all_eq]) (t := c.toT) (by rw [List.getElem?_map, hc]; rfl)
    have e : (cs.map DT.toT).set i .u = (cs.set i .u).map DT.toT := by rw [List.map_set]; rfl
    rw [e] at this
    simp only [DA.toA, DT.toT, all_eq] at this ⊢
    exact this
  · have hnr : noRef st r' = true ∨ True := .inr trivial
    have hw1 : WF (st.put r' (.t (.tup (cs.set i .u)))) := by
      intro k x hx
      rw [find_dput] at hx
      have hor : ownerD st r' = false := by unfold ownerD; rw [hr]
      by_cases hk : k = r'
      · rw [if_pos hk] at hx; cases hx; trivial
      · rw [if_neg hk] at hx
        have hwf := hw k x hx
        cases x with
        | opt d' w b a' =>
          refine ⟨fun b' hb' => hwf.1 b' ?_, hwf.2.1, viewOk_mono hwf.2.2 (rootD_put hor)⟩
          by_cases hne : d' = r'
          · subst hne
            unfold gB at hb'
            rw [find_dput, if_pos rfl] at hb'; cases hb'
          · rw [← hb', gB_put hne]
        | ref r2 p off len v => exact viewOk_mono (show viewOk st (.ref r2 p off len v) from hwf) (rootD_put hor)
        | _ => trivial
    refine hw1.put ?_ ?_ trivial rfl
    · unfold ownerD; rw [find_dput, if_neg hds]; exact k2
    · have : ∀ (s : DSt) (d k : Nat) (y : DT), noRef s d = true → noRef (s.put k (.t y)) d = true := by
        intro s d k y
        induction s with
        | nil => intro _; rfl
        | cons p s ih =>
          obtain ⟨i, x⟩ := p
          intro hn
          simp only [DSt.put]
          have htl : noRef s d = true := by
            cases x with
            | opt d2 w b a =>
              simp only [noRef] at hn
              cases hb : Nat.beq d2 d with
              | true => rw [hb] at hn; cases hn
              | false => rw [hb] at hn; exact hn
            | _ => exact hn
          cases hb : Nat.beq k i with
          | true => simp only [cond_true]; exact htl
          | false =>
            simp only [cond_false]
            cases x with
            | opt d2 w b a =>
              simp only [noRef] at hn ⊢
              cases hb2 : Nat.beq d2 d with
              | true => rw [hb2] at hn; cases hn
              | false => simp only [cond_false]; exact ih htl
            | _ => exact ih htl
      exact this _ _ _ _ k3

/-! append -/
theorem killQ_spec {r : Nat} {p : Option Nat} {r' : Nat} {q : Option Nat} : killQ r p r' q = true ↔ r' = r ∧ (p = none ∨ q = p) := by
  unfold killQ
  by_cases h : r' = r
  · subst h
    cases p with
    | none => simp
    | some k =>
      cases q with
      | none => simp
      | some j =>
        by_cases hj : j = k
        · subst hj; simp
        · simp only [Nat.beq_refl, Bool.true_and, true_and, reduceCtorEq, false_or, Option.some.injEq, hj, iff_false]; rw [beq_ne hj]; simp
  · simp [beq_ne h, h]
theorem killD_toA (r : Nat) (p : Option Nat) (a : DA) : (killD r p a).toA = killA r p a.toA := by
  induction a with
  | ref r' q off len v =>
    simp only [killD, DA.toA, killA]
    cases hk : killQ r p r' q with
    | true => rw [if_pos (killQ_spec.1 hk)]; rfl
    | false => rw [if_neg (fun e => by rw [killQ_spec.2 e] at hk; cases hk)]; rfl
  | eptr r' q i j =>
    simp only [killD, DA.toA, killA]
    cases hk : killQ r p r' q with
    | true => rw [if_pos (killQ_spec.1 hk)]; rfl
    | false => rw [if_neg (fun e => by rw [killQ_spec.2 e] at hk; cases hk)]; rfl
  | pref r' q off =>
    simp only [killD, DA.toA, killA]
    cases hk : killQ r p r' q with
    | true => rw [if_pos (killQ_spec.1 hk)]; rfl
    | false => rw [if_neg (fun e => by rw [killQ_spec.2 e] at hk; cases hk)]; rfl
  | opt g w b a ih => simp only [killD, DA.toA, killA, ih]
  | _ => rfl
theorem killD_isOpt (r : Nat) (p : Option Nat) (a : DA) : (killD r p a).isOpt = a.isOpt := by
  cases a with
  | ref r' q off len v => simp only [killD]; cases killQ r p r' q <;> rfl
  | eptr r' q i j => simp only [killD]; cases killQ r p r' q <;> rfl
  | pref r' q off => simp only [killD]; cases killQ r p r' q <;> rfl
  | _ => rfl
theorem putDT_toT {t0 : DT} {p : Option Nat} {e : TypeId} {ty : Ty} {l : List ty.I} {r' : Nat} (ht : st.find r' = some (.t t0)) (hr : rootD st r' p = some (.own e ty l)) (t' : DT) : (putDT t0 p t').toT = putT t0.toT p t'.toT := by
  cases p with
  | none => rfl
  | some k =>
    simp only [rootD, ht] at hr
    split at hr
    · rename_i e2 cs hx
      cases hx
      simp only [putDT, DT.toT, all_eq, putT, List.map_set]
    · cases hr
theorem turnDS_toSt {t0 : DT} {p : Option Nat} {e : TypeId} {ty : Ty} {l : List ty.I} {r' : Nat} (ht : st.find r' = some (.t t0)) (hr : rootD st r' p = some (.own e ty l)) (t' : DT) : (turnDS st r' p t0 t').toSt = turnSt st.toSt r' p t0.toT t'.toT := by
  unfold turnDS turnSt
  rw [put_toSt, mapA_toSt _ _ (killD_toA r' p)]
  simp only [DA.toA, putDT_toT ht hr]

theorem newsD_spec (hY : DXOk Y X) (hw : WF st) {y : Operand} {t u e : TypeId} {ty : Ty} {b k : Nat} {K : List ty.I → Option ρ} (hs : sliT Y t = some (e, ty, b)) (h : newsD Y st y t u ty b k K = some r) :
    ∃ l2, K l2 = some r ∧ rdp X (stG n st.toSt) y ∧ ((∃ s : List UInt8, rd X (stG n st.toSt) y = .t (.v (.string (mkS s))) ∧ ty = .u8 ∧ l2.map ty.enc = s.map encB ∧ b = 1 ∧ X.P.underlying u = some .string ∧ k + s.length ≤ 140737488355328) ∨
      (elemsA (stG n st.toSt) (rd X (stG n st.toSt) y) = some (l2.map ty.enc) ∧ sizA (stG n st.toSt) ty.sz (rd X (stG n st.toSt) y) ∧ u = t ∧ (k + l2.length) * b ≤ 140737488355328)) := by
  unfold newsD at h
  split at h
  · rename_i s hy
    obtain ⟨y1, y2⟩ := rdT_spec (n := n) (X := X) hY hw (γ := none) trivial hy
    split at h
    · rename_i s' hs'
      obtain ⟨h0, h⟩ := tst_some h
      obtain ⟨h1, h2⟩ := G_some h
      simp only [Bool.and_eq_true] at h0
      obtain ⟨e1, e2⟩ := castT_some hs'
      injection e1 with e0 e1
      subst e1
      subst e2
      exact ⟨s, h2, y2 trivial, .inl ⟨s, y1, rfl, rfl, Nat.eq_of_beq_eq_true h0.2, isTy_spec hY h0.1 (by simp [undOf]), h1⟩⟩
    · cases h
  · rename_i a _ hy
    obtain ⟨y1, y2, y3, y4⟩ := rdD_spec (n := n) (X := X) hY hw (γ := none) trivial hy
    split at h
    · rename_i t2 l2 he
      split at h
      · rename_i l' hl'
        obtain ⟨h0, h⟩ := tst_some h
        obtain ⟨h1, h2⟩ := G_some h
        obtain ⟨e1, e2⟩ := castT_some hl'
        injection e1 with e0 e1
        subst e1
        subst e2
        obtain ⟨q1, q2⟩ := elemsD_spec (n := n) y4 he
        exact ⟨l2, h2, y2 trivial, .inr ⟨by rw [y1]; exact q1, by rw [y1]; exact q2, Nat.eq_of_beq_eq_true h0, h1⟩⟩
      · cases h
    · cases h
  · cases h

theorem append_wf (hw : WF st) {r' d : Nat} {p : Option Nat} {t0 : DT} {e : TypeId} {ty : Ty} {l : List ty.I} {x : DT} (ht : st.find r' = some (.t t0)) (hr : rootD st r' p = some (.own e ty l)) (hdr : d ≠ r') (ho : ownerD st d = false) (hn : noRef st d = true) :
    WF ((turnDS st r' p t0 .u).put d (.t x)) := by
  have hfind : ∀ k, ((turnDS st r' p t0 .u).put d (.t x)).find k = if k = d then some (.t x) else if k = r' then some (.t (putDT t0 p .u)) else (st.find k).map (killD r' p) := fun k => by
    unfold turnDS; rw [find_dput, find_dput, find_dmap]
  have hroot : ∀ {r2 : Nat} {q : Option Nat} {e2 : TypeId} {t2 : Ty} {l2 : List t2.I}, killQ r' p r2 q = false → rootD st r2 q = some (.own e2 t2 l2) → rootD ((turnDS st r' p t0 .u).put d (.t x)) r2 q = some (.own e2 t2 l2) := by
    intro r2 q e2 t2 l2 hk h2
    have hnd : r2 ≠ d := by rintro rfl; rw [rootD_owner h2] at ho; cases ho
    by_cases h : r2 = r'
    · subst h
      cases p with
      | none => rw [killQ_spec.2 ⟨rfl, .inl rfl⟩] at hk; cases hk
      | some k =>
        simp only [rootD, ht] at hr
        split at hr
        · rename_i e3 cs hx
          cases hx
          cases q with
          | none => simp only [rootD, ht] at h2; cases h2
          | some j =>
            simp only [rootD, ht] at h2
            have hjk : j ≠ k := by rintro rfl; rw [killQ_spec.2 ⟨rfl, .inr rfl⟩] at hk; cases hk
            simp only [rootD, hfind, if_neg hnd, if_pos, putDT]
            rw [List.getElem?_set_ne (fun e => hjk e.symm)]; exact h2
        · cases hr
    · cases q with
      | none =>
        simp only [rootD, hfind, if_neg hnd, if_neg h] at h2 ⊢
        split at h2
        · rename_i y hy; rw [hy]; exact h2
        · cases h2
      | some j =>
        simp only [rootD, hfind, if_neg hnd, if_neg h] at h2 ⊢
        split at h2
        · rename_i e3 cs hy; rw [hy]; exact h2
        · cases h2
  have hview : ∀ a, viewOk st a → viewOk ((turnDS st r' p t0 .u).put d (.t x)) (killD r' p a) := by
    intro a ha
    cases a with
    | ref r2 q off len v =>
      simp only [killD]
      cases hk : killQ r' p r2 q with
      | true => trivial
      | false =>
        rcases ha with ha | ⟨e2, t2, l2, q1, q2⟩
        · exact .inl ha
        · exact .inr ⟨e2, t2, l2, hroot hk q1, q2⟩
    | eptr r2 q i j => simp only [killD]; cases killQ r' p r2 q <;> trivial
    | pref r2 q off => simp only [killD]; cases killQ r' p r2 q <;> trivial
    | _ => trivial
  intro k y hy
  rw [hfind] at hy
  by_cases hkd : k = d
  · rw [if_pos hkd] at hy; cases hy; trivial
  · rw [if_neg hkd] at hy
    by_cases hkr : k = r'
    · rw [if_pos hkr] at hy; cases hy; trivial
    · rw [if_neg hkr] at hy
      cases hq : st.find k with
      | none => rw [hq] at hy; cases hy
      | some a =>
        rw [hq] at hy
        simp only [Option.map_some, Option.some.injEq] at hy
        subst hy
        have hwf := hw k a hq
        cases a with
        | opt d' w b a' =>
          have hd' : d' ≠ d := noRef_spec hn hq
          refine ⟨fun b' hb' => hwf.1 b' ?_, ?_, hview a' hwf.2.2⟩
          · unfold gB at hb' ⊢
            rw [hfind, if_neg hd'] at hb'
            by_cases hds' : d' = r'
            · subst hds'
              rw [if_pos rfl] at hb'
              cases p with
              | none => cases hb'
              | some j =>
                simp only [rootD, ht] at hr
                split at hr
                · rename_i e3 cs hx; cases hx; cases hb'
                · cases hr
            · rw [if_neg hds'] at hb'
              cases hq2 : st.find d' with
              | none => rw [hq2] at hb'; cases hb'
              | some a2 =>
                rw [hq2] at hb'
                cases a2 with
                | t y => exact hb'
                | opt g2 w2 b2 a2 =>
                  cases a2 with
                  | t y => exact hb'
                  | ref r2 q off len v => simp only [Option.map_some, killD] at hb'; cases hk : killQ r' p r2 q <;> rw [hk] at hb' <;> cases hb'
                  | eptr r2 q i j => simp only [Option.map_some, killD] at hb'; cases hk : killQ r' p r2 q <;> rw [hk] at hb' <;> cases hb'
                  | pref r2 q off => simp only [Option.map_some, killD] at hb'; cases hk : killQ r' p r2 q <;> rw [hk] at hb' <;> cases hb'
                  | _ => cases hb'
                | ref r2 q off len v => simp only [Option.map_some, killD] at hb'; cases hk : killQ r' p r2 q <;> rw [hk] at hb' <;> cases hb'
                | eptr r2 q i j => simp only [Option.map_some, killD] at hb'; cases hk : killQ r' p r2 q <;> rw [hk] at hb' <;> cases hb'
                | pref r2 q off => simp only [Option.map_some, killD] at hb'; cases hk : killQ r' p r2 q <;> rw [hk] at hb' <;> cases hb'
                | _ => cases hb'
          · rw [killD_isOpt]; exact hwf.2.1
        | ref r2 q off len v => exact slotWF_of (by rw [killD_isOpt]; rfl) (hview _ (show viewOk st (.ref r2 q off len v) from hwf))
        | eptr r2 q i j => exact slotWF_of (by rw [killD_isOpt]; rfl) (hview _ (show viewOk st (.eptr r2 q i j) from trivial))
        | pref r2 q off => exact slotWF_of (by rw [killD_isOpt]; rfl) (hview _ (show viewOk st (.pref r2 q off) from trivial))
        | _ => trivial

end Go.Eng
