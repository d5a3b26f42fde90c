/- Sharing, forgetting, results: that it is so. -/
import Derived.Test.YthgemanfbanhnaaDoorDvL
namespace Go.Eng
open Go.RowKit (Below)
set_option linter.unusedVariables false
set_option linter.unusedSimpArgs false
variable {X : Ctx} {Y : DX} {n : Nat} {Z : List Nat} {st : DSt} {E : Env}

theorem noOpt_spec : ∀ {st : DSt}, noOpt st = true → ∀ {k : Nat} {a : DA}, st.find k = some a → a.isOpt = false
  | [], _, _, _, h => by cases h
  | (i, x) :: r, hn, k, a, h => by
    simp only [DSt.find] at h
    have hx : x.isOpt = false ∧ noOpt r = true := by
      cases x with
      | opt => cases hn
      | _ => exact ⟨rfl, hn⟩
    cases hb : Nat.beq k i with
    | true => rw [hb] at h; cases h; exact hx.1
    | false => rw [hb] at h; exact noOpt_spec hx.2 h
theorem noOpt_map {f : DA → DA} (hf : ∀ a, a.isOpt = false → (f a).isOpt = false) : ∀ {st : DSt}, noOpt st = true → noOpt (st.mapA f) = true
  | [], _ => rfl
  | (i, x) :: r, hn => by
    have hx : x.isOpt = false ∧ noOpt r = true := by
      cases x with
      | opt => cases hn
      | _ => exact ⟨rfl, hn⟩
    have h1 := hf x hx.1
    have h2 := noOpt_map hf hx.2
    simp only [DSt.mapA]
    cases hq : f x with
    | opt => rw [hq] at h1; cases h1
    | _ => exact h2
theorem noOpt_put {a : DA} (ha : a.isOpt = false) (k : Nat) : ∀ {st : DSt}, noOpt st = true → noOpt (st.put k a) = true
  | [], _ => by simp only [DSt.put]; cases a <;> first | rfl | cases ha
  | (i, x) :: r, hn => by
    have hx : x.isOpt = false ∧ noOpt r = true := by
      cases x with
      | opt => cases hn
      | _ => exact ⟨rfl, hn⟩
    simp only [DSt.put]
    cases hb : Nat.beq k i with
    | true => simp only [cond_true]; cases a <;> first | exact hx.2 | cases ha
    | false =>
      simp only [cond_false]
      have := noOpt_put ha k hx.2
      cases x <;> first | exact this | cases hx.1

theorem shareDA_isOpt (r : Nat) (t : Ty) (l : List t.I) (a : DA) (h : a.isOpt = false) : (shareDA r t l a).isOpt = false := by
  cases a with
  | ref r' q off len v => simp only [shareDA]; cases Nat.beq r' r <;> cases q <;> rfl
  | eptr r' q i j => simp only [shareDA]; cases Nat.beq r' r <;> rfl
  | pref r' q off => simp only [shareDA]; cases Nat.beq r' r <;> rfl
  | opt => cases h
  | _ => rfl

theorem shareDS_sound (hw : WF st) (hno : noOpt st = true) {r : Nat} {st' : DSt} (h : shareDS st r = some st') : GhostTo X n Z st.toSt st'.toSt ∧ WF st' ∧ noOpt st' = true := by
  unfold shareDS at h
  split at h
  · rename_i e t l hr
    cases h
    have hfind : ∀ k, ((st.mapA (shareDA r t l)).put r (.t (.s (.sl t.sz t) l))).find k = if k = r then some (.t (.s (.sl t.sz t) l)) else (st.find k).map (shareDA r t l) := fun k => by rw [find_dput, find_dmap]
    refine ⟨fun D gc v0 w0 tmps w hI => ?_, ?_, noOpt_put rfl r (noOpt_map (shareDA_isOpt r t l) hno)⟩
    · have hg : stG n st.toSt r = .t (.own e t.sz (l.map t.enc)) := by rw [stG_toSt, hr]; rfl
      have := hI.share hg
      have heq : stG n ((st.mapA (shareDA r t l)).put r (.t (.s (.sl t.sz t) l))).toSt = shared (stG n st.toSt) r t.sz (l.map t.enc) := by
        funext i
        rw [stG_toSt, hfind]
        unfold shared
        by_cases hi : i = r
        · subst hi
          rw [if_pos rfl, upd_same]
          simp only [DA.toA, DT.toT, enc_sl, fz_map]
        · rw [if_neg hi, upd_ne _ _ hi, stG_toSt]
          cases hq : st.find i with
          | none => simp only [Option.map_none]; split <;> rfl
          | some a =>
            simp only [Option.map_some]
            have hopt := noOpt_spec hno hq
            have hwf := hw i a hq
            cases a with
            | ref r' q off len v =>
              simp only [shareDA, DA.toA, shareA]
              by_cases hr' : r' = r
              · subst hr'
                rw [Nat.beq_refl, if_pos rfl]
                cases q with
                | none =>
                  have hvw := viewOk_vw (show viewOk st (.ref r' none off len v) from hwf) (e := e) (t := t) (l := l) (by simp only [rootD, hr])
                  simp only [if_true, DA.toA, DT.toT, enc_sl, fz_map, map_cut, vwL_spec _ hvw]
                | some j => simp [DA.toA, DT.toT]
              · rw [beq_ne hr', if_neg hr']; rfl
            | eptr r' q i j =>
              simp only [shareDA, DA.toA, shareA]
              by_cases hr' : r' = r
              · subst hr'; rw [Nat.beq_refl, if_pos rfl]; rfl
              · rw [beq_ne hr', if_neg hr']; rfl
            | pref r' q off =>
              simp only [shareDA, DA.toA, shareA]
              by_cases hr' : r' = r
              · subst hr'; rw [Nat.beq_refl, if_pos rfl]; rfl
              · rw [beq_ne hr', if_neg hr']; rfl
            | opt => cases hopt
            | _ => rfl
      rw [heq]; exact this
    · intro k x hx
      rw [hfind] at hx
      by_cases hk : k = r
      · rw [if_pos hk] at hx; cases hx; trivial
      · rw [if_neg hk] at hx
        cases hq : st.find k with
        | none => rw [hq] at hx; cases hx
        | some a =>
          rw [hq] at hx
          simp only [Option.map_some, Option.some.injEq] at hx
          subst hx
          have hopt := noOpt_spec hno hq
          have hwf := hw k a hq
          refine slotWF_of (shareDA_isOpt _ _ _ _ hopt) ?_
          cases a with
          | ref r' q off len v =>
            simp only [shareDA]
            by_cases hr' : r' = r
            · subst hr'; rw [Nat.beq_refl]; cases q <;> trivial
            · rw [beq_ne hr']
              rcases (show viewOk st (.ref r' q off len v) from hwf) with h1 | ⟨e2, t2, l2, q1, q2⟩
              · exact .inl h1
              · refine .inr ⟨e2, t2, l2, ?_, q2⟩
                cases q with
                | none =>
                  simp only [rootD, hfind, if_neg hr'] at q1 ⊢
                  split at q1
                  · rename_i y hy; rw [hy]; exact q1
                  · cases q1
                | some j =>
                  simp only [rootD, hfind, if_neg hr'] at q1 ⊢
                  split at q1
                  · rename_i e3 cs hy; rw [hy]; exact q1
                  · cases q1
          | eptr r' q i j => simp only [shareDA]; cases Nat.beq r' r <;> trivial
          | pref r' q off => simp only [shareDA]; cases Nat.beq r' r <;> trivial
          | opt => cases hopt
          | _ => trivial
  · cases h
theorem sharesD_sound : ∀ {rs : List Nat} {st st' : DSt}, WF st → sharesD rs st = some st' → GhostTo X n Z st.toSt st'.toSt ∧ WF st'
  | [], st, st', hw, h => by cases h; exact ⟨GhostTo.refl, hw⟩
  | r :: rs, st, st', hw, h => by
    simp only [sharesD] at h
    split at h
    · rename_i s1 hno hs
      obtain ⟨h1, h2, h3⟩ := shareDS_sound (X := X) (n := n) (Z := Z) hw hno hs
      obtain ⟨h4, h5⟩ := sharesD_sound h2 h
      exact ⟨h1.trans h4, h5⟩
    · cases h

/-! forgetting -/
theorem find_clean (st0 : DSt) : ∀ (st : DSt) (k : Nat), (cleanGo st0 st).find k = (st.find k).map fun a => match badD st0 a with | true => .t .u | false => a
  | [], _ => rfl
  | (i, a) :: r, k => by
    simp only [cleanGo, DSt.find, find_clean st0 r k]
    cases Nat.beq k i <;> rfl
theorem clean_sound (hw : WF st) : GhostTo X n Z st.toSt (cleanD st).toSt ∧ WF (cleanD st) := by
  have hf : ∀ k, (cleanD st).find k = (st.find k).map fun a => match badD st a with | true => .t .u | false => a := find_clean st st
  refine ⟨fun D gc v0 w0 tmps w hI => ?_, ?_⟩
  · obtain ⟨c, hfr, _⟩ := hI.frm
    refine hI.less fun i => ?_
    rw [stG_toSt, stG_toSt, hf]
    cases hq : st.find i with
    | none =>
      left
      refine ⟨rfl, fun r hr => ?_⟩
      simp only at hr
      split at hr <;> cases hr
    | some a =>
      simp only [Option.map_some]
      cases hb : badD st a with
      | true => right; exact ⟨rfl, toA_ne_ghost a⟩
      | false =>
        left
        refine ⟨rfl, fun r hr => ?_⟩
        have hrep := hfr.rep i
        have hgi : stG n st.toSt i = a.toA := by rw [stG_toSt, hq]
        rw [hgi] at hrep
        have hgr : ∃ t0, stG n st.toSt r = .t t0 := by
          cases a with
          | ref r' q off len v => cases hr; obtain ⟨_, t0, e, sz, es, x0, h1, _⟩ := hrep; exact ⟨t0, h1⟩
          | eptr r' q i j => cases hr; obtain ⟨_, t0, e, sz, es, b, m, cap, h1, _⟩ := hrep; exact ⟨t0, h1⟩
          | pref r' q off => cases hr; obtain ⟨_, t0, e, cs, b, h1, _⟩ := hrep; exact ⟨t0, h1⟩
          | opt => cases hb
          | _ => cases hr
        obtain ⟨t0, hgr⟩ := hgr
        rw [stG_toSt] at hgr
        rw [stG_toSt, stG_toSt, hf]
        cases hq2 : st.find r with
        | none => rfl
        | some b =>
          rw [hq2] at hgr
          simp only [Option.map_some]
          have : badD st b = false := by cases b <;> first | rfl | cases hgr
          rw [this]
  · intro k x hx
    rw [hf] at hx
    cases hq : st.find k with
    | none => rw [hq] at hx; cases hx
    | some a =>
      rw [hq] at hx
      simp only [Option.map_some, Option.some.injEq] at hx
      cases hb : badD st a with
      | true => rw [hb] at hx; simp only at hx; subst hx; trivial
      | false =>
        rw [hb] at hx; simp only at hx; subst hx
        have hwf := hw k a hq
        have hopt : a.isOpt = false := by cases a <;> first | rfl | cases hb
        refine slotWF_of hopt ?_
        cases a with
        | ref r' q off len v =>
          rcases (show viewOk st (.ref r' q off len v) from hwf) with h1 | ⟨e2, t2, l2, q1, q2⟩
          · exact .inl h1
          · refine .inr ⟨e2, t2, l2, ?_, q2⟩
            cases q with
            | none =>
              simp only [rootD, hf] at q1 ⊢
              split at q1
              · rename_i y hy; rw [hy]; exact q1
              · cases q1
            | some j =>
              simp only [rootD, hf] at q1 ⊢
              split at q1
              · rename_i e3 cs hy; rw [hy]; exact q1
              · cases q1
        | opt => cases hopt
        | _ => trivial
theorem keepD_spec {sl : List Nat} : ∀ {ks : List Nat} {st' : DSt}, keepD n sl st ks = some st' →
    (∀ i, st'.find i = if i ∈ ks then st.find i else none) ∧ (∀ k ∈ ks, k < n ∧ ∃ a, st.find k = some a ∧ a.isOpt = false ∧ ∀ r, a.toA.at = some r → r ∈ sl)
  | [], st', h => by cases h; exact ⟨fun i => by simp [DSt.find], fun k hk => by cases hk⟩
  | k :: ks, st', h => by
    simp only [keepD] at h
    split at h
    · rename_i a ha
      split at h
      · rename_i hb
        split at h
        · rename_i s1 hs
          cases h
          obtain ⟨h1, h2⟩ := keepD_spec hs
          simp only [Bool.and_eq_true, Nat.blt_eq, Bool.not_eq_true'] at hb
          refine ⟨fun i => ?_, fun k' hk' => ?_⟩
          · simp only [DSt.find, h1, List.mem_cons]
            by_cases hi : i = k
            · subst hi; simp [ha]
            · rw [beq_ne hi]; simp [hi]
          · rcases List.mem_cons.1 hk' with e | hk'
            · subst e
              refine ⟨hb.1.1, a, ha, hb.1.2, fun r hr => ?_⟩
              have hb2 := hb.2
              cases a with
              | ref r' q off len v => simp only [DA.toA, A.at, Option.some.injEq] at hr; subst hr; exact memN_spec.1 hb2
              | eptr r' q i j => simp only [DA.toA, A.at, Option.some.injEq] at hr; subst hr; exact memN_spec.1 hb2
              | pref r' q off => simp only [DA.toA, A.at, Option.some.injEq] at hr; subst hr; exact memN_spec.1 hb2
              | opt => cases hb.1.2
              | _ => cases hr
            · exact h2 k' hk'
        · cases h
      · cases h
    · cases h
theorem pruneD_sound (hw : WF st) {sl : List Nat} {st' : DSt} (h : pruneD n sl st = some st') : GhostTo X n Z st.toSt st'.toSt ∧ WF st' := by
  unfold pruneD at h
  split at h
  · rename_i hn
    obtain ⟨h1, h2⟩ := keepD_spec h
    refine ⟨fun D gc v0 w0 tmps w hI => hI.less ?_, ?_⟩
    · intro i
      rw [stG_toSt, stG_toSt, h1]
      by_cases hi : i ∈ sl
      · obtain ⟨_, a, ha, _, hat⟩ := h2 i hi
        left
        rw [if_pos hi]
        refine ⟨rfl, fun r hr => ?_⟩
        rw [ha] at hr
        have hrs := hat r hr
        rw [stG_toSt, stG_toSt, h1, if_pos hrs]
      · rw [if_neg hi]
        by_cases hin : i = n
        · subst hin
          left
          rw [hn]
          exact ⟨rfl, fun r hr => by simp only [if_true] at hr; cases hr⟩
        · right
          simp only [if_neg hin, true_and]
          cases st.find i with
          | none => simp only; intro h; cases h
          | some a => exact toA_ne_ghost a
    · intro k x hx
      rw [h1] at hx
      split at hx
      · rename_i hk
        obtain ⟨_, a, ha, hopt, hat⟩ := h2 k hk
        rw [ha] at hx
        simp only [Option.some.injEq] at hx
        subst hx
        have hwf := hw k a ha
        refine slotWF_of hopt ?_
        cases a with
        | ref r' q off len v =>
          rcases (show viewOk st (.ref r' q off len v) from hwf) with h3 | ⟨e2, t2, l2, q1, q2⟩
          · exact .inl h3
          · refine .inr ⟨e2, t2, l2, ?_, q2⟩
            have hm := hat r' rfl
            cases q <;> simp only [rootD, h1, if_pos hm] at q1 ⊢ <;> exact q1
        | opt => cases hopt
        | _ => trivial
      · cases hx
  · cases h

/-! results -/
theorem retDS_sound : ∀ {rs : List Nat} {fz : List Bool} {st st' : DSt}, WF st → noOpt st = true → retDS n Z rs fz st = some st' → GhostTo X n Z st.toSt st'.toSt
  | [], fz, st, st', hw, hno, h => by cases h; exact GhostTo.refl
  | r :: rs, fz, st, st', hw, hno, h => by
    simp only [retDS] at h
    split at h
    · split at h
      · rename_i s1 hs
        obtain ⟨h1, h2, h3⟩ := shareDS_sound (X := X) (n := n) (Z := Z) hw hno hs
        exact h1.trans (retDS_sound h2 h3 h)
      · cases h
    · cases h
    · exact retDS_sound hw hno h
    · split at h
      · rename_i s1 hs
        obtain ⟨h1, h2, h3⟩ := shareDS_sound (X := X) (n := n) (Z := Z) hw hno hs
        exact h1.trans (retDS_sound h2 h3 h)
      · cases h
    · rename_i s off len hr hfz
      split at h
      · rename_i e t l hs
        split at h
        · rename_i hb0
          have hb := hb0
          simp only [Bool.and_eq_true, Bool.not_eq_true'] at hb
          obtain ⟨k1, k2, k3⟩ := dstD_spec hb.1
          have hds : r ≠ s := by rintro rfl; rw [Nat.beq_refl] at hb; cases hb.2
          have hview := viewOk_vw (show viewOk st (.ref s none off len .all) from hw r _ hr) (e := e) (t := t) (l := l) (by simp only [rootD, hs])
          obtain ⟨rfl, rfl⟩ := hview
          have hfind : ∀ k, (moveDS st s r (.own e t l)).find k = if k = r then some (.t (.own e t l)) else if k = s then some (aliasD r (.own e t l)) else (st.find k).map (redirD s r) := fun k => by
            unfold moveDS; rw [find_dput, find_dput, find_dmap]
          have hno' : noOpt (moveDS st s r (.own e t l)) = true := by
            unfold moveDS
            refine noOpt_put rfl r (noOpt_put rfl s (noOpt_map (fun a ha => ?_) hno))
            cases a <;> first | rfl | cases ha
          refine GhostTo.trans ?_ (retDS_sound (st := moveDS st s r (.own e t l)) ?_ hno' h)
          · intro D gc v0 w0 tmps w hI
            have := hI.swap (d := r) (s := s) (e := e) (sz := t.sz) (es := l.map t.enc) k1.1 (by rw [stG_toSt, hs]; rfl) (by rw [stG_toSt, hr]; simp only [DA.toA, List.length_map])
            rw [moveDS_toSt, stG_moveSt]
            exact this
          · obtain ⟨st2, _, hw2, hk⟩ := moveD_sound (X := X) (n := n) (Z := Z) (K := fun s' => some s') hw (o := { dst := some r, op := .assign (.tmp s), type := 0, pos := default, after := #[], guard := none }) (s := s) (x := .own e t l) rfl hs rfl (by
              show tst (dstD n Z st r && !Nat.beq r s) (some (moveDS st s r (.own e t l))) = some (moveDS st s r (.own e t l))
              rw [hb0]; rfl)
            cases hk; exact hw2
        · cases h
      · cases h
    · cases h
theorem toT_ne_tup {x : DT} (h : ∀ cs, x ≠ .tup cs) (cs : List T) : x.toT ≠ .tup cs := by
  cases x with
  | s t y => intro e; have := enc_flat t y; simp only [DT.toT] at e; rw [e] at this; cases this
  | tup cs => exact absurd rfl (h cs)
  | _ => intro e; cases e
theorem resultsD_spec : ∀ {rs : List Nat} {xs : List DT}, resultsD st rs = some xs → slotsOk n st.toSt rs (xs.map DT.toT) ∧ ∀ t ∈ xs.map DT.toT, ∀ cs, t ≠ .tup cs
  | [], xs, h => by cases h; exact ⟨trivial, by simp⟩
  | r :: rs, xs, h => by
    simp only [resultsD] at h
    split at h
    · cases h
    · rename_i x xs' hnt hx hxs
      cases h
      obtain ⟨h1, h2⟩ := resultsD_spec hxs
      refine ⟨⟨by rw [stG_toSt, hx]; rfl, h1⟩, fun t ht => ?_⟩
      rw [List.map_cons, List.mem_cons] at ht
      rcases ht with rfl | ht
      · exact toT_ne_tup (fun cs e => by subst e; exact hnt cs rfl)
      · exact h2 t ht
    · cases h
theorem keysOk_spec : ∀ {st : DSt}, keysOk n st = true → noGhost n st.toSt
  | [], _ => trivial
  | (k, a) :: r, h => by
    simp only [keysOk, Bool.and_eq_true, Nat.blt_eq] at h
    have := keysOk_spec h.2
    simp only [DSt.toSt]
    have hne := toA_ne_ghost a
    cases hq : a.toA with
    | ghost => exact absurd hq hne
    | _ => exact ⟨by omega, this⟩
end Go.Eng
