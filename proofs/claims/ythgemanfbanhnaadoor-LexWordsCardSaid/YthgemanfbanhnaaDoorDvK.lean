/- Guards, regions, in typed trees: that it is so. -/
import Derived.Test.YthgemanfbanhnaaDoorDvJ
namespace Go.Eng
open Go.RowKit (Below)
set_option linter.unusedVariables false
set_option linter.unusedSimpArgs false
variable {X : Ctx} {Y : DX} {n : Nat} {Z : List Nat} {st : DSt} {E : Env} {ρ : Type} {r : ρ}

theorem gB_guardA {all : List Oper} {j dj : Nat} {want b : Bool} {o' : Oper} (h1 : all[j]? = some o') (h2 : o'.dst = some dj) (h3 : gB st dj want = some b) : guardA (stG n st.toSt) all j want = some b := by
  simp only [guardA, h1, h2, stG_toSt]
  unfold gB at h3
  split at h3
  · rename_i q hq
    rw [hq]
    cases h3
    simp only [DA.toA, DT.toT, Ty.enc, Ty.row, mkT, Ty.cells, List.headD_cons]
    cases q <;> cases want <;> rfl
  · rename_i q b' hq
    rw [hq]
    cases h3
    simp only [DA.toA, DT.toT, Ty.enc, Ty.row, mkT, Ty.cells, List.headD_cons]
    cases q <;> cases want <;> cases b' <;> rfl
  · cases h3
theorem plainD_spec (a : DA) (h : plainD a = true) : a.toA.plain = true := by
  cases a with
  | t x => exact (flatD_spec x).trans h
  | opt => cases h
  | _ => rfl

theorem g1D_sound (hY : DXOk Y X) (hE : EnvOk X E) (hw : WF st) {all : List Oper} {o : Oper} {K : DA → Option ρ} (h : g1D Y E all st o K = some r) : ∃ a, LG X all (stG n st.toSt) o a.toA ∧ slotWF st a ∧ K a = some r ∧ ∀ d w b a', a = .opt d w b a' → gB st d w = some b := by
  unfold g1D at h
  split at h
  · rename_i hg
    obtain ⟨a, h1, h2, h3, h4⟩ := locD_sound (n := n) hY hE hw (γ := none) trivial h
    refine ⟨a, fun tmps ds w c hG hf next Q hn => ?_, slotWF_of h2 h3, h4, fun d w b a' e => by subst e; cases h2⟩
    rw [if_pos (by simp [Region.wanted, hg])]
    exact h1 trivial tmps ds w c hG hf next Q hn
  · rename_i j want hg
    split at h
    · rename_i o' ho'
      split at h
      · rename_i dj hdj
        split at h
        · rename_i b hb
          obtain ⟨a, h1, h2, h3, h4⟩ := locD_sound (n := n) hY hE hw (γ := some (dj, want, b)) hb h
          obtain ⟨hpl, h5⟩ := tst_some h4
          have hplA := plainD_spec a hpl
          refine ⟨.opt dj want b a, fun tmps ds w c hG hf next Q hn => ?_, ⟨fun b' hb' => by rw [hb] at hb'; cases hb'; rfl, h2, h3⟩, h5, fun d w b' a' e => by cases e; exact hb⟩
          have hy := yielded_of (n := n) hf (gB_guardA (n := n) ho' hdj hb)
          have hwant : Region.wanted o (yielded all.toArray tmps) = b := by simp only [Region.wanted, hg]; exact hy
          rw [hwant]
          cases b with
          | true =>
            simp only [if_true]
            refine h1 rfl tmps ds w c hG hf next Q (fun v w' hw' hr => hn v w' hw' ?_)
            obtain ⟨cd, r1, r2, r3⟩ := hr
            exact ⟨cd, ⟨A.plain_zero r1 hplA, fun _ => r1, fun h => by cases h⟩, r2, r3⟩
          | false =>
            simp only [Bool.false_eq_true, if_false]
            exact hn undef w (Below.refl _ _) ⟨fun _ => 0, ⟨fun _ => rfl, (fun h => by cases h), fun _ => rfl⟩, fun b hb => absurd hb (by simp), fun _ => Nat.zero_le _⟩
        · cases h
      · cases h
    · cases h

theorem LG.gstep {all : List Oper} {g : Nat → A} {o : Oper} {a : A} {d : Nat} (h : LG X all g o a) (hag : a ≠ .ghost) (hd : o.dst = some d) (hn : d < n ∧ d ∉ Z) (ho : (g d).owner = false) : GStep' X n Z all g o (upd g d a) := by
  intro D gc v0 w0 tmps ds w hI next Q hnext
  obtain ⟨c, hf, hb⟩ := hI.frm
  refine h tmps ds w c hI.glob hf next Q (fun v w' hw hr => ?_)
  rw [hd]
  exact hnext _ _ (hI.put hn ho hw hf hb hag hr)

theorem atk_one {d : Nat} {a : DA} (h : atDrop d a = false) : ∀ r, a.toA.at = some r → r ≠ d ∧ a.isOpt = false := by
  have hm : ∀ r, memN [d] r = false → r ≠ d := fun r h e => by subst e; simp [memN] at h
  intro r hr
  cases a with
  | opt d' w b a =>
    cases a with
    | t x => cases hr
    | _ => cases h
  | ref r' p off len v => simp only [DA.toA, A.at, Option.some.injEq] at hr; subst hr; exact ⟨hm _ h, rfl⟩
  | eptr r' p i j => simp only [DA.toA, A.at, Option.some.injEq] at hr; subst hr; exact ⟨hm _ h, rfl⟩
  | pref r' p off => simp only [DA.toA, A.at, Option.some.injEq] at hr; subst hr; exact ⟨hm _ h, rfl⟩
  | _ => cases hr
theorem at_root {w : World} {F : Nat → Prop} {g : Nat → A} {tmps : Array Value} {a : DA} {x : Value} {c : Cnt} (h : ARep w F g tmps a.toA x c) (hno : a.isOpt = false) {r : Nat} (hr : a.toA.at = some r) : ∃ t0, g r = .t t0 := by
  cases a with
  | ref r' p off len v => cases hr; obtain ⟨_, t0, e, sz, es, x0, h1, _⟩ := h; exact ⟨t0, h1⟩
  | eptr r' p i j => cases hr; obtain ⟨_, t0, e, sz, es, b, m, cap, h1, _⟩ := h; exact ⟨t0, h1⟩
  | pref r' p off => cases hr; obtain ⟨_, t0, e, cs, b, h1, _⟩ := h; exact ⟨t0, h1⟩
  | opt => cases hno
  | _ => cases hr
theorem find_drop (d k : Nat) : (dropDS st d).find k = if k = d then some (.t .u) else (st.find k).map (dropA d) := by
  unfold dropDS; rw [find_dput, find_dmap]
theorem drop_wf (hw : WF st) (d : Nat) (hd : ownerD st d = true) : WF (dropDS st d) := by
  intro k x hx
  rw [find_drop] at hx
  by_cases hk : k = d
  · rw [if_pos hk] at hx; cases hx; trivial
  · rw [if_neg hk] at hx
    cases hq : st.find k with
    | none => rw [hq] at hx; cases hx
    | some a =>
      rw [hq] at hx
      simp only [Option.map_some, Option.some.injEq] at hx
      unfold dropA at hx
      cases hb : atDrop d a with
      | true => rw [hb] at hx; simp only at hx; subst hx; trivial
      | false =>
        rw [hb] at hx; simp only at hx; subst hx
        have hwf := hw k a hq
        have hview : ∀ y, viewOk st y → atDrop d y = false → viewOk (dropDS st d) y := by
          intro y hy hat
          cases y with
          | ref r' p off len v =>
            rcases hy with hy | ⟨e, t, l, q1, q2⟩
            · exact .inl hy
            · refine .inr ⟨e, t, l, ?_, q2⟩
              have hne : r' ≠ d := (atk_one hat r' rfl).1
              cases p with
              | none =>
                simp only [rootD, find_drop, if_neg hne] at q1 ⊢
                split at q1
                · rename_i x hx; rw [hx]; exact q1
                · cases q1
              | some j =>
                simp only [rootD, find_drop, if_neg hne] at q1 ⊢
                split at q1
                · rename_i e2 cs hx; rw [hx]; exact q1
                · cases q1
          | _ => trivial
        cases a with
        | opt d' w b a' =>
          refine ⟨fun b' hb' => hwf.1 b' ?_, hwf.2.1, by cases a' with | t x => trivial | _ => cases hb⟩
          unfold gB at hb' ⊢
          rw [find_drop] at hb'
          by_cases hdd : d' = d
          · rw [if_pos hdd] at hb'; cases hb'
          · rw [if_neg hdd] at hb'
            cases hq2 : st.find d' with
            | none => rw [hq2] at hb'; cases hb'
            | some a2 =>
              rw [hq2] at hb'
              simp only [Option.map_some, dropA] at hb'
              cases hb2 : atDrop d a2 with
              | true => rw [hb2] at hb'; cases hb'
              | false => rw [hb2] at hb'; exact hb'
        | ref r' p off len v => exact hview _ (show viewOk st (.ref r' p off len v) from hwf) hb
        | _ => trivial
theorem drop_less {D : Nat → Prop} {gc : Cnt} {v0 : Nat → Value} {w0 w : World} {tmps : Array Value} (d : Nat) (hd : ownerD st d = true) (hI : Inv X n Z D gc v0 w0 (stG n st.toSt) tmps w) : Inv X n Z D gc v0 w0 (stG n (dropDS st d).toSt) tmps w := by
  obtain ⟨c, hfr, _⟩ := hI.frm
  refine hI.less fun i => ?_
  rw [stG_toSt, stG_toSt, find_drop]
  by_cases hi : i = d
  · right
    subst hi
    rw [if_pos rfl]
    refine ⟨rfl, ?_⟩
    unfold ownerD at hd
    cases hq : st.find i with
    | none => rw [hq] at hd; cases hd
    | some a => exact toA_ne_ghost a
  · rw [if_neg hi]
    cases hq : st.find i with
    | none =>
      left
      refine ⟨rfl, fun r hr => ?_⟩
      simp only at hr
      split at hr <;> cases hr
    | some a =>
      simp only [Option.map_some, dropA]
      cases hb : atDrop d a with
      | true => right; exact ⟨rfl, toA_ne_ghost a⟩
      | false =>
        left
        refine ⟨rfl, fun r hr => ?_⟩
        have hne : r ≠ d := (atk_one hb r hr).1
        rw [stG_toSt, stG_toSt, find_drop, if_neg hne]
        cases hq2 : st.find r with
        | none => rfl
        | some b =>
          simp only [Option.map_some, dropA]
          cases hb2 : atDrop d b with
          | false => rfl
          | true =>
            exfalso
            have hrep := hfr.rep i
            have hgi : stG n st.toSt i = a.toA := by rw [stG_toSt, hq]
            rw [hgi] at hrep
            obtain ⟨t0, ht0⟩ := at_root hrep (atk_one hb r hr).2 hr
            rw [stG_toSt, hq2] at ht0
            simp only at ht0
            cases b with
            | t x => cases hb2
            | _ => cases ht0
theorem Step.pre {g g1 g' : Nat → A} {o : Oper} (h : ∀ (D : Nat → Prop) (gc : Cnt) (v0 : Nat → Value) (w0 : World) (tmps : Array Value) (w : World), Inv X n Z D gc v0 w0 g tmps w → Inv X n Z D gc v0 w0 g1 tmps w) (k : Step X n Z g1 o g') : Step X n Z g o g' :=
  fun D gc v0 w0 tmps ds w hI next Q hn => k D gc v0 w0 tmps ds w (h D gc v0 w0 tmps w hI) next Q hn
theorem prep_sound (hw : WF st) (o : Oper) : WF (prepD st o) ∧ ∀ (D : Nat → Prop) (gc : Cnt) (v0 : Nat → Value) (w0 : World) (tmps : Array Value) (w : World), Inv X n Z D gc v0 w0 (stG n st.toSt) tmps w → Inv X n Z D gc v0 w0 (stG n (prepD st o).toSt) tmps w := by
  unfold prepD
  split
  · rename_i d hdst
    split
    · rename_i hd; exact ⟨drop_wf hw d hd, fun D gc v0 w0 tmps w hI => drop_less d hd hI⟩
    · exact ⟨hw, fun _ _ _ _ _ _ h => h⟩
  · exact ⟨hw, fun _ _ _ _ _ _ h => h⟩
theorem gopD_sound (hY : DXOk Y X) (hE : EnvOk X E) (hw : WF st) {all : List Oper} {o : Oper} {K : DSt → Option ρ} (h : gopD Y n Z E all st o K = some r) : ∃ st', GStep' X n Z all (stG n st.toSt) o (stG n st'.toSt) ∧ WF st' ∧ K st' = some r := by
  unfold gopD at h
  split at h
  · rename_i hg
    obtain ⟨p1, p2⟩ := prep_sound (X := X) (n := n) (Z := Z) hw o
    obtain ⟨st', h1, h2, h3⟩ := opD_sound hY hE p1 h
    refine ⟨st', fun D gc v0 w0 tmps ds w hI next Q hn => ?_, h2, h3⟩
    rw [if_pos (by simp [Region.wanted, hg])]
    exact Step.pre p2 h1 D gc v0 w0 tmps ds w hI next Q hn
  · split at h
    · rename_i d hd
      obtain ⟨a, h1, h2, h3, _⟩ := g1D_sound (n := n) hY hE hw h
      obtain ⟨h0, h3⟩ := tst_some h3
      simp only [Bool.and_eq_true, Bool.not_eq_true'] at h0
      obtain ⟨k1, k2, k3⟩ := dstD_spec h0.1
      refine ⟨_, ?_, hw.put k2 k3 h2 h0.2, h3⟩
      rw [put_toSt, stG_put]
      exact h1.gstep (toA_ne_ghost a) hd ⟨k1.1, k1.2.1⟩ k1.2.2
    · cases h

theorem regD_sound (hY : DXOk Y X) (hE : EnvOk X E) {all : List Oper} {K : DSt → Option ρ} : ∀ (rest : List Oper) (st : DSt), WF st → regD Y n Z E all rest st K = some r → RegP X n Z all rest st.toSt (fun s => ∃ st', s = st'.toSt ∧ WF st' ∧ K st' = some r)
  | [], st, hw, h => ⟨st, rfl, hw, h⟩
  | o :: rest, st, hw, h => by
    obtain ⟨st', h1, h2, h3⟩ := gopD_sound hY hE hw (show gopD Y n Z E all st o _ = some r from h)
    exact ⟨st'.toSt, h1, regD_sound hY hE rest st' h2 h3⟩

/-! hiding -/
theorem atkD_spec (ds : List Nat) (a : DA) : atOk ds a.toA = !atkD ds a := by
  have hm : ∀ r, ds.contains r = memN ds r := fun r => by
    cases h : memN ds r with
    | true => rw [List.contains_iff_mem]; exact memN_spec.1 h
    | false =>
      rw [Bool.eq_false_iff]
      intro e
      rw [List.contains_iff_mem] at e
      rw [memN_spec.2 e] at h; cases h
  induction a with
  | opt d w b a ih => simp only [DA.toA, atOk, A.at, atkD] at ih ⊢; exact ih
  | t x => rfl
  | ref r p off len v => simp only [DA.toA, atOk, A.at, atkD, hm]
  | eptr r p i j => simp only [DA.toA, atOk, A.at, atkD, hm]
  | pref r p off => simp only [DA.toA, atOk, A.at, atkD, hm]
  | sptr t x => rfl
  | sarr t l => rfl
theorem hideDS_toSt (ds : List Nat) : ∀ st : DSt, (hideDS ds st).toSt = st.toSt.hide ds
  | [] => rfl
  | (k, a) :: r => by
    simp only [hideDS, DSt.toSt, St.hide, hideDS_toSt ds r]
    congr 1
    have hm : ds.contains k = memN ds k := by
      cases h : memN ds k with
      | true => rw [List.contains_iff_mem]; exact memN_spec.1 h
      | false =>
        rw [Bool.eq_false_iff]
        intro e
        rw [List.contains_iff_mem] at e
        rw [memN_spec.2 e] at h; cases h
    rw [atkD_spec, hm]
    cases memN ds k <;> cases atkD ds a <;> simp [DA.toA, DT.toT]
theorem find_hideDS (ds : List Nat) : ∀ (st : DSt) (k : Nat), (hideDS ds st).find k = (st.find k).map fun a => bif memN ds k || atkD ds a then .t .u else a
  | [], _ => rfl
  | (i, a) :: r, k => by
    simp only [hideDS, DSt.find, find_hideDS ds r k]
    by_cases h : k = i
    · subst h; simp
    · rw [beq_ne h]; rfl
theorem WF.hide (hw : WF st) (ds : List Nat) : WF (hideDS ds st) := by
  intro k x hx
  rw [find_hideDS] at hx
  cases hq : st.find k with
  | none => rw [hq] at hx; cases hx
  | some a =>
    rw [hq] at hx
    simp only [Option.map_some, Option.some.injEq] at hx
    cases hb : memN ds k || atkD ds a with
    | true => rw [hb] at hx; simp only [cond_true] at hx; subst hx; trivial
    | false =>
      rw [hb] at hx; simp only [cond_false] at hx; subst hx
      simp only [Bool.or_eq_false_iff] at hb
      have hwf := hw k a hq
      have hview : ∀ y, viewOk st y → atkD ds y = false → viewOk (hideDS ds st) y := by
        intro y hy hat
        cases y with
        | ref r' p off len v =>
          rcases hy with hy | ⟨e, t, l, q1, q2⟩
          · exact .inl hy
          · refine .inr ⟨e, t, l, ?_, q2⟩
            simp only [atkD] at hat
            cases p with
            | none =>
              simp only [rootD, find_hideDS] at q1 ⊢
              split at q1
              · rename_i x hx; rw [hx]; simp only [Option.map_some, hat, atkD, Bool.or_false, cond_false]; exact q1
              · cases q1
            | some j =>
              simp only [rootD, find_hideDS] at q1 ⊢
              split at q1
              · rename_i e2 cs hx; rw [hx]; simp only [Option.map_some, hat, atkD, Bool.or_false, cond_false]; exact q1
              · cases q1
        | _ => trivial
      cases a with
      | opt d w b a' =>
        refine ⟨fun b' hb' => hwf.1 b' ?_, hwf.2.1, hview a' hwf.2.2 hb.2⟩
        unfold gB at hb' ⊢
        rw [find_hideDS] at hb'
        cases hq2 : st.find d with
        | none => rw [hq2] at hb'; cases hb'
        | some a2 =>
          rw [hq2] at hb'
          simp only [Option.map_some] at hb'
          cases hb2 : memN ds d || atkD ds a2 with
          | true => rw [hb2] at hb'; cases hb'
          | false => rw [hb2] at hb'; exact hb'
      | ref r' p off len v => exact hview _ (show viewOk st (.ref r' p off len v) from hwf) hb.2
      | _ => trivial
theorem rootD_hide {ds : List Nat} {r' : Nat} {p : Option Nat} {e : TypeId} {t : Ty} {l : List t.I} (h : rootD (hideDS ds st) r' p = some (.own e t l)) : rootD st r' p = some (.own e t l) := by
  cases p with
  | none =>
    simp only [rootD, find_hideDS] at h ⊢
    cases hq : st.find r' with
    | none => rw [hq] at h; cases h
    | some a =>
      rw [hq] at h
      simp only [Option.map_some] at h
      cases hb : memN ds r' || atkD ds a with
      | true => rw [hb] at h; cases h
      | false => rw [hb] at h; exact h
  | some j =>
    simp only [rootD, find_hideDS] at h ⊢
    cases hq : st.find r' with
    | none => rw [hq] at h; cases h
    | some a =>
      rw [hq] at h
      simp only [Option.map_some] at h
      cases hb : memN ds r' || atkD ds a with
      | true => rw [hb] at h; cases h
      | false => rw [hb] at h; exact h
theorem slotWF_hide {ds : List Nat} (hw : WF st) {a : DA} (h : slotWF (hideDS ds st) a) (hg : ∀ d w b a', a = .opt d w b a' → gB (hideDS ds st) d w = some b) : slotWF st a := by
  have hview : ∀ y, viewOk (hideDS ds st) y → viewOk st y := fun y hy => viewOk_mono hy rootD_hide
  cases a with
  | opt d w b a' =>
    refine ⟨fun b' hb' => ?_, h.2.1, hview _ h.2.2⟩
    have h2 := hg d w b a' rfl
    unfold gB at h2 hb'
    rw [find_hideDS] at h2
    cases hq : st.find d with
    | none => rw [hq] at h2; cases h2
    | some a2 =>
      rw [hq] at h2 hb'
      simp only [Option.map_some] at h2
      cases hb2 : memN ds d || atkD ds a2 with
      | true => rw [hb2] at h2; cases h2
      | false => rw [hb2] at h2; simp only [cond_false] at h2; rw [h2] at hb'; cases hb'; rfl
  | ref r' p off len v => exact hview _ (show viewOk (hideDS ds st) (.ref r' p off len v) from h)
  | _ => trivial
theorem drawD_sound (hY : DXOk Y X) (hE : EnvOk X E) {all : List Oper} {K : DSt → Option ρ} : ∀ (dss : List (List Nat)) (rest : List Oper) (st : DSt), WF st → drawD Y n Z E all dss rest st K = some r →
    ∃ (sts : Nat → DSt) (bs : Nat → A), sts 0 = st ∧ WF (sts rest.length) ∧ K (sts rest.length) = some r ∧ ∀ k o, rest[k]? = some o → ∃ d, o.dst = some d ∧ dstOk n Z (sts k).toSt d ∧ bs k ≠ .ghost ∧ LG X all (stG n ((sts k).toSt.hide (dss.getD k []))) o (bs k) ∧ (sts (k + 1)).toSt = (sts k).toSt.put d (bs k)
  | dss, [], st, hw, h => ⟨fun _ => st, fun _ => .ghost, rfl, hw, (by cases dss <;> exact h), fun k o hk => by simp at hk⟩
  | [], _ :: _, _, _, h => by cases h
  | ds :: dss, o :: rest, st, hw, h => by
    simp only [drawD] at h
    split at h
    · rename_i d hd
      obtain ⟨a, h1, h2, h3, h4⟩ := g1D_sound (n := n) hY hE (hw.hide ds) h
      obtain ⟨h0, h3⟩ := tst_some h3
      simp only [Bool.and_eq_true, Bool.not_eq_true'] at h0
      obtain ⟨k1, k2, k3⟩ := dstD_spec h0.1
      obtain ⟨sts, bs, q1, q2, q2', q3⟩ := drawD_sound hY hE dss rest _ (hw.put k2 k3 (slotWF_hide hw h2 h4) h0.2) h3
      refine ⟨fun k => match k with | 0 => st | k + 1 => sts k, fun k => match k with | 0 => a.toA | k + 1 => bs k, rfl, q2, q2', fun k o' hk => ?_⟩
      cases k with
      | zero =>
        simp at hk; subst hk
        refine ⟨d, hd, k1, toA_ne_ghost a, ?_, ?_⟩
        · rw [hideDS_toSt] at h1; simpa using h1
        · show (sts 0).toSt = _
          rw [q1, put_toSt]
      | succ k =>
        simp only [List.getElem?_cons_succ] at hk
        obtain ⟨d', e1, e2, e3, e4, e5⟩ := q3 k o' hk
        exact ⟨d', e1, e2, e3, by simpa using e4, e5⟩
    · cases h
theorem RegP_mono {all : List Oper} : ∀ (l : List Oper) (s : St) {K1 K2 : St → Prop}, (∀ s, K1 s → K2 s) → RegP X n Z all l s K1 → RegP X n Z all l s K2
  | [], s, K1, K2, hk, h => hk s h
  | o :: l, s, K1, K2, hk, h => by obtain ⟨s', h1, h2⟩ := h; exact ⟨s', h1, RegP_mono l s' hk h2⟩
theorem region_sound (hY : DXOk Y X) (hE : EnvOk X E) (hm : X.P.follows .mixedOrders = true) (hw : WF st) {id : Nat} {ops : Array Oper} {op : Bool} {K : DSt → Option ρ} (h : regionD Y n Z E ops op st K = some r) {Q : Exit → St → Prop}
    (hQ : ∀ st', WF st' → K st' = some r → Q .normal st'.toSt) : AW X n Z (.region id ops op) st.toSt Q := by
  unfold regionD at h
  split at h
  · have := regD_sound (n := n) (Z := Z) hY hE _ st hw h
    exact AW_regionP (RegP_mono _ _ (fun s hs => by obtain ⟨st', rfl, h1, h2⟩ := hs; exact hQ st' h1 h2) this)
  · obtain ⟨h0, h⟩ := tst_some h
    simp only [Bool.and_eq_true, Option.isNone_iff_eq_none] at h0
    obtain ⟨sts, bs, q1, q2, q3, q4⟩ := drawD_sound (n := n) (Z := Z) hY hE _ _ st hw h
    have hreg := regD_sound (n := n) (Z := Z) hY hE _ _ q2 q3
    have hsplit : ops.toList.take (headLen ops.toList) ++ ops.toList.drop (headLen ops.toList) = ops.toList := List.take_append_drop _ _
    refine AW_drawS (ops.toList.take (headLen ops.toList)) (ops.toList.drop (headLen ops.toList)) _ _ hsplit.symm hm h0.1 ?_ (sts := fun k => (sts k).toSt) (bs := bs) ?_ ?_ ?_
    · rw [find_toSt, h0.2]; rfl
    · simp only [q1]
    · rw [hsplit]
      exact RegP_mono _ _ (fun s hs => by obtain ⟨st', rfl, h1, h2⟩ := hs; exact hQ st' h1 h2) hreg
    · rw [hsplit]; exact q4
end Go.Eng
