/- Parts of results, sharing, forgetting; calls. -/
import Derived.Test.YthgemanfbanhnaaDoorEngL
namespace Go.Eng
open Go.RowKit (Below)
set_option linter.unusedVariables false
set_option linter.unusedSimpArgs false
variable {X : Ctx} {g : Nat → A}

/-! ### forgetting -/
def A.at : A → Option Nat
  | .ref r _ _ _ | .eptr r _ _ _ | .pref r _ _ => some r
  | .opt _ a => a.at
  | _ => none

/-- g' knows less than g. -/
def Less (g' g : Nat → A) : Prop := ∀ i, (g' i = g i ∧ ∀ r, (g i).at = some r → g' r = g r) ∨ (g' i = .t .u ∧ g i ≠ .ghost)

theorem Inv.less {n : Nat} {Z : List Nat} {D : Nat → Prop} {gc : Cnt} {v0 : Nat → Value} {w0 w : World} {g' : Nat → A} {tmps : Array Value} (h : Inv X n Z D gc v0 w0 g tmps w) (hl : Less g' g) : Inv X n Z D gc v0 w0 g' tmps w := by
  obtain ⟨c, hf, hb⟩ := h.frm
  have : ∃ P : Nat → Bool, ∀ i, (P i = true → g' i = g i ∧ ∀ r, (g i).at = some r → g' r = g r) ∧ (P i = false → g' i = .t .u ∧ g i ≠ .ghost) := by
    refine ⟨fun i => @decide (g' i = g i ∧ ∀ r, (g i).at = some r → g' r = g r) (Classical.propDecidable _), fun i => ⟨fun e => ?_, fun e => ?_⟩⟩
    · simpa using e
    · rcases hl i with h | h
      · simp [h.1] at e; obtain ⟨r, k1, k2⟩ := e; exact absurd (h.2 r k1) k2
      · exact h
  obtain ⟨P, hP⟩ := this
  have hF : ∀ b, (∀ j, c j b = 0) → ∀ j, (if P j = true then c j b else 0) = 0 := fun b hz j => by split; exact hz j; rfl
  have hfrm : Frm X.N w g' tmps (fun i b => if P i = true then c i b else 0) := by
    refine ⟨fun i => ?_, fun i b => ?_, fun i j b hi hj => ?_, fun i b hi => ?_⟩
    · cases hPi : P i with
      | false =>
        rw [((hP i).2 hPi).1]
        exact .u _ _ (fun _ => rfl)
      | true =>
        obtain ⟨e1, e2⟩ := (hP i).1 hPi
        simp only [if_true]
        have hr := hf.rep i
        rw [e1]
        clear e1
        generalize g i = a at hr e2
        induction a with
        | opt q a ih => exact ⟨hr.1, fun hq => ih (hr.2.1 hq) e2, hr.2.2⟩
        | t t => exact TRep.mono (fun b _ hz => ⟨hF b hz, rfl⟩) (Nat.le_refl _) hr (fun _ _ => rfl)
        | ref r q off len => obtain ⟨hc, t0, e, sz, es, x0, k1, k2⟩ := hr; exact ⟨hc, t0, e, sz, es, x0, by rw [e2 r rfl]; exact k1, k2⟩
        | eptr r q i j => obtain ⟨hc, t0, e, sz, es, b, n, cap, k1, k2⟩ := hr; exact ⟨hc, t0, e, sz, es, b, n, cap, by rw [e2 r rfl]; exact k1, k2⟩
        | pref r q off => obtain ⟨hc, t0, e, cs, b, k1, k2⟩ := hr; exact ⟨hc, t0, e, cs, b, by rw [e2 r rfl]; exact k1, k2⟩
        | sptr cs =>
          obtain ⟨hc, a, vals, h1, h2, h3, h4, h5, h6, h7⟩ := hr
          exact ⟨hc, a, vals, h1, h2, hF _ h3, h4, h5, h6.mono (fun b _ hz => ⟨hF b hz, rfl⟩) (Nat.le_refl _) (fun b hb => absurd hb (by simp)), h7⟩
        | ghost => exact hr
    · split; exact hf.one i b; omega
    · split at hi
      · split at hj
        · exact hf.uniq i j b hi hj
        · omega
      · omega
    · split at hi
      · exact hf.low i b hi
      · omega
  refine h.step hf hb hfrm rfl (fun _ _ => rfl) rfl rfl rfl (Nat.le_refl _) (fun _ _ => .inl rfl) (fun i b hi hg => ?_) (fun i hi => ?_)
  rotate_left
  · cases hPi : P i with
    | false => rw [((hP i).2 hPi).1] at hi; cases hi
    | true => exact ⟨by rw [← ((hP i).1 hPi).1]; exact hi, fun b => by simp⟩
  split at hi
  · rename_i hPi
    exact .inl ⟨i, hi, by rw [← ((hP i).1 hPi).1]; exact hg⟩
  · omega

/-! ### sharing -/
theorem View.sl {w : World} {F : Nat → Prop} {e : TypeId} {sz off len : Nat} {es : List T} {x0 x : Value} {c : Cnt} (h : TRep w F (.own e sz es) x0 c) (hv : View sz off len x0 x) (hle : off + len ≤ es.length) :
    TRep w (fun b => F b ∨ 0 < c b) (.sl sz (cut (es.map T.fz) off (off + len))) x (fun _ => 0) := by
  have hfz := h.fz (F' := fun b => F b ∨ 0 < c b) (fun b _ h => .inl h) (fun b h => .inr h)
  have hcl : (cut (es.map T.fz) off (off + len)).length = len := by rw [cut_length _ _ _ (by rw [List.length_map]; exact hle)]; omega
  rcases hv with ⟨rfl, rfl, rfl, rfl⟩ | ⟨b, n, cap, o, rfl, rfl, hoc, ho⟩
  · have : cut (es.map T.fz) 0 (0 + 0) = [] := List.eq_nil_of_length_eq_zero hcl
    rw [this]; exact .slnil _ _ _ _ (fun _ => rfl)
  · by_cases hpos : 0 < len
    · have e1 : o = off * sz := ho (.inl hpos)
      simp only [T.fz, fzAll_eq] at hfz
      have hncap : n = es.length ∧ n ≤ cap := by cases h with | own _ _ _ _ _ _ cur c0 _ hg hn hcap => exact ⟨hn, hcap⟩
      generalize hes : es.map T.fz = es2 at hfz hcl
      have hes2 : es2.length = es.length := by rw [← hes, List.length_map]
      cases hfz with
      | slnil => simp at hes2; omega
      | sl _ _ _ _ _ vals c0 _ hn hcap hF hb hs hv hz hl hone hc0 hc =>
        obtain ⟨d, k1, k2⟩ := row_drop hl hz off (off + len) (by omega) (by omega)
        rw [show off + len - off = len by omega] at k1
        refine .sl sz _ ⟨b, o, none⟩ len (cap - off) _ d _ hcl.symm (by omega) hF hb rfl (fun k y hk => ?_) (fun t ht => hz t (List.mem_of_mem_take (List.mem_of_mem_drop ht))) k1 (fun y hy => hone y (List.mem_of_mem_drop (List.mem_of_mem_take hy))) (fun b => by have := k2 b; rw [hc0] at this; omega) (fun _ => rfl)
        rw [List.getElem?_take] at hk
        split at hk
        · rw [List.getElem?_drop] at hk
          have := hv _ _ hk
          rw [addr_add, Nat.zero_add] at this
          rw [addr_add, e1]; exact this
        · cases hk
    · have h0 : len = 0 := by omega
      subst h0
      have : cut (es.map T.fz) off (off + 0) = [] := List.eq_nil_of_length_eq_zero hcl
      rw [this]; exact .slnil _ _ _ _ (fun _ => rfl)

/-- Slot r's slice is everybody's from now on. -/
def shareA (r : Nat) (sz : Nat) (es : List T) : A → A
  | .ref r' q off len => if r' = r then (if q = none then .t (.sl sz (cut (es.map T.fz) off (off + len))) else .t .u) else .ref r' q off len
  | .eptr r' q i j => if r' = r then .t .u else .eptr r' q i j
  | .pref r' q off => if r' = r then .t .u else .pref r' q off
  | .opt c a => .opt c (shareA r sz es a)
  | a => a
theorem shareA_ghost {r sz : Nat} {es : List T} {a : A} (h : shareA r sz es a = .ghost) : a = .ghost := by
  cases a with
  | ghost => rfl
  | t | sptr | opt => cases h
  | ref => unfold shareA at h; split at h; (split at h <;> cases h); cases h
  | eptr | pref => unfold shareA at h; split at h <;> cases h
def shared (g : Nat → A) (r : Nat) (sz : Nat) (es : List T) : Nat → A := upd (fun i => shareA r sz es (g i)) r (.t (.sl sz (es.map T.fz)))

theorem Inv.share {n : Nat} {Z : List Nat} {D : Nat → Prop} {gc : Cnt} {v0 : Nat → Value} {w0 w : World} {tmps : Array Value} {r sz : Nat} {e : TypeId} {es : List T} (h : Inv X n Z D gc v0 w0 g tmps w) (hg : g r = .t (.own e sz es)) : Inv X n Z D gc v0 w0 (shared g r sz es) tmps w := by
  obtain ⟨c, hf, hb⟩ := h.frm
  have hrr := hf.rep r
  rw [hg] at hrr
  have hcv : ∀ i b, upd c r (fun _ => 0) i b = if i = r then 0 else c i b := by intro i b; unfold upd; split <;> rfl
  have hF : ∀ b, (∀ j, c j b = 0) ∨ 0 < c r b → ∀ j, upd c r (fun _ => 0) j b = 0 := fun b hz j => by
    rw [hcv]; split
    · rfl
    · rename_i hj
      rcases hz with hz | hz
      · exact hz j
      · rcases Nat.eq_zero_or_pos (c j b) with e | e
        · exact e
        · exact absurd (hf.uniq j r b e hz) hj
  have hfrm : Frm X.N w (shared g r sz es) tmps (upd c r (fun _ => 0)) := by
    refine ⟨fun i => ?_, fun i b => ?_, fun i j b hi hj => ?_, fun i b hi => ?_⟩
    · by_cases hir : i = r
      · subst hir
        rw [upd_same]
        have e1 : shared g i sz es i = .t (.sl sz (es.map T.fz)) := upd_same _ _ _
        rw [e1]
        have := TRep.fz hrr (F' := fun b => ∀ j, upd c i (fun _ => 0) j b = 0) (fun b _ hz => hF b (.inl hz)) (fun b hb => hF b (.inr hb))
        simp only [T.fz, fzAll_eq] at this
        exact this
      · rw [upd_ne _ _ hir]
        have e1 : shared g r sz es i = shareA r sz es (g i) := by unfold shared; rw [upd_ne _ _ hir]
        rw [e1]
        have hi := hf.rep i
        have root_ne : ∀ r' t, r' ≠ r → g r' = .t t → shared g r sz es r' = .t t := fun r' t hne hgr => by unfold shared; rw [upd_ne _ _ hne, hgr]; rfl
        generalize g i = a at hi
        clear e1
        induction a with
        | opt q a ih => exact ⟨hi.1, fun hq => ih (hi.2.1 hq), hi.2.2⟩
        | t t => exact TRep.mono (fun b _ hz => ⟨hF b (.inl hz), rfl⟩) (Nat.le_refl _) hi (fun _ _ => rfl)
        | ref r' q off len =>
          simp only [shareA]
          obtain ⟨hc, t0, e', sz', es', x0, k1, k2, k3, k4⟩ := hi
          split
          · rename_i hrr'
            subst hrr'
            split
            · rename_i hq
              subst hq
              rw [hg] at k1; cases k1
              obtain ⟨q1, q2⟩ := k2
              cases q1; subst q2
              exact ((View.sl hrr k4 k3).mono (fun b _ hz => ⟨hF b hz, rfl⟩) (Nat.le_refl _) (fun b hb => absurd hb (by simp))).count hc
            · exact .u _ _ hc
          · rename_i hne
            exact ⟨hc, t0, e', sz', es', x0, root_ne r' t0 hne k1, k2, k3, k4⟩
        | eptr r' q i' j' =>
          simp only [shareA]
          obtain ⟨hc, t0, e', sz', es', b, n', cap, k1, k2⟩ := hi
          split
          · exact .u _ _ hc
          · rename_i hne; exact ⟨hc, t0, e', sz', es', b, n', cap, root_ne r' t0 hne k1, k2⟩
        | pref r' q off =>
          simp only [shareA]
          obtain ⟨hc, t0, e', cs, b, k1, k2⟩ := hi
          split
          · exact .u _ _ hc
          · rename_i hne; exact ⟨hc, t0, e', cs, b, root_ne r' t0 hne k1, k2⟩
        | sptr cs =>
          obtain ⟨hc, a, vals, h1, h2, h3, h4, h5, h6, h7⟩ := hi
          exact ⟨hc, a, vals, h1, h2, hF _ (.inl h3), h4, h5, h6.mono (fun b _ hz => ⟨hF b (.inl hz), rfl⟩) (Nat.le_refl _) (fun b hb => absurd hb (by simp)), h7⟩
        | ghost => exact hi
    · rw [hcv]; split; omega; exact hf.one i b
    · rw [hcv] at hi hj
      split at hi
      · omega
      · split at hj
        · omega
        · exact hf.uniq i j b hi hj
    · rw [hcv] at hi
      split at hi
      · omega
      · exact hf.low i b hi
  refine h.step hf hb hfrm rfl (fun _ _ => rfl) rfl rfl rfl (Nat.le_refl _) (fun _ _ => .inl rfl) (fun i b hi hgi => ?_) (fun i hi => ?_)
  rotate_left
  · by_cases hir : i = r
    · subst hir
      have e1 : shared g i sz es i = .t (.sl sz (es.map T.fz)) := upd_same _ _ _
      rw [e1] at hi; cases hi
    · refine ⟨?_, fun b => by rw [hcv, if_neg hir]⟩
      unfold shared at hi
      rw [upd_ne _ _ hir] at hi
      exact shareA_ghost hi
  rw [hcv] at hi
  split at hi
  · omega
  · rename_i hne
    refine .inl ⟨i, hi, fun e => hgi ?_⟩
    unfold shared; rw [upd_ne _ _ hne, e]; rfl

theorem set_self {α : Type} (l : List α) (i : Nat) (x : α) (h : l[i]? = some x) : l.set i x = l := by
  obtain ⟨hlt, rfl⟩ := List.getElem?_eq_some_iff.1 h
  exact List.set_getElem_self hlt

/-! ### an owner out of a result -/
theorem step_extract {n : Nat} {Z : List Nat} {o : Oper} {r d i : Nat} {cs : List T} {t : T} (ho : o.op = .extract (.tmp r) i) (hdst : o.dst = some d) (hd : d < n ∧ d ∉ Z) (hdr : d ≠ r) (hno : (g d).owner = false) (hg : g r = .t (.tup cs)) (ht : cs[i]? = some t) :
    Step X n Z g o (upd (upd g r (.t (.tup (cs.set i .u)))) d (.t t)) := by
  intro D gc v0 w0 tmps ds w hI next Q hnext
  obtain ⟨c, hf, hb⟩ := hI.frm
  have hr := hf.rep r
  rw [hg] at hr
  have hsz : d < tmps.size := by rw [hI.size]; exact hd.1
  cases hxv : tmps.getD r undef with
  | tuple vs =>
    rw [hxv] at hr
    generalize hcr : c r = cr at hr
    cases hr with
    | tup _ _ _ hl =>
      obtain ⟨x, d1, hx, k1, k2, hset⟩ := hl.set i t ht
      rw [Array.getElem?_toList] at hx
      refine wp_of_run (v := x) (w' := w) ?_ ?_
      · unfold execOp; simp only [ho]
        refine run_val ?_
        show (Instr.extract (tmps.getD r undef) i).run X.P w = _
        rw [hxv]
        simp [Instr.extract, hx]
      · rw [hdst]
        have hrd : r ≠ d := fun e => hdr e.symm
        have hcv : ∀ j b, upd (upd c r (fun b => cr b - d1 b)) d d1 j b = if j = d then d1 b else if j = r then cr b - d1 b else c j b := by
          intro j b; unfold upd; split
          · rfl
          · split <;> rfl
        have hF : ∀ b, (∀ j, c j b = 0) → ∀ j, upd (upd c r (fun b => cr b - d1 b)) d d1 j b = 0 := fun b hz j => by
          rw [hcv]
          have := hz r; rw [hcr] at this; have := k2 b
          split
          · omega
          · split
            · omega
            · exact hz j
        have hroot : ∀ r' t', g r' = .t t' → A.owner (.t t') = true → upd (upd g r (.t (.tup (cs.set i .u)))) d (.t t) r' = .t t' ∧ (tmps.setIfInBounds d x).getD r' undef = tmps.getD r' undef := by
          intro r' t' hgr ho'
          have h1 : r' ≠ d := by rintro rfl; rw [hgr] at hno; rw [ho'] at hno; cases hno
          have h2 : r' ≠ r := by rintro rfl; rw [hg] at hgr; cases hgr; cases ho'
          exact ⟨by rw [upd_ne _ _ h1, upd_ne _ _ h2]; exact hgr, by rw [getD_set _ _ _ _ hsz, if_neg h1]⟩
        have hfrm : Frm X.N w (upd (upd g r (.t (.tup (cs.set i .u)))) d (.t t)) (tmps.setIfInBounds d x) (upd (upd c r (fun b => cr b - d1 b)) d d1) := by
          refine ⟨fun j => ?_, fun j b => ?_, fun j k b hj hk => ?_, fun j b hj => ?_⟩
          · by_cases hjd : j = d
            · subst hjd
              rw [upd_same, upd_same, getD_set _ _ _ _ hsz, if_pos rfl]
              exact TRep.mono (fun b _ hz => ⟨hF b hz, rfl⟩) (Nat.le_refl _) k1 (fun _ _ => rfl)
            · by_cases hjr : j = r
              · subst hjr
                rw [upd_ne _ _ hjd, upd_same, upd_ne _ _ hjd, upd_same, getD_set _ _ _ _ hsz, if_neg hjd, hxv]
                have := hset .u x (fun _ => 0) (fun b => cr b - d1 b) (.u _ _ (fun _ => rfl)) (fun b => by have := k2 b; omega)
                rw [set_self vs.toList i x (by rw [Array.getElem?_toList]; exact hx)] at this
                exact .tup _ _ _ (this.mono (fun b _ hz => ⟨hF b hz, rfl⟩) (Nat.le_refl _) (fun _ _ => rfl))
              · rw [upd_ne _ _ hjd, upd_ne _ _ hjr, upd_ne _ _ hjd, upd_ne _ _ hjr, getD_set _ _ _ _ hsz, if_neg hjd]
                refine ARep.mono (hf.rep j) (fun b _ hz => ⟨hF b hz, rfl⟩) (Nat.le_refl _) (fun _ _ => rfl) (fun r' t' hgr ho' => ?_)
                obtain ⟨q1, q2⟩ := hroot r' t' hgr ho'
                have := hf.rep r'
                rw [hgr] at this
                exact ⟨q1, q2, _, _, this, fun _ _ => rfl⟩
          · rw [hcv]; have := hf.one r b; rw [hcr] at this; have := hf.one j b; have := k2 b
            split
            · omega
            · split <;> omega
          · rw [hcv] at hj hk
            have := hf.one r b; rw [hcr] at this; have h2 := k2 b
            have hu : ∀ j, j ≠ r → 0 < cr b → c j b = 0 := fun j hj hp => by
              rcases Nat.eq_zero_or_pos (c j b) with e | e
              · exact e
              · exact absurd (hf.uniq j r b e (by rw [hcr]; exact hp)) hj
            by_cases j1 : j = d <;> by_cases k1' : k = d
            · rw [j1, k1']
            · rw [if_pos j1] at hj; rw [if_neg k1'] at hk
              by_cases k2' : k = r
              · rw [if_pos k2'] at hk; omega
              · rw [if_neg k2', hu k k2' (by omega)] at hk; omega
            · rw [if_pos k1'] at hk; rw [if_neg j1] at hj
              by_cases j2 : j = r
              · rw [if_pos j2] at hj; omega
              · rw [if_neg j2, hu j j2 (by omega)] at hj; omega
            · rw [if_neg j1] at hj; rw [if_neg k1'] at hk
              by_cases j2 : j = r <;> by_cases k2' : k = r
              · rw [j2, k2']
              · rw [if_pos j2] at hj; rw [if_neg k2', hu k k2' (by omega)] at hk; omega
              · rw [if_pos k2'] at hk; rw [if_neg j2, hu j j2 (by omega)] at hj; omega
              · rw [if_neg j2] at hj; rw [if_neg k2'] at hk; exact hf.uniq j k b hj hk
          · rw [hcv] at hj
            have h2 := k2 b
            split at hj
            · exact hf.low r b (by rw [hcr]; omega)
            · split at hj
              · exact hf.low r b (by rw [hcr]; omega)
              · exact hf.low j b hj
        have hrg : g r ≠ .ghost := by rw [hg]; exact fun h => by cases h
        refine hnext _ _ (hI.step hf hb hfrm (by simp) (fun j hj => by rw [getD_set _ _ _ _ hsz, if_neg (by rintro rfl; exact hd.2 hj)]) rfl rfl rfl (Nat.le_refl _) (fun _ _ => .inl rfl) (fun j b hj hgj => ?_) (fun j hj => ?_))
        rotate_left
        · by_cases hjd : j = d
          · subst hjd; rw [upd_same] at hj; cases hj
          · by_cases hjr : j = r
            · subst hjr; rw [upd_ne _ _ hjd, upd_same] at hj; cases hj
            · rw [upd_ne _ _ hjd, upd_ne _ _ hjr] at hj
              exact ⟨hj, fun b => by rw [hcv, if_neg hjd, if_neg hjr]⟩
        rw [hcv] at hj
        have h2 := k2 b
        split at hj
        · exact .inl ⟨r, by rw [hcr]; omega, hrg⟩
        · split at hj
          · exact .inl ⟨r, by rw [hcr]; omega, hrg⟩
          · rename_i n1 n2
            refine .inl ⟨j, hj, fun e => hgj ?_⟩
            rw [upd_ne _ _ n1, upd_ne _ _ n2]; exact e
  | _ => rw [hxv] at hr; cases hr

end Go.Eng
