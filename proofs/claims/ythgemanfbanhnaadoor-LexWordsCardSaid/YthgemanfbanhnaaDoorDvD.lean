/- One operation that writes one slot, in typed trees: that it is so (third part). -/
import Derived.Test.YthgemanfbanhnaaDoorDvC
namespace Go.Eng
open Go.RowKit (Below)
set_option linter.unusedVariables false
set_option linter.unusedSimpArgs false
variable {X : Ctx} {Y : DX} {n : Nat} {st : DSt} {E : Env} {γ : Gam} {ρ : Type} {o : Oper} {K : DA → Option ρ} {r : ρ} {g : Nat → A}

theorem index_sound (hY : DXOk Y X) (hw : WF st) (hγ : gOk st γ) {ty : TypeId} {x i : Operand} {s : List UInt8} {k : IntKind} {a : Int} (ho : o.op = .index ty x i) (hx : rdD Y γ st x = some (.t (.s .str s))) (hi : rdI Y γ st i = some (k, a))
    (h0 : isTy Y ty .str = true) (h : Gd γ (0 ≤ a ∧ a < (s.length : Int)) (K (.t (.s .u8 (s.getD a.toNat 0)))) = some r) : Shows X n st γ o K r := by
  obtain ⟨x1, x2⟩ := rdT_spec (n := n) hY hw hγ hx
  obtain ⟨i1, i2, _⟩ := rdI_spec (n := n) hY hw hγ hi
  obtain ⟨h1, h2⟩ := Gd_some h
  refine ⟨.t (.s .u8 (s.getD a.toNat 0)), fun hc => ?_, rfl, trivial, h2⟩
  have := good_index_str ho (x2 hc) (i2 hc) x1 i1 (isTy_spec hY h0 (by simp [undOf])) (h1 hc).1 (by rw [bl_mkS]; exact (h1 hc).2)
  rw [bl_mkS] at this
  exact this

theorem slice_str_sound (hY : DXOk Y X) (hw : WF st) (hγ : gOk st γ) {ty : TypeId} {x : Operand} {lo hi : Option Operand} {s : List UInt8} {nlo nhi : Option Int} (ho : o.op = .slice ty x lo hi none) (hx : rdD Y γ st x = some (.t (.s .str s))) (hl : bndD Y γ st lo = some nlo) (hh : bndD Y γ st hi = some nhi)
    (h0 : isTy Y ty .str = true) (h : subG γ s.length nlo nhi (K (.t (.s .str (subL s nlo nhi)))) = some r) : Shows X n st γ o K r := by
  obtain ⟨x1, x2⟩ := rdT_spec (n := n) hY hw hγ hx
  obtain ⟨l1, l2⟩ := bndD_spec (n := n) (X := X) hY hw hγ hl
  obtain ⟨k1, k2⟩ := bndD_spec (n := n) (X := X) hY hw hγ hh
  obtain ⟨h1, h2⟩ := subG_some h
  refine ⟨.t (.s .str (subL s nlo nhi)), fun hc => ?_, rfl, trivial, h2⟩
  have := good_slice_str ho (x2 hc) x1 (l1 hc) (k1 hc) l2 k2 (isTy_spec hY h0 (by simp [undOf])) (by rw [bl_mkS]; exact h1 hc)
  rw [bl_mkS, subL_spec] at this
  exact this
theorem slice_sl_sound (hY : DXOk Y X) (hw : WF st) (hγ : gOk st γ) {ty e : TypeId} {t : Ty} {b sz : Nat} {x : Operand} {lo hi : Option Operand} {l : List t.I} {nlo nhi : Option Int} (ho : o.op = .slice ty x lo hi none) (hx : rdD Y γ st x = some (.t (.s (.sl sz t) l))) (hl : bndD Y γ st lo = some nlo) (hh : bndD Y γ st hi = some nhi)
    (hs : sliT Y ty = some (e, t, b)) (hsz : sz = t.sz) (h : subG γ l.length nlo nhi (K (.t (.s (.sl sz t) (subL l nlo nhi)))) = some r) : Shows X n st γ o K r := by
  obtain ⟨x1, x2⟩ := rdT_spec (n := n) hY hw hγ hx
  obtain ⟨l1, l2⟩ := bndD_spec (n := n) (X := X) hY hw hγ hl
  obtain ⟨k1, k2⟩ := bndD_spec (n := n) (X := X) hY hw hγ hh
  obtain ⟨h1, h2⟩ := subG_some h
  refine ⟨.t (.s (.sl sz t) (subL l nlo nhi)), fun hc => ?_, rfl, trivial, h2⟩
  have := good_slice_sl (es := l.map t.enc) ho (x2 hc) x1 (l1 hc) (k1 hc) l2 k2 (sliT_spec hY hs).1 hsz.symm (by rw [List.length_map]; exact h1 hc)
  rw [List.length_map, map_cut, subL_spec] at this
  exact this
theorem slice_ref_sound (hY : DXOk Y X) (hw : WF st) (hγ : gOk st γ) {ty e e' : TypeId} {t : Ty} {b r' off len : Nat} {p : Option Nat} {v : Vw} {x : Operand} {lo hi : Option Operand} {l : List t.I} {nlo nhi : Option Int} (ho : o.op = .slice ty x lo hi none) (hx : rdD Y γ st x = some (.ref r' p off len v)) (hl : bndD Y γ st lo = some nlo) (hh : bndD Y γ st hi = some nhi)
    (hs : sliT Y ty = some (e, t, b)) (hr : rootD st r' p = some (.own e' t l)) (h : subG γ len nlo nhi (K (subV γ r' p off len v nlo nhi)) = some r) : Shows X n st γ o K r := by
  obtain ⟨x1, x2, _, x4⟩ := rdD_spec (n := n) hY hw hγ hx
  obtain ⟨l1, l2⟩ := bndD_spec (n := n) (X := X) hY hw hγ hl
  obtain ⟨k1, k2⟩ := bndD_spec (n := n) (X := X) hY hw hγ hh
  obtain ⟨h1, h2⟩ := subG_some h
  have hvw := viewOk_vw x4 hr
  refine ⟨subV γ r' p off len v nlo nhi, fun hc => ?_, ?_, ?_, h2⟩
  · have := good_slice_ref ho (x2 hc) x1 (rootD_spec hr) (l1 hc) (k1 hc) l2 k2 (sliT_spec hY hs).1 (h1 hc)
    have e : (subV γ r' p off len v nlo nhi).toA = .ref r' p (off + (nlo.getD 0).toNat) ((nhi.getD (len : Int)).toNat - (nlo.getD 0).toNat) := by
      cases nlo <;> cases nhi <;> cases v <;> cases γ <;> simp [subV, DA.toA, vwOk] at hvw ⊢
      all_goals (try omega)
    rw [e]; exact this
  · cases nlo <;> cases nhi <;> cases v <;> cases γ <;> rfl
  · have hk : ∀ {off' len' : Nat} {v' : Vw}, vwOk off' len' l.length v' → viewOk st (.ref r' p off' len' v') := fun h => .inr ⟨e', t, l, hr, h⟩
    have h1' := h1
    unfold sliceOk at h1'
    cases nlo with
    | none =>
      cases nhi with
      | none => exact x4
      | some b =>
        cases v with
        | all =>
          cases γ with
          | none =>
            obtain ⟨rfl, rfl⟩ := hvw
            have := h1' trivial
            simp at this
            exact hk ⟨rfl, by omega⟩
          | some => exact .inl rfl
        | _ => exact .inl rfl
    | some a =>
      cases nhi with
      | none =>
        cases v with
        | all =>
          cases γ with
          | none =>
            obtain ⟨rfl, rfl⟩ := hvw
            have := h1' trivial
            simp at this
            exact hk ⟨by omega, rfl⟩
          | some => exact .inl rfl
        | _ => exact .inl rfl
      | some b => cases v <;> exact .inl rfl

theorem getD_map {t : Ty} (l : List t.I) (i : Nat) (h : i < l.length) : (l.map t.enc).getD i .u = t.enc (l.getD i t.dflt) := by
  simp only [List.getD_eq_getElem?_getD, List.getElem?_map, List.getElem?_eq_getElem h, Option.map_some, Option.getD_some]
theorem idx_sl_sound (hY : DXOk Y X) (hw : WF st) (hγ : gOk st γ) {ty e : TypeId} {t : Ty} {b sz : Nat} {x i : Operand} {l : List t.I} {k : IntKind} {a : Int} (ho : o.op = .indexAddr ty x i) (hx : rdD Y γ st x = some (.t (.s (.sl sz t) l))) (hi : rdI Y γ st i = some (k, a))
    (hs : sliT Y ty = some (e, t, b)) (hsz : sz = t.sz) (h : Gd γ (0 ≤ a ∧ a < (l.length : Int)) (K (.sptr t (l.getD a.toNat t.dflt))) = some r) : Shows X n st γ o K r := by
  subst hsz
  obtain ⟨x1, x2⟩ := rdT_spec (n := n) hY hw hγ hx
  obtain ⟨i1, i2, _⟩ := rdI_spec (n := n) hY hw hγ hi
  obtain ⟨h1, h2⟩ := Gd_some h
  refine ⟨.sptr t (l.getD a.toNat t.dflt), fun hc => ?_, rfl, trivial, h2⟩
  have hlt := h1 hc
  have := good_indexAddr_sl (es := l.map t.enc) ho (x2 hc) (i2 hc) x1 i1 (sliT_spec hY hs).1 hlt.1 (by rw [List.length_map]; exact hlt.2)
  rw [getD_map l a.toNat (by omega), enc_cells] at this
  exact this
theorem idx_ref_sound (hY : DXOk Y X) (hw : WF st) (hγ : gOk st γ) {ty e e' : TypeId} {t : Ty} {b r' off len : Nat} {p : Option Nat} {v : Vw} {x i : Operand} {l : List t.I} {k : IntKind} {a : Int} (ho : o.op = .indexAddr ty x i) (hx : rdD Y γ st x = some (.ref r' p off len v)) (hi : rdI Y γ st i = some (k, a))
    (hs : sliT Y ty = some (e, t, b)) (hr : rootD st r' p = some (.own e' t l)) (h : Gd γ (0 ≤ a ∧ a < (len : Int)) (K (.eptr r' p (eix v off a.toNat) 0)) = some r) : Shows X n st γ o K r := by
  obtain ⟨x1, x2, _, x4⟩ := rdD_spec (n := n) hY hw hγ hx
  obtain ⟨i1, i2, _⟩ := rdI_spec (n := n) hY hw hγ hi
  obtain ⟨h1, h2⟩ := Gd_some h
  refine ⟨.eptr _ _ _ _, fun hc => ?_, rfl, trivial, h2⟩
  obtain ⟨s1, _, s3, _⟩ := sliT_spec hY hs
  have := good_indexAddr_ref (es0 := l.map t.enc) ho (x2 hc) (i2 hc) x1 i1 (rootD_spec hr) s1 s3 (h1 hc).1 (h1 hc).2
  have hvw := viewOk_vw x4 hr
  cases v with
  | all => obtain ⟨rfl, _⟩ := hvw; rw [Nat.zero_add] at this; exact this
  | _ => exact this

/-! places of fields -/
theorem finfo_get : ∀ (fs : List Ty) (k f : Nat) (t : Ty), fs[f]? = some t → (finfo k fs)[f]? = some (some (k + offs fs f, t.row, t.sz))
  | [], _, _, _, h => by simp at h
  | u :: fs, k, 0, t, h => by simp at h; subst h; simp [finfo, offs]
  | u :: fs, k, f + 1, t, h => by
    simp only [List.getElem?_cons_succ] at h
    simp only [finfo, List.getElem?_cons_succ, offs]
    rw [finfo_get fs (k + u.sz) f t h, Nat.add_assoc]
theorem places_get : ∀ (fs : List Ty) (k f : Nat) (t : Ty), fs[f]? = some t → (places k fs)[f]? = some (k + offs fs f, t.sz)
  | [], _, _, _, h => by simp at h
  | u :: fs, k, 0, t, h => by simp at h; subst h; simp [places, offs]
  | u :: fs, k, f + 1, t, h => by
    simp only [List.getElem?_cons_succ] at h
    simp only [places, List.getElem?_cons_succ, offs]
    rw [places_get fs (k + u.sz) f t h, Nat.add_assoc]
theorem fld_spec {P : Program} {i : TypeId} {d : TD} (hd : TDOk P i d) {f : Nat} {t : Ty} (h : d.fs[f]? = some t) : fldOf P i f = some (offs d.fs f, t.row, t.sz) ∧ 0 < t.sz := by
  obtain ⟨hlt, ht⟩ := List.getElem?_eq_some_iff.1 h
  have hsz : 0 < t.sz := by
    have := List.all_eq_true.1 hd.fsz t (by rw [← ht]; exact List.getElem_mem hlt)
    simpa using this
  refine ⟨?_, hsz⟩
  rcases hd.fld with e | e
  · rw [e] at h; simp at h
  · have h2 := congrArg (fun l => l[f]?) e
    simp only [List.getElem?_map, List.getElem?_range hlt, Option.map_some, finfo_get d.fs 0 f t h, Option.some.injEq, Nat.zero_add] at h2
    exact h2

theorem Good.sptr_pre {cs cs' : List T} (h : Good X g o (.sptr (cs ++ cs'))) : Good X g o (.sptr cs) := by
  intro tmps ds w c hG hf next Q hn
  refine h tmps ds w c hG hf next Q (fun v w' hw hr => hn v w' hw ?_)
  obtain ⟨cd, ⟨h0, a, vals, q1, q2, q3, q4, q5, q6, q7⟩, h2, h3⟩ := hr
  obtain ⟨c1, c2, k1, k2, k3⟩ := q6.split
  refine ⟨cd, ⟨h0, a, vals.take cs.length, q1, q2, q3, q4, fun k y hk => ?_, k1.count (fun b => by have := k3 b; omega), fun y hy => q7 y (List.mem_of_mem_take hy)⟩, h2, h3⟩
  rw [List.getElem?_take] at hk
  split at hk
  · exact q5 k y hk
  · cases hk
theorem Good.eptr {x : Operand} {a : A} {r' i j : Nat} {p : Option Nat} {e : TypeId} {sz : Nat} {es : List T} (hx : rdp X g x) (ex : rd X g x = .eptr r' p i j) (hr : root g r' p = some (.own e sz es)) (h : i < es.length → Good X g o a) : Good X g o a := by
  intro tmps ds w c hG hf next Q hn
  have hrep := rd_rep (ds := ds) hG hf x hx
  rw [ex] at hrep
  obtain ⟨_, t0, e', sz', es', b, m, cap, h1, h2, h3, _⟩ := hrep
  have := root_of h1 h2
  rw [hr] at this; cases this
  exact h h3 tmps ds w c hG hf next Q hn

theorem fieldAddr_sptr_sound (hY : DXOk Y X) (hw : WF st) (hγ : gOk st γ) {s : TypeId} {x : Operand} {f : Nat} {d : TD} {t ft : Ty} {y : t.I} {y' : (rowOf d.fs).I} {z : ft.I} (ho : o.op = .fieldAddr s x f) (hd : look Y.tab s = some d) (hx : rdD Y γ st x = some (.sptr t y))
    (hc' : castT (b := rowOf d.fs) y = some y') (hp : projD d.fs y' f = some (.s ft z)) (h : K (.sptr ft z) = some r) : Shows X n st γ o K r := by
  obtain ⟨x1, x2, _, x4⟩ := rdD_spec (n := n) hY hw hγ hx
  obtain ⟨t', v, p1, p2, p3, p4⟩ := projD_spec _ _ _ _ hp
  cases p2
  obtain ⟨c1, _, c3⟩ := castT_toT hc'
  obtain ⟨f1, f2⟩ := fld_spec (hY.td hd) p1
  refine ⟨.sptr ft z, fun hc => ?_, rfl, trivial, h⟩
  have := good_fieldAddr ho (x2 hc) f1 f2 (by rw [x1]; trivial)
  rw [x1] at this
  simp only [DA.toA, fieldA] at this ⊢
  rw [← c1] at this
  have e : ((rowOf d.fs).cells y').drop (offs d.fs f) = ft.cells z ++ (((rowOf d.fs).cells y').drop (offs d.fs f)).drop ft.sz := by rw [p3, List.take_append_drop]
  rw [e] at this
  exact this.sptr_pre
theorem fieldAddr_eptr_sound (hY : DXOk Y X) (hw : WF st) (hγ : gOk st γ) {s e : TypeId} {x : Operand} {f r' i j : Nat} {p : Option Nat} {d : TD} {t : Ty} {l : List t.I} (ho : o.op = .fieldAddr s x f) (hd : look Y.tab s = some d) (hx : rdD Y γ st x = some (.eptr r' p i j))
    (hr : rootD st r' p = some (.own e t l)) (h0 : (Nat.blt f d.fs.length && Nat.blt (j + offs d.fs f) t.sz) = true) (h : K (.eptr r' p i (j + offs d.fs f)) = some r) : Shows X n st γ o K r := by
  obtain ⟨x1, x2, _, x4⟩ := rdD_spec (n := n) hY hw hγ hx
  simp only [Bool.and_eq_true, Nat.blt_eq] at h0
  obtain ⟨f1, f2⟩ := fld_spec (hY.td hd) (List.getElem?_eq_getElem h0.1)
  refine ⟨.eptr r' p i (j + offs d.fs f), fun hc => ?_, rfl, trivial, h⟩
  have := good_fieldAddr ho (x2 hc) f1 f2 (by rw [x1]; simp only [DA.toA, fieldOk, rootD_spec hr, DT.toT]; exact h0.2)
  rw [x1] at this
  exact this
theorem fieldAddr_pref_sound (hY : DXOk Y X) (hw : WF st) (hγ : gOk st γ) {s e : TypeId} {x : Operand} {f r' off : Nat} {p : Option Nat} {d : TD} {cs : List DT} (ho : o.op = .fieldAddr s x f) (hd : look Y.tab s = some d) (hx : rdD Y γ st x = some (.pref r' p off))
    (hr : rootD st r' p = some (.box e cs)) (h0 : (Nat.blt f d.fs.length && Nat.ble (off + offs d.fs f) cs.length) = true) (h : K (.pref r' p (off + offs d.fs f)) = some r) : Shows X n st γ o K r := by
  obtain ⟨x1, x2, _, x4⟩ := rdD_spec (n := n) hY hw hγ hx
  simp only [Bool.and_eq_true, Nat.blt_eq, Nat.ble_eq] at h0
  obtain ⟨f1, f2⟩ := fld_spec (hY.td hd) (List.getElem?_eq_getElem h0.1)
  refine ⟨.pref r' p (off + offs d.fs f), fun hc => ?_, rfl, trivial, h⟩
  have := good_fieldAddr ho (x2 hc) f1 f2 (by rw [x1]; simp only [DA.toA, fieldOk, rootD_spec hr, DT.toT, all_eq, List.length_map]; exact h0.2)
  rw [x1] at this
  exact this
theorem field_sound (hY : DXOk Y X) (hw : WF st) (hγ : gOk st γ) {s : TypeId} {x : Operand} {f : Nat} {d : TD} {t : Ty} {y : t.I} {y' : (rowOf d.fs).I} {z : DT} (ho : o.op = .field s x f) (hd : look Y.tab s = some d) (hx : rdD Y γ st x = some (.t (.s t y)))
    (hc' : castT (b := rowOf d.fs) y = some y') (hp : projD d.fs y' f = some z) (h : K (.t z) = some r) : Shows X n st γ o K r := by
  obtain ⟨x1, x2⟩ := rdT_spec (n := n) hY hw hγ hx
  obtain ⟨t', v, p1, p2, p3, p4⟩ := projD_spec _ _ _ _ hp
  subst p2
  obtain ⟨c1, c2, c3⟩ := castT_toT hc'
  obtain ⟨f1, f2⟩ := fld_spec (hY.td hd) p1
  refine ⟨.t (.s t' v), fun hc => ?_, rfl, trivial, h⟩
  have hrow : (DT.s t y).toT = .ag ((rowOf d.fs).cells y') := by
    show t.enc y = _
    rw [← c2, enc_row _ _ (rowOf_row _)]
  rw [hrow] at x1
  have := good_field ho (x2 hc) x1 f1 f2 (by rw [cells_len]; exact p4)
  have e : partA ((rowOf d.fs).cells y') (offs d.fs f) t'.row t'.sz = t'.enc v := by
    unfold partA
    cases hq : t'.row with
    | true => rw [if_pos rfl, enc_row _ _ hq, p3]
    | false =>
      rw [if_neg (by simp)]
      have h1 := (cells_one t' v hq).1
      rw [sz_one t' hq, h1] at p3
      have : (((rowOf d.fs).cells y').drop (offs d.fs f))[0]? = some (t'.enc v) := by
        have := congrArg (fun l => l[0]?) p3
        simp only [List.getElem?_cons_zero, List.getElem?_take] at this
        simpa using this.symm
      rw [List.getElem?_drop, Nat.add_zero] at this
      rw [List.getD_eq_getElem?_getD, this]; rfl
  rw [e] at this
  exact this

/-! loads -/
theorem load_cells {ty : TypeId} {x : Operand} {w : Ty} {y : w.I} {suf : List T} (ho : o.op = .load ty x) (hx : rdp X g x) (ec : cellsAt g (rd X g x) = some (w.cells y ++ suf)) (ht : tyRow X.P ty = some (w.row, w.sz)) : Good X g o (.t (w.enc y)) := by
  cases hq : w.row with
  | true =>
    rw [hq] at ht
    have h1 : (w.cells y ++ suf).take w.sz = w.cells y := by
      rw [List.take_append_of_le_length (by rw [cells_len]; exact Nat.le_refl _), List.take_of_length_le (by rw [cells_len]; exact Nat.le_refl _)]
    have := good_load_row ho hx ec ht (by rw [List.length_append, cells_len]; omega) (by rw [h1]; exact cells_flat w y)
    rw [h1] at this
    rw [enc_row _ _ hq]; exact this
  | false =>
    rw [hq] at ht
    rw [(cells_one w y hq).1] at ec
    exact good_load ho hx ec ht (enc_flat w y)
theorem load_sptr_sound (hY : DXOk Y X) (hw : WF st) (hγ : gOk st γ) {ty : TypeId} {x : Operand} {w t : Ty} {y : t.I} {z : w.I} (ho : o.op = .load ty x) (hT : tyT Y ty = some w) (hf : w.fine = true) (hx : rdD Y γ st x = some (.sptr t y)) (hs : subAt t y 0 w = some z) (h : K (.t (.s w z)) = some r) : Shows X n st γ o K r := by
  obtain ⟨x1, x2, _, _⟩ := rdD_spec (n := n) hY hw hγ hx
  obtain ⟨pre, suf, s1, s2⟩ := subAt_spec _ _ _ _ _ hs
  have : pre = [] := List.length_eq_zero_iff.1 s2
  subst this
  refine ⟨.t (.s w z), fun hc => ?_, rfl, trivial, h⟩
  exact load_cells (suf := suf) ho (x2 hc) (by rw [x1]; simp only [DA.toA, cellsAt, s1, List.nil_append]) (tyT_row hY hT hf)
theorem load_eptr_sound (hY : DXOk Y X) (hw : WF st) (hγ : gOk st γ) {ty e : TypeId} {x : Operand} {w t : Ty} {l : List t.I} {r' i j : Nat} {p : Option Nat} {z : w.I} (ho : o.op = .load ty x) (hT : tyT Y ty = some w) (hf : w.fine = true) (hx : rdD Y γ st x = some (.eptr r' p i j)) (hr : rootD st r' p = some (.own e t l))
    (hs : subAt t (l.getD i t.dflt) j w = some z) (h : K (.t (.s w z)) = some r) : Shows X n st γ o K r := by
  obtain ⟨x1, x2, _, _⟩ := rdD_spec (n := n) hY hw hγ hx
  obtain ⟨pre, suf, s1, s2⟩ := subAt_spec _ _ _ _ _ hs
  refine ⟨.t (.s w z), fun hc => ?_, rfl, trivial, h⟩
  have hr' := rootD_spec (n := n) hr
  refine Good.eptr (x2 hc) x1 hr' (fun hlt => ?_)
  rw [List.length_map] at hlt
  refine load_cells (suf := suf) ho (x2 hc) ?_ (tyT_row hY hT hf)
  rw [x1]
  simp only [DA.toA, cellsAt, hr', DT.toT]
  rw [getD_map l i hlt, enc_cells, s1, List.append_assoc, ← s2, List.drop_left]
end Go.Eng
