/- One operation that writes one slot, in typed trees: that it is so (last part). -/
import Derived.Test.YthgemanfbanhnaaDoorDvD
namespace Go.Eng
open Go.RowKit (Below)
set_option linter.unusedVariables false
set_option linter.unusedSimpArgs false
variable {X : Ctx} {Y : DX} {n : Nat} {st : DSt} {E : Env} {γ : Gam} {ρ : Type} {o : Oper} {K : DA → Option ρ} {r : ρ} {g : Nat → A}

theorem load_pref_sound (hY : DXOk Y X) (hw : WF st) (hγ : gOk st γ) {ty e : TypeId} {x : Operand} {w : Ty} {cs : List DT} {r' off : Nat} {p : Option Nat} {a : DA} (ho : o.op = .load ty x) (hT : tyT Y ty = some w) (hf : w.fine = true) (hx : rdD Y γ st x = some (.pref r' p off)) (hr : rootD st r' p = some (.box e cs))
    (hl : loadBox w r' p off cs = some a) (h : K a = some r) : Shows X n st γ o K r := by
  obtain ⟨x1, x2, x3, x4⟩ := rdD_spec (n := n) hY hw hγ hx
  have hr' := rootD_spec (n := n) hr
  have hcells : cellsAt (stG n st.toSt) (rd X (stG n st.toSt) x) = some ((cs.map DT.toT).drop off) := by
    rw [x1]; simp only [DA.toA, cellsAt, hr', DT.toT, all_eq]
  unfold loadBox at hl
  split at hl
  · rename_i hrow
    split at hl
    · rename_i z hz
      cases hl
      obtain ⟨g1, g2⟩ := gatherD_spec _ _ _ hz
      refine ⟨.t (.s w z), fun hc => ?_, rfl, trivial, h⟩
      have e2 : (cs.map DT.toT).drop off = w.cells z ++ ((cs.map DT.toT).drop off).drop w.sz := by
        rw [← List.map_drop, ← g1, List.take_append_drop]
      exact load_cells ho (x2 hc) (by rw [hcells, ← e2]) (tyT_row hY hT hf)
    · cases hl
  · rename_i hrow
    split at hl
    · rename_i t y
      rename _ = some (DT.s _ _) => hcs
      split at hl
      · rename_i z hz
        cases hl
        obtain ⟨c1, c2, c3⟩ := castT_toT hz
        refine ⟨.t (.s w z), fun hc => ?_, rfl, trivial, h⟩
        have hg : (cs.map DT.toT)[off]? = some (w.enc z) := by rw [List.getElem?_map, hcs, c2]; rfl
        have hlt : off < (cs.map DT.toT).length := (List.getElem?_eq_some_iff.1 hg).1
        have e2 : (cs.map DT.toT).drop off = w.cells z ++ (cs.map DT.toT).drop (off + 1) := by
          rw [List.drop_eq_getElem_cons hlt, (cells_one w z hrow).1]
          rw [List.getElem?_eq_getElem hlt] at hg
          simp only [Option.some.injEq] at hg
          rw [hg]; rfl
        exact load_cells ho (x2 hc) (by rw [hcells, ← e2]) (tyT_row hY hT hf)
      · cases hl
    · rename_i e1 t l hcs
      cases hl
      have hrow' : tyRow X.P ty = some (false, w.sz) := by rw [tyT_row hY hT hf, hrow]
      refine ⟨.ref r' (some off) 0 l.length .all, fun hc => ?_, rfl, .inr ⟨e1, t, l, ?_, rfl, rfl⟩, h⟩
      · have hg : stG n st.toSt r' = .t (.box e (cs.map DT.toT)) := by
          simp only [root] at hr'
          split at hr'
          · rename_i t0 hg; rw [hg]; simp only [Option.some.injEq] at hr'; rw [hr']; simp only [DT.toT, all_eq]
          · cases hr'
        have := good_load_alias ho (x2 hc) x1 hg (c0 := (DT.own e1 t l).toT) (by rw [List.getElem?_map, hcs]; rfl) hrow'
        simp only [DT.toT, partAlias, List.length_map] at this
        exact this
      · simp only [rootD] at hr ⊢
        split at hr
        · rename_i x' hx'; cases hr; rw [hx']; exact hcs
        · cases hr
    · rename_i e1 cs1 hcs
      cases hl
      have hrow' : tyRow X.P ty = some (false, w.sz) := by rw [tyT_row hY hT hf, hrow]
      refine ⟨.pref r' (some off) 0, fun hc => ?_, rfl, trivial, h⟩
      have hg : stG n st.toSt r' = .t (.box e (cs.map DT.toT)) := by
        simp only [root] at hr'
        split at hr'
        · rename_i t0 hg; rw [hg]; simp only [Option.some.injEq] at hr'; rw [hr']; simp only [DT.toT, all_eq]
        · cases hr'
      have := good_load_alias ho (x2 hc) x1 hg (c0 := (DT.box e1 cs1).toT) (by rw [List.getElem?_map, hcs]; rfl) hrow'
      exact this
    · cases hl

/-! literals -/
theorem fine_get : ∀ (fs : List Ty) (i : Nat) (t : Ty), (rowOf fs).fine = true → fs[i]? = some t → t.fine = true
  | [], _, _, _, h => by simp at h
  | u :: fs, 0, t, hf, h => by simp at h; subst h; simp only [rowOf, Ty.fine, Bool.and_eq_true] at hf; exact hf.1
  | u :: fs, i + 1, t, hf, h => by
    simp only [rowOf, Ty.fine, Bool.and_eq_true] at hf
    exact fine_get fs i t hf.2 (by simpa using h)
theorem buildGo_spec (hY : DXOk Y X) (hw : WF st) (hγ : gOk st γ) {fs : List Ty} (hf : (rowOf fs).fine = true) : ∀ (ps : List (Nat × Operand)) (x0 x : (rowOf fs).I), buildGo Y γ st fs ps x0 = some x →
    (cP γ → partsP X (stG n st.toSt) ps) ∧ ∃ ts, partsA X (stG n st.toSt) ps = some ts ∧ ∀ cs0, LLe cs0 ((rowOf fs).cells x0) → ∃ cs, fillT ((places 0 fs)[·]?) cs0 ts = some cs ∧ LLe cs ((rowOf fs).cells x)
  | [], x0, x, h => by cases h; exact ⟨fun _ => trivial, [], rfl, fun cs0 h => ⟨cs0, rfl, h⟩⟩
  | (i, q) :: ps, x0, x, h => by
    simp only [buildGo] at h
    split at h
    · rename_i v hv
      split at h
      · rename_i x' hx'
        obtain ⟨v1, v2⟩ := rdT_spec (n := n) hY hw hγ hv
        obtain ⟨t, w, s1, s2, s3, s4⟩ := setD_spec _ _ _ _ _ hx'
        obtain ⟨k1, ts, k2, k3⟩ := buildGo_spec hY hw hγ hf ps x' x h
        refine ⟨fun hc => ⟨v2 hc, k1 hc⟩, (i, v.toT) :: ts, ?_, fun cs0 hcs0 => ?_⟩
        · simp only [partsA, v1, k2, s2]
          rw [if_pos (enc_solid t w (fine_get fs i t hf s1))]
        · have hp : (places 0 fs)[i]? = some (offs fs i, t.sz) := by rw [places_get fs 0 i t s1, Nat.zero_add]
          have hlen := hcs0.length
          rw [cells_len] at hlen
          simp only [fillT, hp, s2]
          rw [enc_cells, if_pos ⟨cells_len t w, by omega⟩]
          exact k3 _ (by rw [s3]; exact hcs0.place _ _)
      · cases h
    · cases h
theorem build_sound (hY : DXOk Y X) (hw : WF st) (hγ : gOk st γ) {ty : TypeId} {ps : Array (Nat × Operand)} {d : TD} {x : (rowOf d.fs).I} (ho : o.op = .build ty ps) (hd : look Y.tab ty = some d) (hne : d.fs ≠ []) (hf : d.ty.fine = true)
    (hb : buildGo Y γ st d.fs ps.toList (rowOf d.fs).dflt = some x) (h : K (.t (.s (rowOf d.fs) x)) = some r) : Shows X n st γ o K r := by
  have hk := hY.td hd
  have hty : d.ty = rowOf d.fs := hk.rowT.resolve_left hne
  have hlay := hk.lay.resolve_left hne
  rw [hty] at hf hlay
  obtain ⟨k1, ts, k2, k3⟩ := buildGo_spec (n := n) hY hw hγ hf _ _ _ hb
  obtain ⟨cs, q1, q2⟩ := k3 _ (zcells_le _ hf)
  refine ⟨.t (.s (rowOf d.fs) x), fun hc => ?_, rfl, trivial, h⟩
  have := good_build ho (k1 hc) k2 hlay (zcells_one _ hf) q1
  have hx : (DT.s (rowOf d.fs) x).toT = .ag ((rowOf d.fs).cells x) := enc_row _ _ (rowOf_row _)
  simp only [DA.toA]
  rw [hx]
  exact this.le (TLe.ag q2)

theorem buildL_spec (hY : DXOk Y X) (hw : WF st) (hγ : gOk st γ) {t : Ty} (hf : t.fine = true) : ∀ (ps : List (Nat × Operand)) (k : Nat) (l : List t.I), buildL Y γ st t k ps = some l →
    (cP γ → partsP X (stG n st.toSt) ps) ∧ ∃ ts, partsA X (stG n st.toSt) ps = some ts ∧ inOrder k ts = true ∧ ts.map (·.2) = l.map t.enc ∧ ts.length = ps.length
  | [], k, l, h => by cases h; exact ⟨fun _ => trivial, [], rfl, rfl, rfl, rfl⟩
  | (i, q) :: ps, k, l, h => by
    simp only [buildL] at h
    split at h
    · rename_i w x hb hv
      split at h
      · rename_i y ys hy hys
        cases h
        have := Nat.eq_of_beq_eq_true hb
        subst this
        obtain ⟨v1, v2⟩ := rdT_spec (n := n) hY hw hγ hv
        obtain ⟨c1, c2, c3⟩ := castT_toT hy
        obtain ⟨k1, ts, k2, k3, k4, k5⟩ := buildL_spec hY hw hγ hf ps (i + 1) ys hys
        have e : (DT.s w x).toT = t.enc y := c2.symm
        rw [e] at v1
        refine ⟨fun hc => ⟨v2 hc, k1 hc⟩, (i, t.enc y) :: ts, ?_, ?_, ?_, ?_⟩
        · simp only [partsA, v1, k2]
          rw [if_pos (enc_solid t y hf)]
        · simp only [inOrder, k3, beq_self_eq_true, Bool.and_self]
        · simp only [List.map_cons, k4]
        · simp only [List.length_cons, k5]
      · cases h
    · cases h
theorem buildSlice_sound (hY : DXOk Y X) (hw : WF st) (hγ : gOk st γ) {ty e : TypeId} {m b : Nat} {t : Ty} {ps : Array (Nat × Operand)} {l : List t.I} (ho : o.op = .buildSlice ty m ps) (hs : sliT Y ty = some (e, t, b)) (hb : buildL Y γ st t 0 ps.toList = some l)
    (h0 : (Nat.beq ps.toList.length m && Nat.ble (m * t.sz) 16777216) = true) (h : K (.t (.own e t l)) = some r) : Shows X n st γ o K r := by
  obtain ⟨s1, s2, s3, s4, _⟩ := sliT_spec hY hs
  simp only [Bool.and_eq_true, Nat.ble_eq] at h0
  have hm := Nat.eq_of_beq_eq_true h0.1
  obtain ⟨k1, ts, k2, k3, k4, k5⟩ := buildL_spec (n := n) hY hw hγ s4 _ _ _ hb
  refine ⟨.t (.own e t l), fun hc => ?_, rfl, trivial, h⟩
  have hz : (zval t).cells.size = t.sz := by rw [zval_cells t s4]; simp [zcells_len t s4]
  have hone : (zval t).cells.toList.all Value.oneCell' = true := by rw [zval_cells t s4]; exact zcells_one t s4
  have hle : m ≤ m * t.sz := Nat.le_mul_of_pos_right m s3
  have := good_buildSlice ho (k1 hc) k2 s1 (by rw [k5, hm]) k3 s3 hz hone (fun p hp => by
    have : p.2 ∈ ts.map (·.2) := List.mem_map_of_mem hp
    rw [k4] at this
    exact len_list t l _ this) h0.2 (by unfold maxLen; omega)
  rw [k4] at this
  exact this
theorem makeSlice_sound (hY : DXOk Y X) (hw : WF st) (hγ : gOk st γ) {ty e : TypeId} {b : Nat} {t : Ty} {l cp : Operand} {kl kc : IntKind} {a c : Int} (ho : o.op = .makeSlice ty l cp) (hl : rdI Y γ st l = some (kl, a)) (hcp : rdI Y γ st cp = some (kc, c)) (hs : sliT Y ty = some (e, t, b))
    (h : Gd γ (0 ≤ a ∧ a ≤ c ∧ (b : Int) * c ≤ 281474976710656) (K (.t (.own e t (List.replicate a.toNat t.dflt)))) = some r) : Shows X n st γ o K r := by
  obtain ⟨s1, s2, s3, s4, _⟩ := sliT_spec hY hs
  obtain ⟨l1, l2, _⟩ := rdI_spec (n := n) hY hw hγ hl
  obtain ⟨c1, c2, _⟩ := rdI_spec (n := n) hY hw hγ hcp
  obtain ⟨h1, h2⟩ := Gd_some h
  refine ⟨.t (.own e t (List.replicate a.toNat t.dflt)), fun hc => ?_, rfl, trivial, h2⟩
  have hz : (zval t).cells.size = t.sz := by rw [zval_cells t s4]; simp [zcells_len t s4]
  have hone : (zval t).cells.toList.all Value.oneCell' = true := by rw [zval_cells t s4]; exact zcells_one t s4
  obtain ⟨q1, q2, q3⟩ := h1 hc
  have hb1 : (1 : Int) * c ≤ (b : Int) * c := Int.mul_le_mul_of_nonneg_right (by omega) (by omega)
  have := good_makeSlice ho (l2 hc) (c2 hc) l1 c1 s1 hz s3 hone q1 q2 q3 (by omega)
  refine this.le ?_
  simp only [DT.toT]
  rw [List.map_replicate]
  have hcell : LLe (zeroT (zval t)).cells (t.enc t.dflt).cells := by
    rw [zeroT_cells, zval_cells t s4, enc_cells]; exact zcells_le t s4
  refine LLe.flat ?_ (by simp) (fun y hy => ?_)
  · have : ∀ k, LLe ((List.replicate k (zeroT (zval t))).flatMap T.cells) ((List.replicate k (t.enc t.dflt)).flatMap T.cells) := by
      intro k
      induction k with
      | zero => exact .nil
      | succ k ih => simp only [List.replicate_succ, List.flatMap_cons]; exact hcell.append ih
    exact this _
  · rw [(List.mem_replicate.1 hy).2, enc_cells, cells_len]
theorem alloc_sound (hY : DXOk Y X) {ty : TypeId} {d : TD} (ho : o.op = .alloc ty) (hd : look Y.tab ty = some d) (hf : d.ty.fine = true) (h : K (.t (.box ty (splitD d.ty d.ty.dflt))) = some r) : Shows X n st γ o K r := by
  have hk := hY.td hd
  have hz : zerOf X.P ty = some (zval d.ty) := by
    rcases hk.zer with e | e
    · rw [hf] at e; cases e
    · exact e
  refine ⟨.t (.box ty (splitD d.ty d.ty.dflt)), fun hc => ?_, rfl, trivial, h⟩
  have hone : (zval d.ty).cells.toList.all Value.oneCell' = true := by rw [zval_cells _ hf]; exact zcells_one _ hf
  refine (good_alloc ho hz hone).le ?_
  simp only [DT.toT, all_eq, splitD_spec]
  rw [zval_cells _ hf]
  exact TLe.box (zcells_le _ hf)
theorem box_sound (hY : DXOk Y X) (hw : WF st) (hγ : gOk st γ) {ty : TypeId} {x : Operand} {t : Ty} {y : t.I} (ho : o.op = .box ty x) (hx : rdD Y γ st x = some (.t (.s t y))) (hf : t.fine = true) (h : K (.t (.box ty (splitD t y))) = some r) : Shows X n st γ o K r := by
  obtain ⟨x1, x2⟩ := rdT_spec (n := n) hY hw hγ hx
  refine ⟨.t (.box ty (splitD t y)), fun hc => ?_, rfl, trivial, h⟩
  have := good_box ho (x2 hc) x1 (enc_solid t y hf)
  simp only [DT.toT, enc_cells] at this
  simp only [DA.toA, DT.toT, all_eq, splitD_spec]
  exact this
theorem extract_sound {r' i : Nat} {cs : List DT} {c : DT} (ho : o.op = .extract (.tmp r') i) (hr : st.find r' = some (.t (.tup cs))) (hc : cs[i]? = some c) (hf : flatD c = true) (h : K (.t c) = some r) : Shows X n st γ o K r := by
  refine ⟨.t c, fun _ => ?_, rfl, trivial, h⟩
  exact good_extract (cs := cs.map DT.toT) ho (by rw [stG_toSt, hr]; simp only [DA.toA, DT.toT, all_eq]) (by rw [List.getElem?_map, hc]; rfl) (by rw [flatD_spec, hf])

theorem len_sound (hY : DXOk Y X) (hw : WF st) (hγ : gOk st γ) {ty : TypeId} {x : Operand} (ho : o.op = .call { callee := .builtin .len, args := ⟨[x]⟩, argTypes := ⟨[ty]⟩ })
    (h : (match rdD Y γ st x with
    | some (.t (.s .str s)) => tst (isTy Y ty .str) (K (.t (.s (.int .i64) (s.length : Int))))
    | some (.t (.s (.sl _ _) l)) => match sliT Y ty with
      | some _ => K (.t (.s (.int .i64) (l.length : Int)))
      | none => none
    | some (.ref r p off len v) => match sliT Y ty with
      | some _ => K (.t (.s (.int .i64) (len : Int)))
      | none => none
    | _ => none) = some r) : Shows X n st γ o K r := by
  split at h
  · rename_i s hx
    obtain ⟨x1, x2⟩ := rdT_spec (n := n) hY hw hγ hx
    obtain ⟨h0, h⟩ := tst_some h
    refine ⟨.t (.s (.int .i64) (s.length : Int)), fun hc => ?_, rfl, trivial, h⟩
    have := good_len ho (x2 hc) (n := s.length) (by rw [x1]; simp only [DT.toT, Ty.enc, Ty.row, mkT, Ty.cells, List.headD_cons, lenA, bl_mkS]) (by rw [x1]; exact isTy_spec hY h0 (by simp [undOf]))
    exact this
  · rename_i sz t l hx
    obtain ⟨x1, x2⟩ := rdT_spec (n := n) hY hw hγ hx
    split at h
    · rename_i q hs
      obtain ⟨e, t', b⟩ := q
      refine ⟨.t (.s (.int .i64) (l.length : Int)), fun hc => ?_, rfl, trivial, h⟩
      have := good_len ho (x2 hc) (n := l.length) (by rw [x1]; simp only [DT.toT, enc_sl, lenA, List.length_map]) (by rw [x1]; exact ⟨e, (sliOf_spec (sliT_spec hY hs).1).1⟩)
      exact this
    · cases h
  · rename_i r' p off len v hx
    obtain ⟨x1, x2, _, _⟩ := rdD_spec (n := n) hY hw hγ hx
    split at h
    · rename_i q hs
      obtain ⟨e, t', b⟩ := q
      refine ⟨.t (.s (.int .i64) (len : Int)), fun hc => ?_, rfl, trivial, h⟩
      have := good_len ho (x2 hc) (n := len) (by rw [x1]; rfl) (by rw [x1]; exact ⟨e, (sliOf_spec (sliT_spec hY hs).1).1⟩)
      exact this
    · cases h
  · cases h

/-! calls -/
theorem argD_spec (hY : DXOk Y X) (hw : WF st) (hγ : gOk st γ) {x : Operand} {ty : TypeId} {y : DT} {b : Bool} (h : argD Y γ st x ty = some (y, b)) : (cP γ → argP X (stG n st.toSt) x) ∧ argA X (stG n st.toSt) x ty = some (y.toT, b) := by
  unfold argD at h
  split at h
  · split at h
    · rename_i e t b' hs
      cases h
      refine ⟨fun _ => trivial, ?_⟩
      simp only [argA, (sliT_spec hY hs).1]
      rfl
    · cases h
  · rename_i hno
    have key : ∀ {g : Nat → A}, argA X g x ty = (match rd X g x with
      | .t t => if t.flat then some (t, false) else none
      | .ref r p off len => match root g r p with
        | some (.own _ sz es) => if off + len ≤ es.length then some (.sl sz (cut (es.map T.fz) off (off + len)), true) else none
        | _ => none
      | _ => none) ∧ (rdp X g x → argP X g x) := by
      intro g
      unfold argA argP
      split
      · exact absurd rfl hno
      · exact ⟨rfl, fun h => h⟩
    split at h
    · rename_i y' hx
      obtain ⟨x1, x2⟩ := rdT_spec (n := n) hY hw hγ hx
      split at h
      · rename_i hf
        cases h
        refine ⟨fun hc => key.2 (x2 hc), ?_⟩
        rw [key.1, x1]
        simp only
        rw [flatD_spec, hf]; rfl
      · cases h
    · rename_i r' p off len v hx
      obtain ⟨x1, x2, _, x4⟩ := rdD_spec (n := n) hY hw hγ hx
      split at h
      · rename_i e t l hr
        split at h
        · cases h
        · rename_i hv
          cases h
          refine ⟨fun hc => key.2 (x2 hc), ?_⟩
          have hvw := viewOk_vw x4 hr
          have hle : off + len ≤ (l.map t.enc).length := by
            rw [List.length_map]
            cases v with
            | all => obtain ⟨rfl, rfl⟩ := hvw; omega
            | tail => obtain ⟨h1, rfl⟩ := hvw; omega
            | head => obtain ⟨rfl, h2⟩ := hvw; omega
            | mid => exact absurd rfl hv
          rw [key.1, x1]
          simp only [DA.toA, rootD_spec hr, DT.toT]
          rw [if_pos hle, fz_map, map_cut, vwL_spec _ hvw]
          rfl
      · cases h
    · cases h
theorem argsD_spec (hY : DXOk Y X) (hw : WF st) (hγ : gOk st γ) : ∀ {xs : List Operand} {tys : List TypeId} {ts : List DT} {b : Bool}, argsD Y γ st xs tys = some (ts, b) → (cP γ → argsP X (stG n st.toSt) xs) ∧ argsA X (stG n st.toSt) xs tys = some (ts.map DT.toT, b)
  | [], _, ts, b, h => by cases h; exact ⟨fun _ => trivial, rfl⟩
  | x :: xs, [], _, _, h => by cases h
  | x :: xs, ty :: tys, ts, b, h => by
    simp only [argsD] at h
    split at h
    · rename_i t b1 ts' b2 e1 e2
      cases h
      obtain ⟨h1, h2⟩ := argD_spec (n := n) hY hw hγ e1
      obtain ⟨k1, k2⟩ := argsD_spec hY hw hγ e2
      refine ⟨fun hc => ⟨h1 hc, k1 hc⟩, ?_⟩
      simp only [argsA, h2, k2, List.map_cons]
    · cases h
theorem fzD_good {x : DT} (h : Good X g o (.t x.toT)) : Good X g o (.t (fzD x).toT) := by
  cases x with
  | own e t l =>
    have := h.fz
    simp only [DT.toT, T.fz, fzAll_eq, fz_map] at this
    exact this
  | _ => exact h
theorem call_sound (hY : DXOk Y X) (hE : EnvOk X E) (hw : WF st) (hγ : gOk st γ) {f : FuncId} {xs : Array Operand} {tys : Array TypeId} {ts : List DT} {b : Bool} {c : CallRes} (ho : o.op = .call { callee := .value (.func f), args := xs, argTypes := tys })
    (ha : argsD Y γ st xs.toList tys.toList = some (ts, b)) (hc : E f ts = some c) (h0 : (!b || c.bare) = true)
    (h : callK γ c K = some r) : Shows X n st γ o K r := by
  obtain ⟨a1, a2⟩ := argsD_spec (n := n) hY hw hγ ha
  obtain ⟨e1, e2⟩ := hE _ _ _ hc
  have fin : ∀ v, c.val = some v → cP γ → Good X (stG n st.toSt) o (.t (c.wrap v).toT) := by
    intro v hv hcp
    refine good_callee ho (a1 hcp) a2 ?_
    rcases e1 v hv with ⟨q1, q2⟩ | ⟨q0, q1⟩
    · refine .inl ⟨q1, ?_, q2⟩
      cases b with
      | false => exact .inl rfl
      | true => exact .inr (e2 (by simpa using h0) v)
    · refine .inr ⟨?_, q1⟩
      rw [q0] at h0
      cases b with
      | false => rfl
      | true => simp at h0
  unfold callK at h
  split at h
  · rw [Option.bind_eq_some_iff] at h
    obtain ⟨v, hv, h⟩ := h
    exact ⟨.t (c.wrap v), fun hcp => fin v hv hcp, rfl, trivial, h⟩
  · rename_i q
    rw [Option.bind_eq_some_iff] at h
    obtain ⟨v, hv, h⟩ := h
    refine ⟨.t (fzD (c.wrap v)), fun hcp => ?_, rfl, trivial, h⟩
    have hq : q = true := hcp
    rw [if_pos hq] at hv
    exact fzD_good (fin v hv hcp)

theorem arT_spec (hY : DXOk Y X) {ty : TypeId} {m : Nat} {t : Ty} (h : arT Y ty = some (m, t)) : arrOf X.P ty = some (m, t.sz) := by
  unfold arT at h
  split at h
  · rename_i d hd
    have h1 := (hY.td hd).arr
    rw [h] at h1
    rcases h1 with e | e
    · cases e
    · exact e
  · cases h
theorem flat_cells (t : Ty) (l : List t.I) : (l.map t.enc).flatMap T.cells = l.flatMap t.cells := by
  induction l with
  | nil => rfl
  | cons x l ih => simp only [List.map_cons, List.flatMap_cons, enc_cells, ih]
theorem slice_arr_sound (hY : DXOk Y X) (hw : WF st) (hγ : gOk st γ) {ty : TypeId} {x : Operand} {t : Ty} {l : List t.I} {m : Nat} (ho : o.op = .slice ty x none none none) (hx : rdD Y γ st x = some (.sarr t l)) (ht : arT Y ty = some (m, t)) (hm : l.length = m) (h : K (.t (.s (.sl t.sz t) l)) = some r) : Shows X n st γ o K r := by
  subst hm
  obtain ⟨x1, x2, _, _⟩ := rdD_spec (n := n) hY hw hγ hx
  refine ⟨.t (.s (.sl t.sz t) l), fun hc => ?_, rfl, trivial, h⟩
  exact good_slice_arr (es := l.map t.enc) ho (x2 hc) (by rw [x1, flat_cells]; rfl) (by rw [List.length_map]; exact arT_spec hY ht) (len_list t l)
theorem idx_arr_sound (hY : DXOk Y X) (hw : WF st) (hγ : gOk st γ) {ty : TypeId} {x i : Operand} {t : Ty} {l : List t.I} {m : Nat} {k : IntKind} {a : Int} (ho : o.op = .indexAddr ty x i) (hx : rdD Y γ st x = some (.sarr t l)) (hi : rdI Y γ st i = some (k, a)) (ht : arT Y ty = some (m, t)) (hm : l.length = m)
    (h : Gd γ (0 ≤ a ∧ a < (l.length : Int)) (K (.sptr t (l.getD a.toNat t.dflt))) = some r) : Shows X n st γ o K r := by
  subst hm
  obtain ⟨x1, x2, _, _⟩ := rdD_spec (n := n) hY hw hγ hx
  obtain ⟨i1, i2, _⟩ := rdI_spec (n := n) hY hw hγ hi
  obtain ⟨h1, h2⟩ := Gd_some h
  refine ⟨.sptr t (l.getD a.toNat t.dflt), fun hc => ?_, rfl, trivial, h2⟩
  have hlt := h1 hc
  have := good_indexAddr_arr (es := l.map t.enc) ho (x2 hc) (i2 hc) (by rw [x1, flat_cells]; rfl) i1 (by rw [List.length_map]; exact arT_spec hY ht) (len_list t l) hlt.1 (by rw [List.length_map]; exact hlt.2)
  rw [getD_map l a.toNat (by omega), enc_cells] at this
  exact this
theorem bndD_none (hY : DXOk Y X) {x : Option Operand} (h : bndD Y γ st x = some none) : x = none := by
  cases x with
  | none => rfl
  | some x => simp only [bndD] at h; split at h <;> cases h

theorem locD_sound (hY : DXOk Y X) (hE : EnvOk X E) (hw : WF st) (hγ : gOk st γ) (h : locD Y st γ E o K = some r) : Shows X n st γ o K r := by
  unfold locD at h
  split at h
  · rename_i x ho
    split at h
    · split at h
      · rename_i e t b hs; exact nil_sound hY (.inr ho) hs h
      · cases h
    · split at h
      · rename_i a hx; exact move_sound hY hw hγ (.inl ho) hx h
      · cases h
  · rename_i x ho
    split at h
    · split at h
      · rename_i e t b hs; exact nil_sound hY (.inl ho) hs h
      · cases h
    · split at h
      · rename_i a hx; exact move_sound hY hw hγ (.inr ho) hx h
      · cases h
  · rename_i q x y ho
    split at h
    · rename_i dq c hq
      split at h
      · rename_i a b ha hb
        split at h
        · rename_i v hv; exact pick_sound hY hw hγ ho hq ha hb hv h
        · cases h
      · cases h
    · cases h
  · rename_i op ty x y t' ho
    split at h
    · rename_i a b ha hb; exact bin_sound hY hw hγ ho ha hb h
    · cases h
  · rename_i op ty x ho
    split at h
    · rename_i b hx
      obtain ⟨x1, x2⟩ := rdT_spec (n := n) hY hw hγ hx
      split at h
      · exact ⟨.t (.s .bool (!b)), fun hc => good_un (a := .bool b) ho (x2 hc) x1 trivial, rfl, trivial, h⟩
      · cases h
    · rename_i a _ hx
      obtain ⟨x1, x2⟩ := rdT_spec (n := n) hY hw hγ hx
      split at h
      · rename_i k m ha
        obtain ⟨a1, a2⟩ := asI_spec ha
        rw [a1] at x1
        refine ⟨.t (mkI k (k.wrap (0 - m))), fun hc => ?_, rfl, trivial, h⟩
        rw [DA.toA, mkI_spec _ _ (fun e => by subst e; exact u8_wrap _)]
        exact good_un ho (x2 hc) x1 trivial
      · cases h
    · cases h
  · rename_i s d x ho; exact conv_sound hY hw hγ ho h
  · rename_i ty x i ho
    split at h
    · rename_i s k a hx hi
      obtain ⟨h0, h⟩ := tst_some h
      exact index_sound hY hw hγ ho hx hi h0 h
    · cases h
  · rename_i ty x lo hi ho
    split at h
    · rename_i s nlo nhi hx hl hh
      obtain ⟨h0, h⟩ := tst_some h
      exact slice_str_sound hY hw hγ ho hx hl hh h0 h
    · rename_i sz t l nlo nhi hx hl hh
      split at h
      · rename_i e t' b hs
        obtain ⟨h0, h⟩ := tst_some h
        simp only [Bool.and_eq_true, decide_eq_true_eq] at h0
        obtain ⟨rfl, h0⟩ := h0
        exact slice_sl_sound hY hw hγ ho hx hl hh hs h0 h
      · cases h
    · rename_i r' p off len v nlo nhi hx hl hh
      split at h
      · rename_i e t' b e' t l hs hr
        obtain ⟨h0, h2⟩ := tst_some h
        simp only [decide_eq_true_eq] at h0
        subst h0
        exact slice_ref_sound hY hw hγ ho hx hl hh hs hr h2
      · cases h
    · rename_i t l hx hl hh
      split at h
      · rename_i m t' ht
        obtain ⟨h0, h2⟩ := tst_some h
        simp only [Bool.and_eq_true, decide_eq_true_eq] at h0
        obtain ⟨rfl, h0⟩ := h0
        obtain rfl := bndD_none hY hl
        obtain rfl := bndD_none hY hh
        exact slice_arr_sound hY hw hγ ho hx ht (Nat.eq_of_beq_eq_true h0) h2
      · cases h
    · cases h
  · rename_i ty x i ho
    split at h
    · rename_i t l k a hx hi
      split at h
      · rename_i m t' ht
        obtain ⟨h0, h2⟩ := tst_some h
        simp only [Bool.and_eq_true, decide_eq_true_eq] at h0
        obtain ⟨rfl, h0⟩ := h0
        exact idx_arr_sound hY hw hγ ho hx hi ht (Nat.eq_of_beq_eq_true h0) h2
      · cases h
    · rename_i sz t l k a e t' b hx hi hs
      obtain ⟨h0, h⟩ := tst_some h
      simp only [Bool.and_eq_true, decide_eq_true_eq] at h0
      obtain ⟨rfl, h0⟩ := h0
      exact idx_sl_sound hY hw hγ ho hx hi hs h0 h
    · rename_i r' p off len v k a e t' b hx hi hs
      split at h
      · rename_i e' t l hr
        obtain ⟨h0, h2⟩ := tst_some h
        simp only [decide_eq_true_eq] at h0
        subst h0
        exact idx_ref_sound hY hw hγ ho hx hi hs hr h2
      · cases h
    · cases h
  · rename_i s x f ho
    split at h
    · rename_i d t y hd hx
      split at h
      · rename_i y' hy'
        split at h
        · rename_i ft z hp; exact fieldAddr_sptr_sound hY hw hγ ho hd hx hy' hp h
        · cases h
      · cases h
    · rename_i d r' p i j hd hx
      split at h
      · rename_i e t l hr
        obtain ⟨h0, h⟩ := tst_some h
        exact fieldAddr_eptr_sound hY hw hγ ho hd hx hr h0 h
      · cases h
    · rename_i d r' p off hd hx
      split at h
      · rename_i e cs hr
        obtain ⟨h0, h⟩ := tst_some h
        exact fieldAddr_pref_sound hY hw hγ ho hd hx hr h0 h
      · cases h
    · cases h
  · rename_i s x f ho
    split at h
    · rename_i d t y hd hx
      split at h
      · rename_i y' hy'
        split at h
        · rename_i z hp; exact field_sound hY hw hγ ho hd hx hy' hp h
        · cases h
      · cases h
    · cases h
  · rename_i ty x ho
    split at h
    · rename_i w t y hT hx
      split at h
      · rename_i z hz
        obtain ⟨h0, h⟩ := tst_some h
        exact load_sptr_sound hY hw hγ ho hT h0 hx hz h
      · cases h
    · rename_i w r' p i j hT hx
      split at h
      · rename_i e t l hr
        split at h
        · rename_i z hz
          obtain ⟨h0, h⟩ := tst_some h
          exact load_eptr_sound hY hw hγ ho hT h0 hx hr hz h
        · cases h
      · cases h
    · rename_i w r' p off hT hx
      split at h
      · rename_i e cs hr
        split at h
        · rename_i a ha
          obtain ⟨h0, h⟩ := tst_some h
          exact load_pref_sound hY hw hγ ho hT h0 hx hr ha h
        · cases h
      · cases h
    · cases h
  · rename_i ty ps ho
    split at h
    · rename_i d hd
      split at h
      · cases h
      · rename_i t fs hfs
        split at h
        · rename_i x hx
          obtain ⟨h0, h⟩ := tst_some h
          have : ∀ (l : List Ty) (hl : d.fs = l) (x : (rowOf l).I), l ≠ [] → buildGo Y γ st l ps.toList (rowOf l).dflt = some x → K (.t (.s (rowOf l) x)) = some r → Shows X n st γ o K r := by
            intro l hl; subst hl; intro x hne hx h
            exact build_sound hY hw hγ ho hd hne h0 hx h
          exact this _ hfs x (by simp) hx h
        · cases h
    · cases h
  · rename_i ty m ps ho
    split at h
    · rename_i e t b hs
      split at h
      · rename_i l hl
        obtain ⟨h0, h⟩ := tst_some h
        exact buildSlice_sound hY hw hγ ho hs hl h0 h
      · cases h
    · cases h
  · rename_i ty l cp ho
    split at h
    · rename_i kl a kc b e t by_ hl hcp hs
      exact makeSlice_sound hY hw hγ ho hl hcp hs h
    · cases h
  · rename_i ty ho
    split at h
    · rename_i d hd
      obtain ⟨h0, h⟩ := tst_some h
      exact alloc_sound hY ho hd h0 h
    · cases h
  · rename_i ty x ho
    split at h
    · rename_i t y hx
      obtain ⟨h0, h⟩ := tst_some h
      exact box_sound hY hw hγ ho hx h0 h
    · cases h
  · rename_i r' i ho
    split at h
    · rename_i cs hr
      split at h
      · rename_i c hc
        obtain ⟨h0, h⟩ := tst_some h
        exact extract_sound ho hr hc h0 h
      · cases h
    · cases h
  · rename_i x ty ho; exact len_sound hY hw hγ ho h
  · rename_i f xs tys ho
    split at h
    · rename_i ts b ha
      split at h
      · rename_i c hc
        obtain ⟨h0, h⟩ := tst_some h
        exact call_sound hY hE hw hγ ho ha hc h0 h
      · cases h
    · cases h
  · cases h
end Go.Eng
