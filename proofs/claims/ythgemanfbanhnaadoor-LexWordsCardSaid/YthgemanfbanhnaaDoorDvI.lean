/- Operations, guards, regions, in typed trees: that it is so. -/
import Derived.Test.YthgemanfbanhnaaDoorDvH
namespace Go.Eng
open Go.RowKit (Below)
set_option linter.unusedVariables false
set_option linter.unusedSimpArgs false
variable {X : Ctx} {Y : DX} {n : Nat} {Z : List Nat} {st : DSt} {E : Env} {ρ : Type} {r : ρ}

/-! stores -/
theorem placeT_map {α β : Type} (f : α → β) (cs ts : List α) (off : Nat) : (placeT cs off ts).map f = placeT (cs.map f) off (ts.map f) := by
  simp [placeT, List.map_take, List.map_drop]
theorem store_wf (hw : WF st) {r' : Nat} {t0 t1 : DT} (ht : st.find r' = some (.t t0)) (hb : ∀ q, t0 ≠ .s .bool q)
    (hroot : ∀ {q : Option Nat} {e2 : TypeId} {t2 : Ty} {l2 : List t2.I}, rootD st r' q = some (.own e2 t2 l2) → ∃ l3, rootD (st.put r' (.t t1)) r' q = some (.own e2 t2 l3) ∧ l3.length = l2.length) (hb1 : ∀ q, t1 ≠ .s .bool q) : WF (st.put r' (.t t1)) := by
  have hview : ∀ a, viewOk st a → viewOk (st.put r' (.t t1)) a := by
    intro a ha
    cases a with
    | ref r2 q off len v =>
      rcases ha with ha | ⟨e2, t2, l2, q1, q2⟩
      · exact .inl ha
      · by_cases h : r2 = r'
        · subst h
          obtain ⟨l3, h3, h4⟩ := hroot q1
          exact .inr ⟨e2, t2, l3, h3, by rw [h4]; exact q2⟩
        · refine .inr ⟨e2, t2, l2, ?_, q2⟩
          cases q <;> simp only [rootD, find_dput, if_neg h] at q1 ⊢ <;> exact q1
    | _ => trivial
  intro k y hy
  rw [find_dput] at hy
  by_cases hk : k = r'
  · rw [if_pos hk] at hy; cases hy; trivial
  · rw [if_neg hk] at hy
    have hwf := hw k y hy
    cases y with
    | opt d' w b a' =>
      refine ⟨fun b' hb' => hwf.1 b' ?_, hwf.2.1, hview a' hwf.2.2⟩
      by_cases h : d' = r'
      · subst h
        unfold gB at hb'
        rw [find_dput, if_pos rfl] at hb'
        split at hb'
        · rename_i q hq; cases hq; exact absurd rfl (hb1 q)
        · rename_i hq; cases hq
        · cases hb'
      · rw [gB_put h] at hb'; exact hb'
    | ref r2 q off len v => exact hview _ (show viewOk st (.ref r2 q off len v) from hwf)
    | _ => trivial

theorem flatsD_get {cs : List DT} (h : flatsD cs = true) {i : Nat} {c : DT} (hc : cs[i]? = some c) : flatD c = true := by
  induction cs generalizing i with
  | nil => simp at hc
  | cons x xs ih =>
    simp only [flatsD] at h
    cases hx : flatD x with
    | false => rw [hx] at h; cases h
    | true =>
      rw [hx] at h
      cases i with
      | zero => simp at hc; subst hc; exact hx
      | succ i => exact ih h (by simpa using hc)

theorem store_box_sound (hY : DXOk Y X) (hw : WF st) {o : Oper} {t e : TypeId} {a v : Operand} {r' off : Nat} {tv w : Ty} {x : tv.I} {cs : List DT} {K : DSt → Option ρ} (ho : o.op = .store t a v) (hd : o.dst = none) (ha : rdD Y none st a = some (.pref r' none off)) (hv : rdD Y none st v = some (.t (.s tv x)))
    (hr : st.find r' = some (.t (.box e cs))) (hT : tyT Y t = some w) (h0 : (decide (w = tv) && w.fine && Nat.ble (off + w.sz) cs.length && flatsD ((cs.drop off).take w.sz)) = true) (h : K (st.put r' (.t (.box e (placeT cs off (splitD tv x))))) = some r) :
    ∃ st', Step X n Z (stG n st.toSt) o (stG n st'.toSt) ∧ WF st' ∧ K st' = some r := by
  simp only [Bool.and_eq_true, decide_eq_true_eq, Nat.ble_eq] at h0
  obtain ⟨⟨⟨rfl, h1⟩, h2⟩, h3⟩ := h0
  obtain ⟨a1, a2, _, _⟩ := rdD_spec (n := n) (X := X) hY hw (γ := none) trivial ha
  obtain ⟨v1, v2⟩ := rdT_spec (n := n) (X := X) hY hw (γ := none) trivial hv
  have hlen : (splitD w x).length = w.sz := by
    have := congrArg List.length (splitD_spec w x)
    rwa [List.length_map, cells_len] at this
  refine ⟨_, ?_, store_wf hw hr (fun q h => by cases h) ?_ (fun q h => by cases h), h⟩
  · rw [put_toSt, stG_put]
    have hg : stG n st.toSt r' = .t (.box e (cs.map DT.toT)) := by rw [stG_toSt, hr]; simp only [DA.toA, DT.toT, all_eq]
    have := step_store_box (X := X) (n := n) (Z := Z) ho hd (a2 trivial) (v2 trivial) a1 hg v1 (enc_solid w x h1) (tyT_row hY hT h1) (by rw [DT.toT, enc_cells, cells_len]) (by rw [List.length_map]; exact h2) (by rw [← List.map_drop, ← List.map_take, flatsD_spec]; exact h3)
    simp only [DA.toA, DT.toT, all_eq, placeT_map, splitD_spec, enc_cells] at this ⊢
    exact this
  · intro q e2 t2 l2 hq
    cases q with
    | none => simp only [rootD, hr] at hq; cases hq
    | some k =>
      simp only [rootD, hr] at hq
      refine ⟨l2, ?_, rfl⟩
      simp only [rootD, find_dput, if_pos]
      rw [placeT_get _ _ _ _ ?_ (by rw [hlen]; exact h2)]
      · exact hq
      · rw [hlen]
        rcases Nat.lt_or_ge k off with h4 | h4
        · exact .inl h4
        · rcases Nat.lt_or_ge k (off + w.sz) with h5 | h5
          · exfalso
            have : ((cs.drop off).take w.sz)[k - off]? = some (.own e2 t2 l2) := by
              rw [List.getElem?_take, if_pos (by omega), List.getElem?_drop, show off + (k - off) = k by omega]; exact hq
            have := flatsD_get h3 this
            cases this
          · exact .inr h5
theorem Step.eptr {g : Nat → A} {o : Oper} {g' : Nat → A} {x : Operand} {r' i j : Nat} {p : Option Nat} {e : TypeId} {sz : Nat} {es : List T} (hx : rdp X g x) (ex : rd X g x = .eptr r' p i j) (hr : root g r' p = some (.own e sz es)) (h : i < es.length → Step X n Z g o g') : Step X n Z g o g' := by
  intro D gc v0 w0 tmps ds w hI next Q hn
  obtain ⟨c, hf, _⟩ := hI.frm
  have hrep := rd_rep (ds := ds) hI.glob hf x hx
  rw [ex] at hrep
  obtain ⟨_, t0, e', sz', es', b, m, cap, h1, h2, h3, _⟩ := hrep
  have := root_of h1 h2
  rw [hr] at this; cases this
  exact h h3 D gc v0 w0 tmps ds w hI next Q hn
theorem placeT_mid {α : Type} (pre mid suf ts : List α) (h : mid.length = ts.length) : placeT (pre ++ mid ++ suf) pre.length ts = pre ++ ts ++ suf := by
  unfold placeT
  have e1 : List.take pre.length (pre ++ mid ++ suf) = pre := by rw [List.append_assoc, List.take_left]
  have e2 : List.drop (pre.length + ts.length) (pre ++ mid ++ suf) = suf := by rw [← h, ← List.length_append, List.drop_left]
  rw [e1, e2]
theorem store_elem_sound (hY : DXOk Y X) (hw : WF st) {o : Oper} {t e : TypeId} {a v : Operand} {r' i j : Nat} {tv w ty : Ty} {x : tv.I} {l : List ty.I} {y : ty.I} {K : DSt → Option ρ} (ho : o.op = .store t a v) (hd : o.dst = none) (ha : rdD Y none st a = some (.eptr r' none i j)) (hv : rdD Y none st v = some (.t (.s tv x)))
    (hr : st.find r' = some (.t (.own e ty l))) (hT : tyT Y t = some w) (hp : putAt ty (l.getD i ty.dflt) j (.s tv x) = some y) (h0 : (decide (w = tv) && w.fine && Nat.blt 0 w.sz) = true) (h : K (st.put r' (.t (.own e ty (l.set i y)))) = some r) :
    ∃ st', Step X n Z (stG n st.toSt) o (stG n st'.toSt) ∧ WF st' ∧ K st' = some r := by
  simp only [Bool.and_eq_true, decide_eq_true_eq, Nat.blt_eq] at h0
  obtain ⟨⟨rfl, h1⟩, h2⟩ := h0
  obtain ⟨a1, a2, _, _⟩ := rdD_spec (n := n) (X := X) hY hw (γ := none) trivial ha
  obtain ⟨v1, v2⟩ := rdT_spec (n := n) (X := X) hY hw (γ := none) trivial hv
  obtain ⟨w', z, pre, suf, mid, p1, p2, p3, p4, p5, p6⟩ := putAt_spec _ _ _ _ _ hp
  cases p2
  refine ⟨_, ?_, store_wf hw hr (fun q h => by cases h) ?_ (fun q h => by cases h), h⟩
  · rw [put_toSt, stG_put]
    have hg : stG n st.toSt r' = .t (.own e ty.sz (l.map ty.enc)) := by rw [stG_toSt, hr]; rfl
    refine Step.eptr (a2 trivial) a1 (e := e) (sz := ty.sz) (es := l.map ty.enc) (by simp only [root, hg]) (fun hlt => ?_)
    rw [List.length_map] at hlt
    have hel : (l.map ty.enc)[i]? = some (ty.enc (l.getD i ty.dflt)) := by
      rw [List.getElem?_map, List.getElem?_eq_getElem hlt, List.getD_eq_getElem?_getD, List.getElem?_eq_getElem hlt]; rfl
    have hcl : (ty.enc (l.getD i ty.dflt)).cells = pre ++ mid ++ suf := by rw [enc_cells, p3]
    have hput : elemPut (ty.enc (l.getD i ty.dflt)) j (DT.s w x).toT.cells = ty.enc y := by
      have htc : (DT.s w x).toT.cells = w.cells x := by rw [DT.toT, enc_cells]
      rw [htc]
      cases hrow : ty.row with
      | true =>
        rw [enc_row _ _ hrow, enc_row _ _ hrow]
        simp only [elemPut, T.ag.injEq]
        rw [p3, p5, ← p6, placeT_mid _ _ _ _ (by rw [p4, cells_len])]
      | false =>
        obtain ⟨c1, c2⟩ := cells_one ty (l.getD i ty.dflt) hrow
        obtain ⟨c3, c4⟩ := cells_one ty y hrow
        have hlen := congrArg List.length p3
        rw [cells_len, sz_one ty hrow] at hlen
        simp only [List.length_append] at hlen
        have hpre : pre = [] := List.length_eq_zero_iff.1 (by omega)
        have hsuf : suf = [] := List.length_eq_zero_iff.1 (by omega)
        subst hpre; subst hsuf
        rw [List.nil_append, List.append_nil] at p5
        have hnot : elemPut (ty.enc (l.getD i ty.dflt)) j (w.cells x) = (w.cells x).headD .u := by
          unfold elemPut
          split
          · rename_i cs hcs
            cases ty <;> first | (cases hcs; done) | (cases hrow; done)
          · rfl
        rw [hnot, ← p5, c3]; rfl
    have := step_store_elem (X := X) (n := n) (Z := Z) ho hd (a2 trivial) (v2 trivial) a1 hg v1 (enc_solid w x h1) (tyT_row hY hT h1) (by rw [DT.toT, enc_cells, cells_len]) hel (by
        have := congrArg List.length p3
        rw [cells_len] at this
        simp only [List.length_append] at this
        omega) (by
        rw [hcl, ← p6, List.append_assoc, List.drop_left, ← p4, List.take_left]
        have := cells_flat ty (l.getD i ty.dflt)
        rw [p3] at this
        simp only [List.all_append, Bool.and_eq_true] at this
        exact this.1.2) (by
        rw [hput, enc_cells, p5, hcl, DT.toT, enc_cells, ← p6, placeT_mid _ _ _ _ (by rw [p4, cells_len])])
    rw [hput, ← List.map_set] at this
    exact this
  · intro q e2 t2 l2 hq
    cases q with
    | none =>
      simp only [rootD, hr] at hq
      cases hq
      exact ⟨l.set i y, by simp only [rootD, find_dput, if_pos], by simp⟩
    | some k => simp only [rootD, hr] at hq; cases hq

end Go.Eng
