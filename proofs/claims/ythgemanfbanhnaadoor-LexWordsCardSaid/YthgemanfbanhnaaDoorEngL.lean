/- An owner's place moved; cells stored; results' parts taken; what is owned given to all. -/
import Derived.Test.YthgemanfbanhnaaDoorEngK
namespace Go.Eng
open Go.RowKit (Below)
set_option linter.unusedVariables false
set_option linter.unusedSimpArgs false
variable {X : Ctx} {g : Nat → A}

/-! ### moving an owner -/
def redir (s d : Nat) : A → A
  | .ref r q off len => .ref (if r = s then d else r) q off len
  | .eptr r q i j => .eptr (if r = s then d else r) q i j
  | .pref r q off => .pref (if r = s then d else r) q off
  | .opt c a => .opt c (redir s d a)
  | a => a
theorem redir_ghost {s d : Nat} {a : A} (h : redir s d a = .ghost) : a = .ghost := by
  cases a with
  | ghost => rfl
  | t | sptr | opt | ref | eptr | pref => cases h
def aliasT (d : Nat) : T → A
  | .own _ _ es => .ref d none 0 es.length
  | .box _ _ => .pref d none 0
  | _ => .t .u
def moved (g : Nat → A) (s d : Nat) (t : T) : Nat → A := upd (upd (fun i => redir s d (g i)) s (aliasT d t)) d (.t t)

theorem Frm.relocate {N : Nat} {w : World} {tmps : Array Value} {c : Nat → Cnt} (hf : Frm N w g tmps c) {s d : Nat} {t : T} (hsz : d < tmps.size) (hds : d ≠ s) (hno : (g d).owner = false) (hg : g s = .t t) (hown : A.owner (.t t) = true) :
    Frm N w (moved g s d t) (tmps.setIfInBounds d (tmps.getD s undef)) (upd (upd c s (fun _ => 0)) d (c s)) := by
  have hsd : s ≠ d := fun e => hds e.symm
  have hcv : ∀ i b, upd (upd c s (fun _ => 0)) d (c s) i b = if i = d then c s b else if i = s then 0 else c i b := by
    intro i b; unfold upd; split
    · rfl
    · split <;> rfl
  have hF : ∀ b, (∀ j, c j b = 0) → ∀ j, upd (upd c s (fun _ => 0)) d (c s) j b = 0 := fun b hz j => by
    rw [hcv]; split
    · exact hz s
    · split
      · rfl
      · exact hz j
  have hrs := hf.rep s
  rw [hg] at hrs
  have hgd : moved g s d t d = .t t := upd_same _ _ _
  have hvd : (tmps.setIfInBounds d (tmps.getD s undef)).getD d undef = tmps.getD s undef := by rw [getD_set _ _ _ _ hsz, if_pos rfl]
  have hroot : ∀ r t1, g r = .t t1 → A.owner (.t t1) = true → moved g s d t (if r = s then d else r) = .t t1 ∧ (tmps.setIfInBounds d (tmps.getD s undef)).getD (if r = s then d else r) undef = tmps.getD r undef := by
    intro r t1 hr ho
    by_cases hrs : r = s
    · subst hrs; rw [if_pos rfl, hgd, hvd]; rw [hg] at hr; cases hr; exact ⟨rfl, rfl⟩
    · have hrd : r ≠ d := by rintro rfl; rw [hr] at hno; rw [ho] at hno; cases hno
      rw [if_neg hrs, getD_set _ _ _ _ hsz, if_neg hrd]
      refine ⟨?_, rfl⟩
      unfold moved
      rw [upd_ne _ _ hrd, upd_ne _ _ hrs, hr]; rfl
  refine ⟨fun i => ?_, fun i b => ?_, fun i j b hi hj => ?_, fun i b hb => ?_⟩
  · by_cases hi : i = d
    · subst hi
      rw [hgd, upd_same, hvd]
      exact TRep.mono (fun b _ hz => ⟨hF b hz, rfl⟩) (Nat.le_refl _) hrs (fun _ _ => rfl)
    · by_cases his : i = s
      · subst his
        have e1 : moved g i d t i = aliasT d t := by unfold moved; rw [upd_ne _ _ hi, upd_same]
        rw [e1, upd_ne _ _ hi, upd_same, getD_set _ _ _ _ hsz, if_neg hi]
        generalize hx : tmps.getD i undef = x at hrs hvd ⊢
        generalize c i = ci at hrs
        cases t with
        | own e sz es =>
          refine ⟨fun _ => rfl, _, e, sz, es, x, hgd, by rw [hvd]; exact ⟨rfl, rfl⟩, by omega, ?_⟩
          cases hrs with
          | ownnil => exact .inl ⟨rfl, rfl, rfl, rfl⟩
          | own _ _ _ b n cap cur c0 _ _ hn => exact .inr ⟨b, n, cap, 0, rfl, by rw [hn]; simp, Nat.zero_le _, fun _ => by simp⟩
        | box e cs =>
          cases hrs with
          | box _ _ b cur c0 _ _ _ _ _ => exact ⟨fun _ => rfl, _, e, cs, b, hgd, by rw [hvd]; exact ⟨rfl, rfl⟩, Nat.zero_le _, rfl⟩
        | _ => cases hown
      · have e1 : moved g s d t i = redir s d (g i) := by unfold moved; rw [upd_ne _ _ hi, upd_ne _ _ his]
        rw [e1, upd_ne _ _ hi, upd_ne _ _ his, getD_set _ _ _ _ hsz, if_neg hi]
        have h := hf.rep i
        generalize g i = a at h ⊢
        induction a with
        | opt q a ih => exact ⟨h.1, fun hq => ih (h.2.1 hq), h.2.2⟩
        | t t1 => exact TRep.mono (fun b _ hz => ⟨hF b hz, rfl⟩) (Nat.le_refl _) h (fun _ _ => rfl)
        | ref r q off len =>
          obtain ⟨hc, t1, e, sz, es, y0, k1, k2, k3, k4⟩ := h
          obtain ⟨q1, q2⟩ := hroot r t1 k1 (k2.owner rfl)
          exact ⟨hc, t1, e, sz, es, y0, q1, by rw [q2]; exact k2, k3, k4⟩
        | eptr r q i' j' =>
          obtain ⟨hc, t1, e, sz, es, b, n', cap, k1, k2, k3⟩ := h
          obtain ⟨q1, q2⟩ := hroot r t1 k1 (k2.owner rfl)
          exact ⟨hc, t1, e, sz, es, b, n', cap, q1, by rw [q2]; exact k2, k3⟩
        | pref r q off =>
          obtain ⟨hc, t1, e, cs, b, k1, k2, k3⟩ := h
          obtain ⟨q1, q2⟩ := hroot r t1 k1 (k2.owner rfl)
          exact ⟨hc, t1, e, cs, b, q1, by rw [q2]; exact k2, k3⟩
        | ghost => exact h
        | sptr cs =>
          obtain ⟨hc, a, vals, h1, h2, h3, h4, h5, h6, h7⟩ := h
          exact ⟨hc, a, vals, h1, h2, hF _ h3, h4, h5, h6.mono (fun b _ hz => ⟨hF b hz, rfl⟩) (Nat.le_refl _) (fun b hb => absurd hb (by simp)), h7⟩
  · rw [hcv]
    have := hf.one s b; have := hf.one i b
    split
    · omega
    · split <;> omega
  · rw [hcv] at hi hj
    by_cases i1 : i = d <;> by_cases j1 : j = d
    · rw [i1, j1]
    · rw [if_pos i1] at hi; rw [if_neg j1] at hj
      by_cases j2 : j = s
      · rw [if_pos j2] at hj; omega
      · rw [if_neg j2] at hj; exact absurd (hf.uniq s j b hi hj).symm j2
    · rw [if_pos j1] at hj; rw [if_neg i1] at hi
      by_cases i2 : i = s
      · rw [if_pos i2] at hi; omega
      · rw [if_neg i2] at hi; exact absurd (hf.uniq s i b hj hi).symm i2
    · rw [if_neg i1] at hi; rw [if_neg j1] at hj
      split at hi
      · omega
      · split at hj
        · omega
        · exact hf.uniq i j b hi hj
  · rw [hcv] at hb
    split at hb
    · exact hf.low s b hb
    · split at hb
      · omega
      · exact hf.low i b hb

theorem Inv.relocate {n : Nat} {Z : List Nat} {D : Nat → Prop} {gc : Cnt} {v0 : Nat → Value} {w0 w : World} {tmps : Array Value} (hI : Inv X n Z D gc v0 w0 g tmps w) {s d : Nat} {t : T} (hd : d < n) (hfix : ∀ i ∈ Z, (tmps.setIfInBounds d (tmps.getD s undef)).getD i undef = tmps.getD i undef) (hds : d ≠ s) (hno : (g d).owner = false) (hg : g s = .t t) (hown : A.owner (.t t) = true) :
    Inv X n Z D gc v0 w0 (moved g s d t) (tmps.setIfInBounds d (tmps.getD s undef)) w := by
  obtain ⟨c, hf, hbd⟩ := hI.frm
  have hsz : d < tmps.size := by rw [hI.size]; exact hd
  have hfrm := hf.relocate hsz hds hno hg hown
  have hcv : ∀ i b, upd (upd c s (fun _ => 0)) d (c s) i b = if i = d then c s b else if i = s then 0 else c i b := by
    intro i b; unfold upd; split
    · rfl
    · split <;> rfl
  refine hI.step hf hbd hfrm (by simp) hfix rfl rfl rfl (Nat.le_refl _) (fun _ _ => .inl rfl) (fun i b hb hgi => ?_) (fun i hi => ?_)
  rotate_left
  · by_cases hid : i = d
    · subst hid; unfold moved at hi; rw [upd_same] at hi; cases hi
    · by_cases his : i = s
      · subst his; unfold moved at hi; rw [upd_ne _ _ hid, upd_same] at hi
        cases t <;> cases hi
      · unfold moved at hi; rw [upd_ne _ _ hid, upd_ne _ _ his] at hi
        refine ⟨?_, fun b => by rw [hcv, if_neg hid, if_neg his]⟩
        exact redir_ghost hi
  rw [hcv] at hb
  split at hb
  · exact .inl ⟨s, hb, by rw [hg]; exact fun h => by cases h⟩
  · split at hb
    · omega
    · rename_i n1 n2
      refine .inl ⟨i, hb, fun e => hgi ?_⟩
      unfold moved; rw [upd_ne _ _ n1, upd_ne _ _ n2, e]; rfl

theorem step_move {n : Nat} {Z : List Nat} {o : Oper} {s d : Nat} {t : T} (ho : o.op = .assign (.tmp s)) (hdst : o.dst = some d) (hd : d < n ∧ d ∉ Z) (hds : d ≠ s) (hno : (g d).owner = false) (hg : g s = .t t) (hown : A.owner (.t t) = true) : Step X n Z g o (moved g s d t) := by
  intro D gc v0 w0 tmps ds w hI next Q hnext
  refine wp_of_run (v := tmps.getD s undef) (by unfold execOp; simp only [ho]; rfl) ?_
  rw [hdst]
  exact hnext _ _ (hI.relocate hd.1 (fun i hi => by rw [getD_set _ _ _ _ (by rw [hI.size]; exact hd.1), if_neg (by rintro rfl; exact hd.2 hi)]) hds hno hg hown)

/-! ### storing cells -/
theorem run_storeAt {P : Program} {w : World} {t : TypeId} {r : Bool} {m : Nat} (ht : tyRow P t = some (r, m)) {b o : Nat} {cur : Array Value} {e : TypeId} (hg : w.heap[b]? = some (.cells cur e (0, 0))) {v : Value} (hv : v.cells.size = m) (hfit : o + m ≤ cur.size) (hone : ∀ y ∈ v.cells.toList, y.oneCell' = true) :
    (Instr.storeAt t (.pointer (some ⟨b, o, none⟩)) v).run P w = .ok () (w.setRow b (placeT cur.toList o v.cells.toList).toArray) := by
  obtain ⟨d, i, hu, hi, _, his⟩ := tyRow_spec ht
  have hst := run_storeCells_at P b o e v.cells.toList 0 cur w hg (by rw [Array.length_toList, hv]; omega) hone
  rw [Nat.add_zero] at hst
  have hne : ¬ (v.cells.size ≠ i.size) := by omega
  simp only [Instr.storeAt, Instr.sureAddr, Sem.run_bind, Sem.run_pure, Result.andThen_ok, storeVar, sizeOf, typeInfo, run_program, hi, if_neg hne, hst]
  rfl

theorem run_unit {P : Program} {s : Sem Unit} {w w' : World} (h : s.run P w = .ok () w') : (do s; pure Next.skip : Sem Next).run P w = .ok .skip w' := by
  simp only [Sem.run_bind, h, Result.andThen_ok, Sem.run_pure]

theorem wp_of_skip {P : Program} {o : Oper} {a : Act} {w w' : World} (h : (execOp a.eval o).run P w = .ok .skip w') {next : Act → World → Prop} {Q : Exit → Act → World → Prop} (hn : next (a.put o.dst undef) w') : o.wp P a w next Q := by
  unfold Oper.wp; rw [h]; exact hn

theorem placeT_get {α : Type} (cs ts : List α) (off k : Nat) (h : k < off ∨ off + ts.length ≤ k) (hl : off + ts.length ≤ cs.length) : (placeT cs off ts)[k]? = cs[k]? := by
  unfold placeT
  have hm : (cs.take off).length = off := by rw [List.length_take]; omega
  rcases h with h | h
  · rw [List.append_assoc, List.getElem?_append_left (by omega), List.getElem?_take, if_pos h]
  · rw [List.getElem?_append_right (by rw [List.length_append, hm]; exact h), List.getElem?_drop, List.length_append, hm]
    congr 1; omega

theorem LRep.placed {w : World} {F : Nat → Prop} {cs ts : List T} {vs xs : List Value} {off : Nat} {c : Cnt} (h : LRep w F cs vs c) (k : LRep w F ts xs (fun _ => 0)) (hfit : off + ts.length ≤ cs.length) (hfl : ((cs.drop off).take ts.length).all T.flat = true) : LRep w F (placeT cs off ts) (placeT vs off xs) c := by
  have e1 : cs = cs.take off ++ cs.drop off := (List.take_append_drop off cs).symm
  rw [e1] at h
  obtain ⟨c1, c2, h1, h2, hc⟩ := h.split
  have hm : (cs.take off).length = off := by rw [List.length_take]; omega
  rw [hm] at h1 h2
  have e2 : cs.drop off = (cs.drop off).take ts.length ++ (cs.drop off).drop ts.length := (List.take_append_drop _ _).symm
  rw [e2] at h2
  obtain ⟨d1, d2, k1, k2, hd⟩ := h2.split
  have hm2 : ((cs.drop off).take ts.length).length = ts.length := by rw [List.length_take, List.length_drop]; omega
  rw [hm2] at k1 k2
  have hz := all_zero hfl k1
  unfold placeT
  rw [List.drop_drop, List.drop_drop] at k2
  rw [← k.length]
  refine ((h1.append k (fun _ => rfl)).append (k2.count (c' := d2) (fun _ => rfl)) (fun b => ?_))
  rw [hc, hd, hz]; omega


/-- Of one kind and length. -/
def alike : T → T → Prop
  | .own e sz es, .own e' sz' es' => e = e' ∧ sz = sz' ∧ es.length = es'.length
  | .box e cs, .box e' cs' => e = e' ∧ cs.length = cs'.length
  | _, _ => False

theorem Frm.stored {N : Nat} {w : World} {tmps : Array Value} {c : Nat → Cnt} (h : Frm N w g tmps c) {r b : Nat} {arr : Array Value} {t0 t1 : T} (hg : g r = .t t0) (hb : 0 < c r b)
    (hrep : TRep (w.setRow b arr) (fun b => ∀ j, c j b = 0) t1 (tmps.getD r undef) (c r))
    (hlook : ∀ q t2 x2, AtV w t0 (tmps.getD r undef) q t2 x2 → A.owner (.t t2) = true → ∃ t3, AtV (w.setRow b arr) t1 (tmps.getD r undef) q t3 x2 ∧ alike t2 t3) :
    Frm N (w.setRow b arr) (upd g r (.t t1)) tmps c := by
  have hS : w.heap.size ≤ (w.setRow b arr).heap.size := by simp [World.setRow]
  have hblk : ∀ k, k ≠ b → (w.setRow b arr).heap[k]? = w.heap[k]? := fun k hk => setRow_other w b k arr hk
  have hF : ∀ k, k < w.heap.size → (∀ j, c j k = 0) → (∀ j, c j k = 0) ∧ (w.setRow b arr).heap[k]? = w.heap[k]? := fun k _ hz => ⟨hz, hblk k (fun e => by have := hz r; rw [e] at this; omega)⟩
  have look : ∀ r' t2 q t x', g r' = .t t2 → AtV w t2 (tmps.getD r' undef) q t x' → A.owner (.t t) = true → ∃ t3 t4, upd g r (.t t1) r' = .t t3 ∧ AtV (w.setRow b arr) t3 (tmps.getD r' undef) q t4 x' ∧ alike t t4 := by
    intro r' t2 q t x' hgr ha ho
    by_cases hrr : r' = r
    · subst hrr
      rw [hg] at hgr; cases hgr
      obtain ⟨t3, k1, k2⟩ := hlook q t x' ha ho
      exact ⟨t1, t3, upd_same _ _ _, k1, k2⟩
    · refine ⟨t2, t, by rw [upd_ne _ _ hrr]; exact hgr, ?_, ?_⟩
      · have hr2 := h.rep r'
        rw [hgr] at hr2
        exact ha.mono hr2 (fun k hk => hblk k (fun e => hrr (h.uniq r' r k hk (by rw [e]; exact hb))))
      · cases t <;> first | (exact ⟨rfl, rfl, rfl⟩) | (exact ⟨rfl, rfl⟩) | cases ho
  refine ⟨fun i => ?_, h.one, h.uniq, h.low⟩
  by_cases hir : i = r
  · subst hir; rw [upd_same]; exact hrep
  · rw [upd_ne _ _ hir]
    have hK : ∀ k, 0 < c i k → (w.setRow b arr).heap[k]? = w.heap[k]? := fun k hk => hblk k (fun e => hir (h.uniq i r k hk (by rw [e]; exact hb)))
    have hi := h.rep i
    generalize g i = a at hi ⊢
    induction a with
    | opt q a ih => exact ⟨hi.1, fun hq => ih (hi.2.1 hq), hi.2.2⟩
    | t t => exact TRep.mono hF hS hi hK
    | ref r' q off len =>
      obtain ⟨hc, t2, e, sz, es, y0, k1, k2, k3, k4⟩ := hi
      obtain ⟨t3, t4, q1, q2, q3⟩ := look r' t2 q _ y0 k1 k2 rfl
      cases t4 with
      | own e' sz' es' => obtain ⟨rfl, rfl, q3⟩ := q3; exact ⟨hc, t3, e, sz, es', y0, q1, q2, by rw [← q3]; exact k3, k4⟩
      | _ => exact q3.elim
    | eptr r' q i' j' =>
      obtain ⟨hc, t2, e, sz, es, b', n', cap, k1, k2, k3, k4⟩ := hi
      obtain ⟨t3, t4, q1, q2, q3⟩ := look r' t2 q _ _ k1 k2 rfl
      cases t4 with
      | own e' sz' es' => obtain ⟨rfl, rfl, q3⟩ := q3; exact ⟨hc, t3, e, sz, es', b', n', cap, q1, q2, by rw [← q3]; exact k3, k4⟩
      | _ => exact q3.elim
    | pref r' q off =>
      obtain ⟨hc, t2, e, cs, b', k1, k2, k3, k4⟩ := hi
      obtain ⟨t3, t4, q1, q2, q3⟩ := look r' t2 q _ _ k1 k2 rfl
      cases t4 with
      | box e' cs' => obtain ⟨rfl, q3⟩ := q3; exact ⟨hc, t3, e, cs', b', q1, q2, by rw [← q3]; exact k3, k4⟩
      | _ => exact q3.elim
    | ghost => exact fun k hk => Nat.lt_of_lt_of_le (hi k hk) hS
    | sptr cs =>
      obtain ⟨hc, a, vals, h1, h2, h3, h4, h5, h6, h7⟩ := hi
      refine ⟨hc, a, vals, h1, h2, h3, Nat.lt_of_lt_of_le h4 hS, fun k y hk => ?_, h6.mono hF hS (fun b hb => absurd hb (by simp)), h7⟩
      rw [cell_eq_of_block (w := w) (by rw [block_add]; exact (hF _ h4 h3).2)]
      exact h5 k y hk

theorem setRow_world (w : World) (b : Nat) (arr : Array Value) : (w.setRow b arr).os = w.os ∧ (w.setRow b arr).tape = w.tape ∧ (w.setRow b arr).output = w.output ∧ (w.setRow b arr).heap.size = w.heap.size := ⟨rfl, rfl, rfl, by simp [World.setRow]⟩

theorem step_stored {n : Nat} {Z : List Nat} {o : Oper} {r b : Nat} {arr : Array Value} {t1 : T} {D : Nat → Prop} {gc : Cnt} {v0 : Nat → Value} {w0 w : World} {tmps : Array Value} {ds : List Deferred} (hdst : o.dst = none) (hI : Inv X n Z D gc v0 w0 g tmps w) {c : Nat → Cnt} (hf : Frm X.N w g tmps c) (hbd : (∀ i b, 0 < c i b → g i ≠ .ghost → D b ∨ w0.heap.size ≤ b) ∧ ∀ i, g i = .ghost → ∀ b, c i b = gc b) (hb : 0 < c r b) (hrg : g r ≠ .ghost)
    (hrun : (execOp (Act.eval ⟨tmps, ds⟩) o).run X.P w = .ok .skip (w.setRow b arr)) (hfrm : Frm X.N (w.setRow b arr) (upd g r (.t t1)) tmps c)
    {next : Act → World → Prop} {Q : Exit → Act → World → Prop} (hnext : ∀ tmps' w', Inv X n Z D gc v0 w0 (upd g r (.t t1)) tmps' w' → next ⟨tmps', ds⟩ w') : o.wp X.P ⟨tmps, ds⟩ w next Q := by
  refine wp_of_skip hrun ?_
  rw [hdst]
  obtain ⟨e1, e2, e3, e4⟩ := setRow_world w b arr
  refine hnext _ _ (hI.step hf hbd hfrm rfl (fun _ _ => rfl) e1 e2 e3 (by rw [e4]; exact Nat.le_refl _) (fun k hk => ?_) (fun i b hb hgi => .inl ⟨i, hb, fun e => ?_⟩) (fun i hi => ?_))
  rotate_left
  · by_cases hir : i = r
    · subst hir; exact hrg e
    · rw [upd_ne _ _ hir] at hgi; exact hgi e
  · by_cases hir : i = r
    · subst hir; rw [upd_same] at hi; cases hi
    · rw [upd_ne _ _ hir] at hi; exact ⟨hi, fun _ => rfl⟩
  by_cases e : k = b
  · subst e; exact .inr ⟨r, hb, hrg⟩
  · exact .inl (setRow_other w b k arr e)

/-- A store into a block that slot r owns. -/
theorem step_store_box {n : Nat} {Z : List Nat} {o : Oper} {t e : TypeId} {a v : Operand} {r off m : Nat} {rw_ : Bool} {cs : List T} {tv : T} (ho : o.op = .store t a v) (hdst : o.dst = none) (ha : rdp X g a) (hv : rdp X g v) (ea : rd X g a = .pref r none off) (hg : g r = .t (.box e cs)) (ev_ : rd X g v = .t tv)
    (hs : tv.solid = true) (ht : tyRow X.P t = some (rw_, m)) (hm : tv.cells.length = m) (hfit : off + m ≤ cs.length) (hfl : ((cs.drop off).take m).all T.flat = true) :
    Step X n Z g o (upd g r (.t (.box e (placeT cs off tv.cells)))) := by
  intro D gc v0 w0 tmps ds w hI next Q hnext
  obtain ⟨c, hf, hbd⟩ := hI.frm
  have ra := rd_rep (ds := ds) hI.glob hf a ha
  rw [ea] at ra
  obtain ⟨_, t0, e', cs', b, h1, h2, h3, h4⟩ := ra
  rw [hg] at h1; cases h1
  obtain ⟨h5, h6⟩ := h2
  cases h5
  have rv := rd_rep (ds := ds) hI.glob hf v hv
  rw [ev_] at rv
  obtain ⟨k1, k2⟩ := TRep.solid rv hs
  have hr := hf.rep r
  rw [hg, ← h6] at hr
  generalize hcr : c r = cr at hr
  cases hr with
  | box _ _ _ cur c0 _ hgb hl hone hc =>
    have hcur : cur.size = cs.length := by have := hl.length; simpa using this.symm
    have hvc : (Act.eval ⟨tmps, ds⟩ v).cells.size = m := by have := k1.length; rw [hm] at this; simpa using this.symm
    have hbp : 0 < c r b := by rw [hcr, hc]; simp; omega
    have hgb' : (w.setRow b (placeT cur.toList off (Act.eval ⟨tmps, ds⟩ v).cells.toList).toArray).heap[b]? = some (.cells (placeT cur.toList off (Act.eval ⟨tmps, ds⟩ v).cells.toList).toArray e (0, 0)) := setRow_heap w b cur _ e _ hgb
    have hF : ∀ k, k < w.heap.size → (∀ j, c j k = 0) → (∀ j, c j k = 0) ∧ (w.setRow b (placeT cur.toList off (Act.eval ⟨tmps, ds⟩ v).cells.toList).toArray).heap[k]? = w.heap[k]? := fun k _ hz => ⟨hz, setRow_other w b k _ (fun e => by have := hz r; rw [e] at this; omega)⟩
    have hS : w.heap.size ≤ (w.setRow b (placeT cur.toList off (Act.eval ⟨tmps, ds⟩ v).cells.toList).toArray).heap.size := by simp [World.setRow]
    refine step_stored (b := b) (arr := (placeT cur.toList off (Act.eval ⟨tmps, ds⟩ v).cells.toList).toArray) hdst hI hf hbd hbp (by rw [hg]; exact fun h => by cases h) ?_ (hf.stored hg hbp ?_ ?_) hnext
    · unfold execOp; simp only [ho, h4]
      exact run_unit (run_storeAt (o := off) ht hgb hvc (by omega) k2)
    · rw [← h6, hcr]
      refine .box e _ b _ c0 _ hgb' ?_ ?_ hc
      · have hpl := hl.placed (off := off) k1 (by rw [hm]; omega) (by rw [hm]; exact hfl)
        refine hpl.mono hF hS (fun k hk => setRow_other w b k _ (fun e => ?_))
        have h1 := hf.one r b
        rw [hcr, hc] at h1; simp at h1
        rw [e] at hk; omega
      · intro y hy
        rcases mem_placeT hy with hy | hy
        · exact hone y hy
        · exact k2 y hy
    · intro q t2 x2 hat ho2
      rw [← h6] at hat ⊢
      cases q with
      | none =>
        obtain ⟨rfl, rfl⟩ := hat
        exact ⟨_, ⟨rfl, rfl⟩, rfl, by rw [placeT_length _ _ _ (by omega)]⟩
      | some k =>
        rcases hat with ⟨e', cs', b', cur', hh, hx, hgb2, q1, q2⟩ | ⟨_, _, _, _, _, _, hh, _⟩
        · cases hh; cases hx
          rw [hgb] at hgb2; cases hgb2
          have hk : k < off ∨ off + m ≤ k := by
            rcases Nat.lt_or_ge k off with h | h
            · exact .inl h
            · rcases Nat.lt_or_ge k (off + m) with h' | h'
              · exfalso
                have : t2.flat = true := List.all_eq_true.1 hfl t2 (by
                  apply List.mem_of_getElem? (i := k - off)
                  rw [List.getElem?_take, if_pos (by omega), List.getElem?_drop, show off + (k - off) = k by omega]; exact q1)
                exact absurd ho2 (by cases t2 <;> simp_all [A.owner, T.flat])
              · exact .inr h'
          refine ⟨t2, .inl ⟨e, _, b, _, rfl, rfl, hgb', ?_, ?_⟩, ?_⟩
          · rw [placeT_get _ _ _ _ (by rw [hm]; exact hk) (by omega)]; exact q1
          · have hlen : (Act.eval ⟨tmps, ds⟩ v).cells.toList.length = m := by rw [Array.length_toList]; exact hvc
            rw [List.getElem?_toArray, placeT_get _ _ _ _ (by rw [hlen]; exact hk) (by rw [hlen, Array.length_toList]; omega), Array.getElem?_toList]; exact q2
          · cases t2 <;> first | (exact ⟨rfl, rfl, rfl⟩) | (exact ⟨rfl, rfl⟩) | (exact absurd ho2 (by simp [A.owner]))
        · cases hh


/-! ### storing into an element -/
def elemPut (t : T) (j : Nat) (ts : List T) : T :=
  match t with
  | .ag cs => .ag (placeT cs j ts)
  | _ => ts.headD .u

theorem flatMap_set {sz : Nat} : ∀ (es : List T) (i : Nat) (t t' : T), (∀ t ∈ es, t.cells.length = sz) → es[i]? = some t → t'.cells.length = sz →
    (es.set i t').flatMap T.cells = placeT (es.flatMap T.cells) (i * sz) t'.cells
  | [], i, t, t', _, h, _ => by simp at h
  | x :: xs, 0, t, t', hz, h, ht => by
    have h0 := hz x (by simp)
    simp only [List.set_cons_zero, List.flatMap_cons, placeT, Nat.zero_mul, List.take_zero, List.nil_append, Nat.zero_add]
    rw [ht, ← h0, List.drop_left]
  | x :: xs, i + 1, t, t', hz, h, ht => by
    have h0 := hz x (by simp)
    have ih := flatMap_set xs i t t' (fun t ht => hz t (by simp [ht])) (by simpa using h) ht
    simp only [List.set_cons_succ, List.flatMap_cons, ih, placeT]
    rw [show (i + 1) * sz = x.cells.length + i * sz by rw [Nat.succ_mul, h0]; omega, List.take_length_add_append, show x.cells.length + i * sz + t'.cells.length = x.cells.length + (i * sz + t'.cells.length) by omega, List.drop_length_add_append]
    simp

theorem placeT_placeT {α : Type} (cs ds ts : List α) (o j : Nat) (hd : o + ds.length ≤ cs.length) (hds : ds = (cs.drop o).take ds.length) (hj : j + ts.length ≤ ds.length) : placeT cs o (placeT ds j ts) = placeT cs (o + j) ts := by
  have hl := placeT_length ds j ts hj
  apply List.ext_getElem?
  intro k
  have hget : ∀ m, m < ds.length → ds[m]? = cs[o + m]? := fun m hm => by
    rw [hds, List.getElem?_take, if_pos hm, List.getElem?_drop]
  by_cases h1 : k < o + j ∨ o + j + ts.length ≤ k
  · rw [placeT_get cs ts (o + j) k h1 (by omega)]
    by_cases h2 : k < o ∨ o + (placeT ds j ts).length ≤ k
    · rw [placeT_get _ _ _ _ h2 (by omega)]
    · have e : (placeT cs o (placeT ds j ts))[k]? = (placeT ds j ts)[k - o]? := by
        unfold placeT
        rw [List.append_assoc, List.getElem?_append_right (by rw [List.length_take]; omega), List.length_take, Nat.min_eq_left (by omega)]
        rw [List.getElem?_append_left (by have := hl; unfold placeT at this; omega)]
      rw [e, placeT_get ds ts j (k - o) (by omega) hj, hget _ (by omega)]
      congr 1; omega
  · have e : ∀ (cs : List α) (o : Nat) (ts : List α) (k : Nat), o ≤ k → k < o + ts.length → o + ts.length ≤ cs.length → (placeT cs o ts)[k]? = ts[k - o]? := by
      intro cs o ts k h1 h2 h3
      unfold placeT
      rw [List.append_assoc, List.getElem?_append_right (by rw [List.length_take]; omega), List.length_take, Nat.min_eq_left (by omega), List.getElem?_append_left (by omega)]
    rw [e cs (o + j) ts k (by omega) (by omega) (by omega), e cs o _ k (by omega) (by omega) (by omega), e ds j ts (k - o) (by omega) (by omega) hj]
    congr 1; omega

theorem cells_take {sz : Nat} : ∀ (es : List T) (i : Nat) (t : T), (∀ t ∈ es, t.cells.length = sz) → es[i]? = some t → t.cells = ((es.flatMap T.cells).drop (i * sz)).take sz ∧ i * sz + sz ≤ (es.flatMap T.cells).length
  | [], i, t, _, h => by simp at h
  | x :: xs, 0, t, hz, h => by
    have h0 := hz x (by simp)
    simp at h; subst h
    simp [← h0]
  | x :: xs, i + 1, t, hz, h => by
    have h0 := hz x (by simp)
    obtain ⟨k1, k2⟩ := cells_take xs i t (fun t ht => hz t (by simp [ht])) (by simpa using h)
    rw [List.flatMap_cons, show (i + 1) * sz = x.cells.length + i * sz by rw [Nat.succ_mul, h0]; omega, List.drop_length_add_append, List.length_append]
    exact ⟨k1, by omega⟩

theorem placeT_take {α : Type} (l ts : List α) (o n : Nat) (h : o + ts.length ≤ n) (hn : n ≤ l.length) : (placeT l o ts).take n = placeT (l.take n) o ts := by
  unfold placeT
  have h1 : (l.take o ++ ts).length = o + ts.length := by rw [List.length_append, List.length_take, Nat.min_eq_left (by omega)]
  rw [List.take_append, h1, List.take_of_length_le (by rw [h1]; exact h), List.take_take, Nat.min_eq_left (by omega), List.drop_take]

/-- A store into an element of what slot r owns. -/
theorem step_store_elem {n : Nat} {Z : List Nat} {o : Oper} {t e : TypeId} {a v : Operand} {r i j m sz : Nat} {rw_ : Bool} {es : List T} {tv el : T} (ho : o.op = .store t a v) (hdst : o.dst = none) (ha : rdp X g a) (hv : rdp X g v) (ea : rd X g a = .eptr r none i j) (hg : g r = .t (.own e sz es)) (ev_ : rd X g v = .t tv)
    (hs : tv.solid = true) (ht : tyRow X.P t = some (rw_, m)) (hm : tv.cells.length = m) (hel : es[i]? = some el) (hfit : j + m ≤ sz) (hfl : ((el.cells.drop j).take m).all T.flat = true) (hput : (elemPut el j tv.cells).cells = placeT el.cells j tv.cells) :
    Step X n Z g o (upd g r (.t (.own e sz (es.set i (elemPut el j tv.cells))))) := by
  intro D gc v0 w0 tmps ds w hI next Q hnext
  obtain ⟨c, hf, hbd⟩ := hI.frm
  have ra := rd_rep (ds := ds) hI.glob hf a ha
  rw [ea] at ra
  obtain ⟨_, t0, e', sz', es', b, nn, cap, h1, h2, h3, h3', h4⟩ := ra
  rw [hg] at h1; cases h1
  obtain ⟨h5, h6⟩ := h2
  cases h5
  have rv := rd_rep (ds := ds) hI.glob hf v hv
  rw [ev_] at rv
  obtain ⟨k1, k2⟩ := TRep.solid rv hs
  have hr := hf.rep r
  rw [hg, ← h6] at hr
  generalize hcr : c r = cr at hr
  cases hr with
  | own _ _ _ _ _ _ cur c0 _ hgb hn hcap hmx hcur hz hl hone hc =>
    obtain ⟨q1, q2⟩ := cells_take es i el hz hel
    have helen := hz el (List.mem_of_getElem? hel)
    have hflen : (es.flatMap T.cells).length = nn * sz := by
      have h0 := hl.length
      have h1 : cur.toList.length = cap * sz := by rw [Array.length_toList, hcur]
      rw [List.length_take, h1, Nat.min_eq_left (Nat.mul_le_mul_right _ hcap)] at h0; exact h0
    have hle2 : nn * sz ≤ cap * sz := Nat.mul_le_mul_right _ hcap
    have hvc : (Act.eval ⟨tmps, ds⟩ v).cells.size = m := by have := k1.length; rw [hm] at this; simpa using this.symm
    have hvl : (Act.eval ⟨tmps, ds⟩ v).cells.toList.length = m := by rw [Array.length_toList]; exact hvc
    have hbp : 0 < c r b := by rw [hcr, hc]; simp; omega
    have hfit2 : i * sz + j + m ≤ cur.size := by rw [hcur]; omega
    generalize harr : (placeT cur.toList (i * sz + j) (Act.eval ⟨tmps, ds⟩ v).cells.toList).toArray = arr
    have harrl : arr.toList = placeT cur.toList (i * sz + j) (Act.eval ⟨tmps, ds⟩ v).cells.toList := by rw [← harr]
    have hgb' : (w.setRow b arr).heap[b]? = some (.cells arr e (0, 0)) := setRow_heap w b cur _ e _ hgb
    have hF : ∀ k, k < w.heap.size → (∀ j, c j k = 0) → (∀ j, c j k = 0) ∧ (w.setRow b arr).heap[k]? = w.heap[k]? := fun k _ hz => ⟨hz, setRow_other w b k _ (fun e => by have := hz r; rw [e] at this; omega)⟩
    have hS : w.heap.size ≤ (w.setRow b arr).heap.size := by simp [World.setRow]
    have hz' : ∀ t ∈ es.set i (elemPut el j tv.cells), t.cells.length = sz := fun t ht => by
      rcases List.mem_or_eq_of_mem_set ht with ht | ht
      · exact hz t ht
      · rw [ht, hput, placeT_length _ _ _ (by omega)]; exact helen
    have hcells : (es.set i (elemPut el j tv.cells)).flatMap T.cells = placeT (es.flatMap T.cells) (i * sz + j) tv.cells := by
      rw [flatMap_set es i el _ hz hel (by rw [hput, placeT_length _ _ _ (by omega)]; exact helen), hput, placeT_placeT _ _ _ _ _ (by omega) (by rw [helen]; exact q1) (by omega)]
    have htake : arr.toList.take (nn * sz) = placeT (cur.toList.take (nn * sz)) (i * sz + j) (Act.eval ⟨tmps, ds⟩ v).cells.toList := by
      rw [harrl]
      exact placeT_take _ _ _ _ (by rw [hvl]; omega) (by rw [Array.length_toList, hcur]; exact hle2)
    have harrs : arr.size = cap * sz := by
      have : arr.toList.length = cur.size := by rw [harrl, placeT_length _ _ _ (by rw [hvl, Array.length_toList]; exact hfit2), Array.length_toList]
      rw [Array.length_toList] at this; rw [this, hcur]
    refine step_stored (b := b) (arr := arr) hdst hI hf hbd hbp (by rw [hg]; exact fun h => by cases h) ?_ (hf.stored hg hbp ?_ ?_) hnext
    · unfold execOp; simp only [ho, h4]
      rw [← harr]
      exact run_unit (run_storeAt (o := i * sz + j) ht hgb hvc hfit2 k2)
    · rw [← h6, hcr]
      refine .own e sz _ b nn cap arr c0 _ hgb' (by rw [List.length_set]; exact hn) hcap hmx harrs hz' ?_ ?_ hc
      · rw [hcells, htake]
        have hpl := hl.placed (off := i * sz + j) k1 (by rw [hm]; omega) (by
          rw [hm]
          have e1 : ((es.flatMap T.cells).drop (i * sz + j)).take m = (el.cells.drop j).take m := by
            rw [q1, List.drop_take, List.drop_drop, List.take_take, Nat.min_eq_left (by omega)]
          rw [e1]; exact hfl)
        refine hpl.mono hF hS (fun k hk => setRow_other w b k _ (fun e => ?_))
        have h1 := hf.one r b
        rw [hcr, hc] at h1; simp at h1
        rw [e] at hk; omega
      · rw [htake]
        intro y hy
        rcases mem_placeT hy with hy | hy
        · exact hone y hy
        · exact k2 y hy
    · intro q t2 x2 hat ho2
      rw [← h6] at hat ⊢
      cases q with
      | none =>
        obtain ⟨rfl, rfl⟩ := hat
        exact ⟨_, ⟨rfl, rfl⟩, rfl, rfl, by rw [List.length_set]⟩
      | some k =>
        rcases hat with ⟨_, _, _, _, hh, _⟩ | ⟨e', es', b', n', cap', cur', hh, hx, hgb2, p1, p2, p3, p4, p5⟩
        · cases hh
        · cases hh; cases hx
          rw [hgb] at hgb2; cases hgb2
          have hm1 : m ≤ 1 := by omega
          have hel1 : el.cells = [el] := p3 el (List.mem_of_getElem? hel)
          have hnag : ∀ cs, el ≠ .ag cs := by
            rintro cs rfl
            have h0 : cs = [T.ag cs] := hel1
            have := congrArg (SizeOf.sizeOf : List T → Nat) h0
            simp at this
            omega
          have hput2 : elemPut el j tv.cells = tv.cells.headD .u := by
            cases el <;> first | rfl | exact absurd rfl (hnag _)
          rw [hput2, hel1] at hput
          have hsel : (tv.cells.headD .u).cells = [tv.cells.headD .u] ∧ (m = 0 → el = .u) := by
            cases htv : tv.cells with
            | nil =>
              refine ⟨rfl, fun _ => ?_⟩
              rw [htv] at hput
              have h0 : placeT [el] j ([] : List T) = [el] := by unfold placeT; simp
              rw [h0] at hput
              exact (List.cons.inj hput).1.symm
            | cons c0 rest =>
              rw [htv] at hm hput
              simp only [List.length_cons] at hm
              have h1 : rest = [] := List.eq_nil_of_length_eq_zero (by omega)
              subst h1
              have hj : j = 0 := by simp at hm; omega
              subst hj
              exact ⟨hput, fun h => by omega⟩
          have hk : k ≠ i := by
            rintro rfl
            rw [p1] at hel; cases hel
            rcases Nat.eq_zero_or_pos m with h | h
            · rw [hsel.2 h] at ho2; cases ho2
            · have hj : j = 0 := by omega
              subst hj
              rw [hel1, show m = 1 by omega] at hfl
              simp at hfl
              exact absurd ho2 (by cases el <;> simp_all [A.owner, T.flat])
          refine ⟨t2, .inr ⟨e, _, b, nn, cap, arr, rfl, rfl, hgb', by rw [List.getElem?_set_ne (fun e => hk e.symm)]; exact p1, p2, fun t ht => ?_, p4, ?_⟩, ?_⟩
          · rcases List.mem_or_eq_of_mem_set ht with ht | ht
            · exact p3 t ht
            · rw [ht, hput2]; exact hsel.1
          · rw [← Array.getElem?_toList, harrl, placeT_get _ _ _ _ (by rw [hvl]; omega) (by rw [hvl, Array.length_toList]; exact hfit2), Array.getElem?_toList]; exact p5
          · cases t2 <;> first | (exact ⟨rfl, rfl, rfl⟩) | (exact ⟨rfl, rfl⟩) | (exact absurd ho2 (by simp [A.owner]))

end Go.Eng
