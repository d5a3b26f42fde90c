/- Reading: texts and slices cut, lengths, places, loads, fields. -/
import Derived.Test.YthgemanfbanhnaaDoorEngE
namespace Go.Eng
open Go.RowKit (Below)
variable {X : Ctx} {g : Nat → A}

/-! ### What lies behind a place -/
def root (g : Nat → A) (r : Nat) : Option Nat → Option T
  | none => match g r with
    | .t t => some t
    | _ => none
  | some k => match g r with
    | .t (.box _ cs) => cs[k]?
    | .t (.own _ 1 es) => es[k]?
    | _ => none

theorem root_of {w : World} {r : Nat} {t0 t : T} {x0 x : Value} {p : Option Nat} (h1 : g r = .t t0) (h2 : AtV w t0 x0 p t x) : root g r p = some t := by
  cases p with
  | none => simp only [root, h1]; rw [h2.1]
  | some k =>
    rcases h2 with ⟨e, cs, b, cur, rfl, _, _, h, _⟩ | ⟨e, es, b, n, cap, cur, rfl, _, _, h, _⟩ <;> simp only [root, h1] <;> exact h

theorem flatMap_cells_one (es : List T) (h : ∀ t ∈ es, t.cells = [t]) : es.flatMap T.cells = es := by
  induction es with
  | nil => rfl
  | cons t ts ih => simp only [List.flatMap_cons, h t (by simp), ih (fun t ht => h t (by simp [ht]))]; rfl

theorem AtV.rep {w : World} {F : Nat → Prop} {t0 t : T} {x0 x : Value} {p : Option Nat} {c : Cnt} (h : AtV w t0 x0 p t x) (hr : TRep w F t0 x0 c) : ∃ d, TRep w F t x d ∧ ∀ b, d b ≤ c b := by
  cases p with
  | none => obtain ⟨rfl, rfl⟩ := h; exact ⟨c, hr, fun _ => Nat.le_refl _⟩
  | some k =>
    rcases h with ⟨e, cs, b, cur, rfl, rfl, hg, h1, h2⟩ | ⟨e, es, b, n, cap, cur, rfl, rfl, hg, h1, h2, h3, h4, h5⟩
    · cases hr with
      | box _ _ _ cur' c0 _ hg' hl _ hc =>
        rw [hg] at hg'; cases hg'
        obtain ⟨y, d, hy, hd, hle⟩ := hl.get k t h1
        rw [Array.getElem?_toList] at hy; rw [h2] at hy; cases hy
        exact ⟨d, hd, fun b => by rw [hc]; have := hle b; omega⟩
    · cases hr with
      | own _ _ _ _ _ _ cur' c0 _ hg' hn hcap hm hcur hz hl _ hc =>
        rw [hg] at hg'; cases hg'
        rw [flatMap_cells_one es h3] at hl
        obtain ⟨y, d, hy, hd, hle⟩ := hl.get k t h1
        rw [List.getElem?_take, if_pos (by omega), Array.getElem?_toList, h5] at hy; cases hy
        exact ⟨d, hd, fun b => by rw [hc]; have := hle b; omega⟩

/-- The cells behind a pointer. -/
def cellsAt (g : Nat → A) : A → Option (List T)
  | .sptr cs => some cs
  | .eptr r p i j => match root g r p with
    | some (.own _ _ es) => some ((es.getD i .u).cells.drop j)
    | _ => none
  | .pref r p off => match root g r p with
    | some (.box _ cs) => some (cs.drop off)
    | _ => none
  | _ => none

theorem addr_add (b o k : Nat) : (⟨b, o, none⟩ : Addr).add k = ⟨b, o + k, none⟩ := by unfold Addr.add; split <;> simp_all

theorem cell_at {w : World} {b : Nat} {cur : Array Value} {e : TypeId} {f : Nat × Nat} (h : w.heap[b]? = some (.cells cur e f)) (o : Nat) : w.cell? ⟨b, o, none⟩ = cur[o]? := by
  simp [World.cell?, h]

/-- The j-th element of a row of elements of one size. -/
theorem row_elem {w : World} {F : Nat → Prop} {es : List T} {sz : Nat} {xs : List Value} {c : Cnt} (hl : LRep w F (es.flatMap T.cells) xs c) (hz : ∀ t ∈ es, t.cells.length = sz) (i : Nat) (t : T) (ht : es[i]? = some t) :
    ∃ d, LRep w F t.cells ((xs.drop (i * sz)).take sz) d ∧ (∀ b, d b ≤ c b) ∧ i * sz + sz ≤ xs.length := by
  induction es generalizing xs c i with
  | nil => simp at ht
  | cons t0 ts ih =>
    rw [List.flatMap_cons] at hl
    obtain ⟨c1, c2, h1, h2, hc⟩ := hl.split
    have hlen := hl.length
    rw [List.length_append] at hlen
    have h0 : t0.cells.length = sz := hz t0 (by simp)
    cases i with
    | zero =>
      simp at ht; subst ht
      refine ⟨c1, ?_, fun b => by rw [hc]; omega, by omega⟩
      simpa [h0] using h1
    | succ i =>
      obtain ⟨d, k1, k2, k3⟩ := ih h2 (fun t ht => hz t (by simp [ht])) i (by simpa using ht)
      refine ⟨d, ?_, fun b => by rw [hc]; have := k2 b; omega, ?_⟩
      · rw [h0, List.drop_drop] at k1
        rw [show (i + 1) * sz = sz + i * sz by rw [Nat.succ_mul]; omega]; exact k1
      · rw [h0, List.length_drop] at k3
        rw [Nat.succ_mul]; omega

theorem LRep.drop {w : World} {F : Nat → Prop} {ts : List T} {xs : List Value} {c : Cnt} (h : LRep w F ts xs c) (n : Nat) : ∃ d, LRep w F (ts.drop n) (xs.drop n) d ∧ ∀ b, d b ≤ c b := by
  induction ts generalizing xs c n with
  | nil => cases h with | nil _ hc => exact ⟨c, by simpa using .nil _ hc, fun _ => Nat.le_refl _⟩
  | cons t ts ih =>
    cases n with
    | zero => exact ⟨c, by simpa using h, fun _ => Nat.le_refl _⟩
    | succ n =>
      cases h with
      | cons _ _ x xs c1 c2 _ h1 h2 hc =>
        obtain ⟨d, k1, k2⟩ := ih h2 n
        exact ⟨d, by simpa using k1, fun b => by rw [hc]; have := k2 b; omega⟩
theorem LRep.take {w : World} {F : Nat → Prop} {ts : List T} {xs : List Value} {c : Cnt} (h : LRep w F ts xs c) (n : Nat) : ∃ d, LRep w F (ts.take n) (xs.take n) d ∧ ∀ b, d b ≤ c b := by
  induction ts generalizing xs c n with
  | nil => cases h with | nil _ hc => exact ⟨c, by simpa using .nil _ hc, fun _ => Nat.le_refl _⟩
  | cons t ts ih =>
    cases n with
    | zero => exact ⟨fun _ => 0, by simpa using .nil _ (fun _ => rfl), fun _ => Nat.zero_le _⟩
    | succ n =>
      cases h with
      | cons _ _ x xs c1 c2 _ h1 h2 hc =>
        obtain ⟨d, k1, k2⟩ := ih h2 n
        exact ⟨fun b => c1 b + d b, by simpa using .cons _ _ _ _ c1 d _ h1 k1 (fun _ => rfl), fun b => by rw [hc]; have := k2 b; dsimp only; omega⟩

theorem cellsAt_rep {w : World} {tmps : Array Value} {c : Nat → Cnt} {N : Nat} (hf : Frm N w g tmps c) {a : A} {x : Value} (h : ARep w (fun b => ∀ j, c j b = 0) g tmps a x (fun _ => 0)) {cs : List T} (hc : cellsAt g a = some cs) :
    ∃ (ad : Addr) (vals : List Value) (d : Cnt), x = .pointer (some ad) ∧ ad.spot = none ∧ (∀ k y, vals[k]? = some y → w.cell? (ad.add k) = some y) ∧ LRep w (fun b => ∀ j, c j b = 0) cs vals d ∧ ∀ y ∈ vals, y.oneCell' = true := by
  cases a with
  | t | ref | ghost | opt => simp [cellsAt] at hc
  | sptr cs' =>
    simp only [cellsAt, Option.some.injEq] at hc; subst hc
    obtain ⟨_, ad, vals, h1, h2, _, _, h3, h4, h5⟩ := h
    exact ⟨ad, vals, _, h1, h2, h3, h4, h5⟩
  | pref r p off =>
    obtain ⟨_, t0, e, bs, b, h1, h2, h3, rfl⟩ := h
    simp only [cellsAt, root_of h1 h2, Option.some.injEq] at hc
    subst hc
    have hr := hf.rep r
    rw [h1] at hr
    obtain ⟨d, hd, _⟩ := h2.rep hr
    cases hd with
    | box _ _ _ cur c0 _ hg hl hone _ =>
      obtain ⟨d', k1, _⟩ := hl.drop off
      refine ⟨⟨b, off, none⟩, _, d', rfl, rfl, fun k y hk => ?_, k1, fun y hy => hone y (List.mem_of_mem_drop hy)⟩
      rw [addr_add, cell_at hg, ← Array.getElem?_toList]
      rwa [List.getElem?_drop] at hk
  | eptr r p i j =>
    obtain ⟨_, t0, e, sz, es, b, n, cap, h1, h2, h3, h4, rfl⟩ := h
    simp only [cellsAt, root_of h1 h2, Option.some.injEq] at hc
    have hr := hf.rep r
    have ht : es[i]? = some (es.getD i .u) := by rw [List.getD_eq_getElem?_getD, List.getElem?_eq_getElem h3]; rfl
    generalize es.getD i .u = t at ht hc
    · subst hc
      rw [h1] at hr
      obtain ⟨d, hd, _⟩ := h2.rep hr
      cases hd with
      | own _ _ _ _ _ _ cur c0 _ hg hn hcap hm hcur hz hl hone _ =>
        obtain ⟨d1, k1, _, k3⟩ := row_elem hl hz i t ht
        obtain ⟨d2, k4, _⟩ := k1.drop j
        refine ⟨⟨b, i * sz + j, none⟩, _, d2, rfl, rfl, fun k y hk => ?_, k4, fun y hy => hone y (List.mem_of_mem_drop (List.mem_of_mem_take (List.mem_of_mem_drop hy)))⟩
        rw [addr_add, cell_at hg, ← Array.getElem?_toList]
        rw [List.getElem?_drop, List.getElem?_take] at hk
        split at hk
        · rw [List.getElem?_drop, List.getElem?_take] at hk
          split at hk
          · rw [show i * sz + j + k = i * sz + (j + k) by omega]; exact hk
          · cases hk
        · cases hk

theorem addr_add_zero (a : Addr) : a.add 0 = a := by simp [Addr.add]

/-- A load of one cell. -/
theorem good_load {o : Oper} {t : TypeId} {x : Operand} {c0 : T} {cs : List T} {n : Nat} (ho : o.op = .load t x) (hx : rdp X g x) (ec : cellsAt g (rd X g x) = some (c0 :: cs)) (ht : tyRow X.P t = some (false, n)) (hfl : c0.flat = true) :
    Good X g o (.t c0) :=
  Good.of_run fun tmps ds w c hG hf => by
    obtain ⟨d, i, hu, hi, hd, hn⟩ := tyRow_spec ht
    obtain ⟨ad, vals, dc, e1, e2, e3, e4, e5⟩ := cellsAt_rep hf (rd_rep (ds := ds) hG hf x hx) ec
    cases e4 with
    | cons _ _ y ys c1 c2 _ k1 k2 hc =>
      refine ⟨y, ?_, TRep.zeroed k1 hfl⟩
      have hcell := e3 0 y (by simp)
      rw [addr_add_zero] at hcell
      have hagg : (isAgg t).run X.P w = .ok false w := by
        unfold isAgg
        rw [Sem.run_bind, run_underlying hu w]
        cases d <;> first | rfl | cases hd
      unfold execOp; simp only [ho]
      refine run_val ?_
      rw [e1]
      simp [Instr.loadAt, Instr.sureAddr, loadVar, hagg, hcell]

/-- A load of a row. -/
theorem good_load_row {o : Oper} {t : TypeId} {x : Operand} {cs : List T} {n : Nat} (ho : o.op = .load t x) (hx : rdp X g x) (ec : cellsAt g (rd X g x) = some cs) (ht : tyRow X.P t = some (true, n)) (hn : n ≤ cs.length) (hfl : (cs.take n).all T.flat = true) :
    Good X g o (.t (.ag (cs.take n))) :=
  Good.of_run fun tmps ds w c hG hf => by
    obtain ⟨d, i, hu, hi, hd, hin⟩ := tyRow_spec ht
    obtain ⟨ad, vals, dc, e1, e2, e3, e4, e5⟩ := cellsAt_rep hf (rd_rep (ds := ds) hG hf x hx) ec
    obtain ⟨d1, k1, _⟩ := e4.take n
    have hvl : (vals.take n).length = n := by rw [← k1.length, List.length_take]; omega
    have hz : ∀ (ts : List T) (xs : List Value) (c1 : Cnt), ts.all T.flat = true → LRep w (fun b => ∀ j, c j b = 0) ts xs c1 → ∀ b, c1 b = 0 := by
      intro ts
      induction ts with
      | nil => intro xs c1 _ h; cases h; assumption
      | cons t ts ih =>
        intro xs c1 hf h b
        simp only [List.all_cons, Bool.and_eq_true] at hf
        cases h with
        | cons _ _ _ _ d1 d2 _ q1 q2 hc => rw [hc, q1.zero hf.1, ih _ _ hf.2 q2]
    refine ⟨.agg (vals.take n).toArray, ?_, .ag _ _ _ (by simpa using k1.count (fun b => (hz _ _ _ hfl k1 b).symm)) (fun y hy => e5 y (List.mem_of_mem_take (by simpa using hy))) (fun _ => rfl)⟩
    unfold execOp; simp only [ho]
    refine run_val ?_
    rw [e1]
    obtain ⟨blk, off, spot⟩ := ad
    simp only at e2; subst e2
    refine run_loadAt_mid w blk off t (vals.take n) d (fun j v hj => ?_) hu hd (by rw [hi, hvl]; simp [hin])
    rw [List.getElem?_take] at hj
    split at hj
    · have := e3 j v hj; rwa [addr_add] at this
    · cases hj

end Go.Eng
