/- The abstract frame: what stands in each slot; the invariant that ties it to the machine's frame and memory. -/
import Derived.Test.YthgemanfbanhnaaDoorEngA
namespace Go.Eng
open Go.RowKit (Below)

/-- What a slot holds: a tree; a view of the slice that another slot (or its k-th part) owns; a pointer at an element of such a slice, into such a block; a pointer at cells that nobody writes. 'ghost': blocks that this frame may not see. 'opt': that, if the Bool is true. -/
inductive A where
  | t (x : T)
  | ref (r : Nat) (p : Option Nat) (off len : Nat)
  | eptr (r : Nat) (p : Option Nat) (i j : Nat)
  | pref (r : Nat) (p : Option Nat) (off : Nat)
  | sptr (cs : List T)
  | ghost
  | opt (c : Bool) (a : A)
  deriving Inhabited

/-- The program and what is known of its variables. -/
structure Ctx where
  P : Program
  N : Nat
  G : World → Prop
  gl : Nat → Option (List T)
  hN : ∀ w, G w → N ≤ w.heap.size
  hG : ∀ w w', (∀ b, b < N → w'.heap[b]? = w.heap[b]?) → w.heap.size ≤ w'.heap.size → G w → G w'
  hgl : ∀ g cs, gl g = some cs → g < N ∧ ∀ w F, G w → (∀ b, b < N → F b) → ∃ vals : List Value, (∀ k x, vals[k]? = some x → w.cell? ⟨g, k, none⟩ = some x) ∧ LRep w F cs vals (fun _ => 0) ∧ ∀ y ∈ vals, y.oneCell' = true

def upd {α : Type} (g : Nat → α) (d : Nat) (x : α) : Nat → α := fun i => if i = d then x else g i
theorem upd_same {α : Type} (g : Nat → α) (d : Nat) (x : α) : upd g d x d = x := by simp [upd]
theorem upd_ne {α : Type} (g : Nat → α) {d i : Nat} (x : α) (h : i ≠ d) : upd g d x i = g i := by simp [upd, h]

/-- The tree t at the value x has the tree t', with the value x', at the place p. -/
def AtV (w : World) (t : T) (x : Value) : Option Nat → T → Value → Prop
  | none, t', x' => t' = t ∧ x' = x
  | some k, t', x' =>
    (∃ e cs g cur, t = .box e cs ∧ x = .pointer (some ⟨g, 0, none⟩) ∧ w.heap[g]? = some (.cells cur e (0, 0)) ∧ cs[k]? = some t' ∧ cur[k]? = some x') ∨
    (∃ e es g n cap cur, t = .own e 1 es ∧ x = .slice (some ⟨g, 0, none⟩) n cap ∧ w.heap[g]? = some (.cells cur e (0, 0)) ∧ es[k]? = some t' ∧ t'.cells = [t'] ∧ (∀ t ∈ es, t.cells = [t]) ∧ k < n ∧ cur[k]? = some x')

/-- The value x looks at the elements from off on, len of them, of the slice x0. -/
def View (sz off len : Nat) (x0 x : Value) : Prop :=
  (x0 = .slice none 0 0 ∧ x = .slice none 0 0 ∧ len = 0 ∧ off = 0) ∨
  ∃ g n cap o, x0 = .slice (some ⟨g, 0, none⟩) n cap ∧ x = .slice (some ⟨g, o, none⟩) len (cap - off) ∧ off ≤ cap ∧ ((0 < len ∨ off = 0) → o = off * sz)

def ARep (w : World) (F : Nat → Prop) (g : Nat → A) (tmps : Array Value) : A → Value → Cnt → Prop
  | .t t, x, c => TRep w F t x c
  | .ref r p off len, x, c => (∀ b, c b = 0) ∧ ∃ t0 e sz es x0, g r = .t t0 ∧ AtV w t0 (tmps.getD r undef) p (.own e sz es) x0 ∧ off + len ≤ es.length ∧ View sz off len x0 x
  | .eptr r p i j, x, c => (∀ b, c b = 0) ∧ ∃ t0 e sz es b n cap, g r = .t t0 ∧ AtV w t0 (tmps.getD r undef) p (.own e sz es) (.slice (some ⟨b, 0, none⟩) n cap) ∧ i < es.length ∧ j < sz ∧ x = .pointer (some ⟨b, i * sz + j, none⟩)
  | .pref r p off, x, c => (∀ b, c b = 0) ∧ ∃ t0 e cs b, g r = .t t0 ∧ AtV w t0 (tmps.getD r undef) p (.box e cs) (.pointer (some ⟨b, 0, none⟩)) ∧ off ≤ cs.length ∧ x = .pointer (some ⟨b, off, none⟩)
  | .sptr cs, x, c => (∀ b, c b = 0) ∧ ∃ (a : Addr) (vals : List Value), x = .pointer (some a) ∧ a.spot = none ∧ F a.block ∧ a.block < w.heap.size ∧ (∀ k y, vals[k]? = some y → w.cell? (a.add k) = some y) ∧ LRep w F cs vals (fun _ => 0) ∧ ∀ y ∈ vals, y.oneCell' = true
  | .ghost, _, c => ∀ b, 0 < c b → b < w.heap.size
  | .opt q a, x, c => (∀ b, c b = 0) ∧ (q = true → ARep w F g tmps a x c) ∧ (q = false → x = undef)

/-- The frame: each slot holds what is said of it; each block has one owner. -/
structure Frm (N : Nat) (w : World) (g : Nat → A) (tmps : Array Value) (c : Nat → Cnt) : Prop where
  rep : ∀ i, ARep w (fun b => ∀ j, c j b = 0) g tmps (g i) (tmps.getD i undef) (c i)
  one : ∀ i b, c i b ≤ 1
  uniq : ∀ i j b, 0 < c i b → 0 < c j b → i = j
  low : ∀ i b, 0 < c i b → N ≤ b

structure Inv (X : Ctx) (n : Nat) (Z : List Nat) (D : Nat → Prop) (gc : Cnt) (v0 : Nat → Value) (w0 : World) (g : Nat → A) (tmps : Array Value) (w : World) : Prop where
  size : tmps.size = n
  fix : ∀ i ∈ Z, tmps.getD i undef = v0 i
  os : w.os = w0.os
  tape : w.tape = w0.tape
  output : w.output = w0.output
  kept : ∀ b, b < w0.heap.size → ¬ D b → w.heap[b]? = w0.heap[b]?
  grow : w0.heap.size ≤ w.heap.size
  glob : X.G w
  hD : ∀ b, D b → X.N ≤ b
  base : X.N ≤ w0.heap.size
  frm : ∃ c, Frm X.N w g tmps c ∧ (∀ i b, 0 < c i b → g i ≠ .ghost → D b ∨ w0.heap.size ≤ b) ∧ ∀ i, g i = .ghost → ∀ b, c i b = gc b

theorem AtV.mono {w w' : World} {t t' : T} {x x' : Value} {p : Option Nat} (h : AtV w t x p t' x') {F : Nat → Prop} {c : Cnt} (ht : TRep w F t x c) (hK : ∀ b, 0 < c b → w'.heap[b]? = w.heap[b]?) : AtV w' t x p t' x' := by
  cases p with
  | none => exact h
  | some k =>
    rcases h with ⟨e, cs, g, cur, rfl, rfl, hg, h1, h2⟩ | ⟨e, es, g, n, cap, cur, rfl, rfl, hg, h1, h2, h3, h4, h5⟩
    · refine .inl ⟨e, cs, g, cur, rfl, rfl, ?_, h1, h2⟩
      cases ht with
      | box _ _ _ _ c0 _ hg' hl _ hc => rw [hK g (by rw [hc]; simp; omega)]; exact hg
    · refine .inr ⟨e, es, g, n, cap, cur, rfl, rfl, ?_, h1, h2, h3, h4, h5⟩
      cases ht with
      | own _ _ _ _ _ _ _ c0 _ hg' _ _ _ _ _ hl _ hc => rw [hK g (by rw [hc]; simp; omega)]; exact hg

/-- What owns something. -/
def A.owner : A → Bool
  | .t (.own _ _ _) | .t (.box _ _) => true
  | _ => false

theorem AtV.owner {w : World} {t t' : T} {x x' : Value} {p : Option Nat} (h : AtV w t x p t' x') (ho : A.owner (.t t') = true) : A.owner (.t t) = true := by
  cases p with
  | none => obtain ⟨rfl, rfl⟩ := h; exact ho
  | some k => rcases h with ⟨e, cs, g, cur, rfl, _⟩ | ⟨e, es, g, n, cap, cur, rfl, _⟩ <;> rfl

/-- Another world, another frame: where what is owned, and what is looked at, stays. -/
theorem ARep.mono {w w' : World} {F F' : Nat → Prop} {g g' : Nat → A} {tmps tmps' : Array Value} {a : A} {x : Value} {c : Cnt} (h : ARep w F g tmps a x c)
    (hF : ∀ b, b < w.heap.size → F b → F' b ∧ w'.heap[b]? = w.heap[b]?) (hS : w.heap.size ≤ w'.heap.size) (hK : ∀ b, 0 < c b → w'.heap[b]? = w.heap[b]?)
    (hr : ∀ r t, g r = .t t → A.owner (.t t) = true → g' r = .t t ∧ tmps'.getD r undef = tmps.getD r undef ∧ ∃ F0 c0, TRep w F0 t (tmps.getD r undef) c0 ∧ ∀ b, 0 < c0 b → w'.heap[b]? = w.heap[b]?) :
    ARep w' F' g' tmps' a x c := by
  induction a with
  | opt q a ih => exact ⟨h.1, fun hq => ih (h.2.1 hq), h.2.2⟩
  | t t => exact TRep.mono hF hS h hK
  | ref r p off len =>
    obtain ⟨hc, t0, e, sz, es, x0, h1, h2, h3, h4⟩ := h
    obtain ⟨k1, k2, F0, c0, k3, k4⟩ := hr r t0 h1 (h2.owner rfl)
    exact ⟨hc, t0, e, sz, es, x0, k1, by rw [k2]; exact h2.mono k3 k4, h3, h4⟩
  | eptr r p i j =>
    obtain ⟨hc, t0, e, sz, es, b, n, cap, h1, h2, h3, h4, h5⟩ := h
    obtain ⟨k1, k2, F0, c0, k3, k4⟩ := hr r t0 h1 (h2.owner rfl)
    exact ⟨hc, t0, e, sz, es, b, n, cap, k1, by rw [k2]; exact h2.mono k3 k4, h3, h4, h5⟩
  | pref r p off =>
    obtain ⟨hc, t0, e, cs, b, h1, h2, h3, h4⟩ := h
    obtain ⟨k1, k2, F0, c0, k3, k4⟩ := hr r t0 h1 (h2.owner rfl)
    exact ⟨hc, t0, e, cs, b, k1, by rw [k2]; exact h2.mono k3 k4, h3, h4⟩
  | sptr cs =>
    obtain ⟨hc, a, vals, h1, h2, h3, h4, h5, h6, h7⟩ := h
    obtain ⟨f1, f2⟩ := hF _ h4 h3
    refine ⟨hc, a, vals, h1, h2, f1, Nat.lt_of_lt_of_le h4 hS, fun k y hk => ?_, h6.mono hF hS (fun b hb => absurd hb (by simp)), h7⟩
    rw [cell_eq_of_block (w := w) (by rw [block_add]; exact f2)]
    exact h5 k y hk
  | ghost => exact fun b hb => Nat.lt_of_lt_of_le (h b hb) hS

theorem ARep.lt {w : World} {F : Nat → Prop} {g : Nat → A} {tmps : Array Value} {a : A} {x : Value} {c : Cnt} (h : ARep w F g tmps a x c) : ∀ b, 0 < c b → b < w.heap.size := by
  cases a with
  | t t => exact TRep.lt h
  | ghost => exact h
  | _ => exact fun b hb => absurd hb (by rw [h.1]; omega)

theorem Frm.lt {N : Nat} {w : World} {g : Nat → A} {tmps : Array Value} {c : Nat → Cnt} (h : Frm N w g tmps c) (i b : Nat) (hb : 0 < c i b) : b < w.heap.size := (h.rep i).lt b hb

theorem getD_set (tmps : Array Value) (d i : Nat) (v : Value) (hd : d < tmps.size) : (tmps.setIfInBounds d v).getD i undef = if i = d then v else tmps.getD i undef := by
  simp only [Array.getD_eq_getD_getElem?, Array.getElem?_setIfInBounds]
  by_cases h : d = i
  · subst h; simp [hd]
  · rw [if_neg h, if_neg (fun e => h e.symm)]

/-- A local operation: one slot is written, what was there in memory stays. -/
theorem Frm.put {N : Nat} {w w' : World} {g : Nat → A} {tmps : Array Value} {c : Nat → Cnt} (h : Frm N w g tmps c) {d : Nat} (hd : d < tmps.size) (hno : (g d).owner = false) (hw : Below w.heap.size w w') (hNw : N ≤ w.heap.size)
    {v : Value} {a : A} {cd : Cnt} (hrep : ARep w' (fun b => (∀ j, c j b = 0) ∧ cd b = 0) g tmps a v cd) (hfr : ∀ b, 0 < cd b → w.heap.size ≤ b) (h1 : ∀ b, cd b ≤ 1) :
    Frm N w' (upd g d a) (tmps.setIfInBounds d v) (upd c d cd) := by
  have hroot : ∀ r t, g r = .t t → A.owner (.t t) = true → upd g d a r = .t t ∧ (tmps.setIfInBounds d v).getD r undef = tmps.getD r undef ∧ r ≠ d := by
    intro r t hr ho
    have hne : r ≠ d := by rintro rfl; rw [hr] at hno; rw [ho] at hno; cases hno
    exact ⟨by rw [upd_ne _ _ hne, hr], by rw [getD_set _ _ _ _ hd, if_neg hne], hne⟩
  have hblk : ∀ b, b < w.heap.size → w'.heap[b]? = w.heap[b]? := hw.block
  have hcd : ∀ b, b < w.heap.size → cd b = 0 := fun b hb => by
    rcases Nat.eq_zero_or_pos (cd b) with e | e
    · exact e
    · have := hfr b e; omega
  refine ⟨fun i => ?_, fun i b => ?_, fun i j b hi hj => ?_, fun i b hb => ?_⟩
  · by_cases hi : i = d
    · subst hi
      rw [upd_same, upd_same, getD_set _ _ _ _ hd, if_pos rfl]
      refine ARep.mono hrep (fun b _ hb => ⟨fun j => ?_, rfl⟩) (Nat.le_refl _) (fun _ _ => rfl) (fun r t hr ho => ?_)
      · by_cases hj : j = i
        · subst hj; rw [upd_same]; exact hb.2
        · rw [upd_ne _ _ hj]; exact hb.1 j
      · obtain ⟨k1, k2, _⟩ := hroot r t hr ho
        refine ⟨k1, k2, fun b => ∀ j, c j b = 0, c r, ?_, fun _ _ => rfl⟩
        have := h.rep r
        rw [hr] at this
        exact TRep.mono (fun b hb hf => ⟨hf, hblk b hb⟩) hw.size this (fun b hb => hblk b (h.lt r b hb))
    · rw [upd_ne _ _ hi, upd_ne _ _ hi, getD_set _ _ _ _ hd, if_neg hi]
      refine ARep.mono (h.rep i) (fun b hb hf => ⟨fun j => ?_, hblk b hb⟩) hw.size (fun b hb => hblk b (h.lt i b hb)) (fun r t hr ho => ?_)
      · by_cases hj : j = d
        · subst hj; rw [upd_same]; exact hcd b hb
        · rw [upd_ne _ _ hj]; exact hf j
      · obtain ⟨k1, k2, _⟩ := hroot r t hr ho
        have := h.rep r
        rw [hr] at this
        exact ⟨k1, k2, _, c r, this, fun b hb => hblk b (h.lt r b hb)⟩
  · by_cases hi : i = d
    · subst hi; rw [upd_same]; exact h1 b
    · rw [upd_ne _ _ hi]; exact h.one i b
  · by_cases hi' : i = d <;> by_cases hj' : j = d
    · rw [hi', hj']
    · subst hi'; rw [upd_same] at hi; rw [upd_ne _ _ hj'] at hj
      have := hfr b hi; have := h.lt j b hj; omega
    · subst hj'; rw [upd_same] at hj; rw [upd_ne _ _ hi'] at hi
      have := hfr b hj; have := h.lt i b hi; omega
    · rw [upd_ne _ _ hi'] at hi; rw [upd_ne _ _ hj'] at hj; exact h.uniq i j b hi hj
  · by_cases hi : i = d
    · subst hi; rw [upd_same] at hb; exact Nat.le_trans hNw (hfr b hb)
    · rw [upd_ne _ _ hi] at hb; exact h.low i b hb

/-- The same, of the whole invariant. -/
theorem Inv.put {X : Ctx} {n : Nat} {Z : List Nat} {D : Nat → Prop} {gc : Cnt} {v0 : Nat → Value} {w0 w w' : World} {g : Nat → A} {tmps : Array Value} (h : Inv X n Z D gc v0 w0 g tmps w) {d : Nat} (hd : d < n ∧ d ∉ Z) (hno : (g d).owner = false) (hw : Below w.heap.size w w')
    {v : Value} {a : A} {c : Nat → Cnt} (hf : Frm X.N w g tmps c) (hb : (∀ i b, 0 < c i b → g i ≠ .ghost → D b ∨ w0.heap.size ≤ b) ∧ ∀ i, g i = .ghost → ∀ b, c i b = gc b) (hag : a ≠ .ghost) (hrep : ∃ cd, ARep w' (fun b => (∀ j, c j b = 0) ∧ cd b = 0) g tmps a v cd ∧ (∀ b, 0 < cd b → w.heap.size ≤ b) ∧ ∀ b, cd b ≤ 1) :
    Inv X n Z D gc v0 w0 (upd g d a) (tmps.setIfInBounds d v) w' := by
  obtain ⟨cd, h1, h2, h3⟩ := hrep
  refine ⟨by simp [h.size], fun i hi => by rw [getD_set _ _ _ _ (by rw [h.size]; exact hd.1), if_neg (by rintro rfl; exact hd.2 hi)]; exact h.fix i hi, by rw [hw.os, h.os], by rw [hw.tape, h.tape], by rw [hw.output, h.output], fun b hb hD => ?_, Nat.le_trans h.grow hw.size, ?_, h.hD, h.base, upd c d cd, hf.put (by rw [h.size]; exact hd.1) hno hw (X.hN w h.glob) h1 h2 h3, fun i b hib hgi => ?_, fun i hgi b => ?_⟩
  · rw [hw.block b (Nat.lt_of_lt_of_le hb h.grow)]; exact h.kept b hb hD
  · exact X.hG w w' (fun b hb => hw.block b (Nat.lt_of_lt_of_le hb (X.hN w h.glob))) hw.size h.glob
  · by_cases hi : i = d
    · subst hi; rw [upd_same] at hib
      exact .inr (Nat.le_trans h.grow (h2 b hib))
    · rw [upd_ne _ _ hi] at hib hgi; exact hb.1 i b hib hgi
  · by_cases hi : i = d
    · subst hi; rw [upd_same] at hgi; exact absurd hgi hag
    · rw [upd_ne _ _ hi] at hgi ⊢; exact hb.2 i hgi b

end Go.Eng
