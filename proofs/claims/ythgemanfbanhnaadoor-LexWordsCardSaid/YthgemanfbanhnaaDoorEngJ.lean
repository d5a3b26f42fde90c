/- Operations that turn what is owned: a part taken or turned in place; one slot's own handed to another. -/
import Derived.Test.YthgemanfbanhnaaDoorEngI
namespace Go.Eng
open Go.RowKit (Below)
set_option linter.unusedVariables false
set_option linter.unusedSimpArgs false
variable {X : Ctx} {g : Nat → A}

def putT (t0 : T) (p : Option Nat) (t' : T) : T :=
  match p, t0 with
  | none, _ => t'
  | some k, .box e cs => .box e (cs.set k t')
  | some k, .own e sz es => .own e sz (es.set k t')
  | some _, t => t

theorem LRep.same {w w' : World} {F F' : Nat → Prop} {ts : List T} {xs : List Value} {c : Cnt} (h : LRep w F ts xs c) (hF : ∀ b, b < w.heap.size → F b → F' b ∧ w'.heap[b]? = w.heap[b]?) (hS : w.heap.size ≤ w'.heap.size) (hK : ∀ b, 0 < c b → w'.heap[b]? = w.heap[b]?) : LRep w' F' ts xs c := h.mono hF hS hK

/-- One place of a row is turned, in another world. -/
theorem LRep.turn {w : World} {F : Nat → Prop} {ts : List T} {xs : List Value} {c : Cnt} (h : LRep w F ts xs c) (k : Nat) (t : T) (ht : ts[k]? = some t) :
    ∃ x d, xs[k]? = some x ∧ TRep w F t x d ∧ (∀ b, d b ≤ c b) ∧ ∀ (w' : World) (F' : Nat → Prop) (t' : T) (d' : Cnt), (∀ b, b < w.heap.size → F b → F' b ∧ w'.heap[b]? = w.heap[b]?) → w.heap.size ≤ w'.heap.size →
      (∀ b, 0 < c b → d b < c b → w'.heap[b]? = w.heap[b]?) → TRep w' F' t' x d' → LRep w' F' (ts.set k t') xs (fun b => c b - d b + d' b) := by
  induction ts generalizing xs c k with
  | nil => simp at ht
  | cons t0 ts ih =>
    cases h with
    | cons _ _ x xs c1 c2 _ h1 h2 hc =>
      cases k with
      | zero =>
        simp at ht; subst ht
        exact ⟨x, c1, by simp, h1, fun b => by rw [hc]; omega, fun w' F' t' d' hF hS hk h' => .cons _ _ _ _ d' c2 _ h' (h2.mono hF hS (fun b hb => hk b (by rw [hc]; omega) (by rw [hc]; omega))) (fun b => by rw [hc]; omega)⟩
      | succ k =>
        obtain ⟨y, d, hy, hd, hle, hset⟩ := ih h2 k (by simpa using ht)
        refine ⟨y, d, by simpa using hy, hd, fun b => by rw [hc]; have := hle b; omega, fun w' F' t' d' hF hS hk h' => ?_⟩
        exact .cons _ _ _ _ c1 _ _ (h1.mono hF hS (fun b hb => hk b (by rw [hc]; omega) (by rw [hc]; have := hle b; omega))) (hset w' F' t' d' hF hS (fun b hb hdb => hk b (by rw [hc]; omega) (by rw [hc]; omega)) h') (fun b => by rw [hc]; have := hle b; omega)

theorem AtV.put {w : World} {F : Nat → Prop} {t0 t : T} {x0 x : Value} {p : Option Nat} {c0 : Cnt} (h : AtV w t0 x0 p t x) (hr : TRep w F t0 x0 c0) (h1 : ∀ b, c0 b ≤ 1) :
    ∃ c1, TRep w F t x c1 ∧ (∀ b, c1 b ≤ c0 b) ∧ (∀ (w' : World) (F' : Nat → Prop) (t' : T) (d' : Cnt), (∀ b, b < w.heap.size → F b → F' b ∧ w'.heap[b]? = w.heap[b]?) → w.heap.size ≤ w'.heap.size →
      (∀ b, 0 < c0 b → c1 b = 0 → w'.heap[b]? = w.heap[b]?) → TRep w' F' t' x d' → t'.cells = [t'] → TRep w' F' (putT t0 p t') x0 (fun b => c0 b - c1 b + d' b)) ∧
      (p ≠ none → ∀ b, (x0 = .pointer (some ⟨b, 0, none⟩) ∨ ∃ n cap, x0 = .slice (some ⟨b, 0, none⟩) n cap) → c1 b = 0 ∧ 0 < c0 b) := by
  cases p with
  | none =>
    obtain ⟨rfl, rfl⟩ := h
    exact ⟨c0, hr, fun _ => Nat.le_refl _, fun w' F' t' d' _ _ _ h' _ => h'.count (fun b => by omega), fun h => absurd rfl h⟩
  | some k =>
    rcases h with ⟨e, cs, b, cur, rfl, rfl, hg, q1, q2⟩ | ⟨e, es, b, n, cap, cur, rfl, rfl, hg, q1, q2, q3, q4, q5⟩
    · cases hr with
      | box _ _ _ cur' cc _ hg' hl hone hc =>
        rw [hg] at hg'; cases hg'
        obtain ⟨y, d, hy, hd, hle, hset⟩ := hl.turn k t q1
        rw [Array.getElem?_toList, q2] at hy; cases hy
        have hcc : cc b = 0 := by have := h1 b; rw [hc] at this; simp at this; omega
        refine ⟨d, hd, fun b' => by rw [hc]; have := hle b'; omega, fun w' F' t' d' hF hS hK h' hcell => ?_, fun _ b' hb' => ?_⟩
        rotate_left
        · rcases hb' with e | ⟨_, _, e⟩
          · cases e; exact ⟨by have := hle b; omega, by rw [hc]; simp; omega⟩
          · cases e
        refine .box e _ b cur (fun b' => cc b' - d b' + d' b') _ ?_ (hset w' F' t' d' hF hS (fun b' hb hdb => hK b' (by rw [hc]; omega) (by have := h1 b'; rw [hc] at this; omega)) h') hone (fun b' => by rw [hc]; have := hle b'; omega)
        rw [hK b (by rw [hc]; simp; omega) (by have := hle b; omega)]; exact hg
    · cases hr with
      | own _ _ _ _ _ _ cur' cc _ hg' hn hcap hm hcur hz hl hone hc =>
        rw [hg] at hg'; cases hg'
        rw [flatMap_cells_one es q3] at hl
        obtain ⟨y, d, hy, hd, hle, hset⟩ := hl.turn k t q1
        rw [List.getElem?_take, if_pos (by omega), Array.getElem?_toList, q5] at hy; cases hy
        have hcc : cc b = 0 := by have := h1 b; rw [hc] at this; simp at this; omega
        refine ⟨d, hd, fun b' => by rw [hc]; have := hle b'; omega, fun w' F' t' d' hF hS hK h' hcell => ?_, fun _ b' hb' => ?_⟩
        rotate_left
        · rcases hb' with e | ⟨_, _, e⟩
          · cases e
          · cases e; exact ⟨by have := hle b; omega, by rw [hc]; simp; omega⟩
        have hcells : ∀ t ∈ es.set k t', t.cells = [t] := fun t ht => by
          rcases List.mem_or_eq_of_mem_set ht with ht | ht
          · exact q3 t ht
          · rw [ht]; exact hcell
        refine .own e 1 _ b n cap cur (fun b' => cc b' - d b' + d' b') _ ?_ (by rw [List.length_set]; exact hn) hcap hm hcur (fun t ht => by rw [hcells t ht]; rfl) ?_ hone (fun b' => by rw [hc]; have := hle b'; omega)
        · rw [hK b (by rw [hc]; simp; omega) (by have := hle b; omega)]; exact hg
        · rw [flatMap_cells_one _ hcells]
          exact hset w' F' t' d' hF hS (fun b' hb hdb => hK b' (by rw [hc]; omega) (by have := h1 b'; rw [hc] at this; omega)) h'

/-- Who looks at what is taken looks at nothing any more. -/
def killA (r : Nat) (p : Option Nat) : A → A
  | .ref r' q off len => if r' = r ∧ (p = none ∨ q = p) then .t .u else .ref r' q off len
  | .eptr r' q i j => if r' = r ∧ (p = none ∨ q = p) then .t .u else .eptr r' q i j
  | .pref r' q off => if r' = r ∧ (p = none ∨ q = p) then .t .u else .pref r' q off
  | .opt c a => .opt c (killA r p a)
  | a => a

/-- The frame behind: (r, p) is turned to t', slot d is written. -/
def turnedK (kf : A → A) (g : Nat → A) (r : Nat) (p : Option Nat) (t0 t' : T) : Nat → A := upd (fun i => kf (g i)) r (.t (putT t0 p t'))
abbrev turned (g : Nat → A) (r : Nat) (p : Option Nat) (t0 t' : T) : Nat → A := turnedK (killA r p) g r p t0 t'

theorem killA_ghost {r : Nat} {p : Option Nat} {a : A} (h : killA r p a = .ghost) : a = .ghost := by
  cases a with
  | ghost => rfl
  | t | sptr | opt => cases h
  | ref | eptr | pref => unfold killA at h; split at h <;> cases h
theorem killA_t (r : Nat) (p : Option Nat) (t : T) : killA r p (.t t) = .t t := rfl
theorem killA_owner (r : Nat) (p : Option Nat) (a : A) : (killA r p a).owner = a.owner := by
  cases a <;> simp only [killA] <;> first | rfl | (split <;> rfl)

/-- A place apart from the one that is turned. -/
theorem AtV.apart {w w' : World} {F : Nat → Prop} {t0 t2 t' : T} {x0 x2 : Value} {k : Nat} {q : Option Nat} {c0 : Cnt} (h : AtV w t0 x0 q t2 x2) (hr : TRep w F t0 x0 c0) (hq : q ≠ some k) (hb : ∀ e cs b, t0 = .box e cs → x0 = .pointer (some ⟨b, 0, none⟩) → w'.heap[b]? = w.heap[b]?)
    (hb2 : ∀ e sz es b n cap, t0 = .own e sz es → x0 = .slice (some ⟨b, 0, none⟩) n cap → w'.heap[b]? = w.heap[b]?) (hcell : t'.cells = [t']) :
    ∃ t3, AtV w' (putT t0 (some k) t') x0 q t3 x2 ∧ (q ≠ none → t3 = t2) ∧ (q = none → t3 = putT t0 (some k) t') := by
  cases q with
  | none =>
    obtain ⟨rfl, rfl⟩ := h
    exact ⟨_, ⟨rfl, rfl⟩, fun h => absurd rfl h, fun _ => rfl⟩
  | some j =>
    have hjk : j ≠ k := fun e => hq (by rw [e])
    rcases h with ⟨e, cs, b, cur, rfl, rfl, hg, q1, q2⟩ | ⟨e, es, b, n, cap, cur, rfl, rfl, hg, q1, q2, q3, q4, q5⟩
    · exact ⟨t2, .inl ⟨e, cs.set k t', b, cur, rfl, rfl, by rw [hb e cs b rfl rfl]; exact hg, by rw [List.getElem?_set_ne (fun e => hjk e.symm)]; exact q1, q2⟩, fun _ => rfl, fun h => by cases h⟩
    · refine ⟨t2, .inr ⟨e, es.set k t', b, n, cap, cur, rfl, rfl, by rw [hb2 e 1 es b n cap rfl rfl]; exact hg, by rw [List.getElem?_set_ne (fun e => hjk e.symm)]; exact q1, q2, fun t ht => ?_, q4, q5⟩, fun _ => rfl, fun h => by cases h⟩
      rcases List.mem_or_eq_of_mem_set ht with ht | ht
      · exact q3 t ht
      · rw [ht]; exact hcell

/-- What looks at a root that is turned in one part. -/
theorem ARep.apart {w w' : World} {F F' Fr : Nat → Prop} {g g' : Nat → A} {tmps tmps' : Array Value} {a : A} {x : Value} {c c0 : Cnt} {r : Nat} {p : Option Nat} {t0 t' : T} (h : ARep w F g tmps a x c)
    (hF : ∀ b, b < w.heap.size → F b → F' b ∧ w'.heap[b]? = w.heap[b]?) (hS : w.heap.size ≤ w'.heap.size) (hK : ∀ b, 0 < c b → w'.heap[b]? = w.heap[b]?)
    (hr : ∀ r' t, r' ≠ r → g r' = .t t → A.owner (.t t) = true → g' r' = .t t ∧ tmps'.getD r' undef = tmps.getD r' undef ∧ ∃ F0 c0, TRep w F0 t (tmps.getD r' undef) c0 ∧ ∀ b, 0 < c0 b → w'.heap[b]? = w.heap[b]?)
    (h0 : g r = .t t0) (h1 : g' r = .t (putT t0 p t')) (h2 : tmps'.getD r undef = tmps.getD r undef) (h3 : TRep w Fr t0 (tmps.getD r undef) c0)
    (h4 : p ≠ none → (∀ e cs b, t0 = .box e cs → tmps.getD r undef = .pointer (some ⟨b, 0, none⟩) → w'.heap[b]? = w.heap[b]?) ∧ (∀ e sz es b n cap, t0 = .own e sz es → tmps.getD r undef = .slice (some ⟨b, 0, none⟩) n cap → w'.heap[b]? = w.heap[b]?)) (hcell : t'.cells = [t']) :
    ARep w' F' g' tmps' (killA r p a) x c := by
  have other : ∀ r' q, ¬ (r' = r ∧ (p = none ∨ q = p)) → ∀ t1 t x', g r' = .t t1 → AtV w t1 (tmps.getD r' undef) q t x' → A.owner (.t t) = true →
      ∃ t3 t4, g' r' = .t t3 ∧ AtV w' t3 (tmps'.getD r' undef) q t4 x' ∧ (t4 = t ∨ (∃ k, p = some k ∧ t4 = putT t (some k) t')) := by
    intro r' q hn t1 t x' hg ha ho
    by_cases hrr : r' = r
    · subst hrr
      rw [h0] at hg; cases hg
      cases p with
      | none => exact absurd ⟨rfl, .inl rfl⟩ hn
      | some k =>
        have hq : q ≠ some k := fun e => hn ⟨rfl, .inr e⟩
        obtain ⟨t3, k1, k2, k3⟩ := ha.apart (w' := w') h3 hq (h4 (by simp)).1 (h4 (by simp)).2 hcell
        refine ⟨_, t3, h1, by rw [h2]; exact k1, ?_⟩
        cases q with
        | none => obtain ⟨rfl, _⟩ := ha; exact .inr ⟨k, rfl, k3 rfl⟩
        | some j => exact .inl (k2 (by simp))
    · obtain ⟨k1, k2, F0, c1, k3, k4⟩ := hr r' t1 hrr hg (ha.owner ho)
      exact ⟨t1, t, k1, by rw [k2]; exact ha.mono k3 k4, .inl rfl⟩
  induction a with
  | opt q a ih => exact ⟨h.1, fun hq => ih (h.2.1 hq), h.2.2⟩
  | t t => exact TRep.mono hF hS h hK
  | sptr cs =>
    obtain ⟨hc, a, vals, h1, h2, h3, h4, h5, h6, h7⟩ := h
    obtain ⟨f1, f2⟩ := hF _ h4 h3
    refine ⟨hc, a, vals, h1, h2, f1, Nat.lt_of_lt_of_le h4 hS, fun k y hk => ?_, h6.mono hF hS (fun b hb => absurd hb (by simp)), h7⟩
    rw [cell_eq_of_block (w := w) (by rw [block_add]; exact f2)]
    exact h5 k y hk
  | ghost => exact fun b hb => Nat.lt_of_lt_of_le (h b hb) hS
  | ref r' q off len =>
    simp only [killA]
    split
    · exact .u _ _ h.1
    · rename_i hn
      obtain ⟨hc, t1, e, sz, es, y0, k1, k2, k3, k4⟩ := h
      obtain ⟨t3, t4, q1, q2, q3⟩ := other r' q hn t1 _ y0 k1 k2 rfl
      rcases q3 with rfl | ⟨k, _, rfl⟩
      · exact ⟨hc, t3, e, sz, es, y0, q1, q2, k3, k4⟩
      · exact ⟨hc, t3, e, sz, es.set k t', y0, q1, q2, by rw [List.length_set]; exact k3, k4⟩
  | eptr r' q i j =>
    simp only [killA]
    split
    · exact .u _ _ h.1
    · rename_i hn
      obtain ⟨hc, t1, e, sz, es, b, n, cap, k1, k2, k3, k4, k5⟩ := h
      obtain ⟨t3, t4, q1, q2, q3⟩ := other r' q hn t1 _ _ k1 k2 rfl
      rcases q3 with rfl | ⟨k, _, rfl⟩
      · exact ⟨hc, t3, e, sz, es, b, n, cap, q1, q2, k3, k4, k5⟩
      · exact ⟨hc, t3, e, sz, es.set k t', b, n, cap, q1, q2, by rw [List.length_set]; exact k3, k4, k5⟩
  | pref r' q off =>
    simp only [killA]
    split
    · exact .u _ _ h.1
    · rename_i hn
      obtain ⟨hc, t1, e, cs, b, k1, k2, k3, k4⟩ := h
      obtain ⟨t3, t4, q1, q2, q3⟩ := other r' q hn t1 _ _ k1 k2 rfl
      rcases q3 with rfl | ⟨k, _, rfl⟩
      · exact ⟨hc, t3, e, cs, b, q1, q2, k3, k4⟩
      · exact ⟨hc, t3, e, cs.set k t', b, q1, q2, by rw [List.length_set]; exact k3, k4⟩


/-- THE FRAME, TURNED: at (r, p) what stood is turned to t' (in memory: blocks of what stood there, and new ones), and slot d takes what is made. -/
theorem Frm.turnK {N : Nat} {w w' : World} {tmps : Array Value} {c : Nat → Cnt} (h : Frm N w g tmps c) {r d : Nat} {p : Option Nat} {t0 t t' : T} {x v : Value} {a : A} (kf : A → A) (hkt : ∀ t, kf (.t t) = .t t) (hr : g r = .t t0) (ha : AtV w t0 (tmps.getD r undef) p t x)
    (hd : d < tmps.size) (hdr : d ≠ r) (hno : (g d).owner = false) (hS : w.heap.size ≤ w'.heap.size) (hNw : N ≤ w.heap.size) (hcell : t'.cells = [t'])
    (hkf : ∀ (F' : Nat → Prop) (g' : Nat → A) (tmps' : Array Value) (a : A) (x : Value) (ca : Cnt), ARep w (fun b => ∀ j, c j b = 0) g tmps a x ca → (∀ b, b < w.heap.size → (∀ j, c j b = 0) → F' b ∧ w'.heap[b]? = w.heap[b]?) → (∀ b, 0 < ca b → w'.heap[b]? = w.heap[b]?) →
      (∀ r' t, r' ≠ r → g r' = .t t → A.owner (.t t) = true → g' r' = .t t ∧ tmps'.getD r' undef = tmps.getD r' undef ∧ ∃ F0 c0, TRep w F0 t (tmps.getD r' undef) c0 ∧ ∀ b, 0 < c0 b → w'.heap[b]? = w.heap[b]?) →
      g' r = .t (putT t0 p t') → tmps'.getD r undef = tmps.getD r undef → TRep w (fun b => ∀ j, c j b = 0) t0 (tmps.getD r undef) (c r) →
      (p ≠ none → (∀ e cs b, t0 = .box e cs → tmps.getD r undef = .pointer (some ⟨b, 0, none⟩) → w'.heap[b]? = w.heap[b]?) ∧ (∀ e sz es b n cap, t0 = .own e sz es → tmps.getD r undef = .slice (some ⟨b, 0, none⟩) n cap → w'.heap[b]? = w.heap[b]?)) →
      ARep w' F' g' tmps' (kf a) x ca) :
    ∃ c1, TRep w (fun b => ∀ j, c j b = 0) t x c1 ∧ (∀ b, c1 b ≤ 1) ∧ (∀ b, c1 b ≤ c r b) ∧ ∀ (d' cd : Cnt), (∀ b, b < w.heap.size → c1 b = 0 → w'.heap[b]? = w.heap[b]?) →
      (∀ b, d' b + cd b ≤ 1) → (∀ b, 0 < d' b + cd b → 0 < c1 b ∨ w.heap.size ≤ b) →
      (∀ F', (∀ b, (∀ j, c j b = 0) → b < w.heap.size → F' b) → TRep w' F' t' x d') →
      (∀ F' g' tmps', (∀ b, (∀ j, c j b = 0) → b < w.heap.size → F' b) → g' = upd (turnedK kf g r p t0 t') d a → tmps' = tmps.setIfInBounds d v → ARep w' F' g' tmps' a v cd) →
      Frm N w' (upd (turnedK kf g r p t0 t') d a) (tmps.setIfInBounds d v) (upd (upd c r (fun b => c r b - c1 b + d' b)) d cd) := by
  have hrep := h.rep r
  rw [hr] at hrep
  obtain ⟨c1, k1, k2, k3, k4⟩ := ha.put hrep (h.one r)
  refine ⟨c1, k1, fun b => Nat.le_trans (k2 b) (h.one r b), k2, fun d' cd hblk h1 hfr ht' ha' => ?_⟩
  have hcv : ∀ i b, upd (upd c r (fun b => c r b - c1 b + d' b)) d cd i b = if i = d then cd b else if i = r then c r b - c1 b + d' b else c i b := by
    intro i b; unfold upd; split
    · rfl
    · split <;> rfl
  have hrd : r ≠ d := fun e => hdr e.symm
  have hzd : ∀ b, b < w.heap.size → (∀ j, c j b = 0) → d' b = 0 ∧ cd b = 0 := fun b hb hz => by
    have := k2 b; have := hz r
    by_cases hpos : 0 < d' b + cd b
    · rcases hfr b hpos with e | e <;> omega
    · omega
  have hF : ∀ b, b < w.heap.size → (∀ j, c j b = 0) → (∀ j, upd (upd c r (fun b => c r b - c1 b + d' b)) d cd j b = 0) ∧ w'.heap[b]? = w.heap[b]? := fun b hb hz => by
    refine ⟨fun j => ?_, hblk b hb (by have := k2 b; have := hz r; omega)⟩
    rw [hcv]
    have := hzd b hb hz
    split
    · exact this.2
    · split
      · have := hz r; omega
      · exact hz j
  have hother : ∀ i, i ≠ r → ∀ b, 0 < c i b → c1 b = 0 := fun i hi b hb => by
    have := k2 b
    rcases Nat.eq_zero_or_pos (c1 b) with e | e
    · exact e
    · exact absurd (h.uniq i r b hb (by omega)) hi
  have hroot : ∀ r' t, r' ≠ r → g r' = .t t → A.owner (.t t) = true → upd (turnedK kf g r p t0 t') d a r' = .t t ∧ (tmps.setIfInBounds d v).getD r' undef = tmps.getD r' undef ∧ ∃ F0 c0, TRep w F0 t (tmps.getD r' undef) c0 ∧ ∀ b, 0 < c0 b → w'.heap[b]? = w.heap[b]? := by
    intro r' t1 hne hg ho
    have hnd : r' ≠ d := by rintro rfl; rw [hg] at hno; rw [ho] at hno; cases hno
    have := h.rep r'
    rw [hg] at this
    refine ⟨by rw [upd_ne _ _ hnd]; unfold turnedK; rw [upd_ne _ _ hne, hg]; exact hkt _, by rw [getD_set _ _ _ _ hd, if_neg hnd], _, c r', this, fun b hb => hblk b (h.lt r' b hb) (hother r' hne b hb)⟩
  have hnewr : upd (turnedK kf g r p t0 t') d a r = .t (putT t0 p t') := by rw [upd_ne _ _ hrd]; exact upd_same _ _ _
  have hroot_r : TRep w' (fun b => ∀ j, upd (upd c r (fun b => c r b - c1 b + d' b)) d cd j b = 0) (putT t0 p t') (tmps.getD r undef) (fun b => c r b - c1 b + d' b) :=
    k3 w' _ t' d' hF hS (fun b hb hz => hblk b (h.lt r b hb) hz) (ht' _ (fun b hz hb => (hF b hb hz).1)) hcell
  have hpar : p ≠ none → (∀ e cs b, t0 = .box e cs → tmps.getD r undef = .pointer (some ⟨b, 0, none⟩) → w'.heap[b]? = w.heap[b]?) ∧ (∀ e sz es b n cap, t0 = .own e sz es → tmps.getD r undef = .slice (some ⟨b, 0, none⟩) n cap → w'.heap[b]? = w.heap[b]?) := by
    intro hpn
    refine ⟨fun e cs b _ hx => ?_, fun e sz es b n cap _ hx => ?_⟩
    · obtain ⟨e1, e2⟩ := k4 hpn b (.inl hx)
      exact hblk b (h.lt r b e2) e1
    · obtain ⟨e1, e2⟩ := k4 hpn b (.inr ⟨n, cap, hx⟩)
      exact hblk b (h.lt r b e2) e1
  have hle : ∀ i b, w.heap.size ≤ b → c i b = 0 := fun i b hb => by
    rcases Nat.eq_zero_or_pos (c i b) with e' | e'
    · exact e'
    · have := h.lt i b e'; omega
  refine ⟨fun i => ?_, fun i b => ?_, fun i j b hi hj => ?_, fun i b hb => ?_⟩
  · by_cases hi : i = d
    · subst hi
      rw [upd_same, upd_same, getD_set _ _ _ _ hd, if_pos rfl]
      exact ha' _ _ _ (fun b hz hb => (hF b hb hz).1) rfl rfl
    · by_cases hir : i = r
      · subst hir
        rw [hnewr, getD_set _ _ _ _ hd, if_neg hi]
        rw [upd_ne _ _ hi, upd_same]
        exact hroot_r
      · rw [upd_ne _ _ hi, upd_ne _ _ hi, upd_ne _ _ hir, getD_set _ _ _ _ hd, if_neg hi]
        have e : turnedK kf g r p t0 t' i = kf (g i) := by unfold turnedK; rw [upd_ne _ _ hir]
        rw [e]
        exact hkf _ _ _ _ _ _ (h.rep i) hF (fun b hb => hblk b (h.lt i b hb) (hother i hir b hb)) hroot hnewr (by rw [getD_set _ _ _ _ hd, if_neg hrd]) hrep hpar
  · rw [hcv]
    have := h1 b; have := h.one i b; have := h.one r b; have := k2 b
    split
    · omega
    · split
      · by_cases hpos : 0 < d' b
        · rcases hfr b (by omega) with e | e
          · omega
          · have : c r b = 0 := by
              rcases Nat.eq_zero_or_pos (c r b) with e' | e'
              · exact e'
              · have := h.lt r b e'; omega
            omega
        · omega
      · omega
  · rw [hcv] at hi hj
    have q1 := h1 b; have q2 := h.one r b; have q3 := k2 b
    have q4 : 0 < d' b + cd b → c r b = c1 b ∧ ∀ i, i ≠ r → c i b = 0 := fun hpos => by
      rcases hfr b hpos with e | e
      · refine ⟨by omega, fun i hi => ?_⟩
        rcases Nat.eq_zero_or_pos (c i b) with e' | e'
        · exact e'
        · exact absurd (h.uniq i r b e' (by omega)) hi
      · exact ⟨by have := hle r b e; omega, fun i _ => hle i b e⟩
    by_cases i1 : i = d <;> by_cases j1 : j = d
    · rw [i1, j1]
    · rw [if_pos i1] at hi; rw [if_neg j1] at hj
      obtain ⟨e1, e2⟩ := q4 (by omega)
      by_cases j2 : j = r
      · rw [if_pos j2] at hj; omega
      · rw [if_neg j2, e2 j j2] at hj; omega
    · rw [if_pos j1] at hj; rw [if_neg i1] at hi
      obtain ⟨e1, e2⟩ := q4 (by omega)
      by_cases i2 : i = r
      · rw [if_pos i2] at hi; omega
      · rw [if_neg i2, e2 i i2] at hi; omega
    · rw [if_neg i1] at hi; rw [if_neg j1] at hj
      by_cases i2 : i = r <;> by_cases j2 : j = r
      · rw [i2, j2]
      · rw [if_pos i2] at hi; rw [if_neg j2] at hj
        by_cases hpos : 0 < d' b
        · rw [(q4 (by omega)).2 j j2] at hj; omega
        · have := h.uniq r j b (by omega) hj; omega
      · rw [if_pos j2] at hj; rw [if_neg i2] at hi
        by_cases hpos : 0 < d' b
        · rw [(q4 (by omega)).2 i i2] at hi; omega
        · have := h.uniq i r b hi (by omega); omega
      · rw [if_neg i2] at hi; rw [if_neg j2] at hj
        exact h.uniq i j b hi hj
  · rw [hcv] at hb
    have q3 := k2 b
    have q5 : 0 < d' b + cd b → N ≤ b := fun hpos => by
      rcases hfr b hpos with e | e
      · exact h.low r b (by omega)
      · omega
    split at hb
    · exact q5 (by omega)
    · split at hb
      · by_cases hpos : 0 < d' b
        · exact q5 (by omega)
        · exact h.low r b (by omega)
      · exact h.low i b hb


/-- THE FRAME, TURNED, and whoever looked at what is turned looks at nothing. -/
theorem Frm.turn {N : Nat} {w w' : World} {tmps : Array Value} {c : Nat → Cnt} (h : Frm N w g tmps c) {r d : Nat} {p : Option Nat} {t0 t t' : T} {x v : Value} {a : A} (hr : g r = .t t0) (ha : AtV w t0 (tmps.getD r undef) p t x)
    (hd : d < tmps.size) (hdr : d ≠ r) (hno : (g d).owner = false) (hS : w.heap.size ≤ w'.heap.size) (hNw : N ≤ w.heap.size) (hcell : t'.cells = [t']) :
    ∃ c1, TRep w (fun b => ∀ j, c j b = 0) t x c1 ∧ (∀ b, c1 b ≤ 1) ∧ (∀ b, c1 b ≤ c r b) ∧ ∀ (d' cd : Cnt), (∀ b, b < w.heap.size → c1 b = 0 → w'.heap[b]? = w.heap[b]?) →
      (∀ b, d' b + cd b ≤ 1) → (∀ b, 0 < d' b + cd b → 0 < c1 b ∨ w.heap.size ≤ b) →
      (∀ F', (∀ b, (∀ j, c j b = 0) → b < w.heap.size → F' b) → TRep w' F' t' x d') →
      (∀ F' g' tmps', (∀ b, (∀ j, c j b = 0) → b < w.heap.size → F' b) → g' = upd (turned g r p t0 t') d a → tmps' = tmps.setIfInBounds d v → ARep w' F' g' tmps' a v cd) →
      Frm N w' (upd (turned g r p t0 t') d a) (tmps.setIfInBounds d v) (upd (upd c r (fun b => c r b - c1 b + d' b)) d cd) :=
  h.turnK (killA r p) (fun _ => rfl) hr ha hd hdr hno hS hNw hcell (fun F' g' tmps' a x ca h1 h2 h3 h4 h5 h6 h7 h8 => ARep.apart h1 h2 hS h3 h4 hr h5 h6 h7 h8 hcell)

/-- The same, where no other slot is written. -/
theorem Frm.turn0 {N : Nat} {w w' : World} {tmps : Array Value} {c : Nat → Cnt} (h : Frm N w g tmps c) {r : Nat} {p : Option Nat} {t0 t t' : T} {x : Value} (hr : g r = .t t0) (ha : AtV w t0 (tmps.getD r undef) p t x)
    (hS : w.heap.size ≤ w'.heap.size) (hNw : N ≤ w.heap.size) (hcell : t'.cells = [t']) :
    ∃ c1, TRep w (fun b => ∀ j, c j b = 0) t x c1 ∧ (∀ b, c1 b ≤ 1) ∧ (∀ b, c1 b ≤ c r b) ∧ ∀ (d' : Cnt), (∀ b, b < w.heap.size → c1 b = 0 → w'.heap[b]? = w.heap[b]?) →
      (∀ b, d' b ≤ 1) → (∀ b, 0 < d' b → 0 < c1 b ∨ w.heap.size ≤ b) →
      (∀ F', (∀ b, (∀ j, c j b = 0) → b < w.heap.size → F' b) → TRep w' F' t' x d') →
      Frm N w' (turned g r p t0 t') tmps (upd c r (fun b => c r b - c1 b + d' b)) := by
  have hrep := h.rep r
  rw [hr] at hrep
  obtain ⟨c1, k1, k2, k3, k4⟩ := ha.put hrep (h.one r)
  refine ⟨c1, k1, fun b => Nat.le_trans (k2 b) (h.one r b), k2, fun d' hblk h1 hfr ht' => ?_⟩
  have hcv : ∀ i b, upd c r (fun b => c r b - c1 b + d' b) i b = if i = r then c r b - c1 b + d' b else c i b := by
    intro i b; unfold upd; split <;> rfl
  have hle : ∀ i b, w.heap.size ≤ b → c i b = 0 := fun i b hb => by
    rcases Nat.eq_zero_or_pos (c i b) with e' | e'
    · exact e'
    · have := h.lt i b e'; omega
  have hzd : ∀ b, b < w.heap.size → (∀ j, c j b = 0) → d' b = 0 := fun b hb hz => by
    have := k2 b; have := hz r
    by_cases hpos : 0 < d' b
    · rcases hfr b hpos with e | e <;> omega
    · omega
  have hF : ∀ b, b < w.heap.size → (∀ j, c j b = 0) → (∀ j, upd c r (fun b => c r b - c1 b + d' b) j b = 0) ∧ w'.heap[b]? = w.heap[b]? := fun b hb hz => by
    refine ⟨fun j => ?_, hblk b hb (by have := k2 b; have := hz r; omega)⟩
    rw [hcv]
    have := hzd b hb hz
    split
    · have := hz r; omega
    · exact hz j
  have hother : ∀ i, i ≠ r → ∀ b, 0 < c i b → c1 b = 0 := fun i hi b hb => by
    have := k2 b
    rcases Nat.eq_zero_or_pos (c1 b) with e | e
    · exact e
    · exact absurd (h.uniq i r b hb (by omega)) hi
  have hroot : ∀ r' t, r' ≠ r → g r' = .t t → A.owner (.t t) = true → turned g r p t0 t' r' = .t t ∧ tmps.getD r' undef = tmps.getD r' undef ∧ ∃ F0 c0, TRep w F0 t (tmps.getD r' undef) c0 ∧ ∀ b, 0 < c0 b → w'.heap[b]? = w.heap[b]? := by
    intro r' t1 hne hg ho
    have := h.rep r'
    rw [hg] at this
    refine ⟨by unfold turned turnedK; rw [upd_ne _ _ hne, hg]; rfl, rfl, _, c r', this, fun b hb => hblk b (h.lt r' b hb) (hother r' hne b hb)⟩
  have hnewr : turned g r p t0 t' r = .t (putT t0 p t') := upd_same _ _ _
  have hroot_r : TRep w' (fun b => ∀ j, upd c r (fun b => c r b - c1 b + d' b) j b = 0) (putT t0 p t') (tmps.getD r undef) (fun b => c r b - c1 b + d' b) :=
    k3 w' _ t' d' hF hS (fun b hb hz => hblk b (h.lt r b hb) hz) (ht' _ (fun b hz hb => (hF b hb hz).1)) hcell
  have hpar : p ≠ none → (∀ e cs b, t0 = .box e cs → tmps.getD r undef = .pointer (some ⟨b, 0, none⟩) → w'.heap[b]? = w.heap[b]?) ∧ (∀ e sz es b n cap, t0 = .own e sz es → tmps.getD r undef = .slice (some ⟨b, 0, none⟩) n cap → w'.heap[b]? = w.heap[b]?) := by
    intro hpn
    refine ⟨fun e cs b _ hx => ?_, fun e sz es b n cap _ hx => ?_⟩
    · obtain ⟨e1, e2⟩ := k4 hpn b (.inl hx)
      exact hblk b (h.lt r b e2) e1
    · obtain ⟨e1, e2⟩ := k4 hpn b (.inr ⟨n, cap, hx⟩)
      exact hblk b (h.lt r b e2) e1
  refine ⟨fun i => ?_, fun i b => ?_, fun i j b hi hj => ?_, fun i b hb => ?_⟩
  · by_cases hir : i = r
    · subst hir
      rw [hnewr, upd_same]
      exact hroot_r
    · rw [upd_ne _ _ hir]
      have e : turned g r p t0 t' i = killA r p (g i) := by unfold turned turnedK; rw [upd_ne _ _ hir]
      rw [e]
      exact ARep.apart (h.rep i) hF hS (fun b hb => hblk b (h.lt i b hb) (hother i hir b hb)) hroot hr hnewr rfl hrep hpar hcell
  · rw [hcv]
    have := h1 b; have := h.one i b; have := h.one r b; have := k2 b
    split
    · by_cases hpos : 0 < d' b
      · rcases hfr b (by omega) with e | e
        · omega
        · have := hle r b e; omega
      · omega
    · omega
  · rw [hcv] at hi hj
    have q1 := h1 b; have q2 := h.one r b; have q3 := k2 b
    have q4 : 0 < d' b → ∀ i, i ≠ r → c i b = 0 := fun hpos i hi => by
      rcases hfr b hpos with e | e
      · rcases Nat.eq_zero_or_pos (c i b) with e' | e'
        · exact e'
        · exact absurd (h.uniq i r b e' (by omega)) hi
      · exact hle i b e
    by_cases i2 : i = r <;> by_cases j2 : j = r
    · rw [i2, j2]
    · rw [if_pos i2] at hi; rw [if_neg j2] at hj
      by_cases hpos : 0 < d' b
      · rw [q4 hpos j j2] at hj; omega
      · have := h.uniq r j b (by omega) hj; omega
    · rw [if_pos j2] at hj; rw [if_neg i2] at hi
      by_cases hpos : 0 < d' b
      · rw [q4 hpos i i2] at hi; omega
      · have := h.uniq i r b hi (by omega); omega
    · rw [if_neg i2] at hi; rw [if_neg j2] at hj
      exact h.uniq i j b hi hj
  · rw [hcv] at hb
    have q3 := k2 b
    split at hb
    · by_cases hpos : 0 < d' b
      · rcases hfr b hpos with e | e
        · exact h.low r b (by omega)
        · omega
      · exact h.low r b (by omega)
    · exact h.low i b hb

/-! ### steps of the whole invariant -/
def Step (X : Ctx) (n : Nat) (Z : List Nat) (g : Nat → A) (o : Oper) (g' : Nat → A) : Prop :=
  ∀ (D : Nat → Prop) (gc : Cnt) (v0 : Nat → Value) (w0 : World) (tmps : Array Value) (ds : List Deferred) (w : World), Inv X n Z D gc v0 w0 g tmps w → ∀ (next : Act → World → Prop) (Q : Exit → Act → World → Prop),
    (∀ tmps' w', Inv X n Z D gc v0 w0 g' tmps' w' → next ⟨tmps', ds⟩ w') → o.wp X.P ⟨tmps, ds⟩ w next Q

theorem Good.step {n : Nat} {Z : List Nat} {o : Oper} {a : A} {d : Nat} (h : Good X g o a) (hag : a ≠ .ghost) (hd : o.dst = some d) (hn : d < n ∧ d ∉ Z) (ho : (g d).owner = false) : Step X n Z g o (upd g d a) := by
  intro D gc v0 w0 tmps ds w hI next Q hnext
  obtain ⟨c, hf, hb⟩ := hI.frm
  refine h tmps ds w c hI.glob hf next Q (fun v w' hw hr => ?_)
  rw [hd]
  exact hnext _ _ (hI.put hn ho hw hf hb hag hr)

theorem Good.step0 {n : Nat} {Z : List Nat} {o : Oper} {a : A} (h : Good X g o a) (hd : o.dst = none) : Step X n Z g o g := by
  intro D gc v0 w0 tmps ds w hI next Q hnext
  obtain ⟨c, hf, hb⟩ := hI.frm
  refine h tmps ds w c hI.glob hf next Q (fun v w' hw hr => ?_)
  rw [hd]
  refine hnext _ _ ?_
  refine ⟨hI.size, hI.fix, by rw [hw.os, hI.os], by rw [hw.tape, hI.tape], by rw [hw.output, hI.output], fun b hb hD => ?_, Nat.le_trans hI.grow hw.size, ?_, hI.hD, hI.base, c, ?_, hb⟩
  · rw [hw.block b (Nat.lt_of_lt_of_le hb hI.grow)]; exact hI.kept b hb hD
  · exact X.hG w w' (fun b hb => hw.block b (Nat.lt_of_lt_of_le hb (X.hN w hI.glob))) hw.size hI.glob
  · refine ⟨fun i => ?_, hf.one, hf.uniq, hf.low⟩
    refine ARep.mono (hf.rep i) (fun b hb hfb => ⟨hfb, hw.block b hb⟩) hw.size (fun b hb => hw.block b (hf.lt i b hb)) (fun r t hr ho => ⟨hr, rfl, fun b => ∀ j, c j b = 0, c r, by have := hf.rep r; rw [hr] at this; exact this, fun b hb => hw.block b (hf.lt r b hb)⟩)

/-- The rest of the invariant, where only blocks that are owned have turned. -/
theorem Inv.step {X : Ctx} {n : Nat} {Z : List Nat} {D : Nat → Prop} {gc : Cnt} {v0 : Nat → Value} {w0 w w' : World} {g g' : Nat → A} {tmps tmps' : Array Value} {c c' : Nat → Cnt} (h : Inv X n Z D gc v0 w0 g tmps w) (hf : Frm X.N w g tmps c) (hb : (∀ i b, 0 < c i b → g i ≠ .ghost → D b ∨ w0.heap.size ≤ b) ∧ ∀ i, g i = .ghost → ∀ b, c i b = gc b)
    (hf' : Frm X.N w' g' tmps' c') (hs : tmps'.size = tmps.size) (hfix : ∀ i ∈ Z, tmps'.getD i undef = tmps.getD i undef) (hos : w'.os = w.os) (htape : w'.tape = w.tape) (hout : w'.output = w.output) (hS : w.heap.size ≤ w'.heap.size)
    (hblk : ∀ b, b < w.heap.size → w'.heap[b]? = w.heap[b]? ∨ ∃ i, 0 < c i b ∧ g i ≠ .ghost) (hb' : ∀ i b, 0 < c' i b → g' i ≠ .ghost → (∃ j, 0 < c j b ∧ g j ≠ .ghost) ∨ w.heap.size ≤ b) (hgh : ∀ i, g' i = .ghost → g i = .ghost ∧ ∀ b, c' i b = c i b) : Inv X n Z D gc v0 w0 g' tmps' w' := by
  refine ⟨by rw [hs, h.size], fun i hi => by rw [hfix i hi]; exact h.fix i hi, by rw [hos, h.os], by rw [htape, h.tape], by rw [hout, h.output], fun b hlt hD => ?_, Nat.le_trans h.grow hS, ?_, h.hD, h.base, c', hf', fun i b hi hgi => ?_, fun i hi b => by rw [(hgh i hi).2]; exact hb.2 i (hgh i hi).1 b⟩
  · rcases hblk b (Nat.lt_of_lt_of_le hlt h.grow) with e | ⟨i, e, eg⟩
    · rw [e]; exact h.kept b hlt hD
    · rcases hb.1 i b e eg with e | e
      · exact absurd e hD
      · omega
  · refine X.hG w w' (fun b hlt => ?_) hS h.glob
    rcases hblk b (Nat.lt_of_lt_of_le hlt (X.hN w h.glob)) with e | ⟨i, e, _⟩
    · exact e
    · have := hf.low i b e; omega
  · rcases hb' i b hi hgi with ⟨j, e, eg⟩ | e
    · exact hb.1 j b e eg
    · exact .inr (Nat.le_trans h.grow e)

end Go.Eng
