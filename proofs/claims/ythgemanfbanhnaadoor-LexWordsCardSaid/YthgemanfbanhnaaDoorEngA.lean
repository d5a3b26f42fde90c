/- The domain of the engine: trees of values, what they own, and that they stay while nobody writes. -/
import Derived.WalkKit
import Derived.Laws.AppendOwn
namespace Go.Eng

/-- A tree of values. 'u': anything. 'v': this very value. 'sl': a slice that nobody writes any more. 'ag': a struct's or an array's cells. 'own': a slice with an owner. 'box': a pointer at a block with an owner. 'tup': several results. 'opt': the value, if the Bool is true. -/
inductive T where
  | u
  | v (x : Value)
  | sl (sz : Nat) (es : List T)
  | ag (cs : List T)
  | own (e : TypeId) (sz : Nat) (es : List T)
  | box (e : TypeId) (cs : List T)
  | tup (cs : List T)
  | opt (c : Bool) (x : T)
  deriving Inhabited

def T.cells : T → List T
  | .ag cs => cs
  | t => [t]

abbrev Cnt := Nat → Nat

mutual
/-- In the world w the value x is the tree t; the slices without owner lie in blocks of F; c counts the blocks that are owned. -/
inductive TRep (w : World) (F : Nat → Prop) : T → Value → Cnt → Prop
  | u (x : Value) (c : Cnt) (hc : ∀ b, c b = 0) : TRep w F .u x c
  | v (x : Value) (c : Cnt) (hc : ∀ b, c b = 0) : TRep w F (.v x) x c
  | slnil (sz : Nat) (a : Option Addr) (cap : Nat) (c : Cnt) (hc : ∀ b, c b = 0) : TRep w F (.sl sz []) (.slice a 0 cap) c
  | sl (sz : Nat) (es : List T) (b : Addr) (n cap : Nat) (vals : List Value) (c0 c : Cnt) (hn : n = es.length) (hcap : n ≤ cap) (hF : F b.block) (hb : b.block < w.heap.size) (hs : b.spot = none)
      (hv : ∀ k x, vals[k]? = some x → w.cell? (b.add k) = some x) (hz : ∀ t ∈ es, t.cells.length = sz)
      (hl : LRep w F (es.flatMap T.cells) vals c0) (hone : ∀ y ∈ vals, y.oneCell' = true) (hc0 : ∀ b, c0 b = 0) (hc : ∀ b, c b = 0) : TRep w F (.sl sz es) (.slice (some b) n cap) c
  | ag (cs : List T) (vs : Array Value) (c : Cnt) (hl : LRep w F cs vs.toList c) (hone : ∀ y ∈ vs.toList, y.oneCell' = true) (hc : ∀ b, c b = 0) : TRep w F (.ag cs) (.agg vs) c
  | ownnil (e : TypeId) (sz : Nat) (c : Cnt) (hc : ∀ b, c b = 0) : TRep w F (.own e sz []) (.slice none 0 0) c
  | own (e : TypeId) (sz : Nat) (es : List T) (g n cap : Nat) (cur : Array Value) (c0 c : Cnt) (hg : w.heap[g]? = some (.cells cur e (0, 0))) (hn : n = es.length)
      (hcap : n ≤ cap) (hm : cap ≤ maxLen) (hcur : cur.size = cap * sz) (hz : ∀ t ∈ es, t.cells.length = sz)
      (hl : LRep w F (es.flatMap T.cells) (cur.toList.take (n * sz)) c0) (hone : ∀ y ∈ cur.toList.take (n * sz), y.oneCell' = true) (hc : ∀ b, c b = (if b = g then 1 else 0) + c0 b) : TRep w F (.own e sz es) (.slice (some ⟨g, 0, none⟩) n cap) c
  | box (e : TypeId) (cs : List T) (g : Nat) (cur : Array Value) (c0 c : Cnt) (hg : w.heap[g]? = some (.cells cur e (0, 0)))
      (hl : LRep w F cs cur.toList c0) (hone : ∀ y ∈ cur.toList, y.oneCell' = true) (hc : ∀ b, c b = (if b = g then 1 else 0) + c0 b) : TRep w F (.box e cs) (.pointer (some ⟨g, 0, none⟩)) c
  | tup (cs : List T) (vs : Array Value) (c : Cnt) (hl : LRep w F cs vs.toList c) : TRep w F (.tup cs) (.tuple vs) c
  | opt (b : Bool) (t : T) (x : Value) (c : Cnt) (ht : b = true → TRep w F t x c) (hc : ∀ b, c b = 0) : TRep w F (.opt b t) x c
inductive LRep (w : World) (F : Nat → Prop) : List T → List Value → Cnt → Prop
  | nil (c : Cnt) (hc : ∀ b, c b = 0) : LRep w F [] [] c
  | cons (t : T) (ts : List T) (x : Value) (xs : List Value) (c1 c2 c : Cnt) (h1 : TRep w F t x c1) (h2 : LRep w F ts xs c2) (hc : ∀ b, c b = c1 b + c2 b) : LRep w F (t :: ts) (x :: xs) c
end

theorem block_add (b : Addr) (k : Nat) : (b.add k).block = b.block := by unfold Addr.add; split <;> rfl

theorem cell_eq_of_block {w w' : World} {a : Addr} (h : w'.heap[a.block]? = w.heap[a.block]?) : w'.cell? a = w.cell? a := by simp [World.cell?, h]

section mono
variable {w w' : World} {F F' : Nat → Prop}

theorem TRep.mono (hF : ∀ b, b < w.heap.size → F b → F' b ∧ w'.heap[b]? = w.heap[b]?) (hS : w.heap.size ≤ w'.heap.size) {t : T} {x : Value} {c : Cnt} (h : TRep w F t x c) :
    (∀ b, 0 < c b → w'.heap[b]? = w.heap[b]?) → TRep w' F' t x c := by
  refine TRep.rec (motive_1 := fun t x c _ => (∀ b, 0 < c b → w'.heap[b]? = w.heap[b]?) → TRep w' F' t x c)
    (motive_2 := fun ts xs c _ => (∀ b, 0 < c b → w'.heap[b]? = w.heap[b]?) → LRep w' F' ts xs c) ?_ ?_ ?_ ?_ ?_ ?_ ?_ ?_ ?_ ?_ ?_ ?_ h
  · exact fun x c hc _ => .u _ _ hc
  · exact fun x c hc _ => .v _ _ hc
  · exact fun sz a cap c hc _ => .slnil _ _ _ _ hc
  · intro sz es b n cap vals c0 c hn hcap hFb hb hs hv hz hl hone hc0 hc ih _
    obtain ⟨h1, h2⟩ := hF _ hb hFb
    refine .sl sz es b n cap vals c0 c hn hcap h1 (Nat.lt_of_lt_of_le hb hS) hs (fun k x hk => ?_) hz (ih (fun b hb => absurd hb (by rw [hc0]; omega))) hone hc0 hc
    rw [cell_eq_of_block (w := w) (by rw [block_add]; exact h2)]
    exact hv k x hk
  · exact fun cs vs c hl hone hc ih hK => .ag _ _ _ (ih hK) hone hc
  · exact fun e sz c hc _ => .ownnil _ _ _ hc
  · intro e sz es g n cap cur c0 c hg hn hcap hm hcur hz hl hone hc ih hK
    refine .own e sz es g n cap cur c0 c ?_ hn hcap hm hcur hz (ih (fun b hb => hK b (by rw [hc]; split <;> omega))) hone hc
    rw [hK g (by rw [hc]; simp; omega)]; exact hg
  · intro e cs g cur c0 c hg hl hone hc ih hK
    refine .box e cs g cur c0 c ?_ (ih (fun b hb => hK b (by rw [hc]; split <;> omega))) hone hc
    rw [hK g (by rw [hc]; simp; omega)]; exact hg
  · exact fun cs vs c hl ih hK => .tup _ _ _ (ih hK)
  · exact fun b t x c ht hc ih hK => .opt _ _ _ _ (fun hb => ih hb hK) hc
  · exact fun c hc _ => .nil _ hc
  · intro t ts x xs c1 c2 c h1 h2 hc ih1 ih2 hK
    exact .cons _ _ _ _ c1 c2 c (ih1 (fun b hb => hK b (by rw [hc]; omega))) (ih2 (fun b hb => hK b (by rw [hc]; omega))) hc

theorem LRep.mono (hF : ∀ b, b < w.heap.size → F b → F' b ∧ w'.heap[b]? = w.heap[b]?) (hS : w.heap.size ≤ w'.heap.size) {ts : List T} {xs : List Value} {c : Cnt} (h : LRep w F ts xs c)
    (hK : ∀ b, 0 < c b → w'.heap[b]? = w.heap[b]?) : LRep w' F' ts xs c := by
  induction ts generalizing xs c with
  | nil => cases h with | nil c hc => exact .nil _ hc
  | cons t ts ih =>
    cases h with
    | cons t ts x xs c1 c2 c h1 h2 hc =>
      exact .cons _ _ _ _ c1 c2 c (TRep.mono hF hS h1 (fun b hb => hK b (by rw [hc]; omega))) (ih h2 (fun b hb => hK b (by rw [hc]; omega))) hc
end mono

/-- What is owned lies in the heap. -/
theorem TRep.lt {w : World} {F : Nat → Prop} {t : T} {x : Value} {c : Cnt} (h : TRep w F t x c) : ∀ b, 0 < c b → b < w.heap.size := by
  refine TRep.rec (motive_1 := fun t x c _ => ∀ b, 0 < c b → b < w.heap.size) (motive_2 := fun ts xs c _ => ∀ b, 0 < c b → b < w.heap.size) ?_ ?_ ?_ ?_ ?_ ?_ ?_ ?_ ?_ ?_ ?_ ?_ h
  · exact fun x c hc b hb => absurd hb (by rw [hc]; omega)
  · exact fun x c hc b hb => absurd hb (by rw [hc]; omega)
  · exact fun sz a cap c hc b hb => absurd hb (by rw [hc]; omega)
  · exact fun sz es b n cap vals c0 c hn hcap hFb hb hs hv hz hl hone hc0 hc ih b hb => absurd hb (by rw [hc]; omega)
  · exact fun cs vs c hl hone hc ih => ih
  · exact fun e sz c hc b hb => absurd hb (by rw [hc]; omega)
  · intro e sz es g n cap cur c0 c hg hn hcap hm hcur hz hl hone hc ih b hb
    rw [hc] at hb
    by_cases hbg : b = g
    · subst hbg; exact (Array.getElem?_eq_some_iff.1 hg).1
    · rw [if_neg hbg] at hb; exact ih b (by omega)
  · intro e cs g cur c0 c hg hl hone hc ih b hb
    rw [hc] at hb
    by_cases hbg : b = g
    · subst hbg; exact (Array.getElem?_eq_some_iff.1 hg).1
    · rw [if_neg hbg] at hb; exact ih b (by omega)
  · exact fun cs vs c hl ih => ih
  · exact fun b t x c ht hc ih b hb => absurd hb (by rw [hc]; omega)
  · exact fun c hc b hb => absurd hb (by rw [hc]; omega)
  · intro t ts x xs c1 c2 c h1 h2 hc ih1 ih2 b hb
    rw [hc] at hb
    by_cases h : 0 < c1 b
    · exact ih1 b h
    · exact ih2 b (by omega)

theorem LRep.lt {w : World} {F : Nat → Prop} {ts : List T} {xs : List Value} {c : Cnt} (h : LRep w F ts xs c) : ∀ b, 0 < c b → b < w.heap.size := by
  have : TRep w F (.tup ts) (.tuple xs.toArray) c := .tup _ _ _ (by simpa using h)
  exact this.lt

/-- The count may be spelled otherwise. -/
theorem TRep.count {w : World} {F : Nat → Prop} {t : T} {x : Value} {c c' : Cnt} (h : TRep w F t x c) (e : ∀ b, c' b = c b) : TRep w F t x c' := by
  rw [show c' = c from funext e]; exact h
theorem LRep.count {w : World} {F : Nat → Prop} {ts : List T} {xs : List Value} {c c' : Cnt} (h : LRep w F ts xs c) (e : ∀ b, c' b = c b) : LRep w F ts xs c' := by
  rw [show c' = c from funext e]; exact h

theorem LRep.length {w : World} {F : Nat → Prop} {ts : List T} {xs : List Value} {c : Cnt} (h : LRep w F ts xs c) : ts.length = xs.length := by
  induction ts generalizing xs c with
  | nil => cases h; rfl
  | cons t ts ih => cases h with | cons _ _ _ _ _ _ _ h1 h2 hc => simp [ih h2]

theorem LRep.append {w : World} {F : Nat → Prop} {ts us : List T} {xs ys : List Value} {c d e : Cnt} (h : LRep w F ts xs c) (k : LRep w F us ys d) (he : ∀ b, e b = c b + d b) : LRep w F (ts ++ us) (xs ++ ys) e := by
  induction ts generalizing xs c e with
  | nil => cases h with | nil _ hc => exact k.count (fun b => by rw [he, hc]; omega)
  | cons t ts ih =>
    cases h with
    | cons _ _ x xs c1 c2 _ h1 h2 hc => exact .cons _ _ _ _ c1 (fun b => c2 b + d b) e h1 (ih h2 (fun _ => rfl)) (fun b => by rw [he, hc]; omega)

/-- A row parts where its trees do. -/
theorem LRep.split {w : World} {F : Nat → Prop} {ts us : List T} {xs : List Value} {c : Cnt} (h : LRep w F (ts ++ us) xs c) :
    ∃ c1 c2, LRep w F ts (xs.take ts.length) c1 ∧ LRep w F us (xs.drop ts.length) c2 ∧ ∀ b, c b = c1 b + c2 b := by
  induction ts generalizing xs c with
  | nil => exact ⟨fun _ => 0, c, .nil _ (fun _ => rfl), by simpa using h, fun b => by simp⟩
  | cons t ts ih =>
    cases h with
    | cons _ _ x xs c1 c2 _ h1 h2 hc =>
      obtain ⟨d1, d2, k1, k2, hd⟩ := ih h2
      exact ⟨fun b => c1 b + d1 b, d2, by simpa using LRep.cons _ _ _ _ c1 d1 _ h1 k1 (fun _ => rfl), by simpa using k2, fun b => by rw [hc, hd]; dsimp only; omega⟩

theorem LRep.get {w : World} {F : Nat → Prop} {ts : List T} {xs : List Value} {c : Cnt} (h : LRep w F ts xs c) (i : Nat) (t : T) (ht : ts[i]? = some t) :
    ∃ x d, xs[i]? = some x ∧ TRep w F t x d ∧ ∀ b, d b ≤ c b := by
  induction ts generalizing xs c i with
  | nil => simp at ht
  | cons t0 ts ih =>
    cases h with
    | cons _ _ x xs c1 c2 _ h1 h2 hc =>
      cases i with
      | zero => simp at ht; subst ht; exact ⟨x, c1, by simp, h1, fun b => by rw [hc]; omega⟩
      | succ i =>
        obtain ⟨y, d, hy, hd, hle⟩ := ih h2 i (by simpa using ht)
        exact ⟨y, d, by simpa using hy, hd, fun b => by rw [hc]; have := hle b; omega⟩

/-- One place of a row is turned. -/
theorem LRep.set {w : World} {F : Nat → Prop} {ts : List T} {xs : List Value} {c : Cnt} (h : LRep w F ts xs c) (i : Nat) (t : T) (ht : ts[i]? = some t) :
    ∃ x d, xs[i]? = some x ∧ TRep w F t x d ∧ (∀ b, d b ≤ c b) ∧ ∀ (t' : T) (x' : Value) (d' c' : Cnt), TRep w F t' x' d' → (∀ b, c' b + d b = c b + d' b) → LRep w F (ts.set i t') (xs.set i x') c' := by
  induction ts generalizing xs c i with
  | nil => simp at ht
  | cons t0 ts ih =>
    cases h with
    | cons _ _ x xs c1 c2 _ h1 h2 hc =>
      cases i with
      | zero =>
        simp at ht; subst ht
        exact ⟨x, c1, by simp, h1, fun b => by rw [hc]; omega, fun t' x' d' c' h' e => .cons _ _ _ _ d' c2 c' h' h2 (fun b => by have := e b; rw [hc] at this; omega)⟩
      | succ i =>
        obtain ⟨y, d, hy, hd, hle, hset⟩ := ih h2 i (by simpa using ht)
        refine ⟨y, d, by simpa using hy, hd, fun b => by rw [hc]; have := hle b; omega, fun t' x' d' c' h' e => ?_⟩
        refine .cons _ _ _ _ c1 (fun b => c' b - c1 b) c' h1 (hset t' x' d' _ h' (fun b => ?_)) (fun b => ?_)
        · have := e b; have := hle b; rw [hc] at *; omega
        · have := e b; have := hle b; rw [hc] at *; omega


/-- What is left when nobody owns it any more. -/
def T.fz : T → T
  | .own _ sz es => .sl sz (fzAll es)
  | .ag cs => .ag (fzAll cs)
  | .tup cs => .tup (fzAll cs)
  | .box _ _ => .u
  | t => t
where fzAll : List T → List T
  | [] => []
  | t :: ts => t.fz :: fzAll ts

theorem fzAll_eq (ts : List T) : T.fz.fzAll ts = ts.map T.fz := by
  induction ts with
  | nil => rfl
  | cons t ts ih => simp [T.fz.fzAll, ih]

theorem T.fz_cells (t : T) : t.fz.cells = t.cells.map T.fz := by
  cases t <;> simp [T.fz, T.cells, fzAll_eq]

theorem flatMap_fz (es : List T) : (es.map T.fz).flatMap T.cells = (es.flatMap T.cells).map T.fz := by
  induction es with
  | nil => rfl
  | cons t ts ih => simp [T.fz_cells, ih]

theorem LRep.cells {w : World} {F : Nat → Prop} {ts : List T} {xs : List Value} {c : Cnt} (h : LRep w F ts xs c) : ts.length = xs.length := h.length

/-- A tree without owner: it stands in what it stood in, with the blocks that it owned. -/
theorem TRep.fz {w : World} {F F' : Nat → Prop} {t : T} {x : Value} {c : Cnt} (h : TRep w F t x c) (hF : ∀ b, b < w.heap.size → F b → F' b) (hC : ∀ b, 0 < c b → F' b) : TRep w F' t.fz x (fun _ => 0) := by
  refine TRep.rec (motive_1 := fun t x c _ => (∀ b, 0 < c b → F' b) → TRep w F' t.fz x (fun _ => 0))
    (motive_2 := fun ts xs c _ => (∀ b, 0 < c b → F' b) → LRep w F' (ts.map T.fz) xs (fun _ => 0)) ?_ ?_ ?_ ?_ ?_ ?_ ?_ ?_ ?_ ?_ ?_ ?_ h hC
  · exact fun x c hc _ => .u _ _ (fun _ => rfl)
  · exact fun x c hc _ => .v _ _ (fun _ => rfl)
  · exact fun sz a cap c hc _ => .slnil _ _ _ _ (fun _ => rfl)
  · intro sz es b n cap vals c0 c hn hcap hFb hb hs hv hz hl hone hc0 hc ih _
    exact .sl sz es b n cap vals c0 _ hn hcap (hF _ hb hFb) hb hs hv hz (hl.mono (fun b hb h => ⟨hF b hb h, rfl⟩) (Nat.le_refl _) (fun _ _ => rfl)) hone hc0 (fun _ => rfl)
  · intro cs vs c hl hone hc ih hK
    simp only [T.fz, fzAll_eq]
    exact .ag _ _ _ (ih hK) hone (fun _ => rfl)
  · intro e sz c hc _
    exact .slnil _ _ _ _ (fun _ => rfl)
  · intro e sz es g n cap cur c0 c hg hn hcap hm hcur hz hl hone hc ih hK
    simp only [T.fz, fzAll_eq]
    have hlt := (Array.getElem?_eq_some_iff.1 hg).1
    refine .sl sz (es.map T.fz) ⟨g, 0, none⟩ n cap (cur.toList.take (n * sz)) (fun _ => 0) _ (by simpa using hn) hcap (hK g (by rw [hc]; simp; omega)) hlt rfl (fun k x hk => ?_) (fun t ht => ?_) ?_ hone (fun _ => rfl) (fun _ => rfl)
    · rw [List.getElem?_take] at hk
      split at hk
      · have hadd : (⟨g, 0, none⟩ : Addr).add k = ⟨g, k, none⟩ := by unfold Addr.add; split <;> simp_all
        rw [hadd]
        simp only [World.cell?, hg, Option.isSome_none, Bool.false_eq_true, if_false]
        simpa using hk
      · cases hk
    · obtain ⟨t0, h0, rfl⟩ := List.mem_map.1 ht
      rw [T.fz_cells, List.length_map]; exact hz t0 h0
    · rw [flatMap_fz]; exact ih (fun b hb => hK b (by rw [hc]; split <;> omega))
  · exact fun e cs g cur c0 c hg hl hone hc ih hK => .u _ _ (fun _ => rfl)
  · intro cs vs c hl ih hK
    simp only [T.fz, fzAll_eq]
    exact .tup _ _ _ (ih hK)
  · intro b t x c ht hc ih hK
    exact .opt _ _ _ _ (fun hb => ((ht hb).count (c' := c) (fun _ => rfl)).mono (fun b hb h => ⟨hF b hb h, rfl⟩) (Nat.le_refl _) (fun _ _ => rfl) |>.count (fun b => by rw [hc])) (fun _ => rfl)
  · exact fun c hc _ => .nil _ (fun _ => rfl)
  · intro t ts x xs c1 c2 c h1 h2 hc ih1 ih2 hK
    exact .cons _ _ _ _ _ _ _ (ih1 (fun b hb => hK b (by rw [hc]; omega))) (ih2 (fun b hb => hK b (by rw [hc]; omega))) (fun _ => rfl)

theorem LRep.fz {w : World} {F F' : Nat → Prop} {ts : List T} {xs : List Value} {c : Cnt} (h : LRep w F ts xs c) (hF : ∀ b, b < w.heap.size → F b → F' b) (hC : ∀ b, 0 < c b → F' b) : LRep w F' (ts.map T.fz) xs (fun _ => 0) := by
  induction ts generalizing xs c with
  | nil => cases h; exact .nil _ (fun _ => rfl)
  | cons t ts ih =>
    cases h with
    | cons _ _ x xs c1 c2 _ h1 h2 hc => exact .cons _ _ _ _ _ _ _ (h1.fz hF (fun b hb => hC b (by rw [hc]; omega))) (ih h2 (fun b hb => hC b (by rw [hc]; omega))) (fun _ => rfl)

/-- Trees that own nothing, by their head. -/
def T.flat : T → Bool
  | .own _ _ _ | .box _ _ | .tup _ => false
  | _ => true

theorem TRep.zero {w : World} {F : Nat → Prop} {t : T} {x : Value} {c : Cnt} (h : TRep w F t x c) (ht : t.flat = true) : ∀ b, c b = 0 := by
  cases h <;> first | assumption | cases ht

theorem TRep.zeroed {w : World} {F : Nat → Prop} {t : T} {x : Value} {c : Cnt} (h : TRep w F t x c) (ht : t.flat = true) : TRep w F t x (fun _ => 0) :=
  h.count (fun b => (h.zero ht b).symm)

theorem TRep.of_v {w : World} {F : Nat → Prop} {y x : Value} {c : Cnt} (h : TRep w F (.v y) x c) : x = y := by cases h; rfl

end Go.Eng
