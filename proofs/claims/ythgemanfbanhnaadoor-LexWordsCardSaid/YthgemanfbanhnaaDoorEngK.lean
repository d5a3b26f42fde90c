/- append; a slot's own handed to another slot; what is owned given to all. -/
import Derived.Test.YthgemanfbanhnaaDoorEngJ
import Derived.Laws.OwnMore
import Derived.Lib.AppendStr
namespace Go.Eng
open Go.RowKit (Below)
open Go.Lib (strCells strCells_length run_append_own_string run_append_room_string run_append_grow_string)
set_option linter.unusedVariables false
set_option linter.unusedSimpArgs false
variable {X : Ctx} {g : Nat → A}

/-- The elements that an operand brings: of a slice that nobody writes, of a view. -/
def elemsA (g : Nat → A) : A → Option (List T)
  | .t (.sl _ es) => some es
  | .ref r p off len => match root g r p with
    | some (.own _ _ es) => some (cut es off (off + len))
    | _ => none
  | _ => none

def sizA (g : Nat → A) (sz : Nat) : A → Prop
  | .t (.sl s _) => s = sz
  | .ref r p _ _ => ∃ e l, root g r p = some (.own e sz l)
  | _ => True

theorem flat_zero {w : World} {F : Nat → Prop} {ts : List T} {xs : List Value} {c : Cnt} (h : LRep w F ts xs c) (hf : ts.all T.flat = true) : LRep w F ts xs (fun _ => 0) := h.count (fun b => (all_zero hf h b).symm)

/-- What is read of them: their cells, from an address on. -/
theorem elems_rep {w : World} {tmps : Array Value} {c : Nat → Cnt} {N : Nat} (hf : Frm N w g tmps c) {a : A} {x : Value} (h : ARep w (fun b => ∀ j, c j b = 0) g tmps a x (fun _ => 0)) {es : List T} {sz : Nat} (he : elemsA g a = some es) (hsz : ∀ t ∈ es, t.cells.length = sz)
    (hsz2 : sizA g sz a) (hflat : (es.flatMap T.cells).all T.flat = true) :
    ∃ a0 cap vals, x = .slice a0 es.length cap ∧ LRep w (fun b => ∀ j, c j b = 0) (es.flatMap T.cells) vals (fun _ => 0) ∧ (∀ y ∈ vals, y.oneCell' = true) ∧ vals.length = es.length * sz ∧
      ((es = [] ∧ vals = []) ∨ ∃ b, a0 = some b ∧ ∀ k y, vals[k]? = some y → w.cell? (b.add k) = some y) := by
  have hlen : ∀ es : List T, (∀ t ∈ es, t.cells.length = sz) → (es.flatMap T.cells).length = es.length * sz := by
    intro es
    induction es with
    | nil => intro _; simp
    | cons t ts ih => intro h; rw [List.flatMap_cons, List.length_append, ih (fun t ht => h t (by simp [ht])), h t (by simp), List.length_cons, Nat.succ_mul]; omega
  cases a with
  | t t =>
    cases t with
    | sl s es' =>
      simp only [elemsA, Option.some.injEq] at he; subst he
      cases h with
      | slnil => exact ⟨_, _, [], rfl, .nil _ (fun _ => rfl), by simp, by simp, .inl ⟨rfl, rfl⟩⟩
      | sl _ _ b n cap vals c0 _ hn hcap hF hb hs hv hz hl hone hc0 hc =>
        subst hn
        exact ⟨some b, cap, vals, rfl, flat_zero hl hflat, hone, by rw [← hl.length, hlen _ hsz], .inr ⟨b, rfl, hv⟩⟩
    | _ => simp [elemsA] at he
  | ref r p off len =>
    obtain ⟨_, t0, e, s, es0, x0, h1, h2, h3, h4⟩ := h
    have hrt := root_of h1 h2
    simp only [elemsA, hrt, Option.some.injEq] at he
    obtain ⟨e', l', hsz2⟩ := hsz2
    rw [hrt] at hsz2; cases hsz2
    have hcl : es.length = len := by rw [← he, cut_length _ _ _ h3]; omega
    have hr := hf.rep r
    rw [h1] at hr
    obtain ⟨d, hd, _⟩ := h2.rep hr
    rcases h4 with ⟨rfl, hx, hl0, ho0⟩ | ⟨b, n, cap, o, rfl, hx, hoc, ho⟩
    · have : es = [] := List.eq_nil_of_length_eq_zero (by omega)
      subst this
      exact ⟨none, 0, [], hx, .nil _ (fun _ => rfl), by simp, by simp, .inl ⟨rfl, rfl⟩⟩
    · cases hd with
      | own _ _ _ _ _ _ cur c0 _ hg hn hcap hm hcur hz hl hone hc =>
        obtain ⟨d1, k1, k2⟩ := row_drop hl hz off (off + len) (by omega) h3
        rw [he] at k1
        have k3 := flat_zero k1 hflat
        by_cases hpos : 0 < len
        · have e1 : o = off * sz := ho (.inl hpos)
          refine ⟨some ⟨b, o, none⟩, _, _, by rw [hx, hcl], k3, fun y hy => hone y (List.mem_of_mem_drop (List.mem_of_mem_take hy)), by rw [← k3.length, hlen _ hsz], .inr ⟨_, rfl, fun k y hk => ?_⟩⟩
          rw [List.getElem?_take] at hk
          split at hk
          · rw [List.getElem?_drop, List.getElem?_take] at hk
            split at hk
            · rw [addr_add, cell_at hg, ← Array.getElem?_toList, e1]; exact hk
            · cases hk
          · cases hk
        · have : es = [] := List.eq_nil_of_length_eq_zero (by omega)
          subst this
          exact ⟨some ⟨b, o, none⟩, _, [], by rw [hx, ← hcl], .nil _ (fun _ => rfl), by simp, by simp, .inl ⟨rfl, rfl⟩⟩
  | _ => simp [elemsA] at he

theorem take_cut {α : Type} (es : List α) (k : Nat) : cut es 0 k = es.take k := by simp [cut]

/-- The first k elements of what is owned are owned. -/
theorem owns_take {w : World} {F : Nat → Prop} {e : TypeId} {sz : Nat} {es : List T} {x0 x : Value} {c : Cnt} {k : Nat} (h : TRep w F (.own e sz es) x0 c) (hv : View sz 0 k x0 x) (hk : k ≤ es.length) :
    ∃ xs c0, w.ownsRow 0 e sz x k xs ∧ x.ownBlock = x0.ownBlock ∧ LRep w F ((es.take k).flatMap T.cells) xs c0 ∧ (∀ y ∈ xs, y.oneCell' = true) ∧ (∀ t ∈ es, t.cells.length = sz) ∧ (∀ b, c0 b + (if x0.ownBlock = some b then 1 else 0) ≤ c b) := by
  cases h with
  | ownnil =>
    rename_i hc
    rcases hv with ⟨_, rfl, hk0, _⟩ | ⟨g, n, cap, o, h, _⟩
    · subst hk0
      exact ⟨[], fun _ => 0, World.ownsRow_nil w 0 e sz, rfl, .nil _ (fun _ => rfl), by simp, by simp, fun b => by simp [Value.ownBlock]⟩
    · cases h
  | own _ _ _ b n cap cur c0 _ hg hn hcap hm hcur hz hl hone hc =>
    rcases hv with ⟨h, _⟩ | ⟨g', n', cap', o, h, hx, hoc, ho⟩
    · cases h
    · cases h
      have e1 : o = 0 := by have := ho (.inr rfl); omega
      subst e1
      obtain ⟨d, k1, k2⟩ := row_drop hl hz 0 k (Nat.zero_le _) hk
      rw [take_cut] at k1
      simp only [Nat.zero_mul, List.drop_zero, Nat.sub_zero] at k1
      rw [List.take_take, Nat.min_eq_left (Nat.mul_le_mul_right _ (by omega))] at k1
      refine ⟨_, d, ⟨?_, .inr ⟨b, cap, cur, by rw [hx]; rfl, Nat.zero_le _, hg, by omega, hm, hcur, rfl⟩⟩, by rw [hx]; rfl, k1, fun y hy => hone y ?_, hz, fun b' => ?_⟩
      · rw [List.length_take, Array.length_toList, hcur]; exact Nat.min_eq_left (Nat.mul_le_mul_right _ (by omega))
      · have h2 : k * sz ≤ n * sz := Nat.mul_le_mul_right _ (by omega)
        rw [show k * sz = min (k * sz) (n * sz) by omega, ← List.take_take] at hy
        exact List.mem_of_mem_take hy
      · rw [hc]
        have := k2 b'
        simp only [Value.ownBlock, Option.some.injEq]
        by_cases hbb : b' = b
        · subst hbb; simp; omega
        · rw [if_neg hbb, if_neg (fun e => hbb e.symm)]; omega

theorem owns_rep {w : World} {F : Nat → Prop} {e : TypeId} {sz : Nat} {es : List T} {x : Value} {n : Nat} {xs : List Value} {c0 : Cnt} (h : w.ownsRow 0 e sz x n xs) (hn : n = es.length) (hl : LRep w F (es.flatMap T.cells) xs c0) (hz : ∀ t ∈ es, t.cells.length = sz) (hone : ∀ y ∈ xs, y.oneCell' = true) (hz0 : es = [] → ∀ b, c0 b = 0) :
    TRep w F (.own e sz es) x (fun b => (if x.ownBlock = some b then 1 else 0) + c0 b) := by
  obtain ⟨h1, h2⟩ := h
  rcases h2 with ⟨rfl, rfl⟩ | ⟨g, cap, cur, rfl, _, hg, hnc, hcm, hcs, ht⟩
  · have : es = [] := List.eq_nil_of_length_eq_zero hn.symm
    subst this
    exact .ownnil _ _ _ (fun b => by simp [Value.ownBlock, hz0 rfl])
  · refine .own e sz es g n cap cur c0 _ hg hn hnc hcm hcs hz (by rw [ht]; exact hl) (by rw [ht]; exact hone) (fun b => ?_)
    simp only [Value.ownBlock, Option.some.injEq]
    by_cases hbb : b = g
    · subst hbb; simp
    · rw [if_neg hbb, if_neg (fun e => hbb e.symm)]


theorem run_append {P : Program} {o : Oper} {a : Act} {w w' : World} {s x : Operand} {t u : TypeId} {v : Value} (ho : o.op = .call { callee := .builtin .append, args := #[s, x], argTypes := #[t, u] }) (h : (Builtin.append_ #[t, u] o.type #[a.eval s, a.eval x]).run P w = .ok v w') : (execOp a.eval o).run P w = .ok (.value v) w' := by
  unfold execOp
  simp only [ho, resolve, invoke, builtin, List.map_toArray, List.map_cons, List.map_nil, Sem.run_bind, Sem.run_pure, Result.andThen_ok, h]

/-- What an append comes to, whatever it takes its elements from. -/
theorem append_core {n : Nat} {Z : List Nat} {D : Nat → Prop} {gc : Cnt} {v0 : Nat → Value} {w0 w : World} {tmps : Array Value} {c : Nat → Cnt} (hI : Inv X n Z D gc v0 w0 g tmps w) (hf : Frm X.N w g tmps c) (hb : (∀ i b, 0 < c i b → g i ≠ .ghost → D b ∨ w0.heap.size ≤ b) ∧ ∀ i, g i = .ghost → ∀ b, c i b = gc b)
    {r d k : Nat} {p : Option Nat} {e : TypeId} {sz : Nat} {es news : List T} {t0 : T} {x x0 : Value} {vals : List Value} (hd : d < n ∧ d ∉ Z) (hdr : d ≠ r) (hno : (g d).owner = false) (hr : g r = .t t0) (ha : AtV w t0 (tmps.getD r undef) p (.own e sz es) x0) (hv : View sz 0 k x0 x) (hk : k ≤ es.length)
    (hnews : LRep w (fun b => ∀ j, c j b = 0) (news.flatMap T.cells) vals (fun _ => 0)) (hnone : ∀ y ∈ vals, y.oneCell' = true) (hnz : ∀ t ∈ news, t.cells.length = sz)
    {v' : Value} {w' : World} (hrun : ∀ xs, w.ownsRow 0 e sz x k xs → w'.ownsRow 0 e sz v' (k + news.length) (xs ++ vals) ∧ w.grownBy w' x.ownBlock ∧ (∀ b, v'.ownBlock = some b → x.ownBlock = some b ∨ w.heap.size ≤ b)) :
    Inv X n Z D gc v0 w0 (upd (turned g r p t0 .u) d (.t (.own e sz (es.take k ++ news)))) (tmps.setIfInBounds d v') w' := by
  have hrep := hf.rep r
  rw [hr] at hrep
  have hrg : g r ≠ .ghost := by rw [hr]; exact fun h => by cases h
  have hNw : X.N ≤ w.heap.size := X.hN w hI.glob
  obtain ⟨dd, hdd, hle⟩ := ha.rep hrep
  obtain ⟨xs0, c00, ho0, _⟩ := owns_take hdd hv hk
  obtain ⟨_, hg0, _⟩ := hrun xs0 ho0
  obtain ⟨c1, k1, k2, k2', k3⟩ := hf.turn (w' := w') (t' := .u) (v := v') (a := .t (.own e sz (es.take k ++ news))) hr ha (by rw [hI.size]; exact hd.1) hdr hno hg0.size hNw rfl
  obtain ⟨xs, c0, ho, hob, hl, hone, hz, hc0⟩ := owns_take k1 hv hk
  obtain ⟨q1, hg, q2⟩ := hrun xs ho
  have hlt : ∀ b, 0 < c1 b → b < w.heap.size := k1.lt
  have hblk : ∀ b, b < w.heap.size → (x0.ownBlock = some b → False) → w'.heap[b]? = w.heap[b]? := fun b hb hne => hg.block b hb (by rw [hob]; exact fun e => hne e.symm)
  have hc1r : ∀ b, c1 b ≤ 1 := k2
  have hfrm := k3 (fun _ => 0) (fun b => (if v'.ownBlock = some b then 1 else 0) + c0 b) (fun b hb hz0 => hblk b hb (fun e => by have := hc0 b; rw [if_pos e] at this; omega)) (fun b => by
      have h1 := hc0 b
      have h2 := hc1r b
      by_cases e1 : v'.ownBlock = some b
      · rw [if_pos e1]
        rcases q2 b e1 with e2 | e2
        · rw [hob] at e2; rw [if_pos e2] at h1; omega
        · have : c1 b = 0 := by
            rcases Nat.eq_zero_or_pos (c1 b) with e | e
            · exact e
            · have := hlt b e; omega
          omega
      · rw [if_neg e1]; omega) (fun b hb => by
      have h1 := hc0 b
      by_cases e1 : v'.ownBlock = some b
      · rcases q2 b e1 with e2 | e2
        · rw [hob] at e2; rw [if_pos e2] at h1; left; omega
        · exact .inr e2
      · rw [if_neg e1] at hb; left; omega) (fun F' _ => .u _ _ (fun _ => rfl)) (fun F' g' tmps' hF' _ _ => by
      have m1 : LRep w' F' ((es.take k).flatMap T.cells) xs c0 := hl.mono (fun b hb hfb => ⟨hF' b hfb hb, hblk b hb (fun e => by
          have h1 := hc0 b; rw [if_pos e] at h1
          have := hfb r; have := k2' b; omega)⟩) hg.size (fun b hb => hblk b (hl.lt b hb) (fun e => by have h1 := hc0 b; rw [if_pos e] at h1; have := hc1r b; omega))
      have m2 : LRep w' F' (news.flatMap T.cells) vals (fun _ => 0) := hnews.mono (fun b hb hfb => ⟨hF' b hfb hb, hblk b hb (fun e => by
          have h1 := hc0 b; rw [if_pos e] at h1
          have := hfb r; have := k2' b; omega)⟩) hg.size (fun b hb => absurd hb (by simp))
      have m3 := m1.append m2 (e := c0) (fun b => by simp)
      rw [← List.flatMap_append] at m3
      refine owns_rep q1 (by rw [List.length_append, List.length_take, Nat.min_eq_left hk]) m3 (fun t ht => ?_) (fun y hy => ?_) (fun he b => ?_)
      · rcases List.mem_append.1 ht with ht | ht
        · exact hz t (List.mem_of_mem_take ht)
        · exact hnz t ht
      · rcases List.mem_append.1 hy with hy | hy
        · exact hone y hy
        · exact hnone y hy
      · have e3 : (es.take k).flatMap T.cells = [] := by
          have := List.append_eq_nil_iff.1 he
          rw [this.1]; rfl
        rw [e3] at m1
        cases m1 with | nil _ hc => exact hc b)
  refine hI.step hf hb hfrm (by simp) (fun i hi => by rw [getD_set _ _ _ _ (by rw [hI.size]; exact hd.1), if_neg (by rintro rfl; exact hd.2 hi)]) hg.os hg.tape hg.output hg.size (fun b hb => ?_) (fun i b hib hgi => ?_) (fun i hi => ?_)
  · by_cases e : x0.ownBlock = some b
    · right
      obtain ⟨_, _, _, _, _, _, _, h7⟩ := owns_take hdd hv hk
      have := h7 b; rw [if_pos e] at this
      have := hle b
      exact ⟨r, by omega, hrg⟩
    · exact .inl (hblk b hb e)
  · unfold upd at hib
    split at hib
    · dsimp only at hib
      have h1 := hc0 b
      by_cases e1 : v'.ownBlock = some b
      · rcases q2 b e1 with e2 | e2
        · rw [hob] at e2; rw [if_pos e2] at h1; have := k2' b; exact .inl ⟨r, by omega, hrg⟩
        · exact .inr e2
      · rw [if_neg e1] at hib; have := k2' b; exact .inl ⟨r, by omega, hrg⟩
    · split at hib
      · exact .inl ⟨r, by dsimp only at hib; omega, hrg⟩
      · rename_i n1 n2
        refine .inl ⟨i, hib, fun e => hgi ?_⟩
        rw [upd_ne _ _ n1]; unfold turned turnedK; rw [upd_ne _ _ n2, e]; rfl
  · by_cases hid : i = d
    · subst hid; rw [upd_same] at hi; cases hi
    · rw [upd_ne _ _ hid] at hi
      by_cases hir : i = r
      · subst hir; unfold turned turnedK at hi; rw [upd_same] at hi; cases hi
      · unfold turned turnedK at hi
        rw [upd_ne _ _ hir] at hi
        refine ⟨?_, fun b => by rw [upd_ne _ _ hid, upd_ne _ _ hir]⟩
        exact killA_ghost hi


theorem app_new (w : World) (e : TypeId) (sz n m old : Nat) (xs news : List Value) (z : Array Value) (hx : xs.length = n * sz) (hl : news.length = m * sz) (hz : z.size = sz) (hml : n + m ≤ maxLen) (row : Option Nat) :
    (w.drew.alloc (.cells (xs.toArray ++ news.toArray ++ Builtin.zeroCells z (grownCap w (n + m) old e - (n + m))) e)).ownsRow 0 e sz (.slice (some ⟨w.heap.size, 0, none⟩) (n + m) (grownCap w (n + m) old e)) (n + m) (xs ++ news) ∧
    w.grownBy (w.drew.alloc (.cells (xs.toArray ++ news.toArray ++ Builtin.zeroCells z (grownCap w (n + m) old e - (n + m))) e)) row := by
  have hge := grownCap_ge w (n + m) old e
  have hlen : (xs ++ news).length = (n + m) * sz := by rw [List.length_append, hx, hl, Nat.add_mul]
  refine ⟨⟨hlen, .inr ⟨w.heap.size, _, _, rfl, Nat.zero_le _, heap_alloc_new w.drew _, hge, grownCap_le_maxLen w _ _ _ hml, ?_, ?_⟩⟩, ⟨rfl, rfl, rfl, by simp, fun k hk _ => heap_alloc_old w.drew _ hk⟩⟩
  · have h1 : (grownCap w (n + m) old e - (n + m)) * sz + (n + m) * sz = grownCap w (n + m) old e * sz := by rw [← Nat.add_mul]; congr 1; omega
    have h2 : (Builtin.zeroCells z (grownCap w (n + m) old e - (n + m))).size = (grownCap w (n + m) old e - (n + m)) * sz := by rw [size_zeroCells, hz]
    rw [Array.size_append, Array.size_append, h2, List.size_toArray, List.size_toArray, hx, hl, ← Nat.add_mul]
    omega
  · have : (xs.toArray ++ news.toArray ++ Builtin.zeroCells z (grownCap w (n + m) old e - (n + m))).toList = (xs ++ news) ++ (Builtin.zeroCells z (grownCap w (n + m) old e - (n + m))).toList := by simp
    rw [this, ← hlen]
    exact List.take_left

/-- append of a slice: with the block that it ends in. -/
theorem run_app_sl {P : Program} {w : World} {t ty e : TypeId} {i : TypeInfo} {z : Value} (ht : P.underlying t = some (.slice e)) (hi : P.info? e = some i) (hz : i.zero = some z) (hzs : z.cells.size = i.size)
    {x : Value} {n m c : Nat} {xs news : List Value} (hown : w.ownsRow 0 e i.size x n xs) {a0 : Option Addr} (hl : news.length = m * i.size) (hsz : 0 < i.size)
    (hsrc : (m = 0) ∨ ∃ b, a0 = some b ∧ ∀ k y, news[k]? = some y → w.cell? (b.add k) = some y) (hone : ∀ y ∈ news, y.oneCell' = true) (hml : n + m ≤ maxLen) (hb : (n + m) * i.bytes ≤ 140737488355328) :
    ∃ v' w', (Builtin.append_ #[t, t] ty #[x, .slice a0 m c]).run P w = .ok v' w' ∧ w'.ownsRow 0 e i.size v' (n + m) (xs ++ news) ∧ w.grownBy w' x.ownBlock ∧ (∀ b, v'.ownBlock = some b → x.ownBlock = some b ∨ w.heap.size ≤ b) := by
  have hml' : n + m ≤ 9223372036854775807 := by unfold maxLen at hml; omega
  have stay : m = 0 → news = [] := fun h => List.eq_nil_of_length_eq_zero (by rw [hl, h]; omega)
  have same : w.grownBy w x.ownBlock := ⟨rfl, rfl, rfl, Nat.le_refl _, fun _ _ _ => rfl⟩
  by_cases hm : m = 0
  · have hn := stay hm
    subst hn; subst hm
    simp only [Nat.add_zero, List.append_nil]
    cases a0 with
    | none =>
      rcases hown.2 with ⟨rfl, rfl⟩ | ⟨g, cap, cur, rfl, _, hg, hnc, hcm, hcs, htk⟩
      · refine ⟨.slice none 0 0, w, ?_, hown, same, fun b hb => .inl hb⟩
        simp [Builtin.append_, run_underlying ht, sizeOf, typeInfo, hi, Builtin.lenOf, Builtin.firstCells, loadCells, loadCellsFrom]
      · refine ⟨_, w, ?_, hown, same, fun b hb => .inl hb⟩
        simp [Builtin.append_, run_underlying ht, sizeOf, typeInfo, hi, Builtin.lenOf, Builtin.firstCells, loadCells, loadCellsFrom, hnc, storeCells]
    | some b =>
      rcases hown.2 with ⟨rfl, rfl⟩ | ⟨g, cap, cur, rfl, _, hg, hnc, hcm, hcs, htk⟩
      · refine ⟨.slice none 0 0, w, ?_, hown, same, fun b hb => .inl hb⟩
        simp [Builtin.append_, run_underlying ht, sizeOf, typeInfo, hi, Builtin.lenOf, Builtin.firstCells, loadCells, loadCellsFrom]
      · refine ⟨_, w, ?_, hown, same, fun b hb => .inl hb⟩
        simp [Builtin.append_, run_underlying ht, sizeOf, typeInfo, hi, Builtin.lenOf, Builtin.firstCells, loadCells, loadCellsFrom, hnc, storeCells]
  · rcases hsrc with h | ⟨a, rfl, hsrc⟩
    · exact absurd h hm
    rcases hown.2 with ⟨rfl, rfl⟩ | ⟨g, cap, cur, rfl, _, hg, hnc, hcm, hcs, htk⟩
    · have hx : xs = [] := List.eq_nil_of_length_eq_zero (by simpa using hown.1)
      subst hx
      have hr := run_append_nil (P := P) w t ty e i z ht hi hz a m c news hl hsrc (by omega) (by omega) (by simp only [Nat.zero_add] at hb; omega)
      have := app_new w e i.size 0 m 0 [] news z.cells (by simp) hl hzs hml (Value.ownBlock (.slice none 0 0))
      simp only [Nat.zero_add, List.nil_append] at this ⊢
      refine ⟨_, _, hr, ?_, ?_, fun b hb => ?_⟩
      · simpa using this.1
      · simpa using this.2
      · simp [Value.ownBlock] at hb; exact .inr (by omega)
    · by_cases hroom : n + m ≤ cap
      · have hfit : n * i.size + news.length ≤ cur.size := by rw [hl, hcs, ← Nat.add_mul]; exact Nat.mul_le_mul_right _ hroom
        have hr := run_append_room (P := P) w t ty e i ht hi g n cap cur hg a m c news hl hsrc hone hroom hfit
        have hlen : (xs ++ news).length = (n + m) * i.size := by rw [List.length_append, hown.1, hl, Nat.add_mul]
        refine ⟨_, _, hr, ⟨hlen, .inr ⟨g, cap, _, rfl, Nat.zero_le _, setRow_heap w g cur _ e _ hg, hroom, hcm, ?_, ?_⟩⟩, ⟨rfl, rfl, rfl, by simp, fun k hk hne => setRow_other w g k _ (fun e => hne (by simp [Value.ownBlock, e]))⟩, fun b hb => .inl hb⟩
        · simp only [List.size_toArray, List.length_append, List.length_take, List.length_drop, Array.length_toList]
          omega
        · rw [htk, ← hlen]
          exact List.take_left
      · have holds : ∀ j u, xs[j]? = some u → w.cell? ((⟨g, 0, none⟩ : Addr).add j) = some u := hown.cells (g := g) rfl
        have hr := run_append_grow (P := P) w t ty e i z ht hi hz ⟨g, 0, none⟩ n cap xs hown.1 holds a m c news hl hsrc (by omega) (by omega) (growslice_fits (by omega) hb)
        have := app_new w e i.size n m cap xs news z.cells hown.1 hl hzs hml (Value.ownBlock (.slice (some ⟨g, 0, none⟩) n cap))
        exact ⟨_, _, hr, this.1, this.2, fun b hb => by simp [Value.ownBlock] at hb; exact .inr (by omega)⟩

/-- append of a text. -/
theorem run_app_str {P : Program} {w : World} {t u ty e : TypeId} {i : TypeInfo} (ht : P.underlying t = some (.slice e)) (hu : P.underlying u = some .string) (hi : P.info? e = some i) (hz : i.zero = some (.int .u8 0)) (hsize : i.size = 1) (hby : i.bytes = 1)
    {x : Value} {n : Nat} {xs : List Value} (hown : w.ownsRow 0 e 1 x n xs) (s : ByteArray) (hb : n + s.size ≤ 140737488355328) :
    ∃ v' w', (Builtin.append_ #[t, u] ty #[x, .string s]).run P w = .ok v' w' ∧ w'.ownsRow 0 e 1 v' (n + s.size) (xs ++ strCells s) ∧ w.grownBy w' x.ownBlock ∧ (∀ b, v'.ownBlock = some b → x.ownBlock = some b ∨ w.heap.size ≤ b) := by
  have hml : n + s.size ≤ maxLen := by unfold maxLen; omega
  have hxl : xs.length = n := by simpa using hown.1
  have hlen : (xs ++ strCells s).length = (n + s.size) * 1 := by rw [List.length_append, hxl, strCells_length]; omega
  rcases hown.2 with ⟨rfl, rfl⟩ | ⟨g, cap, cur, rfl, _, hg, hnc, hcm, hcs, htk⟩
  · have hx : xs = [] := List.eq_nil_of_length_eq_zero hxl
    subst hx
    obtain ⟨v', w', h1, h2, h3, h4⟩ := run_append_own_string (P := P) w 0 t u ty e i ht hu hi hz hsize hby (.slice none 0 0) 0 [] hown s hml hb (Nat.zero_le _)
    obtain ⟨v2, w2, k1, k2, k3, k4⟩ := run_append_own_string (P := P) w w.heap.size t u ty e i ht hu hi hz hsize hby (.slice none 0 0) 0 [] (World.ownsRow_nil w w.heap.size e 1) s hml hb (Nat.le_refl _)
    rw [h1] at k1; cases k1
    exact ⟨v', w', h1, h2, h3, fun b hb => .inr (k2.lt b hb).1⟩
  · by_cases hroom : n + s.size ≤ cap
    · have hr := run_append_room_string (P := P) w t u ty e i ht hu hi hsize g n cap cur hg s hroom (by rw [hcs]; omega)
      refine ⟨_, _, hr, ⟨hlen, .inr ⟨g, cap, _, rfl, Nat.zero_le _, setRow_heap w g cur _ e _ hg, hroom, hcm, ?_, ?_⟩⟩, ⟨rfl, rfl, rfl, by simp, fun k hk hne => setRow_other w g k _ (fun e => hne (by simp [Value.ownBlock, e]))⟩, fun b hb => .inl hb⟩
      · simp only [List.size_toArray, List.length_append, List.length_take, List.length_drop, Array.length_toList, strCells_length]
        omega
      · rw [← hlen]
        rw [Nat.mul_one] at htk
        rw [← htk]
        exact List.take_left
    · have holds : ∀ j u, xs[j]? = some u → w.cell? ((⟨g, 0, none⟩ : Addr).add j) = some u := hown.cells (g := g) rfl
      have hr := run_append_grow_string (P := P) w t u ty e i (.int .u8 0) ht hu hi hz ⟨g, 0, none⟩ n cap xs (by rw [hsize]; exact hown.1) holds s (by omega) (by omega) (growslice_fits (by omega) (by rw [hby]; omega))
      have := app_new w e 1 n s.size cap xs (strCells s) #[.int .u8 0] hown.1 (by rw [strCells_length]; omega) rfl hml (Value.ownBlock (.slice (some ⟨g, 0, none⟩) n cap))
      exact ⟨_, _, hr, this.1, this.2, fun b hb => by simp [Value.ownBlock] at hb; exact .inr (by omega)⟩


/-- append(x, y...): x a view from its head on of what slot r owns. -/
theorem step_append {n : Nat} {Z : List Nat} {o : Oper} {x y : Operand} {t e : TypeId} {sz by_ : Nat} {z : Value} {r d k : Nat} {p : Option Nat} {t0 : T} {es news : List T}
    (ho : o.op = .call { callee := .builtin .append, args := #[x, y], argTypes := #[t, t] }) (hdst : o.dst = some d) (hd : d < n ∧ d ∉ Z) (hdr : d ≠ r) (hno : (g d).owner = false)
    (hx : rdp X g x) (hy : rdp X g y) (ex : rd X g x = .ref r p 0 k) (hg : g r = .t t0) (hrt : root g r p = some (.own e sz es)) (ey : elemsA g (rd X g y) = some news) (ht : sliOf X.P t = some (e, sz, by_, z))
    (hz : z.cells.size = sz) (hsz : 0 < sz) (hnz : ∀ t ∈ news, t.cells.length = sz) (hsz2 : sizA g sz (rd X g y))
    (hflat : (news.flatMap T.cells).all T.flat = true) (hml : k + news.length ≤ 9223372036854775807) (hb : (k + news.length) * by_ ≤ 140737488355328) :
    Step X n Z g o (upd (turned g r p t0 .u) d (.t (.own e sz (es.take k ++ news)))) := by
  intro D gc v0 w0 tmps ds w hI next Q hnext
  obtain ⟨c, hf, hbd⟩ := hI.frm
  obtain ⟨hu, i, hi, his, hib, hiz⟩ := sliOf_spec ht
  subst his; subst hib
  have rx := rd_rep (ds := ds) hI.glob hf x hx
  rw [ex] at rx
  obtain ⟨_, t1, e', s, es', x0, h1, h2, h3, h4⟩ := rx
  rw [hg] at h1; cases h1
  have := root_of hg h2
  rw [hrt] at this; cases this
  have ry := rd_rep (ds := ds) hI.glob hf y hy
  obtain ⟨a0, cap, vals, hyv, hl, hone, hlen, hsrc⟩ := elems_rep hf ry ey hnz hsz2 hflat
  have hrun := fun xs (hown : w.ownsRow 0 e i.size (Act.eval ⟨tmps, ds⟩ x) k xs) => run_app_sl (P := X.P) (ty := o.type) hu hi hiz hz hown (a0 := a0) (m := news.length) (c := cap) (news := vals) hlen hsz
    (by rcases hsrc with ⟨e, _⟩ | h; exact .inl (by rw [e]; rfl); exact .inr h) hone (by unfold maxLen; omega) hb
  have hrep := hf.rep r
  rw [hg] at hrep
  obtain ⟨dd, hdd, hle⟩ := h2.rep hrep
  obtain ⟨xs0, c00, ho0, _⟩ := owns_take hdd h4 (by omega)
  obtain ⟨v', w', q1, q2, q3, q4⟩ := hrun xs0 ho0
  refine wp_of_run (run_append ho (by rw [hyv]; exact q1)) ?_
  rw [hdst]
  refine hnext _ _ (append_core hI hf hbd hd hdr hno hg h2 h4 (by omega) hl hone hnz (fun xs hxs => ?_))
  obtain ⟨v2, w2, p1, p2, p3, p4⟩ := hrun xs hxs
  rw [q1] at p1; cases p1
  exact ⟨p2, p3, p4⟩

def encB (b : UInt8) : T := .v (.int .u8 b.toNat)

/-- append(x, s...): a text's bytes. -/
theorem step_append_str {n : Nat} {Z : List Nat} {o : Oper} {x y : Operand} {t u e : TypeId} {by_ : Nat} {z : Value} {r d k : Nat} {p : Option Nat} {t0 : T} {es : List T} {s : ByteArray}
    (ho : o.op = .call { callee := .builtin .append, args := #[x, y], argTypes := #[t, u] }) (hdst : o.dst = some d) (hd : d < n ∧ d ∉ Z) (hdr : d ≠ r) (hno : (g d).owner = false)
    (hx : rdp X g x) (hy : rdp X g y) (ex : rd X g x = .ref r p 0 k) (hg : g r = .t t0) (hrt : root g r p = some (.own e 1 es)) (ey : rd X g y = .t (.v (.string s))) (ht : sliOf X.P t = some (e, 1, 1, .int .u8 0)) (hu : X.P.underlying u = some .string)
    (hb : k + (bl s).length ≤ 140737488355328) :
    Step X n Z g o (upd (turned g r p t0 .u) d (.t (.own e 1 (es.take k ++ (bl s).map encB)))) := by
  intro D gc v0 w0 tmps ds w hI next Q hnext
  obtain ⟨c, hf, hbd⟩ := hI.frm
  obtain ⟨hu', i, hi, his, hib, hiz⟩ := sliOf_spec ht
  have rx := rd_rep (ds := ds) hI.glob hf x hx
  rw [ex] at rx
  obtain ⟨_, t1, e', s', es', x0, h1, h2, h3, h4⟩ := rx
  rw [hg] at h1; cases h1
  have := root_of hg h2
  rw [hrt] at this; cases this
  have ry := rd_v (ds := ds) hI.glob hf hy ey
  have hrun := fun xs (hown : w.ownsRow 0 e 1 (Act.eval ⟨tmps, ds⟩ x) k xs) => run_app_str (P := X.P) (ty := o.type) hu' hu hi hiz his hib hown s (by rw [length_bl] at hb; exact hb)
  have hrep := hf.rep r
  rw [hg] at hrep
  obtain ⟨dd, hdd, hle⟩ := h2.rep hrep
  obtain ⟨xs0, c00, ho0, _⟩ := owns_take hdd h4 (by omega)
  obtain ⟨v', w', q1, q2, q3, q4⟩ := hrun xs0 ho0
  refine wp_of_run (run_append ho (by rw [ry]; exact q1)) ?_
  rw [hdst]
  have hcells : ∀ l : List UInt8, (l.map encB).flatMap T.cells = l.map encB := by
    intro l; induction l with
    | nil => rfl
    | cons b bs ih => rw [List.map_cons, List.flatMap_cons, ih]; rfl
  have hl : ∀ l : List UInt8, LRep w (fun b => ∀ j, c j b = 0) (l.map encB) (l.map fun b => Value.int .u8 b.toNat) (fun _ => 0) := by
    intro l; induction l with
    | nil => exact .nil _ (fun _ => rfl)
    | cons b bs ih => exact .cons _ _ _ _ _ _ _ (.v _ _ (fun _ => rfl)) ih (fun _ => rfl)
  refine hnext _ _ (append_core hI hf hbd hd hdr hno hg h2 h4 (by omega) (vals := strCells s) (by rw [hcells]; exact hl _) (fun y hy => Go.Lib.strCells_oneCell s y hy) (fun t ht => by obtain ⟨b, _, rfl⟩ := List.mem_map.1 ht; rfl) (fun xs hxs => ?_))
  obtain ⟨v2, w2, p1, p2, p3, p4⟩ := hrun xs hxs
  rw [q1] at p1; cases p1
  rw [List.length_map, length_bl]
  exact ⟨p2, p3, p4⟩

end Go.Eng
