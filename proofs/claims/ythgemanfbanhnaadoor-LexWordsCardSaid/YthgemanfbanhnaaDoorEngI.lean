/- Making: structs, slices, variables of their own. -/
import Derived.Test.YthgemanfbanhnaaDoorEngH
import Derived.Laws.MakeOwn
namespace Go.Eng
open Go.RowKit (Below)
set_option linter.unusedVariables false
set_option linter.unusedSimpArgs false
variable {X : Ctx} {g : Nat → A}

/-- A tree that stands for a value with cells. -/
def T.solid : T → Bool
  | .v y => y.oneCell'
  | .sl _ _ | .ag _ => true
  | _ => false

theorem TRep.solid {w : World} {F : Nat → Prop} {t : T} {x : Value} {c : Cnt} (h : TRep w F t x c) (hs : t.solid = true) : LRep w F t.cells x.cells.toList (fun _ => 0) ∧ ∀ y ∈ x.cells.toList, y.oneCell' = true := by
  have hz := h.zero (by cases t <;> first | rfl | cases hs)
  cases h with
  | u | ownnil | own | box | tup | opt => cases hs
  | v =>
    have h1 : x.oneCell' = true := hs
    have hx : x.cells = #[x] := by cases x <;> first | rfl | cases h1
    rw [hx]
    exact ⟨.cons _ _ _ _ _ _ _ (.v _ _ (fun _ => rfl)) (.nil _ (fun _ => rfl)) (fun _ => rfl), by simpa using h1⟩
  | slnil => exact ⟨.cons _ _ _ _ _ _ _ (.slnil _ _ _ _ (fun _ => rfl)) (.nil _ (fun _ => rfl)) (fun _ => rfl), by simp [Value.cells, Value.oneCell']⟩
  | sl sz es b n cap vals c0 c hn hcap hF hb hsp hv hz hl hone hc0 hc =>
    exact ⟨.cons _ _ _ _ _ _ _ (.sl sz es b n cap vals c0 _ hn hcap hF hb hsp hv hz hl hone hc0 (fun _ => rfl)) (.nil _ (fun _ => rfl)) (fun _ => rfl), by simp [Value.cells, Value.oneCell']⟩
  | ag cs vs c hl hone hc => exact ⟨hl.count (fun b => (hc b).symm), hone⟩

/-! ### fill -/
def placeT {α : Type} (cs : List α) (off : Nat) (ts : List α) : List α := cs.take off ++ ts ++ cs.drop (off + ts.length)
theorem placeT_length {α : Type} (cs : List α) (off : Nat) (ts : List α) (h : off + ts.length ≤ cs.length) : (placeT cs off ts).length = cs.length := by
  simp [placeT]; omega

theorem set_cut {α : Type} (l xs : List α) (m : Nat) (x : α) (h : m < l.length) :
    (l.set m x).take (m + 1) ++ xs ++ (l.set m x).drop (m + 1 + xs.length) = l.take m ++ (x :: xs) ++ l.drop (m + (xs.length + 1)) := by
  have hm : (l.take m).length = m := by rw [List.length_take]; omega
  have e : l.set m x = l.take m ++ x :: l.drop (m + 1) := by rw [List.set_eq_take_append_cons_drop, if_pos h]
  rw [e]
  have e1 : (l.take m ++ x :: l.drop (m + 1)).take (m + 1) = l.take m ++ [x] := by
    rw [List.take_append, hm, show m + 1 - m = 1 by omega, List.take_of_length_le (by omega)]; rfl
  have e2 : (l.take m ++ x :: l.drop (m + 1)).drop (m + 1 + xs.length) = l.drop (m + (xs.length + 1)) := by
    rw [List.drop_append, hm, List.drop_eq_nil_of_le (by omega), show m + 1 + xs.length - m = xs.length + 1 by omega, List.drop_succ_cons, List.drop_drop]
    simp; congr 1; omega
  rw [e1, e2]; simp

theorem foldl_set (off : Nat) : ∀ (l : List Value) (k : Nat) (arr : Array Value), off + k + l.length ≤ arr.size →
    ((l.zipIdx k).foldl (fun cs p => cs.setIfInBounds (off + p.2) p.1) arr).toList = placeT arr.toList (off + k) l := by
  intro l
  induction l with
  | nil => intro k arr _; simp [placeT]
  | cons x xs ih =>
    intro k arr h
    simp only [List.length_cons] at h
    rw [List.zipIdx_cons, List.foldl_cons, ih (k + 1) _ (by simp; omega)]
    simp only [placeT, List.length_cons, Array.toList_setIfInBounds]
    rw [show off + (k + 1) = off + k + 1 by omega]
    exact set_cut _ _ _ _ (by rw [Array.length_toList]; omega)

theorem fill_cells (off : Nat) (v : Value) (arr : Array Value) (h : off + v.cells.size ≤ arr.size) : (v.cells.zipIdx.foldl (fun cs (c, j) => cs.setIfInBounds (off + j) c) arr).toList = placeT arr.toList off v.cells.toList := by
  have := foldl_set off v.cells.toList 0 arr (by simpa using h)
  rw [Nat.add_zero] at this
  rw [← this, ← Array.foldl_toList, Array.toList_zipIdx]

def fillT (place : Nat → Option (Nat × Nat)) (cs : List T) : List (Nat × T) → Option (List T)
  | [] => some cs
  | (i, t) :: rest => match place i with
    | none => none
    | some (off, size) => if t.cells.length = size ∧ off + size ≤ cs.length then fillT place (placeT cs off t.cells) rest else none

theorem LRep.place {w : World} {F : Nat → Prop} {cs ts : List T} {vs xs : List Value} {off : Nat} (h : LRep w F cs vs (fun _ => 0)) (k : LRep w F ts xs (fun _ => 0)) : LRep w F (placeT cs off ts) (placeT vs off xs) (fun _ => 0) := by
  obtain ⟨d1, h1, q1⟩ := h.take off
  obtain ⟨d2, h2, q2⟩ := h.drop (off + ts.length)
  unfold placeT
  rw [← k.length]
  exact ((h1.zeros q1 (fun _ => rfl)).append k (fun _ => rfl)).append (h2.zeros q2 (fun _ => rfl)) (fun _ => rfl)

theorem mem_placeT {α : Type} {cs ts : List α} {off : Nat} {y : α} (h : y ∈ placeT cs off ts) : y ∈ cs ∨ y ∈ ts := by
  simp only [placeT, List.mem_append] at h
  rcases h with (h | h) | h
  · exact .inl (List.mem_of_mem_take h)
  · exact .inr h
  · exact .inl (List.mem_of_mem_drop h)

theorem fill_rep {w : World} {F : Nat → Prop} {place : Nat → Option (Nat × Nat)} : ∀ (ps : List (Nat × T)) (xs : List (Nat × Value)) (cs cs' : List T) (arr : Array Value),
    LRep w F cs arr.toList (fun _ => 0) → (∀ y ∈ arr.toList, y.oneCell' = true) → ps.map (·.1) = xs.map (·.1) → (∀ (i : Nat) (p : Nat × T) (q : Nat × Value), ps[i]? = some p → xs[i]? = some q → TRep w F p.2 q.2 (fun _ => 0) ∧ p.2.solid = true) →
    fillT place cs ps = some cs' → ∃ arr', Instr.fill place arr xs = some arr' ∧ LRep w F cs' arr'.toList (fun _ => 0) ∧ ∀ y ∈ arr'.toList, y.oneCell' = true
  | [], [], cs, cs', arr, h, h1, _, _, hf => by cases hf; exact ⟨arr, rfl, h, h1⟩
  | [], _ :: _, _, _, _, _, _, he, _, _ => by simp at he
  | _ :: _, [], _, _, _, _, _, he, _, _ => by simp at he
  | (i, t) :: ps, (j, x) :: xs, cs, cs', arr, h, h1, he, hr, hf => by
    simp only [List.map_cons, List.cons.injEq] at he
    obtain ⟨rfl, he⟩ := he
    obtain ⟨k1, k2⟩ := hr 0 (i, t) (i, x) (by simp) (by simp)
    obtain ⟨k3, k4⟩ := k1.solid k2
    simp only [fillT] at hf
    cases hp : place i with
    | none => rw [hp] at hf; cases hf
    | some q =>
      obtain ⟨off, size⟩ := q
      rw [hp] at hf
      simp only at hf
      split at hf
      · rename_i hs
        have hlen : t.cells.length = x.cells.size := by have := k3.length; simpa using this
        have harr : cs.length = arr.size := by have := h.length; simpa using this
        have e1 := fill_cells off x arr (by have := hs.1; have := hs.2; dsimp only at *; omega)
        obtain ⟨arr', q1, q2, q3⟩ := fill_rep ps xs (placeT cs off t.cells) cs' (x.cells.zipIdx.foldl (fun cs (c, j) => cs.setIfInBounds (off + j) c) arr) (by rw [e1]; exact h.place k3)
          (by rw [e1]; intro y hy; rcases mem_placeT hy with hy | hy; exact h1 y hy; exact k4 y hy) he (fun n p q ht hx => hr (n + 1) p q (by simpa using ht) (by simpa using hx)) hf
        refine ⟨arr', ?_, q2, q3⟩
        simp only [Instr.fill, hp]
        have hn : ¬ (x.cells.size ≠ size ∨ off + x.cells.size > arr.size) := by have := hs.1; have := hs.2; dsimp only at *; omega
        rw [if_neg (by simp only [Bool.or_eq_true, decide_eq_true_eq]; exact hn)]
        exact q1
      · cases hf

/-! ### operands of a literal -/
def partsA (X : Ctx) (g : Nat → A) : List (Nat × Operand) → Option (List (Nat × T))
  | [] => some []
  | (i, x) :: rest => match rd X g x, partsA X g rest with
    | .t t, some ts => if t.solid then some ((i, t) :: ts) else none
    | _, _ => none
def partsP (X : Ctx) (g : Nat → A) : List (Nat × Operand) → Prop
  | [] => True
  | (_, x) :: rest => rdp X g x ∧ partsP X g rest

theorem parts_rep {tmps : Array Value} {ds : List Deferred} {w : World} {c : Nat → Cnt} (hG : X.G w) (hf : Frm X.N w g tmps c) : ∀ (ps : List (Nat × Operand)) (ts : List (Nat × T)), partsP X g ps → partsA X g ps = some ts →
    ts.map (·.1) = (ps.map fun (i, x) => (i, Act.eval ⟨tmps, ds⟩ x)).map (·.1) ∧
    ∀ (i : Nat) (p : Nat × T) (q : Nat × Value), ts[i]? = some p → (ps.map fun (i, x) => (i, Act.eval ⟨tmps, ds⟩ x))[i]? = some q → TRep w (fun b => ∀ j, c j b = 0) p.2 q.2 (fun _ => 0) ∧ p.2.solid = true
  | [], ts, _, h => by cases h; exact ⟨rfl, by simp⟩
  | (i, x) :: ps, ts, hp, h => by
    simp only [partsA] at h
    split at h
    · rename_i t ts' e1 e2
      split at h
      · rename_i hs
        cases h
        obtain ⟨h1, h2⟩ := parts_rep hG hf ps ts' hp.2 e2
        refine ⟨by simpa using h1, fun j p q ht hx => ?_⟩
        cases j with
        | zero =>
          simp at ht hx; subst ht; subst hx
          have := rd_rep (ds := ds) hG hf x hp.1
          rw [e1] at this
          exact ⟨this, hs⟩
        | succ j => exact h2 j p q (by simpa using ht) (by simpa using hx)
      · cases h
    · cases h

theorem mapM_run {α β : Type} {P : Program} {w : World} (f : α → Sem β) (h : α → β) : ∀ (xs : List α), (∀ x ∈ xs, (f x).run P w = .ok (h x) w) → (xs.mapM f).run P w = .ok (xs.map h) w
  | [], _ => by simp
  | x :: xs, hx => by
    rw [List.mapM_cons]
    simp [hx x (by simp), mapM_run f h xs (fun y hy => hx y (by simp [hy]))]

theorem amapM_run {α β : Type} {P : Program} {w : World} (f : α → Sem β) (h : α → β) (xs : Array α) (hx : ∀ x ∈ xs.toList, (f x).run P w = .ok (h x) w) : (xs.mapM f).run P w = .ok (xs.map h) w := by
  rw [Array.mapM_eq_mapM_toList, Sem.run_map, mapM_run f h xs.toList hx]
  simp only [Result.andThen_ok]
  congr 1
  exact Array.ext' (by simp)

/-- A struct's (an array's) zero cells, and where its parts lie. -/
def layOf (P : Program) (t : TypeId) : Option (List Value × List (Nat × Nat)) :=
  match P.info? t with
  | some i => match i.zero with
    | some z => match P.underlying t with
      | some (.struct fs) => if fs.all fun f => (P.info? f.type).isSome then some (z.cells.toList, fs.toList.map fun f => (f.offset, P.cellsOf f.type)) else none
      | _ => none
    | none => none
  | none => none

theorem zeros_rep {w : World} {F : Nat → Prop} : ∀ (zs : List Value), LRep w F (zs.map .v) zs (fun _ => 0)
  | [] => .nil _ (fun _ => rfl)
  | z :: zs => .cons _ _ _ _ _ _ _ (.v _ _ (fun _ => rfl)) (zeros_rep zs) (fun _ => rfl)

theorem good_build {o : Oper} {t : TypeId} {ps : Array (Nat × Operand)} {zs : List Value} {pl : List (Nat × Nat)} {ts : List (Nat × T)} {cs : List T} (ho : o.op = .build t ps) (hp : partsP X g ps.toList) (hts : partsA X g ps.toList = some ts) (hl : layOf X.P t = some (zs, pl)) (hz : zs.all Value.oneCell' = true)
    (hf : fillT (pl[·]?) (zs.map .v) ts = some cs) : Good X g o (.t (.ag cs)) :=
  Good.of_run fun tmps ds w c hG hfr => by
    obtain ⟨k1, k2⟩ := parts_rep (ds := ds) hG hfr ps.toList ts hp hts
    unfold layOf at hl
    split at hl
    · rename_i i hi
      split at hl
      · rename_i z hz0
        have hzero : (zeroValue t).run X.P w = .ok z w := by simp [zeroValue, typeInfo, hi, hz0]
        split at hl
        · rename_i fs hu
          split at hl
          · rename_i hall
            cases hl
            obtain ⟨arr, q1, q2, q3⟩ := fill_rep (place := fun i => (fs.toList.map fun f => (f.offset, X.P.cellsOf f.type))[i]?) ts _ _ cs z.cells (zeros_rep z.cells.toList) (List.all_eq_true.1 hz) k1 k2 hf
            refine ⟨.agg arr, ?_, .ag _ _ _ q2 q3 (fun _ => rfl)⟩
            unfold execOp; simp only [ho]
            refine run_val ?_
            have hm : (fs.mapM fun f => do pure (f.offset, ← sizeOf f.type) : Sem (Array (Nat × Nat))).run X.P w = .ok (fs.map fun f => (f.offset, X.P.cellsOf f.type)) w := by
              refine amapM_run _ _ fs (fun f hf => ?_)
              have : (X.P.info? f.type).isSome = true := by
                have := Array.all_eq_true'.1 hall f (by simpa using hf); simpa using this
              obtain ⟨j, hj⟩ := Option.isSome_iff_exists.1 this
              simp [sizeOf, typeInfo, hj, Program.cellsOf]
            simp only [Instr.build, Sem.run_bind, hzero, Result.andThen_ok, run_underlying hu, hm]
            have e1 : (fun (i : Nat) => (fs.map fun f => (f.offset, X.P.cellsOf f.type))[i]?) = (fun (i : Nat) => (fs.toList.map fun f => (f.offset, X.P.cellsOf f.type))[i]?) := by
              funext i; rw [← Array.toList_map, Array.getElem?_toList]
            have e2 : (ps.map fun (i, x) => (i, Act.eval ⟨tmps, ds⟩ x)).toList = ps.toList.map fun (i, x) => (i, Act.eval ⟨tmps, ds⟩ x) := by simp
            rw [e1, e2, q1]
            rfl
          · cases hl
        · cases hl
      · cases hl
    · cases hl

/-! ### slices and variables of the call's own -/

/-- A new block: what stood stays; the new one is owned by what is made. -/
theorem Good.of_new {o : Oper} {a : A}
    (h : ∀ tmps ds w c, X.G w → Frm X.N w g tmps c → ∃ v ob cd, (execOp (Act.eval ⟨tmps, ds⟩) o).run X.P w = .ok (.value v) (w.alloc ob) ∧ ARep (w.alloc ob) (fun b => (∀ j, c j b = 0) ∧ cd b = 0) g tmps a v cd ∧ (∀ b, cd b = if b = w.heap.size then 1 else 0)) : Good X g o a := by
  intro tmps ds w c hG hf next Q hn
  obtain ⟨v, ob, cd, hv, hr, hc⟩ := h tmps ds w c hG hf
  exact wp_of_run hv (hn v _ ((Below.refl _ _).alloc (Nat.le_refl _) _) ⟨cd, hr, fun b hb => by rw [hc] at hb; split at hb <;> omega, fun b => by rw [hc]; split <;> omega⟩)

theorem Frm.fresh {N : Nat} {w : World} {tmps : Array Value} {c : Nat → Cnt} (h : Frm N w g tmps c) (j : Nat) : c j w.heap.size = 0 := by
  rcases Nat.eq_zero_or_pos (c j w.heap.size) with e | e
  · exact e
  · have := h.lt j _ e; omega

/-- What is read before a new block is made is read behind it, too. -/
theorem LRep.new {N : Nat} {w : World} {tmps : Array Value} {c : Nat → Cnt} (hf : Frm N w g tmps c) {cd : Cnt} (hcd : ∀ b, cd b = if b = w.heap.size then 1 else 0) {cs : List T} {xs : List Value} {ob : Obj} (h : LRep w (fun b => ∀ j, c j b = 0) cs xs (fun _ => 0)) :
    LRep (w.alloc ob) (fun b => (∀ j, c j b = 0) ∧ cd b = 0) cs xs (fun _ => 0) := by
  have := hf.lt
  exact h.mono (fun b hb hfb => ⟨⟨hfb, by rw [hcd, if_neg (by omega)]⟩, heap_alloc_old w ob hb⟩) (by simp) (fun b hb => absurd hb (by simp))

def zeroT (z : Value) : T := match z with
  | .agg cs => .ag (cs.toList.map .v)
  | v => .v v

theorem zeroT_cells (z : Value) : (zeroT z).cells = z.cells.toList.map .v := by
  cases z <;> simp [zeroT, T.cells, Value.cells]

theorem flatMap_replicate {α β : Type} (f : α → List β) (x : α) : ∀ n, (List.replicate n x).flatMap f = (List.replicate n (f x)).flatten
  | 0 => rfl
  | n + 1 => by simp [List.replicate_succ, flatMap_replicate f x n]

theorem made_take (z : Array Value) (l c : Nat) (hl : l ≤ c) : (madeCells z (c * z.size)).toList.take (l * z.size) = (List.replicate l z.toList).flatten := by
  have hlen : ((List.replicate l z.toList).flatten).length = l * z.size := by simp [List.length_flatten, List.map_replicate]
  apply List.ext_getElem?
  intro n
  rw [List.getElem?_take]
  by_cases h : n < l * z.size
  · rw [if_pos h]
    have h2 : n < c * z.size := Nat.lt_of_lt_of_le h (Nat.mul_le_mul_right _ hl)
    have e1 : (madeCells z (c * z.size)).toList[n]? = some z[n % z.size]! := by
      simp [madeCells, h2]
    rw [e1]
    clear e1 h2 hlen hl
    induction l generalizing n with
    | zero => simp at h
    | succ l ih =>
      rw [List.replicate_succ, List.flatten_cons, List.getElem?_append]
      split
      · rename_i h3
        rw [Array.length_toList] at h3
        rw [Nat.mod_eq_of_lt h3, Array.getElem?_toList, getElem!_pos z n h3, getElem?_pos z n h3]
      · rename_i h3
        rw [Array.length_toList] at h3 ⊢
        have h4 : n - z.size < l * z.size := by rw [Nat.succ_mul] at h; omega
        rw [← ih (n - z.size) h4, Nat.mod_eq_sub_mod (by omega)]
  · rw [if_neg h, List.getElem?_eq_none (by omega)]

theorem good_makeSlice {o : Oper} {t e : TypeId} {l cp : Operand} {sz by_ : Nat} {z : Value} {kl kc : IntKind} {n m : Int} (ho : o.op = .makeSlice t l cp) (hl : rdp X g l) (hc : rdp X g cp) (el : rd X g l = .t (.v (.int kl n))) (ec : rd X g cp = .t (.v (.int kc m)))
    (ht : sliOf X.P t = some (e, sz, by_, z)) (hz : z.cells.size = sz) (hsz : 0 < sz) (hone : z.cells.toList.all Value.oneCell' = true) (h0 : 0 ≤ n) (h1 : n ≤ m) (hb : (by_ : Int) * m ≤ 281474976710656) (h63 : m ≤ 9223372036854775807) :
    Good X g o (.t (.own e sz (List.replicate n.toNat (zeroT z)))) :=
  Good.of_new fun tmps ds w c hG hf => by
    obtain ⟨hu, i, hi, his, hib, hiz⟩ := sliOf_spec ht
    subst his; subst hib
    have hr := run_make (P := X.P) w t e i z hu hi hiz kl kc n m h0 h1 hb h63
    rw [← hz] at hr
    refine ⟨.slice (some ⟨w.heap.size, 0, none⟩) n.toNat m.toNat, .cells (madeCells z.cells (m.toNat * z.cells.size)) e, fun b => if b = w.heap.size then 1 else 0, ?_, ?_, fun b => rfl⟩
    · unfold execOp; simp only [ho, rd_v (ds := ds) hG hf hl el, rd_v (ds := ds) hG hf hc ec]
      exact run_val hr
    · refine .own e i.size _ w.heap.size n.toNat m.toNat _ (fun _ => 0) _ (heap_alloc_new w _) (by simp) (by omega) (by unfold maxLen; omega) (by rw [size_madeCells, hz]) (fun t ht => ?_) ?_ ?_ (fun b => by simp)
      · rw [(List.mem_replicate.1 ht).2, zeroT_cells, List.length_map, Array.length_toList, hz]
      · rw [flatMap_replicate, zeroT_cells, ← hz, made_take _ _ _ (by omega)]
        clear hr
        induction n.toNat with
        | zero => exact .nil _ (fun _ => rfl)
        | succ k ih => rw [List.replicate_succ, List.replicate_succ, List.flatten_cons, List.flatten_cons]; exact (zeros_rep _).append ih (fun _ => rfl)
      · intro y hy
        replace hy := List.mem_of_mem_take hy
        simp only [madeCells, Array.toList_map, List.mem_map] at hy
        obtain ⟨k, _, rfl⟩ := hy
        have hlt : k % z.cells.size < z.cells.size := Nat.mod_lt _ (by omega)
        rw [getElem!_pos z.cells _ hlt]
        exact List.all_eq_true.1 hone _ (by simp)

/-- A variable of the call's own, with its zero value. -/
def zerOf (P : Program) (t : TypeId) : Option Value :=
  match P.info? t with
  | some i => i.zero
  | none => none

theorem box_new {o : Oper} {e : TypeId} {cs : List T} (h : ∀ tmps ds w c, X.G w → Frm X.N w g tmps c → ∃ x : Value, (execOp (Act.eval ⟨tmps, ds⟩) o).run X.P w = .ok (.value (.pointer (some ⟨w.heap.size, 0, none⟩))) (w.alloc (.cells x.cells e)) ∧ LRep w (fun b => ∀ j, c j b = 0) cs x.cells.toList (fun _ => 0) ∧ ∀ y ∈ x.cells.toList, y.oneCell' = true) :
    Good X g o (.t (.box e cs)) :=
  Good.of_new fun tmps ds w c hG hf => by
    obtain ⟨x, h1, h2, h3⟩ := h tmps ds w c hG hf
    exact ⟨_, _, fun b => if b = w.heap.size then 1 else 0, h1, .box e cs w.heap.size x.cells (fun _ => 0) _ (heap_alloc_new w _) (LRep.new hf (fun _ => rfl) h2) h3 (fun b => by simp), fun _ => rfl⟩

theorem good_alloc {o : Oper} {e : TypeId} {z : Value} (ho : o.op = .alloc e) (hz : zerOf X.P e = some z) (hone : z.cells.toList.all Value.oneCell' = true) : Good X g o (.t (.box e (z.cells.toList.map .v))) :=
  box_new fun tmps ds w c hG hf => by
    unfold zerOf at hz
    split at hz
    · rename_i i hi
      refine ⟨z, ?_, zeros_rep _, List.all_eq_true.1 hone⟩
      unfold execOp; simp only [ho]
      refine run_val ?_
      simp [Instr.alloc, zeroValue, typeInfo, hi, hz, newVar, newRow]
    · cases hz

theorem good_box {o : Oper} {e : TypeId} {x : Operand} {t : T} (ho : o.op = .box e x) (hx : rdp X g x) (ex : rd X g x = .t t) (hs : t.solid = true) : Good X g o (.t (.box e t.cells)) :=
  box_new fun tmps ds w c hG hf => by
    have hr := rd_rep (ds := ds) hG hf x hx
    rw [ex] at hr
    obtain ⟨h1, h2⟩ := TRep.solid hr hs
    refine ⟨Act.eval ⟨tmps, ds⟩ x, ?_, h1, h2⟩
    unfold execOp; simp only [ho]
    refine run_val ?_
    simp [Instr.box, newVar, newRow]

/-! ### a slice's literal -/
theorem fillT_row (sz : Nat) : ∀ (ts : List T) (k : Nat) (pre suf : List T), pre.length = k * sz → suf.length = ts.length * sz → (∀ t ∈ ts, t.cells.length = sz) →
    fillT (fun i => some (i * sz, sz)) (pre ++ suf) ((List.range' k ts.length).zip ts) = some (pre ++ ts.flatMap T.cells)
  | [], k, pre, suf, _, h2, _ => by
    simp at h2
    simp [fillT, h2]
  | t :: ts, k, pre, suf, h1, h2, hz => by
    have h0 := hz t (by simp)
    simp only [List.length_cons, Nat.succ_mul] at h2
    simp only [List.length_cons, List.range'_succ, List.zip_cons_cons, fillT]
    rw [if_pos (by rw [List.length_append, h0]; omega)]
    have e : placeT (pre ++ suf) (k * sz) t.cells = (pre ++ t.cells) ++ suf.drop sz := by
      unfold placeT
      rw [← h1, List.take_left, h0, List.drop_append, List.drop_eq_nil_of_le (by omega)]
      simp
    rw [e, fillT_row sz ts (k + 1) (pre ++ t.cells) (suf.drop sz) (by rw [List.length_append, h1, h0, Nat.succ_mul]) (by rw [List.length_drop]; omega) (fun t ht => hz t (by simp [ht]))]
    simp

/-- The parts stand in order, one a place. -/
def inOrder (k : Nat) : List (Nat × T) → Bool
  | [] => true
  | (i, _) :: rest => i == k && inOrder (k + 1) rest

theorem inOrder_zip : ∀ (ps : List (Nat × T)) (k : Nat), inOrder k ps = true → ps = (List.range' k ps.length).zip (ps.map (·.2))
  | [], _, _ => rfl
  | (i, t) :: ps, k, h => by
    simp only [inOrder, Bool.and_eq_true, beq_iff_eq] at h
    obtain ⟨rfl, h⟩ := h
    simp only [List.length_cons, List.range'_succ, List.map_cons, List.zip_cons_cons]
    rw [← inOrder_zip ps (i + 1) h]

theorem good_buildSlice {o : Oper} {t e : TypeId} {n : Nat} {ps : Array (Nat × Operand)} {sz by_ : Nat} {z : Value} {ts : List (Nat × T)} (ho : o.op = .buildSlice t n ps) (hp : partsP X g ps.toList) (hts : partsA X g ps.toList = some ts) (ht : sliOf X.P t = some (e, sz, by_, z))
    (hn : ts.length = n) (hord : inOrder 0 ts = true) (hsz : 0 < sz) (hz : z.cells.size = sz) (hone : z.cells.toList.all Value.oneCell' = true) (hcs : ∀ p ∈ ts, p.2.cells.length = sz) (hbig : n * sz ≤ 16777216) (hby : n ≤ maxLen) :
    Good X g o (.t (.own e sz (ts.map (·.2)))) :=
  Good.of_new fun tmps ds w c hG hf => by
    obtain ⟨hu, i, hi, his, hib, hiz⟩ := sliOf_spec ht
    subst his
    obtain ⟨k1, k2⟩ := parts_rep (ds := ds) hG hf ps.toList ts hp hts
    have hz0 : LRep w (fun b => ∀ j, c j b = 0) ((List.replicate n (z.cells.toList.map T.v)).flatten) (madeCells z.cells (n * i.size)).toList (fun _ => 0) := by
      have e1 : (madeCells z.cells (n * i.size)).toList = (List.replicate n z.cells.toList).flatten := by
        have := made_take z.cells n n (Nat.le_refl _)
        rw [hz, List.take_of_length_le (by rw [Array.length_toList, size_madeCells]; exact Nat.le_refl _)] at this
        exact this
      rw [e1]
      have aux : ∀ k, LRep w (fun b => ∀ j, c j b = 0) ((List.replicate k (z.cells.toList.map T.v)).flatten) ((List.replicate k z.cells.toList).flatten) (fun _ => 0) := by
        intro k
        induction k with
        | zero => exact .nil _ (fun _ => rfl)
        | succ k ih => rw [List.replicate_succ, List.replicate_succ, List.flatten_cons, List.flatten_cons]; exact (zeros_rep _).append ih (fun _ => rfl)
      exact aux n
    have hz1 : ∀ y ∈ (madeCells z.cells (n * i.size)).toList, y.oneCell' = true := by
      intro y hy
      simp only [madeCells, Array.toList_map, List.mem_map] at hy
      obtain ⟨k, _, rfl⟩ := hy
      have hlt : k % z.cells.size < z.cells.size := Nat.mod_lt _ (by omega)
      rw [getElem!_pos z.cells _ hlt]
      exact List.all_eq_true.1 hone _ (by simp)
    have hfill := fillT_row i.size (ts.map (·.2)) 0 [] ((List.replicate n (z.cells.toList.map T.v)).flatten) (by simp) (by
      rw [List.length_flatten, List.map_replicate, List.length_map, List.length_map, Array.length_toList, hz, hn]; simp) (by
      intro t ht; obtain ⟨p, hp, rfl⟩ := List.mem_map.1 ht; exact hcs p hp)
    rw [List.length_map, List.nil_append, List.nil_append, ← inOrder_zip ts 0 hord] at hfill
    obtain ⟨arr, q1, q2, q3⟩ := fill_rep (place := fun j => some (j * i.size, i.size)) ts _ _ _ _ hz0 hz1 k1 k2 hfill
    have hsize : arr.size = n * i.size := by
      have aux : ∀ ts : List (Nat × T), (∀ p ∈ ts, p.2.cells.length = i.size) → ((ts.map (·.2)).flatMap T.cells).length = ts.length * i.size := by
        intro ts
        induction ts with
        | nil => intro _; simp
        | cons p ps ih => intro hcs; rw [List.map_cons, List.flatMap_cons, List.length_append, ih (fun q hq => hcs q (by simp [hq])), hcs p (by simp), List.length_cons, Nat.succ_mul]; omega
      have h1 : arr.toList.length = ((ts.map (·.2)).flatMap T.cells).length := q2.length.symm
      rw [aux ts hcs, hn] at h1
      simpa using h1
    refine ⟨.slice (some ⟨w.heap.size, 0, none⟩) n n, .cells arr e, fun b => if b = w.heap.size then 1 else 0, ?_, ?_, fun _ => rfl⟩
    · unfold execOp; simp only [ho]
      refine run_val ?_
      have e2 : (ps.map fun (i, x) => (i, Act.eval ⟨tmps, ds⟩ x)).toList = ps.toList.map fun (i, x) => (i, Act.eval ⟨tmps, ds⟩ x) := by simp
      have hbig' : ¬ (n * i.size > 2 ^ 24) := by omega
      have e3 : ((ps.map fun (i, x) => (i, Act.eval ⟨tmps, ds⟩ x)).toList : List (Nat × Value)) = (ps.toList.map fun x => (x.1, Act.eval ⟨tmps, ds⟩ x.2)) := e2
      have q1' : Instr.fill (fun j => some (j * i.size, i.size)) (madeCells z.cells (n * i.size)) (ps.toList.map fun x => (x.1, Act.eval ⟨tmps, ds⟩ x.2)) = some arr := q1
      by_cases h0 : n * i.size = 0
      · have hm : (Array.range (n * i.size)).map ((#[] : Array Value)[· % (#[] : Array Value).size]!) = madeCells z.cells (n * i.size) := by rw [h0]; simp [madeCells]
        simp only [Instr.buildSlice, Sem.run_bind, run_underlying hu, Result.andThen_ok, sizeOf, typeInfo, run_program, hi, Sem.run_pure, if_neg hbig', if_pos h0, hm, e3, q1', newRow, run_newObj]
        rfl
      · have hm : (Array.range (n * i.size)).map (z.cells[· % z.cells.size]!) = madeCells z.cells (n * i.size) := rfl
        simp only [Instr.buildSlice, Sem.run_bind, run_underlying hu, Result.andThen_ok, sizeOf, typeInfo, run_program, hi, Sem.run_pure, if_neg hbig', if_neg h0, zeroValue, hiz, hm, e3, q1', newRow, run_newObj]
        rfl
    · refine .own e i.size _ w.heap.size n n arr (fun _ => 0) _ (heap_alloc_new w _) (by rw [List.length_map, hn]) (Nat.le_refl _) hby hsize (by intro t ht; obtain ⟨p, hp, rfl⟩ := List.mem_map.1 ht; exact hcs p hp) ?_ (fun y hy => q3 y (List.mem_of_mem_take hy)) (fun b => by simp)
      rw [List.take_of_length_le (by rw [Array.length_toList, hsize]; exact Nat.le_refl _)]
      exact LRep.new hf (fun _ => rfl) q2

end Go.Eng
