/- Lengths, places of elements and fields, pieces of texts and slices. -/
import Derived.Test.YthgemanfbanhnaaDoorEngF
namespace Go.Eng
open Go.RowKit (Below)
variable {X : Ctx} {g : Nat → A}

/-! ### len -/
def lenA : A → Option Nat
  | .t (.v (.string s)) => some (bl s).length
  | .t (.sl _ es) => some es.length
  | .ref _ _ _ n => some n
  | _ => none
theorem View.len {sz off n : Nat} {x0 x : Value} (h : View sz off n x0 x) : ∃ a cap, x = .slice a n cap := by
  rcases h with ⟨_, rfl, rfl, _⟩ | ⟨b, m, cap, o, _, rfl, _⟩
  · exact ⟨_, _, rfl⟩
  · exact ⟨_, _, rfl⟩
theorem good_len {o : Oper} {x : Operand} {t : TypeId} {n : Nat} (ho : o.op = .call { callee := .builtin .len, args := #[x], argTypes := #[t] }) (hx : rdp X g x) (ex : lenA (rd X g x) = some n)     (hd : match rd X g x with | .t (.v _) => X.P.underlying t = some .string | _ => ∃ e, X.P.underlying t = some (.slice e)) : Good X g o (.t (.v (.int .i64 n))) :=
  Good.of_run fun tmps ds w c hG hf => ⟨.int .i64 n, by
    have hr := rd_rep (ds := ds) hG hf x hx
    unfold execOp; simp only [ho, resolve, invoke, builtin]
    simp only [List.map_toArray, List.map_cons, List.map_nil, Sem.run_bind, Sem.run_pure, Result.andThen_ok]
    generalize (Act.mk tmps ds).eval x = xv at *
    generalize rd X g x = a at *
    cases a with
    | t t' =>
      cases t' with
      | v y =>
        rw [TRep.of_v hr]
        cases y with
        | string s =>
          simp only [lenA, Option.some.injEq, length_bl] at ex; subst ex
          simp [Builtin.len_, run_underlying hd, goInt]
        | _ => simp [lenA] at ex
      | sl sz es =>
        simp only [lenA, Option.some.injEq] at ex; subst ex
        obtain ⟨e, he⟩ := hd
        cases hr with
        | slnil => simp [Builtin.len_, run_underlying he, goInt]
        | sl _ _ _ _ _ _ _ _ hn => subst hn; simp [Builtin.len_, run_underlying he, goInt]
      | _ => simp [lenA] at ex
    | ref r p off m =>
      simp only [lenA, Option.some.injEq] at ex; subst ex
      obtain ⟨e, he⟩ := hd
      obtain ⟨_, t0, e', sz, es, x0, h1, h2, h3, h4⟩ := hr
      obtain ⟨ad, cap, hx'⟩ := h4.len
      rw [hx']
      simp [Builtin.len_, run_underlying he, goInt]
    | _ => simp [lenA] at ex, .v _ _ (fun _ => rfl)⟩

/-! ### a text's piece -/
def bndA (X : Ctx) (g : Nat → A) : Option Operand → Option (Option Int)
  | none => some none
  | some x => match rd X g x with
    | .t (.v (.int _ n)) => some (some n)
    | _ => none
def bndP (X : Ctx) (g : Nat → A) : Option Operand → Prop
  | none => True
  | some x => rdp X g x

theorem run_bounds {P : Program} {b : Bool} {l cp : Nat} {lo hi : Option Value} {nlo nhi : Option Int} (hlo : ∀ v, lo = some v → ∃ k n, v = .int k n ∧ nlo = some n) (hlo' : lo = none → nlo = none) (hhi : ∀ v, hi = some v → ∃ k n, v = .int k n ∧ nhi = some n) (hhi' : hi = none → nhi = none)
    (hH : ∀ n, nhi = some n → 0 ≤ n ∧ n ≤ cp) (hL : ∀ n, nlo = some n → 0 ≤ n ∧ n ≤ nhi.getD l) (w : World) :
    (Instr.sliceBounds b l cp lo hi none).run P w = .ok ((nlo.getD 0).toNat, (nhi.getD l).toNat, cp) w := by
  cases lo with
  | none =>
    have e1 := hlo' rfl; subst e1
    cases hi with
    | none => have e2 := hhi' rfl; subst e2; simp [Instr.sliceBounds]
    | some v =>
      obtain ⟨k, n, rfl, rfl⟩ := hhi v rfl
      have := hH n rfl
      simp [Instr.sliceBounds, Instr.sliceBound, asIntOf, this]
  | some u =>
    obtain ⟨k, n, rfl, rfl⟩ := hlo u rfl
    have h1 := hL n rfl
    cases hi with
    | none =>
      have e2 := hhi' rfl; subst e2
      have h2 : n ≤ (l : Int) := h1.2
      simp [Instr.sliceBounds, Instr.sliceBound, asIntOf, h1.1, h2]
    | some v =>
      obtain ⟨k', m, rfl, rfl⟩ := hhi v rfl
      have h2 := hH m rfl
      have h3 : n ≤ m := h1.2
      have h4 : n ≤ max m 0 := by omega
      simp [Instr.sliceBounds, Instr.sliceBound, asIntOf, h1.1, h2, h4]

theorem bnd_spec {X : Ctx} {g : Nat → A} {tmps : Array Value} {ds : List Deferred} {w : World} {c : Nat → Cnt} (hG : X.G w) (hf : Frm X.N w g tmps c) {x : Option Operand} {n : Option Int} (hp : bndP X g x) (he : bndA X g x = some n) :
    (∀ v, x.map (Act.eval ⟨tmps, ds⟩) = some v → ∃ k m, v = .int k m ∧ n = some m) ∧ (x.map (Act.eval ⟨tmps, ds⟩) = none → n = none) := by
  cases x with
  | none => simp only [bndA, Option.some.injEq] at he; subst he; simp
  | some y =>
    simp only [bndA] at he
    split at he
    · rename_i k m e
      cases he
      have := rd_v (ds := ds) hG hf hp e
      simp [this]
    · cases he

/-- From lo on, up to hi. -/
def cut {α : Type} (l : List α) (lo hi : Nat) : List α := (l.take hi).drop lo

theorem extract_bl (s : ByteArray) (lo hi : Nat) : s.extract lo hi = mkS (cut (bl s) lo hi) := by
  apply ByteArray.ext
  simp only [mkS, cut, bl, ByteArray.data_extract]
  apply Array.ext'
  simp only [Array.toList_extract, List.extract_eq_take_drop]
  rw [List.drop_take]

theorem good_slice_str {o : Oper} {t : TypeId} {x : Operand} {lo hi : Option Operand} {s : ByteArray} {nlo nhi : Option Int} (ho : o.op = .slice t x lo hi none) (hx : rdp X g x) (ex : rd X g x = .t (.v (.string s)))
    (hl : bndP X g lo) (hh : bndP X g hi) (el : bndA X g lo = some nlo) (eh : bndA X g hi = some nhi) (ht : X.P.underlying t = some .string)
    (h1 : 0 ≤ nlo.getD 0 ∧ nlo.getD 0 ≤ nhi.getD ((bl s).length : Int) ∧ nhi.getD ((bl s).length : Int) ≤ ((bl s).length : Int)) :
    Good X g o (.t (.v (.string (mkS (cut (bl s) (nlo.getD 0).toNat (nhi.getD ((bl s).length : Int)).toNat))))) :=
  Good.of_run fun tmps ds w c hG hf => ⟨.string (mkS (cut (bl s) (nlo.getD 0).toNat (nhi.getD ((bl s).length : Int)).toNat)), by
    unfold execOp; simp only [ho]
    rw [rd_v (ds := ds) hG hf hx ex]
    refine run_val ?_
    obtain ⟨a1, a2⟩ := bnd_spec (ds := ds) hG hf hl el
    obtain ⟨b1, b2⟩ := bnd_spec (ds := ds) hG hf hh eh
    rw [length_bl] at h1 ⊢
    have hb := run_bounds (P := X.P) (b := false) (l := s.size) (cp := s.size) a1 a2 b1 b2 (fun n hn => by subst hn; simp at h1; omega) (fun n hn => by subst hn; cases nhi <;> simp at h1 ⊢ <;> omega) w
    have hb' : (nhi.getD ((s.size : Nat) : Int)).toNat = (nhi.getD ((s.size : Nat) : Int)).toNat := rfl
    simp only [Instr.sliceAt, Instr.slice, Sem.run_bind, run_underlying ht, Result.andThen_ok, hb, Option.map_none, Option.isSome_none, Bool.false_eq_true, if_false, Sem.run_pure]
    rw [extract_bl], .v _ _ (fun _ => rfl)⟩

/-! ### a slice's piece -/
def sliceOk (nlo nhi : Option Int) (n : Nat) : Prop := 0 ≤ nlo.getD 0 ∧ nlo.getD 0 ≤ nhi.getD (n : Int) ∧ nhi.getD (n : Int) ≤ (n : Int)

theorem row_drop {w : World} {F : Nat → Prop} {es : List T} {sz : Nat} {xs : List Value} {c : Cnt} (hl : LRep w F (es.flatMap T.cells) xs c) (hz : ∀ t ∈ es, t.cells.length = sz) (lo hi : Nat) (hlh : lo ≤ hi) (hh : hi ≤ es.length) :
    ∃ d, LRep w F ((cut es lo hi).flatMap T.cells) ((xs.drop (lo * sz)).take ((hi - lo) * sz)) d ∧ ∀ b, d b ≤ c b := by
  have key : ∀ (es : List T) (n : Nat), (∀ t ∈ es, t.cells.length = sz) → n ≤ es.length → (es.take n).flatMap T.cells = (es.flatMap T.cells).take (n * sz) ∧ (es.drop n).flatMap T.cells = (es.flatMap T.cells).drop (n * sz) := by
    intro es
    induction es with
    | nil => intro n _ h; simp at h; subst h; simp
    | cons t ts ih =>
      intro n hz h
      cases n with
      | zero => simp
      | succ n =>
        obtain ⟨k1, k2⟩ := ih n (fun t ht => hz t (by simp [ht])) (by simpa using h)
        have h0 := hz t (by simp)
        have e : (n + 1) * sz = t.cells.length + n * sz := by rw [Nat.succ_mul, h0]; omega
        simp only [List.take_succ_cons, List.flatMap_cons, List.drop_succ_cons, k1, k2, e]
        exact ⟨by rw [List.take_length_add_append], by rw [List.drop_length_add_append]⟩
  unfold cut
  have hz' : ∀ t ∈ es.take hi, t.cells.length = sz := fun t ht => hz t (List.mem_of_mem_take ht)
  rw [(key (es.take hi) lo hz' (by rw [List.length_take]; omega)).2, (key es hi hz hh).1]
  obtain ⟨d1, k1, q1⟩ := hl.take (hi * sz)
  obtain ⟨d2, k2, q2⟩ := k1.drop (lo * sz)
  refine ⟨d2, ?_, fun b => Nat.le_trans (q2 b) (q1 b)⟩
  rw [List.drop_take (l := xs)] at k2
  rw [Nat.sub_mul]; exact k2

theorem LRep.zeros {w : World} {F : Nat → Prop} {ts : List T} {xs : List Value} {c d : Cnt} (h : LRep w F ts xs c) (hd : ∀ b, c b ≤ d b) (h0 : ∀ b, d b = 0) : LRep w F ts xs (fun _ => 0) :=
  h.count (fun b => by have := hd b; have := h0 b; omega)

theorem cut_length {α : Type} (l : List α) (lo hi : Nat) (h : hi ≤ l.length) : (cut l lo hi).length = hi - lo := by
  unfold cut; rw [List.length_drop, List.length_take]; omega

theorem good_slice_sl {o : Oper} {t e : TypeId} {x : Operand} {lo hi : Option Operand} {sz sz' b' : Nat} {z : Value} {es : List T} {nlo nhi : Option Int} (ho : o.op = .slice t x lo hi none) (hx : rdp X g x) (ex : rd X g x = .t (.sl sz es))
    (hl : bndP X g lo) (hh : bndP X g hi) (el : bndA X g lo = some nlo) (eh : bndA X g hi = some nhi) (ht : sliOf X.P t = some (e, sz', b', z)) (hsz : sz' = sz) (h1 : sliceOk nlo nhi es.length) :
    Good X g o (.t (.sl sz (cut es (nlo.getD 0).toNat (nhi.getD (es.length : Int)).toNat))) :=
  Good.of_run fun tmps ds w c hG hf => by
    subst hsz
    obtain ⟨hu, i, hi', his, _, _⟩ := sliOf_spec ht
    have hr := rd_rep (ds := ds) hG hf x hx
    rw [ex] at hr
    obtain ⟨a1, a2⟩ := bnd_spec (ds := ds) hG hf hl el
    obtain ⟨b1, b2⟩ := bnd_spec (ds := ds) hG hf hh eh
    obtain ⟨q1, q2, q3⟩ := h1
    have run : ∀ ad cap, es.length ≤ cap → (Instr.sliceAt t (.slice ad es.length cap) (lo.map (Act.eval ⟨tmps, ds⟩)) (hi.map (Act.eval ⟨tmps, ds⟩)) none).run X.P w =
        .ok (.slice (if cap = (nlo.getD 0).toNat then ad else ad.map (·.add ((nlo.getD 0).toNat * sz'))) ((nhi.getD (es.length : Int)).toNat - (nlo.getD 0).toNat) (cap - (nlo.getD 0).toNat)) w := by
      intro ad cap hcap
      have hb := run_bounds (P := X.P) (b := true) (l := es.length) (cp := cap) a1 a2 b1 b2 (fun n hn => by subst hn; simp at q2 q3; omega) (fun n hn => by subst hn; cases nhi <;> simp at q1 q2 q3 ⊢ <;> omega) w
      simp only [Instr.sliceAt, Instr.slice, Sem.run_bind, run_underlying hu, hb, sizeOf, typeInfo, hi', his, run_program, Result.andThen_ok, Sem.run_pure]
    have hlo : (nlo.getD 0).toNat ≤ (nhi.getD (es.length : Int)).toNat := by omega
    have hhi : (nhi.getD (es.length : Int)).toNat ≤ es.length := by omega
    have hcl := cut_length es (nlo.getD 0).toNat _ hhi
    have hex : ∀ v v', v = v' → (execOp (Act.eval ⟨tmps, ds⟩) o).run X.P w = .ok (.value v) w → (execOp (Act.eval ⟨tmps, ds⟩) o).run X.P w = .ok (.value v') w := by rintro v _ rfl h; exact h
    cases hr' : Act.eval ⟨tmps, ds⟩ x with
    | slice ad n cap =>
      rw [hr'] at hr
      have hn : n = es.length ∧ n ≤ cap := by cases hr <;> simp_all
      obtain ⟨rfl, hcap⟩ := hn
      refine ⟨.slice (if cap = (nlo.getD 0).toNat then ad else ad.map (·.add ((nlo.getD 0).toNat * sz'))) ((nhi.getD (es.length : Int)).toNat - (nlo.getD 0).toNat) (cap - (nlo.getD 0).toNat), ?_, ?_⟩
      · unfold execOp; simp only [ho, hr']; exact run_val (run ad cap hcap)
      · show TRep w _ _ _ _
        by_cases he : cut es (nlo.getD 0).toNat (nhi.getD (es.length : Int)).toNat = []
        · rw [he] at hcl ⊢
          rw [← hcl]
          exact .slnil _ _ _ _ (fun _ => rfl)
        · have hpos : 0 < (cut es (nlo.getD 0).toNat (nhi.getD (es.length : Int)).toNat).length := List.length_pos_iff.2 he
          cases hr with
          | slnil => simp [cut] at hpos
          | sl _ _ b _ _ vals c0 _ hn _ hF hb hs hv hz hl hone hc0 hc =>
            rw [if_neg (by omega)]
            obtain ⟨d, k1, k2⟩ := row_drop hl hz _ _ hlo hhi
            refine .sl sz' _ (b.add ((nlo.getD 0).toNat * sz')) _ _ _ d _ hcl.symm (by omega) (by rw [block_add]; exact hF) (by rw [block_add]; exact hb) (by unfold Addr.add; split <;> first | exact hs | rfl) (fun k y hk => ?_) (fun t ht => hz t (List.mem_of_mem_take (List.mem_of_mem_drop ht))) k1 (fun y hy => hone y (List.mem_of_mem_drop (List.mem_of_mem_take hy))) (fun b => by have := k2 b; rw [hc0] at this; omega) (fun _ => rfl)
            rw [List.getElem?_take] at hk
            split at hk
            · rw [List.getElem?_drop] at hk
              have := hv _ _ hk
              obtain ⟨bb, bo, bs⟩ := b
              simp only at hs; subst hs
              rw [addr_add] at this
              rw [addr_add, addr_add, show bo + (nlo.getD 0).toNat * sz' + k = bo + ((nlo.getD 0).toNat * sz' + k) by omega]
              exact this
            · cases hk
    | _ => rw [hr'] at hr; cases hr

end Go.Eng
