/- Typed trees: weaker trees; numbers; views. -/
import Derived.Test.YthgemanfbanhnaaDoorEngW
namespace Go.Eng
open Go.RowKit (Below)
set_option linter.unusedVariables false
set_option linter.unusedSimpArgs false
variable {X : Ctx} {Y : DX} {n : Nat} {st : DSt} {g : Nat → A}

/-! ### weaker trees -/
def TLe (t t' : T) : Prop := ∀ (w : World) (F : Nat → Prop) (x : Value) (c : Cnt), TRep w F t x c → TRep w F t' x c
theorem TLe.rfl {t : T} : TLe t t := fun _ _ _ _ h => h
inductive LLe : List T → List T → Prop
  | nil : LLe [] []
  | cons {t t' : T} {ts ts' : List T} (h : TLe t t') (k : LLe ts ts') : LLe (t :: ts) (t' :: ts')
theorem LLe.refl : ∀ ts : List T, LLe ts ts
  | [] => .nil
  | t :: ts => .cons TLe.rfl (LLe.refl ts)
theorem LLe.rep {ts ts' : List T} (h : LLe ts ts') : ∀ {w : World} {F : Nat → Prop} {xs : List Value} {c : Cnt}, LRep w F ts xs c → LRep w F ts' xs c := by
  induction h with
  | nil => intro _ _ _ _ h; exact h
  | cons h k ih =>
    intro w F xs c hl
    cases hl with
    | cons _ _ x xs c1 c2 _ h1 h2 hc => exact .cons _ _ _ _ c1 c2 _ (h _ _ _ _ h1) (ih h2) hc
theorem LLe.append {a b c d : List T} (h : LLe a b) (k : LLe c d) : LLe (a ++ c) (b ++ d) := by
  induction h with
  | nil => exact k
  | cons h _ ih => exact .cons h ih
theorem LLe.length {a b : List T} (h : LLe a b) : a.length = b.length := by
  induction h with
  | nil => rfl
  | cons _ _ ih => simp [ih]
theorem LLe.take {a b : List T} (h : LLe a b) : ∀ k, LLe (a.take k) (b.take k) := by
  induction h with
  | nil => intro k; simp; exact .nil
  | cons h _ ih => intro k; cases k with
    | zero => exact .nil
    | succ k => exact .cons h (ih k)
theorem LLe.drop {a b : List T} (h : LLe a b) : ∀ k, LLe (a.drop k) (b.drop k) := by
  induction h with
  | nil => intro k; simp; exact .nil
  | cons h k' ih => intro k; cases k with
    | zero => exact .cons h k'
    | succ k => exact ih k
theorem LLe.place {a b : List T} (h : LLe a b) (off : Nat) (ts : List T) : LLe (placeT a off ts) (placeT b off ts) :=
  ((h.take off).append (LLe.refl ts)).append (h.drop _)
theorem TLe.ag {a b : List T} (h : LLe a b) : TLe (.ag a) (.ag b) := by
  intro w F x c hr
  cases hr with
  | ag _ vs _ hl hone hc => exact .ag _ _ _ (h.rep hl) hone hc
theorem TLe.box {e : TypeId} {a b : List T} (h : LLe a b) : TLe (.box e a) (.box e b) := by
  intro w F x c hr
  cases hr with
  | box _ _ gg cur c0 _ hg hl hone hc => exact .box _ _ gg cur c0 _ hg (h.rep hl) hone hc
theorem LLe.flat {es es' : List T} (h : LLe (es.flatMap T.cells) (es'.flatMap T.cells)) (hl : es.length = es'.length) {e : TypeId} {sz : Nat} (hz : ∀ t ∈ es', t.cells.length = sz) : TLe (.own e sz es) (.own e sz es') := by
  intro w F x c hr
  cases hr with
  | ownnil _ _ _ hc =>
    have : es' = [] := List.length_eq_zero_iff.1 (by rw [← hl]; rfl)
    subst this; exact .ownnil _ _ _ hc
  | own _ _ _ gg m cap cur c0 _ hg hn hcap hm hcur hz' hl' hone hc => exact .own e sz es' gg m cap cur c0 _ hg (by rw [hn, hl]) hcap hm hcur hz (h.rep hl') hone hc
theorem Good.le {o : Oper} {t t' : T} (h : Good X g o (.t t)) (k : TLe t t') : Good X g o (.t t') := by
  intro tmps ds w c hG hf next Q hn
  refine h tmps ds w c hG hf next Q (fun v w' hw hr => hn v w' hw ?_)
  obtain ⟨cd, h1, h2, h3⟩ := hr
  exact ⟨cd, k _ _ _ _ h1, h2, h3⟩

theorem Good.fz {o : Oper} {t : T} (h : Good X g o (.t t)) : Good X g o (.t t.fz) := by
  intro tmps ds w c hG hf next Q hn
  refine h tmps ds w c hG hf next Q (fun v w' hw hr => hn v w' hw ?_)
  obtain ⟨cd, h1, h2, h3⟩ := hr
  refine ⟨fun _ => 0, TRep.fz h1 (fun b _ hF => ⟨hF.1, rfl⟩) (fun b hb => ⟨fun j => ?_, rfl⟩), fun b hb => absurd hb (by simp), fun _ => Nat.zero_le _⟩
  rcases Nat.eq_zero_or_pos (c j b) with e | e
  · exact e
  · have := hf.lt j b e; have := h2 b hb; omega

/-- Zero values. -/
theorem zcells_le : ∀ t : Ty, t.fine = true → LLe ((zcells t).map .v) (t.cells t.dflt)
  | .u8, _ => .cons TLe.rfl .nil
  | .int _, _ => .cons TLe.rfl .nil
  | .bool, _ => .cons TLe.rfl .nil
  | .str, _ => .cons TLe.rfl .nil
  | .opq, h => by cases h
  | .sl sz t, _ => .cons (fun w F x c hr => by cases hr with | v _ _ hc => exact .slnil _ _ _ _ hc) .nil
  | .unit, _ => .nil
  | .pair a b, h => by
    simp only [Ty.fine, Bool.and_eq_true] at h
    simp only [zcells, List.map_append, Ty.cells, Ty.dflt]
    exact (zcells_le a h.1).append (zcells_le b h.2)
theorem zcells_one : ∀ t : Ty, t.fine = true → (zcells t).all Value.oneCell' = true
  | .u8, _ | .int _, _ | .bool, _ | .str, _ | .sl _ _, _ => by rfl
  | .opq, h => by cases h
  | .unit, _ => rfl
  | .pair a b, h => by
    simp only [Ty.fine, Bool.and_eq_true] at h
    simp only [zcells, List.all_append, zcells_one a h.1, zcells_one b h.2, Bool.and_self]
theorem zcells_len (t : Ty) (h : t.fine = true) : (zcells t).length = t.sz := by
  have := (zcells_le t h).length
  rw [List.length_map, cells_len] at this; exact this
theorem zval_cells (t : Ty) (h : t.fine = true) : (zval t).cells = (zcells t).toArray := by
  cases t <;> first | rfl | cases h
theorem zeroT_le (t : Ty) (h : t.fine = true) : TLe (zeroT (zval t)) (t.enc t.dflt) := by
  cases t with
  | u8 | int | bool | str => exact TLe.rfl
  | opq => cases h
  | sl sz t => exact fun w F x c hr => by cases hr with | v _ _ hc => exact .slnil _ _ _ _ hc
  | unit => exact TLe.rfl
  | pair a b => exact TLe.ag (zcells_le (.pair a b) h)

/-! ### numbers -/
def asI : DT → Option (IntKind × Int)
  | .s .u8 x => some (.u8, ((x : UInt8).toNat : Int))
  | .s (.int .u8) _ => none
  | .s (.int k) x => some (k, x)
  | _ => none
def mkI (k : IntKind) (n : Int) : DT := match k with
  | .u8 => .s .u8 n.toNat.toUInt8
  | k => .s (.int k) n
theorem asI_spec {x : DT} {k : IntKind} {a : Int} (h : asI x = some (k, a)) : x.toT = .v (.int k a) ∧ (k = .u8 → 0 ≤ a ∧ a < 256) := by
  cases x with
  | s t x =>
    cases t with
    | u8 =>
      simp only [asI, Option.some.injEq, Prod.mk.injEq] at h
      obtain ⟨rfl, rfl⟩ := h
      have hlt : UInt8.toNat x < 256 := UInt8.toNat_lt x
      exact ⟨rfl, fun _ => ⟨by omega, by omega⟩⟩
    | int k' =>
      cases k' with
      | u8 => cases h
      | _ => cases h; exact ⟨rfl, fun e => by cases e⟩
    | _ => cases h
  | _ => cases h
theorem mkI_spec (k : IntKind) (a : Int) (h : k = .u8 → 0 ≤ a ∧ a < 256) : (mkI k a).toT = .v (.int k a) := by
  cases k with
  | u8 =>
    simp only [mkI, DT.toT, Ty.enc, Ty.row, mkT, Ty.cells, List.headD_cons]
    rw [u8_back a (h rfl)]
  | _ => rfl

/-! ### arrays that nobody writes -/
theorem arrOf_spec {P : Program} {t : TypeId} {n sz : Nat} (h : arrOf P t = some (n, sz)) : ∃ e i, P.underlying t = some (.array n e) ∧ P.info? e = some i ∧ i.size = sz := by
  unfold arrOf at h
  split at h
  · rename_i n' e hu
    split at h
    · rename_i i hi; cases h; exact ⟨e, i, hu, hi, rfl⟩
    · cases h
  · cases h
theorem good_slice_arr {o : Oper} {t : TypeId} {x : Operand} {sz : Nat} {es : List T} (ho : o.op = .slice t x none none none) (hx : rdp X g x) (ex : rd X g x = .sptr (es.flatMap T.cells)) (ht : arrOf X.P t = some (es.length, sz)) (hz : ∀ y ∈ es, y.cells.length = sz) :
    Good X g o (.t (.sl sz es)) :=
  Good.of_run fun tmps ds w c hG hf => by
    obtain ⟨e, i, hu, hi, his⟩ := arrOf_spec ht
    have hr := rd_rep (ds := ds) hG hf x hx
    rw [ex] at hr
    obtain ⟨_, a, vals, h1, h2, h3, h4, h5, h6, h7⟩ := hr
    refine ⟨.slice (some a) es.length es.length, ?_, .sl sz es a es.length es.length vals (fun _ => 0) _ rfl (Nat.le_refl _) h3 h4 h2 h5 hz h6 h7 (fun _ => rfl) (fun _ => rfl)⟩
    unfold execOp; simp only [ho, h1]
    refine run_val ?_
    have hb := run_bounds (P := X.P) (b := false) (l := es.length) (cp := es.length) (lo := none) (hi := none) (nlo := none) (nhi := none) (fun v h => by cases h) (fun _ => rfl) (fun v h => by cases h) (fun _ => rfl) (fun n h => by cases h) (fun n h => by cases h) w
    simp only [Option.getD_none, Int.toNat_zero, Int.toNat_natCast] at hb
    have hadd : a.add (0 * i.size) = a := by rw [Nat.zero_mul]; exact addr_add_zero a
    simp only [Instr.sliceAt, Sem.run_bind, run_underlying hu, Result.andThen_ok, Instr.sureAddr, Sem.run_pure, Option.map_none, hb, sizeOf, typeInfo, run_program, hi, hadd, Nat.sub_zero, ite_self]
theorem good_indexAddr_arr {o : Oper} {t : TypeId} {x ix : Operand} {sz : Nat} {es : List T} {k : IntKind} {n : Int} (ho : o.op = .indexAddr t x ix) (hx : rdp X g x) (hix : rdp X g ix) (ex : rd X g x = .sptr (es.flatMap T.cells)) (ei : rd X g ix = .t (.v (.int k n))) (ht : arrOf X.P t = some (es.length, sz)) (hz : ∀ y ∈ es, y.cells.length = sz) (h0 : 0 ≤ n) (h1 : n < (es.length : Int)) :
    Good X g o (.sptr (es.getD n.toNat .u).cells) :=
  Good.of_run fun tmps ds w c hG hf => by
    obtain ⟨e, i, hu, hi, his⟩ := arrOf_spec ht
    have hr := rd_rep (ds := ds) hG hf x hx
    rw [ex] at hr
    have hiv := rd_v (ds := ds) hG hf hix ei
    obtain ⟨_, b, vals, q1, hs, hF, hb, hv, hl, hone⟩ := hr
    obtain ⟨d, k1, k2, k3⟩ := row_elem hl hz n.toNat (es.getD n.toNat .u) (getD_of _ _ _ (by omega))
    refine ⟨.pointer (some (b.add (n.toNat * sz))), ?_, fun _ => rfl, _, _, rfl, by unfold Addr.add; split <;> first | exact hs | rfl, by rw [block_add]; exact hF, by rw [block_add]; exact hb, fun j y hj => ?_, k1.zeros k2 (fun _ => rfl), fun y hy => hone y (List.mem_of_mem_drop (List.mem_of_mem_take hy))⟩
    · unfold execOp; simp only [ho, q1, hiv]
      refine run_val ?_
      simp only [Instr.indexAt, asIntOf, Sem.run_bind, Sem.run_pure, Result.andThen_ok, run_underlying hu, Instr.sureAddr, if_pos (And.intro h0 h1), sizeOf, typeInfo, run_program, hi, his]
    · rw [List.getElem?_take] at hj
      split at hj
      · rw [List.getElem?_drop] at hj
        have := hv _ _ hj
        obtain ⟨bb, bo, bs⟩ := b
        simp only at hs; subst hs
        rw [addr_add] at this
        rw [addr_add, addr_add, show bo + n.toNat * sz + j = bo + (n.toNat * sz + j) by omega]
        exact this
      · cases hj
end Go.Eng
