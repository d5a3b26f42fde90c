/- For the walks: a few shapes. -/
import Derived.Test.YthgemanfbanhnaaDoorEngT
namespace Go.Eng
open Go.RowKit (Below)
set_option linter.unusedVariables false
set_option linter.unusedSimpArgs false
variable {X : Ctx} {n : Nat} {Z : List Nat} {Q : Exit → St → Prop} {st : St}

def condC (X : Ctx) (n : Nat) (st : St) (c : Operand) (x y : Prop) : Prop :=
  match rd X (stG n st) c with
  | .t (.v (.bool t)) => rdp X (stG n st) c ∧ (t = true → x) ∧ (t = false → y)
  | _ => False
theorem AW_condE {c : Operand} {x y : Code} (h : condC X n st c (AW X n Z x st Q) (AW X n Z y st Q)) : AW X n Z (.cond c x y) st Q := by
  unfold condC at h
  split at h
  · rename_i t ht; exact AW_cond h.1 ht h.2.1 h.2.2
  · exact h.elim

def noCall (ops : Array Oper) : Bool := ops.toList.all fun o => match o.op with
  | .call { callee := .value _, .. } => false
  | _ => (ops.toList.filter (·.guard.isSome)).length ≤ 4
theorem AW_regionN {id : Nat} {ops : Array Oper} (hn : noCall ops = true) (h : regC X n Z ops.toList ops.toList st (Q .normal)) : AW X n Z (.region id ops false) st Q := AW_region h

theorem wrap64 {a : Int} (h : -9223372036854775808 ≤ a) (h2 : a ≤ 9223372036854775807) : IntKind.wrap .i64 a = a := by
  simp only [IntKind.wrap, IntKind.bits, IntKind.signed]
  simp
  omega
theorem wrap8 {a : Int} (h : 0 ≤ a) (h2 : a ≤ 255) : IntKind.wrap .u8 a = a := by
  simp only [IntKind.wrap, IntKind.bits, IntKind.signed]
  simp
  omega
theorem bl_lit (l : List UInt8) : bl ⟨l.toArray⟩ = l := rfl
theorem pickT_or (q y : Bool) : pickT q (.v (.bool true)) (.v (.bool y)) = .v (.bool (q || y)) := by cases q <;> rfl
theorem pickT_and (q x : Bool) : pickT q (.v (.bool x)) (.v (.bool false)) = .v (.bool (q && x)) := by cases q <;> rfl
theorem pickT_int (q : Bool) (k k' : IntKind) (a b : Int) : pickT q (.v (.int k a)) (.v (.int k' b)) = .v (.int k (if q then a else b)) := by cases q <;> rfl
theorem ownEx {e0 : TypeId} {sz0 sz : Nat} {es0 : List T} : (∃ (e : TypeId) (l : List T), some (T.own e0 sz0 es0) = some (T.own e sz l)) = (sz0 = sz) := by
  apply propext; constructor
  · rintro ⟨e, l, h⟩; cases h; rfl
  · rintro rfl; exact ⟨_, _, rfl⟩
theorem cut_cons {α : Type} (a : α) (l : List α) (k : Nat) : cut (a :: l) 0 (k + 1) = a :: cut l 0 k := by simp [cut]
theorem cut_none {α : Type} (l : List α) : cut l 0 0 = [] := by simp [cut]
theorem sizeInt (k : IntKind) (n : Int) : (Value.int k n).cells.size = 1 := rfl
theorem oneInt (k : IntKind) (n : Int) : (Value.int k n).cells.toList.all Value.oneCell' = true := rfl
theorem oneIntV (k : IntKind) (n : Int) : (Value.int k n).oneCell' = true := rfl
theorem oneStrV (s : ByteArray) : (Value.string s).oneCell' = true := rfl
theorem oneBoolV (b : Bool) : (Value.bool b).oneCell' = true := rfl
theorem cellsTv (x : Value) : (T.v x).cells = [T.v x] := rfl
theorem drop_cons {α : Type} {l : List α} {i : Nat} {c d : α} {r : List α} (h : l.drop i = c :: r) : l.getD i d = c ∧ l.drop (i + 1) = r ∧ l.length = i + (r.length + 1) := by
  have h1 : l[i]? = some c := by
    have : (l.drop i)[0]? = some c := by rw [h]; rfl
    rw [List.getElem?_drop] at this; simpa using this
  refine ⟨by rw [List.getD_eq_getElem?_getD, h1]; rfl, ?_, ?_⟩
  · rw [← List.drop_drop, h]; rfl
  · have : (l.drop i).length = r.length + 1 := by rw [h]; rfl
    rw [List.length_drop] at this; omega
theorem drop_ex {α : Type} {l : List α} {i : Nat} (h : i < l.length) : ∃ c r, l.drop i = c :: r := ⟨_, _, List.drop_eq_getElem_cons h⟩
theorem takeMap {l : List UInt8} : (l.map encB).take l.length = l.map encB := by rw [← List.length_map (f := encB), List.take_length]
theorem mapSnoc {l : List UInt8} {b : UInt8} : l.map encB ++ [encB b] = (l ++ [b]).map encB := by rw [List.map_append]; rfl
theorem cut_zero {α : Type} (l : List α) (i : Nat) : cut l 0 i = l.take i := by simp [cut]
theorem cutMap {l : List UInt8} : cut (l.map encB) 0 l.length = l.map encB := by rw [cut_zero, takeMap]
theorem cut_all {α : Type} (l : List α) (i : Nat) : cut l i l.length = l.drop i := by simp [cut]

/-- A region of open order, all of whose operations are local. -/
theorem AW_drawA {id : Nat} {ops : Array Oper} (tab hd : List (List Nat)) (hm : X.P.follows .mixedOrders = true) (hok : drawOk ops.toList [] tab hd = true)
    (h : st.find n = none ∧ drawGo X n Z ops.toList hd ops.toList st (Q .normal)) : AW X n Z (.region id ops true) st Q := by
  refine AW_draw ops.toList [] tab hd (by simp) hm hok ⟨h.1, ?_⟩
  rw [List.append_nil]
  exact h.2
/-- The same: behind the first k operations the others stand in their order. -/
theorem AW_drawK {id : Nat} {ops : Array Oper} (k : Nat) (tab hd : List (List Nat)) (hm : X.P.follows .mixedOrders = true) (hok : drawOk (ops.toList.take k) (ops.toList.drop k) tab hd = true)
    (h : st.find n = none ∧ drawGo X n Z ops.toList hd (ops.toList.take k) st fun s => regC X n Z ops.toList (ops.toList.drop k) s (Q .normal)) : AW X n Z (.region id ops true) st Q := by
  refine AW_draw (ops.toList.take k) (ops.toList.drop k) tab hd (by simp) hm hok ⟨h.1, ?_⟩
  rw [List.take_append_drop]
  exact h.2

end Go.Eng
