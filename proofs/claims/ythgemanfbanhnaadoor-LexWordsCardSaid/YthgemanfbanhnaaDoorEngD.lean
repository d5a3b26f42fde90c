/- What local operations come to. -/
import Derived.Test.YthgemanfbanhnaaDoorEngC
namespace Go.Eng
open Go.RowKit (Below)

def A.un : A → A
  | .opt _ a => a
  | a => a
def A.ob : A → Prop
  | .opt c _ => c = true
  | _ => True
def rd (X : Ctx) (g : Nat → A) (x : Operand) : A := (ev X g x).un
def rdp (X : Ctx) (g : Nat → A) (x : Operand) : Prop := (ev X g x).ob

section
variable {X : Ctx} {g : Nat → A} {tmps : Array Value} {ds : List Deferred} {w : World} {c : Nat → Cnt}

theorem rd_rep (hG : X.G w) (hf : Frm X.N w g tmps c) (x : Operand) (h : rdp X g x) : ARep w (fun b => ∀ j, c j b = 0) g tmps (rd X g x) (Act.eval ⟨tmps, ds⟩ x) (fun _ => 0) := by
  have hr := ev_rep (ds := ds) hG hf x
  unfold rd rdp at *
  generalize ev X g x = a at *
  cases a with
  | opt q a => exact hr.2.1 h
  | _ => exact hr

theorem rd_v (hG : X.G w) (hf : Frm X.N w g tmps c) {x : Operand} (h : rdp X g x) {v : Value} (e : rd X g x = .t (.v v)) : Act.eval ⟨tmps, ds⟩ x = v := by
  have hr := rd_rep (ds := ds) hG hf x h
  rw [e] at hr
  exact TRep.of_v hr
end

/-! ### Tables -/
def sliOf (P : Program) (t : TypeId) : Option (TypeId × Nat × Nat × Value) :=
  match P.underlying t with
  | some (.slice e) => match P.info? e with
    | some i => match i.zero with
      | some z => some (e, i.size, i.bytes, z)
      | none => none
    | none => none
  | _ => none
theorem sliOf_spec {P : Program} {t e : TypeId} {sz by_ : Nat} {z : Value} (h : sliOf P t = some (e, sz, by_, z)) : P.underlying t = some (.slice e) ∧ ∃ i, P.info? e = some i ∧ i.size = sz ∧ i.bytes = by_ ∧ i.zero = some z := by
  unfold sliOf at h
  split at h
  · rename_i e' hu
    split at h
    · rename_i i hi
      split at h
      · rename_i z' hz
        cases h
        exact ⟨hu, i, hi, rfl, rfl, hz⟩
      · cases h
    · cases h
  · cases h

/-- Is it a row (a struct, an array), and of how many cells? -/
def tyRow (P : Program) (t : TypeId) : Option (Bool × Nat) :=
  match P.underlying t, P.info? t with
  | some d, some i => some (d.isRow, i.size)
  | _, _ => none
theorem tyRow_spec {P : Program} {t : TypeId} {r : Bool} {n : Nat} (h : tyRow P t = some (r, n)) : ∃ d i, P.underlying t = some d ∧ P.info? t = some i ∧ d.isRow = r ∧ i.size = n := by
  unfold tyRow at h
  split at h
  · rename_i d i hd hi; cases h; exact ⟨d, i, hd, hi, rfl, rfl⟩
  · cases h

/-- A field: its first cell, whether it is a row, how many cells it has. -/
def fldOf (P : Program) (s : TypeId) (f : Nat) : Option (Nat × Bool × Nat) :=
  match P.underlying s with
  | some (.struct fs) => match fs[f]? with
    | some x => match tyRow P x.type with
      | some (r, n) => some (x.offset, r, n)
      | none => none
    | none => none
  | _ => none
theorem fldOf_spec {P : Program} {s : TypeId} {f off n : Nat} {r : Bool} (h : fldOf P s f = some (off, r, n)) : ∃ fs x, P.underlying s = some (.struct fs) ∧ fs[f]? = some x ∧ x.offset = off ∧ tyRow P x.type = some (r, n) := by
  unfold fldOf at h
  split at h
  · rename_i fs hu
    split at h
    · rename_i x hx
      split at h
      · rename_i r n ht; cases h; exact ⟨fs, x, hu, hx, rfl, ht⟩
      · cases h
    · cases h
  · cases h

/-! ### Numbers, texts, Bools -/
def bl (s : ByteArray) : List UInt8 := s.data.toList
def mkS (l : List UInt8) : ByteArray := ⟨l.toArray⟩
@[simp] theorem bl_mkS (l : List UInt8) : bl (mkS l) = l := by simp [bl, mkS]
@[simp] theorem mkS_bl (s : ByteArray) : mkS (bl s) = s := by
  show (⟨s.data.toList.toArray⟩ : ByteArray) = s
  rw [Array.toArray_toList]
@[simp] theorem size_mkS (l : List UInt8) : (mkS l).size = l.length := List.size_toArray
theorem length_bl (s : ByteArray) : (bl s).length = s.size := Array.length_toList
@[simp] theorem mkS_append (a b : List UInt8) : mkS a ++ mkS b = mkS (a ++ b) := by
  apply ByteArray.ext
  show ((⟨a.toArray⟩ : ByteArray) ++ ⟨b.toArray⟩).data = (a ++ b).toArray
  rw [ByteArray.data_append]
  simp only [List.append_toArray]

def binV : BinOp → Value → Value → Value
  | .add, .int k a, .int _ b => .int k (k.wrap (a + b))
  | .sub, .int k a, .int _ b => .int k (k.wrap (a - b))
  | .mul, .int k a, .int _ b => .int k (k.wrap (a * b))
  | .quo, .int k a, .int _ b => .int k (k.wrap (a.tdiv b))
  | .rem, .int k a, .int _ b => .int k (a.tmod b)
  | .and, .int k a, .int _ b => .int k (k.wrap (BitVec.ofInt k.bits a &&& BitVec.ofInt k.bits b).toNat)
  | .or, .int k a, .int _ b => .int k (k.wrap (BitVec.ofInt k.bits a ||| BitVec.ofInt k.bits b).toNat)
  | .xor, .int k a, .int _ b => .int k (k.wrap (BitVec.ofInt k.bits a ^^^ BitVec.ofInt k.bits b).toNat)
  | .shl, .int k a, .int _ b => .int k (k.wrap (a * 2 ^ (min b.toNat k.bits)))
  | .shr, .int k a, .int _ b => .int k (a.fdiv (2 ^ (min b.toNat k.bits)))
  | .eql, .int _ a, .int _ b => .bool (decide (a = b))
  | .neq, .int _ a, .int _ b => .bool (!decide (a = b))
  | .lss, .int _ a, .int _ b => .bool (decide (a < b))
  | .leq, .int _ a, .int _ b => .bool (decide (a ≤ b))
  | .gtr, .int _ a, .int _ b => .bool (decide (b < a))
  | .geq, .int _ a, .int _ b => .bool (decide (b ≤ a))
  | .add, .string a, .string b => .string (a ++ b)
  | .eql, .string a, .string b => .bool (decide (bl a = bl b))
  | .neq, .string a, .string b => .bool (!decide (bl a = bl b))
  | .lss, .string a, .string b => .bool (Op.bytesLess (bl a) (bl b))
  | .gtr, .string a, .string b => .bool (!(Op.bytesLess (bl a) (bl b) || decide (bl a = bl b)))
  | .eql, .bool a, .bool b => .bool (a == b)
  | .neq, .bool a, .bool b => .bool (!(a == b))
  | _, _, _ => undef
def binOk (P : Program) (t : TypeId) : BinOp → Value → Value → Prop
  | .shl, .int _ _, .int _ b | .shr, .int _ _, .int _ b => 0 ≤ b
  | .quo, .int k _, .int k' b | .rem, .int k _, .int k' b => k = k' ∧ b ≠ 0
  | .andNot, .int _ _, .int _ _ => False
  | _, .int k _, .int k' _ => k = k'
  | .add, .string a, .string b => a.size + b.size ≤ 9223372036854775807
  | .eql, .string _, .string _ | .neq, .string _, .string _ | .lss, .string _, .string _ | .gtr, .string _, .string _ => True
  | .eql, .bool _, .bool _ | .neq, .bool _, .bool _ => P.underlying t = some .bool
  | _, _, _ => False

theorem toList_bl (s : ByteArray) : s.toList = bl s := ByteArray.toList_eq s

theorem beq_decide {α : Type} [BEq α] [LawfulBEq α] [DecidableEq α] (a b : α) : (a == b) = decide (a = b) := by
  by_cases h : a = b <;> simp [h]

theorem run_equal_bool {P : Program} {t : TypeId} (hu : P.underlying t = some .bool) (a b : Bool) (w : World) : (Op.equal t (.bool a) (.bool b)).run P w = .ok (a == b) w := by
  unfold Op.equal
  rw [show Op.maxDepth = 9999 + 1 from rfl, Op.equalIn]
  simp [run_underlying hu]

theorem run_bin {P : Program} {t : TypeId} {op : BinOp} {a b : Value} (h : binOk P t op a b) (w : World) (x y : Operand) :
    (do eqGuard op t x y a b; binOp op t a b : Sem Value).run P w = .ok (binV op a b) w := by
  cases a <;> cases b <;> try (cases op <;> exact False.elim h)
  · rename_i a b
    cases op <;> try exact False.elim h
    all_goals
      have hu : P.underlying t = some .bool := h
      simp [eqGuard, binOp, run_equal_bool hu, binV]
  · rename_i k a k' b
    cases op
    all_goals try exact False.elim h
    all_goals
      simp only [binOk] at h
    all_goals
      first
        | (obtain ⟨rfl, h⟩ := h; simp [eqGuard, binOp, Op.intDiv, binV, h])
        | (subst h; simp [eqGuard, binOp, Op.intArith, Op.intBits, Op.intCmp, binV, beq_decide, bne])
        | (simp [eqGuard, binOp, Op.shift, binV, show ¬ b < 0 by omega])
  · rename_i a b
    cases op <;> try exact False.elim h
    all_goals
      simp only [binOk] at h
      simp [eqGuard, binOp, Op.stringOp, binV, toList_bl, beq_decide, IntKind.max, IntKind.signed, IntKind.bits]
    omega

end Go.Eng
