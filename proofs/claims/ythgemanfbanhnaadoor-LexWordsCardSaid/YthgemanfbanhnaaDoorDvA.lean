/- One operation that writes one slot, in typed trees. -/
import Derived.Test.YthgemanfbanhnaaDoorEngX
namespace Go.Eng
open Go.RowKit (Below)
set_option linter.unusedVariables false
set_option linter.unusedSimpArgs false

/-- What a call is told to give. -/
structure CallRes where
  α : Type
  val : Option α
  wrap : α → DT
  dflt : α
  bare : Bool
abbrev Env := FuncId → List DT → Option CallRes
/-- The contract of what is called. -/
def CallOk (X : Ctx) (f : FuncId) (args : List DT) (c : CallRes) : Prop :=
  (∀ r, c.val = some r → (isFn X.P f = true ∧ APure X f (args.map DT.toT) (c.wrap r).toT) ∨ (c.bare = false ∧ AExt X f (args.map DT.toT) (c.wrap r).toT)) ∧ (c.bare = true → ∀ r, (c.wrap r).toT.noSl = true)
def EnvOk (X : Ctx) (E : Env) : Prop := ∀ f args c, E f args = some c → CallOk X f args c

section
variable {ρ : Type}

def sliT (Y : DX) (t : TypeId) : Option (TypeId × Ty × Nat) := match look Y.tab t with
  | some d => d.sl
  | none => none
def tyT (Y : DX) (t : TypeId) : Option Ty := match look Y.tab t with
  | some d => some d.ty
  | none => none
def arT (Y : DX) (t : TypeId) : Option (Nat × Ty) := match look Y.tab t with
  | some d => d.ar
  | none => none
def isTy (Y : DX) (t : TypeId) (w : Ty) : Bool := match look Y.tab t with
  | some d => decide (d.ty = w)
  | none => false
def rdI (Y : DX) (γ : Gam) (st : DSt) (x : Operand) : Option (IntKind × Int) := match rdD Y γ st x with
  | some (.t y) => asI y
  | _ => none
def bndD (Y : DX) (γ : Gam) (st : DSt) : Option Operand → Option (Option Int)
  | none => some none
  | some x => match rdI Y γ st x with
    | some (_, a) => some (some a)
    | none => none

/-- A piece of a list. -/
def subL {α : Type} (l : List α) : Option Int → Option Int → List α
  | none, none => l
  | some a, none => l.drop a.toNat
  | none, some b => l.take b.toNat
  | some a, some b => cut l a.toNat b.toNat
def subG (γ : Gam) (n : Nat) (lo hi : Option Int) (k : Option ρ) : Option ρ := match lo, hi with
  | none, none => k
  | some a, none => Gd γ (0 ≤ a ∧ a ≤ (n : Int)) k
  | none, some b => Gd γ (0 ≤ b ∧ b ≤ (n : Int)) k
  | some a, some b => Gd γ (0 ≤ a ∧ a ≤ b ∧ b ≤ (n : Int)) k
def subV (γ : Gam) (r : Nat) (p : Option Nat) (off len : Nat) (v : Vw) : Option Int → Option Int → DA
  | none, none => .ref r p off len v
  | some a, none => match v with
    | .all => match γ with
      | none => .ref r p a.toNat (len - a.toNat) .tail
      | some _ => .ref r p a.toNat (len - a.toNat) .mid
    | _ => .ref r p (off + a.toNat) (len - a.toNat) .mid
  | none, some b => match v with
    | .all => match γ with
      | none => .ref r p 0 b.toNat .head
      | some _ => .ref r p 0 b.toNat .mid
    | _ => .ref r p off b.toNat .mid
  | some a, some b => match v with
    | .all => .ref r p a.toNat (b.toNat - a.toNat) .mid
    | _ => .ref r p (off + a.toNat) (b.toNat - a.toNat) .mid
/-- What a view shows. -/
def vwL {α : Type} (l : List α) (off len : Nat) : Vw → List α
  | .all => l
  | .tail => l.drop off
  | .head => l.take len
  | .mid => cut l off (off + len)
def elemsD (st : DSt) : DA → Option (Sigma fun t : Ty => List t.I)
  | .t (.s (.sl sz t) l) => match decide (sz = t.sz) with
    | true => some ⟨t, l⟩
    | false => none
  | .ref r p off len v => match rootD st r p with
    | some (.own _ t l) => some ⟨t, vwL l off len v⟩
    | _ => none
  | _ => none

def cmpI : BinOp → Int → Int → Option Bool
  | .eql, a, b => some (decide (a = b))
  | .neq, a, b => some (!decide (a = b))
  | .lss, a, b => some (decide (a < b))
  | .leq, a, b => some (decide (a ≤ b))
  | .gtr, a, b => some (decide (b < a))
  | .geq, a, b => some (decide (b ≤ a))
  | _, _, _ => none
def arith : BinOp → IntKind → Int → Int → Option Int
  | .add, k, a, b => some (k.wrap (a + b))
  | .sub, k, a, b => some (k.wrap (a - b))
  | .mul, k, a, b => some (k.wrap (a * b))
  | .and, k, a, b => some (k.wrap (BitVec.ofInt k.bits a &&& BitVec.ofInt k.bits b).toNat)
  | .or, k, a, b => some (k.wrap (BitVec.ofInt k.bits a ||| BitVec.ofInt k.bits b).toNat)
  | .xor, k, a, b => some (k.wrap (BitVec.ofInt k.bits a ^^^ BitVec.ofInt k.bits b).toNat)
  | _, _, _, _ => none
def binI (γ : Gam) (op : BinOp) (k k' : IntKind) (a b : Int) (K : DA → Option ρ) : Option ρ := match op with
  | .shl => Gd γ (0 ≤ b) (K (.t (mkI k (k.wrap (a * 2 ^ (min b.toNat k.bits))))))
  | .shr => Gd γ (0 ≤ b) (K (.t (mkI k (a.fdiv (2 ^ (min b.toNat k.bits))))))
  | .quo => tst (decide (k = k')) (Gd γ (b ≠ 0) (K (.t (mkI k (k.wrap (a.tdiv b))))))
  | .rem => tst (decide (k = k')) (Gd γ (b ≠ 0) (K (.t (mkI k (a.tmod b)))))
  | op => tst (decide (k = k')) (match cmpI op a b with
    | some q => K (.t (.s .bool q))
    | none => match arith op k a b with
      | some m => K (.t (mkI k m))
      | none => none)
def binS (γ : Gam) (op : BinOp) (a b : List UInt8) (K : DA → Option ρ) : Option ρ := match op with
  | .add => Gd γ (a.length + b.length ≤ 9223372036854775807) (K (.t (.s .str (a ++ b))))
  | .eql => K (.t (.s .bool (decide (a = b))))
  | .neq => K (.t (.s .bool (!decide (a = b))))
  | .lss => K (.t (.s .bool (Op.bytesLess a b)))
  | .gtr => K (.t (.s .bool (!(Op.bytesLess a b || decide (a = b)))))
  | _ => none
def binD (Y : DX) (γ : Gam) (op : BinOp) (ty : TypeId) (x y : DT) (K : DA → Option ρ) : Option ρ := match asI x, asI y with
  | some (k, a), some (k', b) => binI γ op k k' a b K
  | _, _ => match x, y with
    | .s .str a, .s .str b => binS γ op a b K
    | .s .bool a, .s .bool b => tst (isTy Y ty .bool) (match op with
      | .eql => K (.t (.s .bool (a == b)))
      | .neq => K (.t (.s .bool (!(a == b))))
      | _ => none)
    | _, _ => none

/-- One of two. -/
def isTrueC : Operand → Bool
  | .const (.bool true) => true
  | _ => false
def isFalseC : Operand → Bool
  | .const (.bool false) => true
  | _ => false
def pickV (c : Bool) (x y : Operand) : DT → DT → Option DT
  | .s .bool a, .s .bool b => some (.s .bool (match isTrueC x with
    | true => c || b
    | false => match isFalseC y with
      | true => c && a
      | false => if c = true then a else b))
  | .s .u8 a, .s .u8 b => some (.s .u8 (if c = true then a else b))
  | .s (.int k) a, .s (.int k') b => match decide (k = k') with
    | true => some (.s (.int k) (if c = true then a else b))
    | false => none
  | .s .str a, .s .str b => some (.s .str (if c = true then a else b))
  | _, _ => none
def pkD (Y : DX) (γ : Gam) (st : DSt) (dq : Nat) (w : Bool) (x : Operand) : Option DT := match rdD Y γ st x with
  | some (.t y) => some y
  | some _ => none
  | none => match dev Y st x with
    | .opt d w' _ (.t y) => match Nat.beq d dq && (w == w') with
      | true => some y
      | false => none
    | _ => none

def buildGo (Y : DX) (γ : Gam) (st : DSt) (fs : List Ty) : List (Nat × Operand) → (rowOf fs).I → Option (rowOf fs).I
  | [], x => some x
  | (i, o) :: rest, x => match rdD Y γ st o with
    | some (.t v) => match setD fs x i v with
      | some x' => buildGo Y γ st fs rest x'
      | none => none
    | _ => none
def buildL (Y : DX) (γ : Gam) (st : DSt) (t : Ty) : Nat → List (Nat × Operand) → Option (List t.I)
  | _, [] => some []
  | k, (i, o) :: rest => match Nat.beq i k, rdD Y γ st o with
    | true, some (.t (.s w x)) => match castT (b := t) x, buildL Y γ st t (k + 1) rest with
      | some y, some ys => some (y :: ys)
      | _, _ => none
    | _, _ => none

/-- Arguments: what the callee sees; is one of them a view of what is owned? -/
def argD (Y : DX) (γ : Gam) (st : DSt) (x : Operand) (ty : TypeId) : Option (DT × Bool) := match x with
  | .const (.slice none 0 0) => match sliT Y ty with
    | some (_, t, _) => some (.s (.sl t.sz t) [], false)
    | none => none
  | x => match rdD Y γ st x with
    | some (.t y) => match flatD y with
      | true => some (y, false)
      | false => none
    | some (.ref r p off len v) => match γ, rootD st r p with
      | none, some (.own _ t l) => match v with
        | .mid => none
        | v => some (.s (.sl t.sz t) (vwL l off len v), true)
      | _, _ => none
    | _ => none
def argsD (Y : DX) (γ : Gam) (st : DSt) : List Operand → List TypeId → Option (List DT × Bool)
  | [], _ => some ([], false)
  | _ :: _, [] => none
  | x :: xs, ty :: tys => match argD Y γ st x ty, argsD Y γ st xs tys with
    | some (t, b), some (ts, b') => some (t :: ts, b || b')
    | _, _ => none

def loadBox (want : Ty) (r : Nat) (p : Option Nat) (off : Nat) (cs : List DT) : Option DA := match want.row with
  | true => match gatherD want (cs.drop off) with
    | some x => some (.t (.s want x))
    | none => none
  | false => match cs[off]?, p with
    | some (.s _ x), _ => match castT (b := want) x with
      | some y => some (.t (.s want y))
      | none => none
    | some (.own _ _ l), none => some (.ref r (some off) 0 l.length .all)
    | some (.box _ _), none => some (.pref r (some off) 0)
    | _, _ => none

/-- Without owner. -/
def fzD : DT → DT
  | .own _ t l => .s (.sl t.sz t) l
  | x => x
def callK (γ : Gam) (c : CallRes) (K : DA → Option ρ) : Option ρ := match γ with
  | none => c.val.bind fun r => K (.t (c.wrap r))
  | some (_, _, q) => (if q = true then c.val else some c.dflt).bind fun r => K (.t (fzD (c.wrap r)))
/-- The place of an element in the whole. -/
def eix (v : Vw) (off a : Nat) : Nat := match v with
  | .all => a
  | _ => off + a

def locD (Y : DX) (st : DSt) (γ : Gam) (E : Env) (o : Oper) (K : DA → Option ρ) : Option ρ := match o.op with
  | .move x | .assign x => match x with
    | .const (.slice none 0 0) => match sliT Y o.type with
      | some (e, t, _) => K (.t (.own e t []))
      | none => none
    | x => match rdD Y γ st x with
      | some a => K a
      | none => none
  | .pick q x y => match q, rdD Y γ st q with
    | .tmp dq, some (.t (.s .bool c)) => match pkD Y γ st dq true x, pkD Y γ st dq false y with
      | some a, some b => match pickV c x y a b with
        | some v => K (.t v)
        | none => none
      | _, _ => none
    | _, _ => none
  | .binOp op ty x y _ => match rdD Y γ st x, rdD Y γ st y with
    | some (.t a), some (.t b) => binD Y γ op ty a b K
    | _, _ => none
  | .unOp op _ x => match rdD Y γ st x with
    | some (.t (.s .bool b)) => match op with
      | .not => K (.t (.s .bool (!b)))
      | _ => none
    | some (.t a) => match op, asI a with
      | .neg, some (k, a) => K (.t (mkI k (k.wrap (0 - a))))
      | _, _ => none
    | _ => none
  | .convert s d x => match rdD Y γ st x with
    | some (.t (.s .str a)) => tst (isTy Y s .str && isTy Y d .str) (K (.t (.s .str a)))
    | some (.t a) => match asI a, tyT Y s, tyT Y d with
      | some (k, a), some ts, some td => match undOf ts, undOf td with
        | some _, some (.int k') => K (.t (mkI k' (k'.wrap a)))
        | _, _ => none
      | none, some _, some .str => match elemsD st (.t a), sliT Y s with
        | some ⟨.u8, l⟩, some (_, .u8, _) => K (.t (.s .str l))
        | _, _ => none
      | _, _, _ => none
    | some a => match elemsD st a, sliT Y s with
      | some ⟨.u8, l⟩, some (_, .u8, _) => tst (isTy Y d .str) (K (.t (.s .str l)))
      | _, _ => none
    | none => none
  | .index ty x i => match rdD Y γ st x, rdI Y γ st i with
    | some (.t (.s .str s)), some (_, a) => tst (isTy Y ty .str) (Gd γ (0 ≤ a ∧ a < (s.length : Int)) (K (.t (.s .u8 (s.getD a.toNat 0)))))
    | _, _ => none
  | .slice ty x lo hi none => match rdD Y γ st x, bndD Y γ st lo, bndD Y γ st hi with
    | some (.t (.s .str s)), some lo, some hi => tst (isTy Y ty .str) (subG γ s.length lo hi (K (.t (.s .str (subL s lo hi)))))
    | some (.t (.s (.sl sz t) l)), some lo, some hi => match sliT Y ty with
      | some (_, t', _) => tst (decide (t' = t) && decide (sz = t.sz)) (subG γ l.length lo hi (K (.t (.s (.sl sz t) (subL l lo hi)))))
      | none => none
    | some (.ref r p off len v), some lo, some hi => match sliT Y ty, rootD st r p with
      | some (_, t', _), some (.own _ t _) => tst (decide (t' = t)) (subG γ len lo hi (K (subV γ r p off len v lo hi)))
      | _, _ => none
    | some (.sarr t l), some none, some none => match arT Y ty with
      | some (m, t') => tst (decide (t' = t) && Nat.beq l.length m) (K (.t (.s (.sl t.sz t) l)))
      | none => none
    | _, _, _ => none
  | .indexAddr ty x i => match rdD Y γ st x, rdI Y γ st i, sliT Y ty with
    | some (.sarr t l), some (_, a), _ => match arT Y ty with
      | some (m, t') => tst (decide (t' = t) && Nat.beq l.length m) (Gd γ (0 ≤ a ∧ a < (l.length : Int)) (K (.sptr t (l.getD a.toNat t.dflt))))
      | none => none
    | some (.t (.s (.sl sz t) l)), some (_, a), some (_, t', _) => tst (decide (t' = t) && decide (sz = t.sz)) (Gd γ (0 ≤ a ∧ a < (l.length : Int)) (K (.sptr t (l.getD a.toNat t.dflt))))
    | some (.ref r p off len v), some (_, a), some (_, t', _) => match rootD st r p with
      | some (.own _ t _) => tst (decide (t' = t)) (Gd γ (0 ≤ a ∧ a < (len : Int)) (K (.eptr r p (eix v off a.toNat) 0)))
      | _ => none
    | _, _, _ => none
  | .fieldAddr s x f => match look Y.tab s, rdD Y γ st x with
    | some d, some (.sptr t x) => match castT (b := rowOf d.fs) x with
      | some y => match projD d.fs y f with
        | some (.s ft z) => K (.sptr ft z)
        | _ => none
      | none => none
    | some d, some (.eptr r p i j) => match rootD st r p with
      | some (.own _ t _) => tst (Nat.blt f d.fs.length && Nat.blt (j + offs d.fs f) t.sz) (K (.eptr r p i (j + offs d.fs f)))
      | _ => none
    | some d, some (.pref r p off) => match rootD st r p with
      | some (.box _ cs) => tst (Nat.blt f d.fs.length && Nat.ble (off + offs d.fs f) cs.length) (K (.pref r p (off + offs d.fs f)))
      | _ => none
    | _, _ => none
  | .field s x f => match look Y.tab s, rdD Y γ st x with
    | some d, some (.t (.s t x)) => match castT (b := rowOf d.fs) x with
      | some y => match projD d.fs y f with
        | some z => K (.t z)
        | none => none
      | none => none
    | _, _ => none
  | .load ty x => match tyT Y ty, rdD Y γ st x with
    | some w, some (.sptr t x) => match subAt t x 0 w with
      | some y => tst w.fine (K (.t (.s w y)))
      | none => none
    | some w, some (.eptr r p i j) => match rootD st r p with
      | some (.own _ t l) => match subAt t (l.getD i t.dflt) j w with
        | some y => tst w.fine (K (.t (.s w y)))
        | none => none
      | _ => none
    | some w, some (.pref r p off) => match rootD st r p with
      | some (.box _ cs) => match loadBox w r p off cs with
        | some a => tst w.fine (K a)
        | none => none
      | _ => none
    | _, _ => none
  | .build ty ps => match look Y.tab ty with
    | some d => match d.fs with
      | [] => none
      | t :: fs => match buildGo Y γ st (t :: fs) ps.toList (rowOf (t :: fs)).dflt with
        | some x => tst d.ty.fine (K (.t (.s (rowOf (t :: fs)) x)))
        | none => none
    | none => none
  | .buildSlice ty m ps => match sliT Y ty with
    | some (e, t, _) => match buildL Y γ st t 0 ps.toList with
      | some l => tst (Nat.beq ps.toList.length m && Nat.ble (m * t.sz) 16777216) (K (.t (.own e t l)))
      | none => none
    | none => none
  | .makeSlice ty l cp => match rdI Y γ st l, rdI Y γ st cp, sliT Y ty with
    | some (_, a), some (_, b), some (e, t, by_) => Gd γ (0 ≤ a ∧ a ≤ b ∧ (by_ : Int) * b ≤ 281474976710656) (K (.t (.own e t (List.replicate a.toNat t.dflt))))
    | _, _, _ => none
  | .alloc ty => match look Y.tab ty with
    | some d => tst d.ty.fine (K (.t (.box ty (splitD d.ty d.ty.dflt))))
    | none => none
  | .box ty x => match rdD Y γ st x with
    | some (.t (.s t x)) => tst t.fine (K (.t (.box ty (splitD t x))))
    | _ => none
  | .extract (.tmp r) i => match st.find r with
    | some (.t (.tup cs)) => match cs[i]? with
      | some c => tst (flatD c) (K (.t c))
      | none => none
    | _ => none
  | .call { callee := .builtin .len, args := ⟨[x]⟩, argTypes := ⟨[ty]⟩ } => match rdD Y γ st x with
    | some (.t (.s .str s)) => tst (isTy Y ty .str) (K (.t (.s (.int .i64) (s.length : Int))))
    | some (.t (.s (.sl _ _) l)) => match sliT Y ty with
      | some _ => K (.t (.s (.int .i64) (l.length : Int)))
      | none => none
    | some (.ref r p off len v) => match sliT Y ty with
      | some _ => K (.t (.s (.int .i64) (len : Int)))
      | none => none
    | _ => none
  | .call { callee := .value (.func f), args := xs, argTypes := tys } => match argsD Y γ st xs.toList tys.toList with
    | some (ts, b) => match E f ts with
      | some c => tst (!b || c.bare) (callK γ c K)
      | none => none
    | none => none
  | _ => none
end
end Go.Eng
