/- A part of the proof: D1. -/
import Derived.Test.YtnjcbogckfiamaaDoorE4
namespace Go.Eng
open Go.RowKit (Below)
set_option linter.unusedVariables false
set_option linter.unusedSimpArgs false
structure CallRes where
 α:Type
 val:Option α
 wrap:α → DT
 dflt:α
 bare:Bool
abbrev Env := FuncId → List DT → Option CallRes
def ownDT:DT → Bool
 | .own _ _ _ | .box _ _ | .own2 _ _ _ _=>true
 | _=>false
def lendOuts:List DT → T → List T
 | [],_=>[]
 | t :: ts,out=>(match ownDT t with
  | true=>out
  | false=>.u) :: lendOuts ts out
def CallOk (X:Ctx) (f:FuncId) (args:List DT) (c:CallRes):Prop := match args with
 | [.tup [.own e t l]] => ∀ r,c.val = some r → ∀ l':List t.I,c.wrap r = .own e t l' → isFn X.P f = true ∧ ACall X f [(DT.own e t l).toT] (.tup []) [(DT.own e t l').toT] ∧ t.bare = true
 | .tup [.u,.s .opq v] :: ts=>(∀ r,c.val = some r → ∃ f,v = fnv f ∧ isFn X.P f = true ∧ APure X f (ts.map DT.toT) (c.wrap r).toT) ∧ (c.bare = true → ∀ r,(c.wrap r).toT.noSl = true)
 | .tup [.u,.u] :: ts => ∀ r,c.val = some r → ∀ b pv res out,c.wrap r = .tup [.s .bool b,.s .opq pv,res,out] → isFn X.P f = true ∧ (b = false → ACall X f (ts.map DT.toT) res.toT (lendOuts ts out.toT)) ∧ (b = true → PCall X f (ts.map DT.toT) pv) ∧ res.toT.noSl = true ∧ out.toT.noSl = true ∧ out.toT.cells = [out.toT]
 | .tup [.u] :: ts => ∀ r,c.val = some r → ∀ res out,c.wrap r = .tup [res,out] → isFn X.P f = true ∧ ACall X f (ts.map DT.toT) res.toT (lendOuts ts out.toT) ∧ res.toT.noSl = true ∧ out.toT.noSl = true ∧ out.toT.cells = [out.toT]
 | _=>(∀ r,c.val = some r → (isFn X.P f = true ∧ APure X f (args.map DT.toT) (c.wrap r).toT) ∨ (c.bare = false ∧ AExt X f (args.map DT.toT) (c.wrap r).toT)) ∧ (c.bare = true → ∀ r,(c.wrap r).toT.noSl = true)
def EnvOk (X:Ctx) (E:Env):Prop := ∀ f args c,E f args = some c → CallOk X f args c
section
variable {ρ:Type}
def sliT (Y:DX) (t:TypeId):Option (TypeId × Ty × Nat) := match look Y.tab t with
 | some d=>d.sl
 | none=>none
def tyT (Y:DX) (t:TypeId):Option Ty := match look Y.tab t with
 | some d=>some d.ty
 | none=>none
def arT (Y:DX) (t:TypeId):Option (Nat × Ty) := match look Y.tab t with
 | some d=>d.ar
 | none=>none
def isTy (Y:DX) (t:TypeId) (w:Ty):Bool := match look Y.tab t with
 | some d=>decide (d.ty = w)
 | none=>false
def fnT (Y:DX) (t:TypeId):Bool := match look Y.tab t with
 | some d=>d.fn
 | none=>false
def nilK (γ:Gam) (op:BinOp) (a b:Value) (K:DA → Option ρ):Option ρ := match b with
 | .nilFunc=>match op with
  | .eql=>Gd γ (isFnV a = true) (K (.t (.s .bool (isNilF a))))
  | .neq=>Gd γ (isFnV a = true) (K (.t (.s .bool (!isNilF a))))
  | _=>none
 | _=>none
def rdI (Y:DX) (γ:Gam) (st:DSt) (x:Operand):Option (IntKind × Int) := match rdD Y γ st x with
 | some (.t y)=>asI y
 | _=>none
def bndD (Y:DX) (γ:Gam) (st:DSt):Option Operand → Option (Option Int)
 | none=>some none
 | some x=>match rdI Y γ st x with
  | some (_,a)=>some (some a)
  | none=>none
def subL {α:Type} (l:List α):Option Int → Option Int → List α
 | none,none=>l
 | some a,none=>l.drop a.toNat
 | none,some b=>l.take b.toNat
 | some a,some b=>cut l a.toNat b.toNat
def subG (γ:Gam) (n:Nat) (lo hi:Option Int) (k:Option ρ):Option ρ := match lo,hi with
 | none,none=>k
 | some a,none=>Gd γ (0 ≤ a ∧ a ≤ (n:Int)) k
 | none,some b=>Gd γ (0 ≤ b ∧ b ≤ (n:Int)) k
 | some a,some b=>Gd γ (0 ≤ a ∧ a ≤ b ∧ b ≤ (n:Int)) k
def subV (γ:Gam) (r:Nat) (p:Option Nat) (off len:Nat) (v:Vw):Option Int → Option Int → DA
 | none,none=>.ref r p off len v
 | some a,none=>match v with
  | .all=>match γ with
   | none=>.ref r p a.toNat (len - a.toNat) .tail
   | some _=>.ref r p a.toNat (len - a.toNat) .mid
  | _=>.ref r p (off + a.toNat) (len - a.toNat) .mid
 | none,some b=>match v with
  | .all=>match γ with
   | none=>.ref r p 0 b.toNat .head
   | some _=>.ref r p 0 b.toNat .mid
  | _=>.ref r p off b.toNat .mid
 | some a,some b=>match v with
  | .all=>.ref r p a.toNat (b.toNat - a.toNat) .mid
  | _=>.ref r p (off + a.toNat) (b.toNat - a.toNat) .mid
def vwL {α:Type} (l:List α) (off len:Nat):Vw → List α
 | .all=>l
 | .tail=>l.drop off
 | .head=>l.take len
 | .mid=>cut l off (off + len)
def elemsD (st:DSt):DA → Option (Sigma fun t:Ty=>List t.I)
 | .t (.s (.sl sz t) l)=>match decide (sz = t.sz) with
  | true=>some ⟨t,l⟩
  | false=>none
 | .ref r p off len v=>match rootD st r p with
  | some (.own _ t l)=>some ⟨t,vwL l off len v⟩
  | _=>none
 | _=>none
def cmpI:BinOp → Int → Int → Option Bool
 | .eql,a,b=>some (decide (a = b))
 | .neq,a,b=>some (!decide (a = b))
 | .lss,a,b=>some (decide (a < b))
 | .leq,a,b=>some (decide (a ≤ b))
 | .gtr,a,b=>some (decide (b < a))
 | .geq,a,b=>some (decide (b ≤ a))
 | _,_,_=>none
def arith:BinOp → IntKind → Int → Int → Option Int
 | .add,k,a,b=>some (k.wrap (a + b))
 | .sub,k,a,b=>some (k.wrap (a - b))
 | .mul,k,a,b=>some (k.wrap (a * b))
 | .and,k,a,b=>some (k.wrap (BitVec.ofInt k.bits a &&& BitVec.ofInt k.bits b).toNat)
 | .or,k,a,b=>some (k.wrap (BitVec.ofInt k.bits a ||| BitVec.ofInt k.bits b).toNat)
 | .xor,k,a,b=>some (k.wrap (BitVec.ofInt k.bits a ^^^ BitVec.ofInt k.bits b).toNat)
 | _,_,_,_=>none
def binI (γ:Gam) (op:BinOp) (k k':IntKind) (a b:Int) (K:DA → Option ρ):Option ρ := match op with
 | .shl=>Gd γ (0 ≤ b) (K (.t (mkI k (k.wrap (a * 2 ^ (min b.toNat k.bits))))))
 | .shr=>Gd γ (0 ≤ b) (K (.t (mkI k (a.fdiv (2 ^ (min b.toNat k.bits))))))
 | .quo=>tst (decide (k = k')) (Gd γ (b ≠ 0) (K (.t (mkI k (k.wrap (a.tdiv b))))))
 | .rem=>tst (decide (k = k')) (Gd γ (b ≠ 0) (K (.t (mkI k (a.tmod b)))))
 | op=>tst (decide (k = k')) (match cmpI op a b with
  | some q=>K (.t (.s .bool q))
  | none=>match arith op k a b with
   | some m=>K (.t (mkI k m))
   | none=>none)
def binS (γ:Gam) (op:BinOp) (a b:List UInt8) (K:DA → Option ρ):Option ρ := match op with
 | .add=>Gd γ (a.length + b.length ≤ 9223372036854775807) (K (.t (.s .str (a ++ b))))
 | .eql=>K (.t (.s .bool (decide (a = b))))
 | .neq=>K (.t (.s .bool (!decide (a = b))))
 | .lss=>K (.t (.s .bool (Op.bytesLess a b)))
 | .gtr=>K (.t (.s .bool (!(Op.bytesLess a b || decide (a = b)))))
 | _=>none
def binD (Y:DX) (γ:Gam) (op:BinOp) (ty:TypeId) (x y:DT) (K:DA → Option ρ):Option ρ := match asI x,asI y with
 | some (k,a),some (k',b)=>binI γ op k k' a b K
 | _,_=>match x,y with
  | .s .str a,.s .str b=>binS γ op a b K
  | .s .bool a,.s .bool b=>tst (isTy Y ty .bool) (match op with
   | .eql=>K (.t (.s .bool (a == b)))
   | .neq=>K (.t (.s .bool (!(a == b))))
   | _=>none)
  | .s .opq a,.s .opq b=>tst (fnT Y ty) (nilK γ op a b K)
  | .s _ a,.s _ b=>match look Y.tab ty with
   | some d=>match d.eq && ((rowOf d.fs).bare && (rowOf d.fs).fine),castT (b := rowOf d.fs) a,castT (b := rowOf d.fs) b with
    | true,some x,some y=>match op with
     | .eql=>K (.t (.s .bool (eqR (rowOf d.fs) x y)))
     | .neq=>K (.t (.s .bool (!eqR (rowOf d.fs) x y)))
     | _=>none
    | _,_,_=>none
   | none=>none
  | _,_=>none
def isTrueC:Operand → Bool
 | .const (.bool true)=>true
 | _=>false
def isFalseC:Operand → Bool
 | .const (.bool false)=>true
 | _=>false
def pickV (c:Bool) (x y:Operand):DT → DT → Option DT
 | .s .bool a,.s .bool b=>some (.s .bool (match isTrueC x with
  | true=>c || b
  | false=>match isFalseC y with
   | true=>c && a
   | false=>if c = true then a else b))
 | .s .u8 a,.s .u8 b=>some (.s .u8 (if c = true then a else b))
 | .s (.int k) a,.s (.int k') b=>match decide (k = k') with
  | true=>some (.s (.int k) (if c = true then a else b))
  | false=>none
 | .s .str a,.s .str b=>some (.s .str (if c = true then a else b))
 | _,_=>none
def pkD (Y:DX) (γ:Gam) (st:DSt) (dq:Nat) (w:Bool) (x:Operand):Option DT := match rdD Y γ st x with
 | some (.t y)=>some y
 | some _=>none
 | none=>match dev Y st x with
  | .opt d w' _ (.t y)=>match Nat.beq d dq && (w == w') with
   | true=>some y
   | false=>none
  | _=>none
def buildGo (Y:DX) (γ:Gam) (st:DSt) (fs:List Ty):List (Nat × Operand) → (rowOf fs).I → Option (rowOf fs).I
 | [],x=>some x
 | (i,o) :: rest,x=>match rdD Y γ st o with
  | some (.t v)=>match setD fs x i v with
   | some x'=>buildGo Y γ st fs rest x'
   | none=>none
  | _=>none
def nilI:(t:Ty) → Option t.I
 | .sl _ _=>some []
 | _=>none
def buildL (Y:DX) (γ:Gam) (st:DSt) (t:Ty):Nat → List (Nat × Operand) → Option (List t.I)
 | _,[]=>some []
 | k,(i,.const (.slice none 0 0)) :: rest=>match Nat.beq i k,nilI t,buildL Y γ st t (k + 1) rest with
  | true,some y,some ys=>some (y :: ys)
  | _,_,_=>none
 | k,(i,o) :: rest=>match Nat.beq i k,rdD Y γ st o with
  | true,some (.t (.s w x))=>match castT (b := t) x,buildL Y γ st t (k + 1) rest with
   | some y,some ys=>some (y :: ys)
   | _,_=>none
  | _,_=>none
def argD (Y:DX) (γ:Gam) (st:DSt) (x:Operand) (ty:TypeId):Option (DT × Bool) := match x with
 | .const (.slice none 0 0)=>match sliT Y ty with
  | some (_,t,_)=>some (.s (.sl t.sz t) [],false)
  | none=>none
 | x=>match rdD Y γ st x with
  | some (.t y)=>match flatD y with
   | true=>some (y,false)
   | false=>none
  | some (.ref r p off len v)=>match rootD st r p with
   | some (.own _ t l)=>match v with
    | .mid=>none
    | v=>some (.s (.sl t.sz t) (vwL l off len v),true)
   | _=>none
  | _=>none
def argsD (Y:DX) (γ:Gam) (st:DSt):List Operand → List TypeId → Option (List DT × Bool)
 | [],_=>some ([],false)
 | _ :: _,[]=>none
 | x :: xs,ty :: tys=>match argD Y γ st x ty,argsD Y γ st xs tys with
  | some (t,b),some (ts,b')=>some (t :: ts,b || b')
  | _,_=>none
def loadBox (want:Ty) (r:Nat) (p:Option Nat) (off:Nat) (cs:List DT):Option DA := match want.row with
 | true=>match gatherD want (cs.drop off) with
  | some x=>some (.t (.s want x))
  | none=>none
 | false=>match cs[off]?,p with
  | some (.s _ x),_=>match castT (b := want) x with
   | some y=>some (.t (.s want y))
   | none=>none
  | some (.own _ _ l),none=>some (.ref r (some off) 0 l.length .all)
  | some (.box _ _),none=>some (.pref r (some off) 0)
  | _,_=>none
def fzD:DT → DT
 | .own _ t l=>.s (.sl t.sz t) l
 | x=>x
def ownG (γ:Gam) (x:DT):DT := match γ with
 | none=>x
 | some _=>fzD x
def callK (γ:Gam) (c:CallRes) (K:DA → Option ρ):Option ρ := match γ with
 | none=>c.val.bind fun r=>K (.t (c.wrap r))
 | some (_,_,q)=>(if q = true then c.val else some c.dflt).bind fun r=>K (.t (fzD (c.wrap r)))
def eix (v:Vw) (off a:Nat):Nat := match v with
 | .all=>a
 | _=>off + a
def elOf (t:Ty):List (TypeId × TD) → TypeId
 | []=>0
 | (_,d) :: r=>match d.sl with
  | some (e,t',_)=>match decide (t' = t) with
   | true=>e
   | false=>elOf t r
  | none=>elOf t r
def nilC (Y:DX):DT → DT → DT
 | .s .opq v,.s (.sl _ t) _=>match v with
  | .slice none 0 0=>.own (elOf t Y.tab) t []
  | v=>.s .opq v
 | c,_=>c
def nilsD (Y:DX):List DT → List DT → List DT
 | c :: cs,d :: ds=>nilC Y c d :: nilsD Y cs ds
 | cs,[]=>cs
 | [],_=>[]
def locD (Y:DX) (st:DSt) (γ:Gam) (E:Env) (o:Oper) (K:DA → Option ρ):Option ρ := match o.op with
 | .move x | .assign x=>match x with
  | .const (.slice none 0 0)=>match sliT Y o.type with
   | some (e,t,_)=>K (.t (ownG γ (.own e t [])))
   | none=>none
  | x=>match rdD Y γ st x with
   | some a=>K a
   | none=>none
 | .pick q x y=>match q,rdD Y γ st q with
  | .tmp dq,some (.t (.s .bool c))=>match pkD Y γ st dq true x,pkD Y γ st dq false y with
   | some a,some b=>match pickV c x y a b with
    | some v=>K (.t v)
    | none=>none
   | _,_=>none
  | _,_=>none
 | .binOp op ty x y _=>match rdD Y γ st x,rdD Y γ st y with
  | some (.t a),some (.t b)=>binD Y γ op ty a b K
  | _,_=>none
 | .unOp op _ x=>match rdD Y γ st x with
  | some (.t (.s .bool b))=>match op with
   | .not=>K (.t (.s .bool (!b)))
   | _=>none
  | some (.t a)=>match op,asI a with
   | .neg,some (k,a)=>K (.t (mkI k (k.wrap (0 - a))))
   | _,_=>none
  | _=>none
 | .convert s d x=>match rdD Y γ st x with
  | some (.t (.s .str a))=>tst (isTy Y s .str && isTy Y d .str) (K (.t (.s .str a)))
  | some (.t a)=>match asI a,tyT Y s,tyT Y d with
   | some (k,a),some ts,some td=>match undOf ts,undOf td with
    | some _,some (.int k')=>K (.t (mkI k' (k'.wrap a)))
    | _,_=>none
   | none,some _,some .str=>match elemsD st (.t a),sliT Y s with
    | some ⟨.u8,l⟩,some (_,.u8,_)=>K (.t (.s .str l))
    | _,_=>none
   | _,_,_=>none
  | some a=>match elemsD st a,sliT Y s with
   | some ⟨.u8,l⟩,some (_,.u8,_)=>tst (isTy Y d .str) (K (.t (.s .str l)))
   | _,_=>none
  | none=>none
 | .index ty x i=>match rdD Y γ st x,rdI Y γ st i with
  | some (.t (.s .str s)),some (_,a)=>tst (isTy Y ty .str) (Gd γ (0 ≤ a ∧ a < (s.length:Int)) (K (.t (.s .u8 (s.getD a.toNat 0)))))
  | some (.t (.s (.pair a1 b1) y)),some (_,a)=>match arT Y ty,tyT Y ty with
   | some (m,t),some w=>match arrL (.pair a1 b1) y t with
    | some l=>tst (w.fine && (Nat.beq l.length m && Nat.blt 0 t.sz)) (Gd γ (0 ≤ a ∧ a < (l.length:Int)) (K (.t (.s t (l.getD a.toNat t.dflt)))))
    | none=>none
   | _,_=>none
  | _,_=>none
 | .slice ty x lo hi none=>match rdD Y γ st x,bndD Y γ st lo,bndD Y γ st hi with
  | some (.t (.s .str s)),some lo,some hi=>tst (isTy Y ty .str) (subG γ s.length lo hi (K (.t (.s .str (subL s lo hi)))))
  | some (.t (.s (.sl sz t) l)),some lo,some hi=>match sliT Y ty with
   | some (_,t',_)=>tst (decide (t' = t) && decide (sz = t.sz)) (subG γ l.length lo hi (K (.t (.s (.sl sz t) (subL l lo hi)))))
   | none=>none
  | some (.ref r p off len v),some lo,some hi=>match sliT Y ty,rootD st r p with
   | some (_,t',_),some (.own _ t _)=>tst (decide (t' = t)) (subG γ len lo hi (K (subV γ r p off len v lo hi)))
   | _,_=>none
  | some (.sarr t l),some none,some none=>match arT Y ty with
   | some (m,t')=>tst (decide (t' = t) && Nat.beq l.length m) (K (.t (.s (.sl t.sz t) l)))
   | none=>none
  | _,_,_=>none
 | .slice ty x (some lo) (some hi) (some mx)=>match rdD Y γ st x,rdI Y γ st lo,rdI Y γ st hi,rdI Y γ st mx with
  | some (.t (.s (.sl sz t) l)),some (_,a),some (_,b),some (_,m)=>match sliT Y ty with
   | some (_,t',_)=>tst (decide (t' = t) && decide (sz = t.sz)) (Gd γ (0 ≤ a ∧ a ≤ b ∧ b ≤ m ∧ m ≤ (l.length:Int)) (K (.t (.s (.sl sz t) (cut l a.toNat b.toNat)))))
   | none=>none
  | _,_,_,_=>none
 | .indexAddr ty x i=>match rdD Y γ st x,rdI Y γ st i,sliT Y ty with
  | some (.sarr t l),some (_,a),_=>match arT Y ty with
   | some (m,t')=>tst (decide (t' = t) && Nat.beq l.length m) (Gd γ (0 ≤ a ∧ a < (l.length:Int)) (K (.sptr t (l.getD a.toNat t.dflt))))
   | none=>none
  | some (.t (.s (.sl sz t) l)),some (_,a),some (_,t',_)=>tst (decide (t' = t) && decide (sz = t.sz)) (Gd γ (0 ≤ a ∧ a < (l.length:Int)) (K (.sptr t (l.getD a.toNat t.dflt))))
  | some (.ref r p off len v),some (_,a),some (_,t',_)=>match rootD st r p with
   | some (.own _ t _)=>tst (decide (t' = t)) (Gd γ (0 ≤ a ∧ a < (len:Int)) (K (.eptr r p (eix v off a.toNat) 0)))
   | _=>none
  | _,_,_=>none
 | .fieldAddr s x f=>match look Y.tab s,rdD Y γ st x with
  | some d,some (.sptr t x)=>match castT (b := rowOf d.fs) x with
   | some y=>match projD d.fs y f with
    | some (.s ft z)=>K (.sptr ft z)
    | _=>none
   | none=>none
  | some d,some (.eptr r p i j)=>match rootD st r p with
   | some (.own _ t _)=>tst (Nat.blt f d.fs.length && Nat.blt (j + offs d.fs f) t.sz) (K (.eptr r p i (j + offs d.fs f)))
   | _=>none
  | some d,some (.pref r p off)=>match rootD st r p with
   | some (.box _ cs)=>tst (Nat.blt f d.fs.length && Nat.ble (off + offs d.fs f) cs.length) (K (.pref r p (off + offs d.fs f)))
   | _=>none
  | _,_=>none
 | .nilCheck x=>match rdD Y γ st x with
  | some (.sptr t y)=>K (.sptr t y)
  | some (.eptr r p i j)=>K (.eptr r p i j)
  | some (.pref r p off)=>K (.pref r p off)
  | _=>none
 | .field s x f=>match look Y.tab s,rdD Y γ st x with
  | some d,some (.t (.s t x))=>match castT (b := rowOf d.fs) x with
   | some y=>match projD d.fs y f with
    | some z=>K (.t z)
    | none=>none
   | none=>none
  | _,_=>none
 | .load ty x=>match tyT Y ty,rdD Y γ st x with
  | some w,some (.sptr t x)=>match subAt t x 0 w with
   | some y=>tst w.fine (K (.t (.s w y)))
   | none=>none
  | some w,some (.sarr t l)=>tst (w.fine && decide (w = arrTy t l.length)) (K (.t (.s (arrTy t l.length) (arrX t l))))
  | some w,some (.eptr r p i j)=>match rootD st r p with
   | some (.own _ t l)=>match subAt t (l.getD i t.dflt) j w with
    | some y=>tst w.fine (K (.t (.s w y)))
    | none=>none
   | _=>none
  | some w,some (.pref r p off)=>match rootD st r p with
   | some (.box _ cs)=>match loadBox w r p off cs with
    | some a=>tst w.fine (K a)
    | none=>none
   | _=>none
  | _,_=>none
 | .build ty ps=>match look Y.tab ty with
  | some d=>match d.fs with
   | []=>match d.emp,ps with
    | true,⟨[]⟩=>K (.t (.s .unit ()))
    | _,_=>none
   | t :: fs=>match buildGo Y γ st (t :: fs) ps.toList (rowOf (t :: fs)).dflt with
    | some x=>tst d.ty.fine (K (.t (.s (rowOf (t :: fs)) x)))
    | none=>none
  | none=>none
 | .buildSlice ty m ps=>match sliT Y ty with
  | some (e,t,_)=>match buildL Y γ st t 0 ps.toList with
   | some l=>tst (Nat.beq ps.toList.length m && Nat.ble (m * t.sz) 16777216) (K (.t (ownG γ (.own e t l))))
   | none=>none
  | none=>none
 | .makeSlice ty l cp=>match rdI Y γ st l,rdI Y γ st cp,sliT Y ty with
  | some (_,a),some (_,b),some (e,t,by_)=>Gd γ (0 ≤ a ∧ a ≤ b ∧ (by_:Int) * b ≤ 281474976710656) (K (.t (.own e t (List.replicate a.toNat t.dflt))))
  | _,_,_=>none
 | .alloc ty=>match look Y.tab ty with
  | some d=>tst d.ty.fine (K (.t (.box ty (splitD d.ty d.ty.dflt))))
  | none=>none
 | .box ty x=>match rdD Y γ st x with
  | some (.t (.s t x))=>match t.fine with
   | true=>K (.t (.box ty (splitD t x)))
   | false=>match t.row,look Y.tab ty with
    | true,some d=>K (.t (.box ty (nilsD Y (splitD t x) (splitD d.ty d.ty.dflt))))
    | _,_=>none
  | _=>none
 | .makeInterface ty x=>match rdD Y γ st x,look Y.tab ty with
  | some (.t (.s t x)),some d=>tst (t.bare && t.fine && d.con) (K (.t (.s .opq (.iface ty (valX t x)))))
  | _,_=>none
 | .extract (.tmp r) i=>match st.find r with
  | some (.t (.tup cs))=>match cs[i]? with
   | some c=>tst (flatD c) (K (.t c))
   | none=>none
  | _=>none
 | .call { callee := .builtin .len,args := ⟨[x]⟩,argTypes := ⟨[ty]⟩ }=>match rdD Y γ st x with
  | some (.t (.s .str s))=>tst (isTy Y ty .str) (K (.t (.s (.int .i64) (s.length:Int))))
  | some (.t (.s (.sl _ _) l))=>match sliT Y ty with
   | some _=>K (.t (.s (.int .i64) (l.length:Int)))
   | none=>none
  | some (.ref r p off len v)=>match sliT Y ty with
   | some _=>K (.t (.s (.int .i64) (len:Int)))
   | none=>none
  | _=>none
 | .call { callee := .builtin .max,args := ⟨[x,y]⟩,argTypes := _ }=>match rdI Y γ st x,rdI Y γ st y with
  | some (k,a),some (k',b)=>tst (decide (k = k')) (K (.t (mkI k (mxI a b))))
  | _,_=>none
 | .call { callee := .builtin .min,args := ⟨[x,y]⟩,argTypes := _ }=>match rdI Y γ st x,rdI Y γ st y with
  | some (k,a),some (k',b)=>tst (decide (k = k')) (K (.t (mkI k (mnI a b))))
  | _,_=>none
 | .call { callee := .value (.func f),args := xs,argTypes := tys }=>match argsD Y γ st xs.toList tys.toList with
  | some (ts,b)=>match E f ts with
   | some c=>tst (!b || c.bare) (callK γ c K)
   | none=>none
  | none=>none
 | .call { callee := .value (.tmp k),args := xs,argTypes := tys }=>match rdD Y γ st (.tmp k),argsD Y γ st xs.toList tys.toList with
  | some (.t (.s .opq v)),some (ts,b)=>match E 0 (.tup [.u,.s .opq v] :: ts) with
   | some c=>tst (!b || c.bare) (callK γ c K)
   | none=>none
  | _,_=>none
 | _=>none
end
end Go.Eng

/- One operation that writes one slot, in typed trees: that it is so (first part). -/
namespace Go.Eng
open Go.RowKit (Below)
set_option linter.unusedVariables false
set_option linter.unusedSimpArgs false
variable {X:Ctx} {Y:DX} {n:Nat} {st:DSt} {E:Env} {γ:Gam}
def Shows (X:Ctx) (n:Nat) (st:DSt) (γ:Gam) (o:Oper) {ρ:Type} (K:DA → Option ρ) (r:ρ):Prop :=
 ∃ a,(cP γ → Good X (stG n st.toSt) o a.toA) ∧ a.isOpt = false ∧ viewOk st a ∧ K a = some r
theorem rootD_spec {r:Nat} {p:Option Nat} {d:DT} (h:rootD st r p = some d):root (stG n st.toSt) r p = some d.toT := by
 cases p with
 | none =>
  simp only [rootD] at h
  simp only [root,stG_toSt]
  split at h
  ·rename_i x hx; cases h; rw [hx]; rfl
  ·cases h
 | some k =>
  simp only [rootD] at h
  simp only [root,stG_toSt]
  split at h
  ·rename_i e cs hx
   rw [hx]
   simp only [DA.toA,DT.toT,all_eq]
   rw [List.getElem?_map,h]; rfl
  ·cases h
theorem rdT_spec (hY:DXOk Y X) (hw:WF st) (hγ:gOk st γ) {x:Operand} {y:DT} (h:rdD Y γ st x = some (.t y)):rd X (stG n st.toSt) x = .t y.toT ∧ (cP γ → rdp X (stG n st.toSt) x) := by
 obtain ⟨h1,h2,_⟩ := rdD_spec (n := n) hY hw hγ h
 exact ⟨h1,h2⟩
theorem rdI_spec (hY:DXOk Y X) (hw:WF st) (hγ:gOk st γ) {x:Operand} {k:IntKind} {a:Int} (h:rdI Y γ st x = some (k,a)) :
  rd X (stG n st.toSt) x = .t (.v (.int k a)) ∧ (cP γ → rdp X (stG n st.toSt) x) ∧ (k = .u8 → 0 ≤ a ∧ a < 256) := by
 unfold rdI at h
 split at h
 ·rename_i y hy
  obtain ⟨h1,h2⟩ := rdT_spec (n := n) hY hw hγ hy
  obtain ⟨h3,h4⟩ := asI_spec h
  exact ⟨by rw [h1,h3],h2,h4⟩
 ·cases h
theorem bndD_spec (hY:DXOk Y X) (hw:WF st) (hγ:gOk st γ) {x:Option Operand} {m:Option Int} (h:bndD Y γ st x = some m) :
  (cP γ → bndP X (stG n st.toSt) x) ∧ bndA X (stG n st.toSt) x = some m := by
 cases x with
 | none=>cases h; exact ⟨fun _=>trivial,rfl⟩
 | some x =>
  simp only [bndD] at h
  split at h
  ·rename_i k a ha
   cases h
   obtain ⟨h1,h2,_⟩ := rdI_spec (n := n) hY hw hγ ha
   exact ⟨h2,by simp only [bndA,h1]⟩
  ·cases h
theorem cut_all0 {α:Type} (l:List α):cut l 0 l.length = l := by simp [cut]
theorem vwL_spec {α:Type} (l:List α) {off len:Nat} {v:Vw} (h:vwOk off len l.length v):cut l off (off + len) = vwL l off len v := by
 cases v with
 | all=>obtain ⟨rfl,rfl⟩ := h; rw [Nat.zero_add,cut_all0]; rfl
 | tail=>obtain ⟨h1,rfl⟩ := h; rw [show off + (l.length - off) = l.length by omega,cut_all]; rfl
 | head=>obtain ⟨rfl,_⟩ := h; rw [Nat.zero_add,cut_zero]; rfl
 | mid=>rfl
theorem viewOk_vw {r:Nat} {p:Option Nat} {off len:Nat} {v:Vw} {e:TypeId} {t:Ty} {l:List t.I} (h:viewOk st (.ref r p off len v)) (hr:rootD st r p = some (.own e t l)):vwOk off len l.length v := by
 rcases h with rfl | ⟨e',t',l',h1,h2⟩
 ·trivial
 ·rw [hr] at h1; cases h1; exact h2
theorem elemsD_spec {a:DA} {t:Ty} {l:List t.I} (hv:viewOk st a) (h:elemsD st a = some ⟨t,l⟩):elemsA (stG n st.toSt) a.toA = some (l.map t.enc) ∧ sizA (stG n st.toSt) t.sz a.toA := by
 unfold elemsD at h
 split at h
 ·rename_i sz t' l'
  split at h
  ·rename_i hs
   simp only [decide_eq_true_eq] at hs
   cases h
   exact ⟨rfl,hs⟩
  ·cases h
 ·rename_i r p off len v
  split at h
  ·rename_i e t' l' hr
   cases h
   have hr' := rootD_spec (n := n) hr
   simp only [DA.toA,elemsA,sizA,hr',DT.toT]
   refine ⟨?_,e,_,rfl⟩
   rw [map_cut,vwL_spec _ (viewOk_vw hv hr)]
  ·cases h
 ·cases h
theorem subG_some {ρ:Type} {m:Nat} {lo hi:Option Int} {k:Option ρ} {r:ρ} (h:subG γ m lo hi k = some r):(cP γ → sliceOk lo hi m) ∧ k = some r := by
 unfold subG at h
 unfold sliceOk
 split at h
 ·exact ⟨fun _=>by simp,h⟩
 ·obtain ⟨h1,h2⟩ := Gd_some h
  exact ⟨fun hc=>by have := h1 hc; simp; omega,h2⟩
 ·obtain ⟨h1,h2⟩ := Gd_some h
  exact ⟨fun hc=>by have := h1 hc; simp; omega,h2⟩
 ·obtain ⟨h1,h2⟩ := Gd_some h
  exact ⟨fun hc=>by have := h1 hc; simp; omega,h2⟩
theorem subL_spec {α:Type} (l:List α) (lo hi:Option Int):cut l (lo.getD 0).toNat (hi.getD (l.length:Int)).toNat = subL l lo hi := by
 cases lo <;> cases hi <;> simp [subL,cut]
theorem isTy_spec (hY:DXOk Y X) {t:TypeId} {w:Ty} (h:isTy Y t w = true) (hu:undOf w ≠ none):X.P.underlying t = undOf w := by
 unfold isTy at h
 split at h
 ·rename_i d hd
  simp only [decide_eq_true_eq] at h
  have := (hY.td hd).und
  rw [h] at this
  rcases this with e | e
  ·exact absurd e hu
  ·exact e
 ·cases h
theorem tyT_spec (hY:DXOk Y X) {t:TypeId} {w:Ty} {u:TypeDesc} (h:tyT Y t = some w) (hu:undOf w = some u):X.P.underlying t = some u := by
 unfold tyT at h
 split at h
 ·rename_i d hd
  cases h
  rcases (hY.td hd).und with e | e
  ·rw [hu] at e; cases e
  ·rw [e,hu]
 ·cases h
theorem tyT_row (hY:DXOk Y X) {t:TypeId} {w:Ty} (h:tyT Y t = some w) (hf:w.fine = true):tyRow X.P t = some (w.row,w.sz) := by
 unfold tyT at h
 split at h
 ·rename_i d hd
  cases h
  rcases (hY.td hd).row with e | e
  ·rw [hf] at e; cases e
  ·exact e
 ·cases h
theorem sliT_spec (hY:DXOk Y X) {ty e:TypeId} {t:Ty} {b:Nat} (h:sliT Y ty = some (e,t,b)):sliOf X.P ty = some (e,t.sz,b,zval t) ∧ 1 ≤ b ∧ 0 < t.sz ∧ t.fine = true ∧ (t = .u8 → X.P.underlying e = some (.int .u8)) := by
 unfold sliT at h
 split at h
 ·rename_i d hd
  have hk := hY.td hd
  have h1 := hk.sli
  have h2 := hk.slt
  have h3 := hk.bye
  rw [h] at h1 h3
  simp only [slT,h,Bool.and_eq_true,decide_eq_true_eq] at h2
  rcases h1 with e1 | e1
  ·cases e1
  ·refine ⟨e1,h2.1.1.2,h2.1.2,h2.2,fun ht=>?_⟩
   subst ht
   simpa [byE] using h3
 ·cases h
theorem u8_wrap (z:Int):0 ≤ IntKind.u8.wrap z ∧ IntKind.u8.wrap z < 256 := by
 simp only [IntKind.wrap,IntKind.bits,IntKind.signed]
 simp
 omega
theorem binI_spec {ρ:Type} {op:BinOp} {k k':IntKind} {a b:Int} {K:DA → Option ρ} {r:ρ} (ty:TypeId) (ha:k = .u8 → 0 ≤ a ∧ a < 256) (h:binI γ op k k' a b K = some r) :
  ∃ da:DA,(cP γ → binOk X.P ty op (.int k a) (.int k' b)) ∧ da.toA = .t (.v (binV op (.int k a) (.int k' b))) ∧ da.isOpt = false ∧ viewOk st da ∧ K da = some r := by
 have hwr:∀ z:Int,k = .u8 → 0 ≤ k.wrap z ∧ k.wrap z < 256 := fun z e=>by subst e; exact u8_wrap z
 cases op with
 | shl =>
  obtain ⟨h1,h2⟩ := Gd_some (show Gd γ _ _ = some r from h)
  exact ⟨.t _,h1,by rw [DA.toA,mkI_spec _ _ (hwr _)]; rfl,rfl,trivial,h2⟩
 | shr =>
  obtain ⟨h1,h2⟩ := Gd_some (show Gd γ _ _ = some r from h)
  suffices hr:k = .u8 → 0 ≤ a.fdiv (2 ^ min b.toNat k.bits) ∧ a.fdiv (2 ^ min b.toNat k.bits) < 256 from
   ⟨.t _,h1,by rw [DA.toA,mkI_spec _ _ hr]; rfl,rfl,trivial,h2⟩
  intro e
  -- ⟨.t _, h1, by rw [DA.toA, mkI_spec _ _ hr]; rfl, rfl, trivial, h2⟩
  obtain ⟨q1,q2⟩ := ha e
  have hp:(0:Int) < 2 ^ min b.toNat k.bits := Int.pow_pos (by decide)
  rw [Int.fdiv_eq_ediv_of_nonneg _ (Int.le_of_lt hp)]
  exact ⟨Int.ediv_nonneg q1 (Int.le_of_lt hp),Int.lt_of_le_of_lt (Int.ediv_le_self _ q1) q2⟩
 | quo =>
  obtain ⟨h0,h⟩ := tst_some (show tst _ _ = some r from h)
  simp only [decide_eq_true_eq] at h0
  obtain ⟨h1,h2⟩ := Gd_some h
  exact ⟨.t _,fun hc=>⟨h0,h1 hc⟩,by rw [DA.toA,mkI_spec _ _ (hwr _)]; rfl,rfl,trivial,h2⟩
 | rem =>
  obtain ⟨h0,h⟩ := tst_some (show tst _ _ = some r from h)
  simp only [decide_eq_true_eq] at h0
  obtain ⟨h1,h2⟩ := Gd_some h
  suffices hr:k = .u8 → 0 ≤ a.tmod b ∧ a.tmod b < 256 from
   ⟨.t _,fun hc=>⟨h0,h1 hc⟩,by rw [DA.toA,mkI_spec _ _ hr]; rfl,rfl,trivial,h2⟩
  intro e
  -- ⟨.t _, fun hc => ⟨h0, h1 hc⟩, by rw [DA.toA, mkI_spec _ _ hr]; rfl, rfl, trivial, h2⟩
  obtain ⟨q1,q2⟩ := ha e
  rw [Int.tmod_eq_emod_of_nonneg q1]
  by_cases hb:b = 0
  ·subst hb; simp; omega
  ·have := Int.emod_nonneg a hb
   refine ⟨this,Int.lt_of_le_of_lt ?_ q2⟩
   obtain ⟨m,rfl⟩:∃ m:Nat,a = m := ⟨a.toNat,by omega⟩
   obtain ⟨j,rfl | rfl⟩ := Int.eq_nat_or_neg b
   ·rw [← Int.natCast_emod]; exact Int.ofNat_le.2 (Nat.mod_le _ _)
   ·rw [Int.emod_neg,← Int.natCast_emod]; exact Int.ofNat_le.2 (Nat.mod_le _ _)
 | add | sub | mul | and | or | xor =>
  obtain ⟨h0,h⟩ := tst_some (show tst _ _ = some r from h)
  simp only [decide_eq_true_eq] at h0
  exact ⟨.t _,fun hc=>h0,by rw [DA.toA,mkI_spec _ _ (hwr _)]; rfl,rfl,trivial,h⟩
 | eql | neq | lss | leq | gtr | geq =>
  obtain ⟨h0,h⟩ := tst_some (show tst _ _ = some r from h)
  simp only [decide_eq_true_eq] at h0
  exact ⟨.t _,fun hc=>h0,rfl,rfl,trivial,h⟩
 | andNot =>
  obtain ⟨h0,h⟩ := tst_some (show tst _ _ = some r from h)
  cases h
theorem length_str (s:List UInt8):(mkS s).size = s.length := size_mkS s
theorem binS_spec {ρ:Type} {op:BinOp} {a b:List UInt8} {K:DA → Option ρ} {r:ρ} (ty:TypeId) (h:binS γ op a b K = some r) :
  ∃ da:DA,(cP γ → binOk X.P ty op (.string (mkS a)) (.string (mkS b))) ∧ da.toA = .t (.v (binV op (.string (mkS a)) (.string (mkS b)))) ∧ da.isOpt = false ∧ viewOk st da ∧ K da = some r := by
 cases op with
 | add =>
  obtain ⟨h1,h2⟩ := Gd_some (show Gd γ _ _ = some r from h)
  exact ⟨.t _,fun hc=>by have := h1 hc; simp only [binOk,length_str]; exact this,by simp only [DA.toA,DT.toT,Ty.enc,Ty.row,mkT,Ty.cells,List.headD_cons,binV,mkS_append],rfl,trivial,h2⟩
 | eql | neq | lss | gtr =>
  exact ⟨.t _,fun hc=>trivial,by simp only [DA.toA,DT.toT,Ty.enc,Ty.row,mkT,Ty.cells,List.headD_cons,binV,bl_mkS],rfl,trivial,h⟩
 | _=>cases h
theorem bin_sound (hY:DXOk Y X) (hw:WF st) (hγ:gOk st γ) {ρ:Type} {o:Oper} {op:BinOp} {ty t':TypeId} {x y:Operand} {a b:DT} {K:DA → Option ρ} {r:ρ} (ho:o.op = .binOp op ty x y t')
  (hx:rdD Y γ st x = some (.t a)) (hy:rdD Y γ st y = some (.t b)) (h:binD Y γ op ty a b K = some r):Shows X n st γ o K r := by
 obtain ⟨x1,x2⟩ := rdT_spec (n := n) hY hw hγ hx
 obtain ⟨y1,y2⟩ := rdT_spec (n := n) hY hw hγ hy
 unfold binD at h
 split at h
 ·rename_i k a' k' b' ha hb
  obtain ⟨a1,a2⟩ := asI_spec ha
  obtain ⟨b1,b2⟩ := asI_spec hb
  obtain ⟨da,q1,q2,q3,q4,q5⟩ := binI_spec (X := X) (st := st) ty a2 h
  rw [a1] at x1; rw [b1] at y1
  exact ⟨da,fun hc=>by rw [q2]; exact good_bin ho (x2 hc) (y2 hc) x1 y1 (q1 hc),q3,q4,q5⟩
 ·split at h
  ·obtain ⟨da,q1,q2,q3,q4,q5⟩ := binS_spec (X := X) (st := st) ty h
   exact ⟨da,fun hc=>by rw [q2]; exact good_bin ho (x2 hc) (y2 hc) x1 y1 (q1 hc),q3,q4,q5⟩
  ·rename_i a b _
   obtain ⟨h0,h⟩ := tst_some h
   have hu := isTy_spec hY h0 (by simp [undOf])
   cases op <;> first | cases h | exact ⟨.t (.s .bool _),fun hc=>(good_bin (a := .bool a) (b := .bool b) ho (x2 hc) (y2 hc) x1 y1 hu),rfl,trivial,h⟩
  ·rename_i a b _
   obtain ⟨h0,h⟩ := tst_some h
   have hf:fnOf X.P ty = true := by
    unfold fnT at h0
    split at h0
    ·rename_i d hd
     rcases (hY.td hd).fnv with e | e
     ·rw [e] at h0; cases h0
     ·exact e
    ·cases h0
   unfold nilK at h
   split at h
   ·split at h
    ·obtain ⟨h1,h⟩ := Gd_some h
     exact ⟨.t (.s .bool _),fun hc=>good_eqNil (.inl rfl) ho (x2 hc) (y2 hc) x1 y1 hf (h1 hc),rfl,trivial,h⟩
    ·obtain ⟨h1,h⟩ := Gd_some h
     exact ⟨.t (.s .bool _),fun hc=>good_eqNil (.inr rfl) ho (x2 hc) (y2 hc) x1 y1 hf (h1 hc),rfl,trivial,h⟩
    ·cases h
   ·cases h
  ·split at h
   ·rename_i d hd
    split at h
    ·rename_i x' y' hk hcx hcy
     simp only [Bool.and_eq_true] at hk
     obtain ⟨k1,k2,k3⟩ := hk
     have hq:eqFlat X.P ty d.fs = true := by
      rcases (hY.td hd).eqv with e | e
      ·rw [e] at k1; cases k1
      ·exact e
     have ex:rd X (stG n st.toSt) x = .t (.ag ((rowOf d.fs).cells x')) := by
      rw [x1,← enc_row _ _ (rowOf_row d.fs),(castT_toT hcx).2.1]; rfl
     have ey:rd X (stG n st.toSt) y = .t (.ag ((rowOf d.fs).cells y')) := by
      rw [y1,← enc_row _ _ (rowOf_row d.fs),(castT_toT hcy).2.1]; rfl
     cases op <;> first | cases h | skip
     ·exact ⟨.t (.s .bool _),fun hc=>good_eqRow (.inl rfl) k2 k3 ho (x2 hc) (y2 hc) ex ey hq,rfl,trivial,h⟩
     ·exact ⟨.t (.s .bool _),fun hc=>good_eqRow (.inr rfl) k2 k3 ho (x2 hc) (y2 hc) ex ey hq,rfl,trivial,h⟩
    ·cases h
   ·cases h
  ·cases h
end Go.Eng

/- One operation that writes one slot, in typed trees: that it is so (second part). -/
namespace Go.Eng
open Go.RowKit (Below)
set_option linter.unusedVariables false
set_option linter.unusedSimpArgs false
variable {X:Ctx} {Y:DX} {n:Nat} {st:DSt} {E:Env} {γ:Gam} {ρ:Type} {o:Oper} {K:DA → Option ρ} {r:ρ}
theorem move_sound (hY:DXOk Y X) (hw:WF st) (hγ:gOk st γ) {x:Operand} {a:DA} (ho:o.op = .move x ∨ o.op = .assign x) (hx:rdD Y γ st x = some a) (h:K a = some r):Shows X n st γ o K r := by
 obtain ⟨h1,h2,h3,h4⟩ := rdD_spec (n := n) hY hw hγ hx
 exact ⟨a,fun hc=>by rw [← h1]; exact good_move ho (h2 hc),h3,h4,h⟩
theorem fzD_good {g:Nat → A} {x:DT} (h:Good X g o (.t x.toT)):Good X g o (.t (fzD x).toT) := by
 cases x with
 | own e t l =>
  have := h.fz
  simp only [DT.toT,T.fz,fzAll_eq,fz_map] at this
  exact this
 | _=>exact h
theorem ownG_good {g:Nat → A} {x:DT} (h:Good X g o (.t x.toT)):Good X g o (.t (ownG γ x).toT) := by
 cases γ with
 | none=>exact h
 | some _=>exact fzD_good h
theorem nil_sound (hY:DXOk Y X) {e:TypeId} {t:Ty} {b:Nat} (ho:o.op = .assign (.const (.slice none 0 0)) ∨ o.op = .move (.const (.slice none 0 0))) (ht:sliT Y o.type = some (e,t,b)) (h:K (.t (ownG γ (.own e t []))) = some r):Shows X n st γ o K r :=
 ⟨.t (ownG γ (.own e t [])),fun _=>ownG_good (x := .own e t []) (good_nil ho (sliT_spec hY ht).1),rfl,trivial,h⟩
theorem pkD_spec (hY:DXOk Y X) (hw:WF st) (hγ:gOk st γ) {dq:Nat} {w:Bool} {x:Operand} {y:DT} (h:pkD Y γ st dq w x = some y) :
  (ev X (stG n st.toSt) x).un = .t y.toT ∧ ∀ (c q:Bool),gB st dq true = some q → ((match γ with | none=>true | some (_,_,b)=>b) = true → (c = q)) → True := by
 refine ⟨?_,fun _ _ _ _=>trivial⟩
 unfold pkD at h
 split at h
 ·rename_i y' hr
  cases h
  exact (rdD_spec (n := n) hY hw hγ hr).1
 ·cases h
 ·split at h
  ·rename_i d w' b y' hd
   split at h
   ·cases h
    rw [← dev_eq hY x,hd]; rfl
   ·cases h
  ·cases h
theorem pkD_ob (hY:DXOk Y X) (hw:WF st) (hγ:gOk st γ) {dq:Nat} {w:Bool} {x:Operand} {y:DT} (h:pkD Y γ st dq w x = some y) (hc:cP γ) :
  (ev X (stG n st.toSt) x).ob ∨ ∃ b,(∀ b',gB st dq w = some b' → b' = b) ∧ (b = true → (ev X (stG n st.toSt) x).ob) := by
 unfold pkD at h
 split at h
 ·rename_i y' hr
  exact .inl ((rdD_spec (n := n) hY hw hγ hr).2.1 hc)
 ·cases h
 ·split at h
  ·rename_i d w' b y' hd
   split at h
   ·rename_i hb
    simp only [Bool.and_eq_true,beq_iff_eq] at hb
    obtain ⟨h1,rfl⟩ := hb
    have := Nat.eq_of_beq_eq_true h1
    subst this
    have hwf := dev_wf (Y := Y) hw x
    rw [hd] at hwf
    refine .inr ⟨b,hwf.1,fun hbt=>?_⟩
    rw [← dev_eq hY x,hd]; exact hbt
   ·cases h
  ·cases h
theorem gB_of (hY:DXOk Y X) (hw:WF st) (hγ:gOk st γ) {dq:Nat} {c:Bool} (h:rdD Y γ st (.tmp dq) = some (.t (.s .bool c))) (hc:cP γ) (w:Bool):gB st dq w = some (c == w) := by
 have hd:dev Y st (.tmp dq) = .t (.s .bool c) ∨ ∃ d w' b',dev Y st (.tmp dq) = .opt d w' b' (.t (.s .bool c)) ∧ b' = true := by
  unfold rdD at h
  split at h
  ·rename_i d w' b' a' hd
   split at h
   ·rename_i d2 w2 b2
    by_cases hq:(Nat.beq d d2 && (w' == w2)) = true
    ·rw [hq] at h
     cases h
     refine .inr ⟨d,w',b',hd,?_⟩
     simp only [Bool.and_eq_true,beq_iff_eq] at hq
     obtain ⟨h1,rfl⟩ := hq
     have := Nat.eq_of_beq_eq_true h1
     subst this
     have hwf := dev_wf (Y := Y) hw (.tmp dq)
     rw [hd] at hwf
     have e:gB st d w' = some b2 := hγ
     rw [← hwf.1 b2 e]; exact hc
    ·simp only [Bool.not_eq_true] at hq
     rw [hq] at h; cases h
   ·cases h
  ·exact .inl (Option.some.inj h)
 have hf:st.find dq = some (.t (.s .bool c)) ∨ ∃ d w' b',st.find dq = some (.opt d w' b' (.t (.s .bool c))) ∧ b' = true := by
  simp only [dev] at hd
  cases hq:st.find dq with
  | none=>rw [hq] at hd; rcases hd with hd | ⟨d,w',b',hd,_⟩ <;> cases hd
  | some a =>
   rw [hq] at hd
   cases a with
   | t x =>
    cases x with
    | own2=>rcases hd with hd | ⟨d,w',b',hd,_⟩ <;> cases hd
    | own=>rcases hd with hd | ⟨d,w',b',hd,_⟩ <;> cases hd
    | box=>rcases hd with hd | ⟨d,w',b',hd,_⟩ <;> cases hd
    | tup cs=>simp only at hd; cases hfl:flatsD cs <;> rw [hfl] at hd <;> rcases hd with hd | ⟨d,w',b',hd,_⟩ <;> cases hd
    | u=>rcases hd with hd | ⟨d,w',b',hd,_⟩ <;> cases hd
    | s t y =>
     simp only at hd
     rcases hd with hd | ⟨d,w',b',hd,_⟩
     ·exact .inl (by rw [hd])
     ·cases hd
   | opt d w' b' a' =>
    rcases hd with hd | ⟨d2,w2,b2,hd,e⟩
    ·cases hd
    ·cases hd; exact .inr ⟨_,_,_,rfl,e⟩
   | _=>rcases hd with hd | ⟨d,w',b',hd,_⟩ <;> cases hd
 unfold gB
 rcases hf with hf | ⟨d,w',b',hf,rfl⟩
 ·rw [hf]; cases c <;> cases w <;> rfl
 ·rw [hf]; cases c <;> cases w <;> rfl
theorem pickV_spec {c:Bool} {x y:Operand} {a b v:DT} (hx:isTrueC x = true → a.toT = .v (.bool true)) (hy:isFalseC y = true → b.toT = .v (.bool false)) (h:pickV c x y a b = some v) :
  v.toT = pickT c a.toT b.toT ∧ ((∃ k p q,a.toT = .v (.int k p) ∧ b.toT = .v (.int k q)) ∨ ((∃ p,a.toT = .v p ∧ ∀ k m,p ≠ .int k m) ∧ ∃ q,b.toT = .v q)) := by
 unfold pickV at h
 split at h
 ·cases h
  rename_i p q
  refine ⟨?_,.inr ⟨⟨.bool p,rfl,fun _ _ e=>by cases e⟩,.bool q,rfl⟩⟩
  cases hxt:isTrueC x with
  | true =>
   have := hx hxt
   simp only [DT.toT,Ty.enc,Ty.row,mkT,Ty.cells,List.headD_cons,T.v.injEq,Value.bool.injEq] at this
   subst this
   cases c <;> cases q <;> rfl
  | false =>
   cases hyf:isFalseC y with
   | true =>
    have := hy hyf
    simp only [DT.toT,Ty.enc,Ty.row,mkT,Ty.cells,List.headD_cons,T.v.injEq,Value.bool.injEq] at this
    subst this
    cases c <;> cases p <;> rfl
   | false=>cases c <;> rfl
 ·cases h
  rename_i p q
  exact ⟨by cases c <;> rfl,.inl ⟨.u8,_,_,rfl,rfl⟩⟩
 ·split at h
  ·rename_i k p k' q hk
   simp only [decide_eq_true_eq] at hk
   subst hk
   cases h
   exact ⟨by cases c <;> rfl,.inl ⟨_,_,_,rfl,rfl⟩⟩
  ·cases h
 ·cases h
  rename_i p q
  exact ⟨by cases c <;> rfl,.inr ⟨⟨.string (mkS p),rfl,fun _ _ e=>by cases e⟩,.string (mkS q),rfl⟩⟩
 ·cases h
theorem pick_sound (hY:DXOk Y X) (hw:WF st) (hγ:gOk st γ) {dq:Nat} {x y:Operand} {c:Bool} {a b v:DT} (ho:o.op = .pick (.tmp dq) x y) (hq:rdD Y γ st (.tmp dq) = some (.t (.s .bool c)))
  (hx:pkD Y γ st dq true x = some a) (hy:pkD Y γ st dq false y = some b) (hv:pickV c x y a b = some v) (h:K (.t v) = some r):Shows X n st γ o K r := by
 obtain ⟨q1,q2⟩ := rdT_spec (n := n) hY hw hγ hq
 have x1 := (pkD_spec (n := n) hY hw hγ hx).1
 have y1 := (pkD_spec (n := n) hY hw hγ hy).1
 have hxt:isTrueC x = true → a.toT = .v (.bool true) := fun hx'=>by
  have:x = .const (.bool true) := by
   unfold isTrueC at hx'; split at hx'
   ·rfl
   ·cases hx'
  rw [this] at x1
  simp only [ev,A.un,A.t.injEq] at x1; exact x1.symm
 have hyf:isFalseC y = true → b.toT = .v (.bool false) := fun hy'=>by
  have:y = .const (.bool false) := by
   unfold isFalseC at hy'; split at hy'
   ·rfl
   ·cases hy'
  rw [this] at y1
  simp only [ev,A.un,A.t.injEq] at y1; exact y1.symm
 obtain ⟨e1,e2⟩ := pickV_spec hxt hyf hv
 refine ⟨.t v,fun hc=>?_,rfl,trivial,h⟩
 have hp:pickOk c (ev X (stG n st.toSt) x) (ev X (stG n st.toSt) y) := by
  refine ⟨fun hct=>?_,fun hcf=>?_,?_⟩
  ·rcases pkD_ob (n := n) hY hw hγ hx hc with h | ⟨b',hb,h⟩
   ·exact h
   ·have := hb _ (gB_of hY hw hγ hq hc true)
    subst hct
    exact h (by rw [← this]; rfl)
  ·rcases pkD_ob (n := n) hY hw hγ hy hc with h | ⟨b',hb,h⟩
   ·exact h
   ·have := hb _ (gB_of hY hw hγ hq hc false)
    subst hcf
    exact h (by rw [← this]; rfl)
  ·rw [x1,y1]
   rcases e2 with ⟨k,p,q,h1,h2⟩ | ⟨⟨p,h1,h2⟩,q,h3⟩
   ·rw [h1,h2]
   ·rw [h1,h3]
    split
    ·rename_i hp _; exact absurd (by injection hp with hp; injection hp) (h2 _ _)
    ·trivial
    ·rename_i hn; exact (hn _ _ rfl rfl).elim
 have := good_pick ho (q2 hc) q1 hp
 rw [show (DA.t v).toA = pickA c (ev X (stG n st.toSt) x) (ev X (stG n st.toSt) y) from by
  simp only [pickA,x1,y1,DA.toA,e1]]
 exact this
theorem conv_sound (hY:DXOk Y X) (hw:WF st) (hγ:gOk st γ) {s d:TypeId} {x:Operand} (ho:o.op = .convert s d x)
  (h:(match rdD Y γ st x with
  | some (.t (.s .str a))=>tst (isTy Y s .str && isTy Y d .str) (K (.t (.s .str a)))
  | some (.t a)=>match asI a,tyT Y s,tyT Y d with
   | some (k,a),some ts,some td=>match undOf ts,undOf td with
    | some _,some (.int k')=>K (.t (mkI k' (k'.wrap a)))
    | _,_=>none
   | none,some _,some .str=>match elemsD st (.t a),sliT Y s with
    | some ⟨.u8,l⟩,some (_,.u8,_)=>K (.t (.s .str l))
    | _,_=>none
   | _,_,_=>none
  | some a=>match elemsD st a,sliT Y s with
   | some ⟨.u8,l⟩,some (_,.u8,_)=>tst (isTy Y d .str) (K (.t (.s .str l)))
   | _,_=>none
  | none=>none) = some r):Shows X n st γ o K r := by
 split at h
 ·rename_i a hx
  obtain ⟨x1,x2⟩ := rdT_spec (n := n) hY hw hγ hx
  obtain ⟨h0,h⟩ := tst_some h
  simp only [Bool.and_eq_true] at h0
  exact ⟨.t (.s .str a),fun hc=>good_conv_str ho (x2 hc) x1 (isTy_spec hY h0.1 (by simp [undOf])) (isTy_spec hY h0.2 (by simp [undOf])),rfl,trivial,h⟩
 ·rename_i a _ hx
  obtain ⟨x1,x2⟩ := rdT_spec (n := n) hY hw hγ hx
  split at h
  ·rename_i k a' ts td ha hs hd
   obtain ⟨a1,a2⟩ := asI_spec ha
   split at h
   ·rename_i us k' hus hud
    rw [a1] at x1
    refine ⟨.t (mkI k' (k'.wrap a')),fun hc=>?_,rfl,trivial,h⟩
    rw [DA.toA,mkI_spec _ _ (fun e=>by subst e; exact u8_wrap _)]
    exact good_conv_int ho (x2 hc) x1 (tyT_spec hY hs hus) (tyT_spec hY hd hud)
   ·cases h
  ·rename_i ts ha hs hd
   split at h
   ·rename_i l e b he hs'
    obtain ⟨h1,h2⟩ := elemsD_spec (n := n) (a := .t a) trivial he
    obtain ⟨k1,_,_,_,k5⟩ := sliT_spec hY hs'
    refine ⟨.t (.s .str l),fun hc=>?_,rfl,trivial,h⟩
    have hu := (sliOf_spec k1).1
    exact good_bytes_str (l := l) ho (x2 hc) (by rw [x1]; exact h1) rfl (by rw [x1]; exact h2) hu (k5 rfl) (tyT_spec hY hd rfl)
   ·cases h
  ·cases h
 ·rename_i a _ _ hx
  obtain ⟨x1,x2,x3,x4⟩ := rdD_spec (n := n) hY hw hγ hx
  split at h
  ·rename_i l e b he hs'
   obtain ⟨h0,h⟩ := tst_some h
   obtain ⟨h1,h2⟩ := elemsD_spec (n := n) x4 he
   obtain ⟨k1,_,_,_,k5⟩ := sliT_spec hY hs'
   refine ⟨.t (.s .str l),fun hc=>?_,rfl,trivial,h⟩
   have hu := (sliOf_spec k1).1
   exact good_bytes_str (l := l) ho (x2 hc) (by rw [x1]; exact h1) rfl (by rw [x1]; exact h2) hu (k5 rfl) (isTy_spec hY h0 (by simp [undOf]))
  ·cases h
 ·cases h
end Go.Eng

/- One operation that writes one slot, in typed trees: that it is so (third part). -/
namespace Go.Eng
open Go.RowKit (Below)
set_option linter.unusedVariables false
set_option linter.unusedSimpArgs false
variable {X:Ctx} {Y:DX} {n:Nat} {st:DSt} {E:Env} {γ:Gam} {ρ:Type} {o:Oper} {K:DA → Option ρ} {r:ρ} {g:Nat → A}
theorem index_sound (hY:DXOk Y X) (hw:WF st) (hγ:gOk st γ) {ty:TypeId} {x i:Operand} {s:List UInt8} {k:IntKind} {a:Int} (ho:o.op = .index ty x i) (hx:rdD Y γ st x = some (.t (.s .str s))) (hi:rdI Y γ st i = some (k,a))
  (h0:isTy Y ty .str = true) (h:Gd γ (0 ≤ a ∧ a < (s.length:Int)) (K (.t (.s .u8 (s.getD a.toNat 0)))) = some r):Shows X n st γ o K r := by
 obtain ⟨x1,x2⟩ := rdT_spec (n := n) hY hw hγ hx
 obtain ⟨i1,i2,_⟩ := rdI_spec (n := n) hY hw hγ hi
 obtain ⟨h1,h2⟩ := Gd_some h
 refine ⟨.t (.s .u8 (s.getD a.toNat 0)),fun hc=>?_,rfl,trivial,h2⟩
 have := good_index_str ho (x2 hc) (i2 hc) x1 i1 (isTy_spec hY h0 (by simp [undOf])) (h1 hc).1 (by rw [bl_mkS]; exact (h1 hc).2)
 rw [bl_mkS] at this
 exact this
theorem slice_str_sound (hY:DXOk Y X) (hw:WF st) (hγ:gOk st γ) {ty:TypeId} {x:Operand} {lo hi:Option Operand} {s:List UInt8} {nlo nhi:Option Int} (ho:o.op = .slice ty x lo hi none) (hx:rdD Y γ st x = some (.t (.s .str s))) (hl:bndD Y γ st lo = some nlo) (hh:bndD Y γ st hi = some nhi)
  (h0:isTy Y ty .str = true) (h:subG γ s.length nlo nhi (K (.t (.s .str (subL s nlo nhi)))) = some r):Shows X n st γ o K r := by
 obtain ⟨x1,x2⟩ := rdT_spec (n := n) hY hw hγ hx
 obtain ⟨l1,l2⟩ := bndD_spec (n := n) (X := X) hY hw hγ hl
 obtain ⟨k1,k2⟩ := bndD_spec (n := n) (X := X) hY hw hγ hh
 obtain ⟨h1,h2⟩ := subG_some h
 refine ⟨.t (.s .str (subL s nlo nhi)),fun hc=>?_,rfl,trivial,h2⟩
 have := good_slice_str ho (x2 hc) x1 (l1 hc) (k1 hc) l2 k2 (isTy_spec hY h0 (by simp [undOf])) (by rw [bl_mkS]; exact h1 hc)
 rw [bl_mkS,subL_spec] at this
 exact this
theorem slice_sl_sound (hY:DXOk Y X) (hw:WF st) (hγ:gOk st γ) {ty e:TypeId} {t:Ty} {b sz:Nat} {x:Operand} {lo hi:Option Operand} {l:List t.I} {nlo nhi:Option Int} (ho:o.op = .slice ty x lo hi none) (hx:rdD Y γ st x = some (.t (.s (.sl sz t) l))) (hl:bndD Y γ st lo = some nlo) (hh:bndD Y γ st hi = some nhi)
  (hs:sliT Y ty = some (e,t,b)) (hsz:sz = t.sz) (h:subG γ l.length nlo nhi (K (.t (.s (.sl sz t) (subL l nlo nhi)))) = some r):Shows X n st γ o K r := by
 obtain ⟨x1,x2⟩ := rdT_spec (n := n) hY hw hγ hx
 obtain ⟨l1,l2⟩ := bndD_spec (n := n) (X := X) hY hw hγ hl
 obtain ⟨k1,k2⟩ := bndD_spec (n := n) (X := X) hY hw hγ hh
 obtain ⟨h1,h2⟩ := subG_some h
 refine ⟨.t (.s (.sl sz t) (subL l nlo nhi)),fun hc=>?_,rfl,trivial,h2⟩
 have := good_slice_sl (es := l.map t.enc) ho (x2 hc) x1 (l1 hc) (k1 hc) l2 k2 (sliT_spec hY hs).1 hsz.symm (by rw [List.length_map]; exact h1 hc)
 rw [List.length_map,map_cut,subL_spec] at this
 exact this
theorem slice3_sl_sound (hY:DXOk Y X) (hw:WF st) (hγ:gOk st γ) {ty e:TypeId} {t:Ty} {b' sz:Nat} {x lo hi mx:Operand} {l:List t.I} {k1 k2 k3:IntKind} {a b m:Int} (ho:o.op = .slice ty x (some lo) (some hi) (some mx)) (hx:rdD Y γ st x = some (.t (.s (.sl sz t) l))) (hl:rdI Y γ st lo = some (k1,a)) (hh:rdI Y γ st hi = some (k2,b)) (hm:rdI Y γ st mx = some (k3,m))
  (hs:sliT Y ty = some (e,t,b')) (hsz:sz = t.sz) (h:Gd γ (0 ≤ a ∧ a ≤ b ∧ b ≤ m ∧ m ≤ (l.length:Int)) (K (.t (.s (.sl sz t) (cut l a.toNat b.toNat)))) = some r):Shows X n st γ o K r := by
 obtain ⟨x1,x2⟩ := rdT_spec (n := n) hY hw hγ hx
 obtain ⟨l1,l2,_⟩ := rdI_spec (n := n) (X := X) hY hw hγ hl
 obtain ⟨i1,i2,_⟩ := rdI_spec (n := n) (X := X) hY hw hγ hh
 obtain ⟨m1,m2,_⟩ := rdI_spec (n := n) (X := X) hY hw hγ hm
 obtain ⟨h1,h2⟩ := Gd_some h
 refine ⟨.t (.s (.sl sz t) (cut l a.toNat b.toNat)),fun hc=>?_,rfl,trivial,h2⟩
 have := good_slice3_sl (es := l.map t.enc) ho (x2 hc) x1 (l2 hc) (i2 hc) (m2 hc) l1 i1 m1 (sliT_spec hY hs).1 hsz.symm (by rw [List.length_map]; exact h1 hc)
 rw [map_cut] at this
 exact this
theorem slice_ref_sound (hY:DXOk Y X) (hw:WF st) (hγ:gOk st γ) {ty e e':TypeId} {t:Ty} {b r' off len:Nat} {p:Option Nat} {v:Vw} {x:Operand} {lo hi:Option Operand} {l:List t.I} {nlo nhi:Option Int} (ho:o.op = .slice ty x lo hi none) (hx:rdD Y γ st x = some (.ref r' p off len v)) (hl:bndD Y γ st lo = some nlo) (hh:bndD Y γ st hi = some nhi)
  (hs:sliT Y ty = some (e,t,b)) (hr:rootD st r' p = some (.own e' t l)) (h:subG γ len nlo nhi (K (subV γ r' p off len v nlo nhi)) = some r):Shows X n st γ o K r := by
 obtain ⟨x1,x2,_,x4⟩ := rdD_spec (n := n) hY hw hγ hx
 obtain ⟨l1,l2⟩ := bndD_spec (n := n) (X := X) hY hw hγ hl
 obtain ⟨k1,k2⟩ := bndD_spec (n := n) (X := X) hY hw hγ hh
 obtain ⟨h1,h2⟩ := subG_some h
 have hvw := viewOk_vw x4 hr
 refine ⟨subV γ r' p off len v nlo nhi,fun hc=>?_,?_,?_,h2⟩
 ·have := good_slice_ref ho (x2 hc) x1 (rootD_spec hr) (l1 hc) (k1 hc) l2 k2 (sliT_spec hY hs).1 (h1 hc)
  have e:(subV γ r' p off len v nlo nhi).toA = .ref r' p (off + (nlo.getD 0).toNat) ((nhi.getD (len:Int)).toNat - (nlo.getD 0).toNat) := by
   cases nlo <;> cases nhi <;> cases v <;> cases γ <;> simp [subV,DA.toA,vwOk] at hvw ⊢
   all_goals (try omega)
  rw [e]; exact this
 ·cases nlo <;> cases nhi <;> cases v <;> cases γ <;> rfl
 ·have hk:∀ {off' len':Nat} {v':Vw},vwOk off' len' l.length v' → viewOk st (.ref r' p off' len' v') := fun h=>.inr ⟨e',t,l,hr,h⟩
  have h1' := h1
  unfold sliceOk at h1'
  cases nlo with
  | none =>
   cases nhi with
   | none=>exact x4
   | some b =>
    cases v with
    | all =>
     cases γ with
     | none =>
      obtain ⟨rfl,rfl⟩ := hvw
      have := h1' trivial
      simp at this
      exact hk ⟨rfl,by omega⟩
     | some=>exact .inl rfl
    | _=>exact .inl rfl
  | some a =>
   cases nhi with
   | none =>
    cases v with
    | all =>
     cases γ with
     | none =>
      obtain ⟨rfl,rfl⟩ := hvw
      have := h1' trivial
      simp at this
      exact hk ⟨by omega,rfl⟩
     | some=>exact .inl rfl
    | _=>exact .inl rfl
   | some b=>cases v <;> exact .inl rfl
theorem getD_map {t:Ty} (l:List t.I) (i:Nat) (h:i < l.length):(l.map t.enc).getD i .u = t.enc (l.getD i t.dflt) := by
 simp only [List.getD_eq_getElem?_getD,List.getElem?_map,List.getElem?_eq_getElem h,Option.map_some,Option.getD_some]
theorem idx_sl_sound (hY:DXOk Y X) (hw:WF st) (hγ:gOk st γ) {ty e:TypeId} {t:Ty} {b sz:Nat} {x i:Operand} {l:List t.I} {k:IntKind} {a:Int} (ho:o.op = .indexAddr ty x i) (hx:rdD Y γ st x = some (.t (.s (.sl sz t) l))) (hi:rdI Y γ st i = some (k,a))
  (hs:sliT Y ty = some (e,t,b)) (hsz:sz = t.sz) (h:Gd γ (0 ≤ a ∧ a < (l.length:Int)) (K (.sptr t (l.getD a.toNat t.dflt))) = some r):Shows X n st γ o K r := by
 subst hsz
 obtain ⟨x1,x2⟩ := rdT_spec (n := n) hY hw hγ hx
 obtain ⟨i1,i2,_⟩ := rdI_spec (n := n) hY hw hγ hi
 obtain ⟨h1,h2⟩ := Gd_some h
 refine ⟨.sptr t (l.getD a.toNat t.dflt),fun hc=>?_,rfl,trivial,h2⟩
 have hlt := h1 hc
 have := good_indexAddr_sl (es := l.map t.enc) ho (x2 hc) (i2 hc) x1 i1 (sliT_spec hY hs).1 hlt.1 (by rw [List.length_map]; exact hlt.2)
 rw [getD_map l a.toNat (by omega),enc_cells] at this
 exact this
theorem idx_ref_sound (hY:DXOk Y X) (hw:WF st) (hγ:gOk st γ) {ty e e':TypeId} {t:Ty} {b r' off len:Nat} {p:Option Nat} {v:Vw} {x i:Operand} {l:List t.I} {k:IntKind} {a:Int} (ho:o.op = .indexAddr ty x i) (hx:rdD Y γ st x = some (.ref r' p off len v)) (hi:rdI Y γ st i = some (k,a))
  (hs:sliT Y ty = some (e,t,b)) (hr:rootD st r' p = some (.own e' t l)) (h:Gd γ (0 ≤ a ∧ a < (len:Int)) (K (.eptr r' p (eix v off a.toNat) 0)) = some r):Shows X n st γ o K r := by
 obtain ⟨x1,x2,_,x4⟩ := rdD_spec (n := n) hY hw hγ hx
 obtain ⟨i1,i2,_⟩ := rdI_spec (n := n) hY hw hγ hi
 obtain ⟨h1,h2⟩ := Gd_some h
 refine ⟨.eptr _ _ _ _,fun hc=>?_,rfl,trivial,h2⟩
 obtain ⟨s1,_,s3,_⟩ := sliT_spec hY hs
 have := good_indexAddr_ref (es0 := l.map t.enc) ho (x2 hc) (i2 hc) x1 i1 (rootD_spec hr) s1 s3 (h1 hc).1 (h1 hc).2
 have hvw := viewOk_vw x4 hr
 cases v with
 | all=>obtain ⟨rfl,_⟩ := hvw; rw [Nat.zero_add] at this; exact this
 | _=>exact this
theorem finfo_get:∀ (fs:List Ty) (k f:Nat) (t:Ty),fs[f]? = some t → (finfo k fs)[f]? = some (some (k + offs fs f,t.row,t.sz))
 | [],_,_,_,h=>by simp at h
 | u :: fs,k,0,t,h=>by simp at h; subst h; simp [finfo,offs]
 | u :: fs,k,f + 1,t,h=>by
  simp only [List.getElem?_cons_succ] at h
  simp only [finfo,List.getElem?_cons_succ,offs]
  rw [finfo_get fs (k + u.sz) f t h,Nat.add_assoc]
theorem places_get:∀ (fs:List Ty) (k f:Nat) (t:Ty),fs[f]? = some t → (places k fs)[f]? = some (k + offs fs f,t.sz)
 | [],_,_,_,h=>by simp at h
 | u :: fs,k,0,t,h=>by simp at h; subst h; simp [places,offs]
 | u :: fs,k,f + 1,t,h=>by
  simp only [List.getElem?_cons_succ] at h
  simp only [places,List.getElem?_cons_succ,offs]
  rw [places_get fs (k + u.sz) f t h,Nat.add_assoc]
theorem fld_spec {P:Program} {i:TypeId} {d:TD} (hd:TDOk P i d) {f:Nat} {t:Ty} (h:d.fs[f]? = some t):fldOf P i f = some (offs d.fs f,t.row,t.sz) ∧ 0 < t.sz := by
 obtain ⟨hlt,ht⟩ := List.getElem?_eq_some_iff.1 h
 have hsz:0 < t.sz := by
  have := List.all_eq_true.1 hd.fsz t (by rw [← ht]; exact List.getElem_mem hlt)
  simpa using this
 refine ⟨?_,hsz⟩
 rcases hd.fld with e | e
 ·rw [e] at h; simp at h
 ·have h2 := congrArg (fun l=>l[f]?) e
  simp only [List.getElem?_map,List.getElem?_range hlt,Option.map_some,finfo_get d.fs 0 f t h,Option.some.injEq,Nat.zero_add] at h2
  exact h2
theorem Good.sptr_pre {cs cs':List T} (h:Good X g o (.sptr (cs ++ cs'))):Good X g o (.sptr cs) := by
 intro tmps ds w c hG hf next Q hn
 refine h tmps ds w c hG hf next Q (fun v w' hw hr=>hn v w' hw ?_)
 obtain ⟨cd,⟨h0,a,vals,q1,q2,q3,q4,q5,q6,q7⟩,h2,h3⟩ := hr
 obtain ⟨c1,c2,k1,k2,k3⟩ := q6.split
 refine ⟨cd,⟨h0,a,vals.take cs.length,q1,q2,q3,q4,fun k y hk=>?_,k1.count (fun b=>by have := k3 b; omega),fun y hy=>q7 y (List.mem_of_mem_take hy)⟩,h2,h3⟩
 rw [List.getElem?_take] at hk
 split at hk
 ·exact q5 k y hk
 ·cases hk
theorem Good.eptr {x:Operand} {a:A} {r' i j:Nat} {p:Option Nat} {e:TypeId} {sz:Nat} {es:List T} (hx:rdp X g x) (ex:rd X g x = .eptr r' p i j) (hr:root g r' p = some (.own e sz es)) (h:i < es.length → Good X g o a):Good X g o a := by
 intro tmps ds w c hG hf next Q hn
 have hrep := rd_rep (ds := ds) hG hf x hx
 rw [ex] at hrep
 obtain ⟨_,t0,e',sz',es',b,m,cap,h1,h2,h3,_⟩ := hrep
 have := root_of h1 h2
 rw [hr] at this; cases this
 exact h h3 tmps ds w c hG hf next Q hn
def ptrA:A → Prop
 | .sptr _=>True
 | .eptr _ _ _ _=>True
 | .pref _ _ _=>True
 | _=>False
theorem good_nilCheck {g:Nat → A} {o:Oper} {x:Operand} (ho:o.op = .nilCheck x) (hx:rdp X g x) (hk:ptrA (rd X g x)):Good X g o (rd X g x) :=
 Good.of_run fun tmps ds w c hG hf=>by
  have hr := rd_rep (ds := ds) hG hf x hx
  generalize rd X g x = a at *
  cases a with
  | t | ref | ghost | opt=>exact False.elim hk
  | sptr cs =>
   obtain ⟨_,ad,vals,h1,h2,h3,h4,h5,h6,h7⟩ := hr
   refine ⟨.pointer (some ad),?_,fun _=>rfl,ad,vals,rfl,h2,h3,h4,h5,h6,h7⟩
   unfold execOp; simp only [ho,h1]; rfl
  | eptr r p i j =>
   obtain ⟨_,t0,e,sz,es,b,m,cap,h1,h2,h3,h4,h5⟩ := hr
   refine ⟨_,?_,fun _=>rfl,t0,e,sz,es,b,m,cap,h1,h2,h3,h4,rfl⟩
   unfold execOp; simp only [ho,h5]; rfl
  | pref r p o' =>
   obtain ⟨_,t0,e,cs,b,h1,h2,h3,h4⟩ := hr
   refine ⟨_,?_,fun _=>rfl,t0,e,cs,b,h1,h2,h3,rfl⟩
   unfold execOp; simp only [ho,h4]; rfl
theorem nilCheck_sound (hY:DXOk Y X) (hw:WF st) (hγ:gOk st γ) {x:Operand} {a:DA} (ho:o.op = .nilCheck x) (hx:rdD Y γ st x = some a) (hk:ptrA a.toA) (h:K a = some r):Shows X n st γ o K r := by
 obtain ⟨x1,x2,x3,x4⟩ := rdD_spec (n := n) hY hw hγ hx
 refine ⟨a,fun hc=>?_,x3,x4,h⟩
 have := good_nilCheck ho (x2 hc) (by rw [x1]; exact hk)
 rw [x1] at this
 exact this
theorem fieldAddr_sptr_sound (hY:DXOk Y X) (hw:WF st) (hγ:gOk st γ) {s:TypeId} {x:Operand} {f:Nat} {d:TD} {t ft:Ty} {y:t.I} {y':(rowOf d.fs).I} {z:ft.I} (ho:o.op = .fieldAddr s x f) (hd:look Y.tab s = some d) (hx:rdD Y γ st x = some (.sptr t y))
  (hc':castT (b := rowOf d.fs) y = some y') (hp:projD d.fs y' f = some (.s ft z)) (h:K (.sptr ft z) = some r):Shows X n st γ o K r := by
 obtain ⟨x1,x2,_,x4⟩ := rdD_spec (n := n) hY hw hγ hx
 obtain ⟨t',v,p1,p2,p3,p4⟩ := projD_spec _ _ _ _ hp
 cases p2
 obtain ⟨c1,_,c3⟩ := castT_toT hc'
 obtain ⟨f1,f2⟩ := fld_spec (hY.td hd) p1
 refine ⟨.sptr ft z,fun hc=>?_,rfl,trivial,h⟩
 have := good_fieldAddr ho (x2 hc) f1 f2 (by rw [x1]; trivial)
 rw [x1] at this
 simp only [DA.toA,fieldA] at this ⊢
 rw [← c1] at this
 have e:((rowOf d.fs).cells y').drop (offs d.fs f) = ft.cells z ++ (((rowOf d.fs).cells y').drop (offs d.fs f)).drop ft.sz := by rw [p3,List.take_append_drop]
 rw [e] at this
 exact this.sptr_pre
theorem fieldAddr_eptr_sound (hY:DXOk Y X) (hw:WF st) (hγ:gOk st γ) {s e:TypeId} {x:Operand} {f r' i j:Nat} {p:Option Nat} {d:TD} {t:Ty} {l:List t.I} (ho:o.op = .fieldAddr s x f) (hd:look Y.tab s = some d) (hx:rdD Y γ st x = some (.eptr r' p i j))
  (hr:rootD st r' p = some (.own e t l)) (h0:(Nat.blt f d.fs.length && Nat.blt (j + offs d.fs f) t.sz) = true) (h:K (.eptr r' p i (j + offs d.fs f)) = some r):Shows X n st γ o K r := by
 obtain ⟨x1,x2,_,x4⟩ := rdD_spec (n := n) hY hw hγ hx
 simp only [Bool.and_eq_true,Nat.blt_eq] at h0
 obtain ⟨f1,f2⟩ := fld_spec (hY.td hd) (List.getElem?_eq_getElem h0.1)
 refine ⟨.eptr r' p i (j + offs d.fs f),fun hc=>?_,rfl,trivial,h⟩
 have := good_fieldAddr ho (x2 hc) f1 f2 (by rw [x1]; simp only [DA.toA,fieldOk,rootD_spec hr,DT.toT]; exact h0.2)
 rw [x1] at this
 exact this
theorem fieldAddr_pref_sound (hY:DXOk Y X) (hw:WF st) (hγ:gOk st γ) {s e:TypeId} {x:Operand} {f r' off:Nat} {p:Option Nat} {d:TD} {cs:List DT} (ho:o.op = .fieldAddr s x f) (hd:look Y.tab s = some d) (hx:rdD Y γ st x = some (.pref r' p off))
  (hr:rootD st r' p = some (.box e cs)) (h0:(Nat.blt f d.fs.length && Nat.ble (off + offs d.fs f) cs.length) = true) (h:K (.pref r' p (off + offs d.fs f)) = some r):Shows X n st γ o K r := by
 obtain ⟨x1,x2,_,x4⟩ := rdD_spec (n := n) hY hw hγ hx
 simp only [Bool.and_eq_true,Nat.blt_eq,Nat.ble_eq] at h0
 obtain ⟨f1,f2⟩ := fld_spec (hY.td hd) (List.getElem?_eq_getElem h0.1)
 refine ⟨.pref r' p (off + offs d.fs f),fun hc=>?_,rfl,trivial,h⟩
 have := good_fieldAddr ho (x2 hc) f1 f2 (by rw [x1]; simp only [DA.toA,fieldOk,rootD_spec hr,DT.toT,all_eq,List.length_map]; exact h0.2)
 rw [x1] at this
 exact this
theorem field_sound (hY:DXOk Y X) (hw:WF st) (hγ:gOk st γ) {s:TypeId} {x:Operand} {f:Nat} {d:TD} {t:Ty} {y:t.I} {y':(rowOf d.fs).I} {z:DT} (ho:o.op = .field s x f) (hd:look Y.tab s = some d) (hx:rdD Y γ st x = some (.t (.s t y)))
  (hc':castT (b := rowOf d.fs) y = some y') (hp:projD d.fs y' f = some z) (h:K (.t z) = some r):Shows X n st γ o K r := by
 obtain ⟨x1,x2⟩ := rdT_spec (n := n) hY hw hγ hx
 obtain ⟨t',v,p1,p2,p3,p4⟩ := projD_spec _ _ _ _ hp
 subst p2
 obtain ⟨c1,c2,c3⟩ := castT_toT hc'
 obtain ⟨f1,f2⟩ := fld_spec (hY.td hd) p1
 refine ⟨.t (.s t' v),fun hc=>?_,rfl,trivial,h⟩
 have hrow:(DT.s t y).toT = .ag ((rowOf d.fs).cells y') := by
  show t.enc y = _
  rw [← c2,enc_row _ _ (rowOf_row _)]
 rw [hrow] at x1
 have := good_field ho (x2 hc) x1 f1 f2 (by rw [cells_len]; exact p4)
 have e:partA ((rowOf d.fs).cells y') (offs d.fs f) t'.row t'.sz = t'.enc v := by
  unfold partA
  cases hq:t'.row with
  | true=>rw [if_pos rfl,enc_row _ _ hq,p3]
  | false =>
   rw [if_neg (by simp)]
   have h1 := (cells_one t' v hq).1
   rw [sz_one t' hq,h1] at p3
   have:(((rowOf d.fs).cells y').drop (offs d.fs f))[0]? = some (t'.enc v) := by
    have := congrArg (fun l=>l[0]?) p3
    simp only [List.getElem?_cons_zero,List.getElem?_take] at this
    simpa using this.symm
   rw [List.getElem?_drop,Nat.add_zero] at this
   rw [List.getD_eq_getElem?_getD,this]; rfl
 rw [e] at this
 exact this
theorem load_cells {ty:TypeId} {x:Operand} {w:Ty} {y:w.I} {suf:List T} (ho:o.op = .load ty x) (hx:rdp X g x) (ec:cellsAt g (rd X g x) = some (w.cells y ++ suf)) (ht:tyRow X.P ty = some (w.row,w.sz)):Good X g o (.t (w.enc y)) := by
 cases hq:w.row with
 | true =>
  rw [hq] at ht
  have h1:(w.cells y ++ suf).take w.sz = w.cells y := by
   rw [List.take_append_of_le_length (by rw [cells_len]; exact Nat.le_refl _),List.take_of_length_le (by rw [cells_len]; exact Nat.le_refl _)]
  have := good_load_row ho hx ec ht (by rw [List.length_append,cells_len]; omega) (by rw [h1]; exact cells_flat w y)
  rw [h1] at this
  rw [enc_row _ _ hq]; exact this
 | false =>
  rw [hq] at ht
  rw [(cells_one w y hq).1] at ec
  exact good_load ho hx ec ht (enc_flat w y)
theorem load_sptr_sound (hY:DXOk Y X) (hw:WF st) (hγ:gOk st γ) {ty:TypeId} {x:Operand} {w t:Ty} {y:t.I} {z:w.I} (ho:o.op = .load ty x) (hT:tyT Y ty = some w) (hf:w.fine = true) (hx:rdD Y γ st x = some (.sptr t y)) (hs:subAt t y 0 w = some z) (h:K (.t (.s w z)) = some r):Shows X n st γ o K r := by
 obtain ⟨x1,x2,_,_⟩ := rdD_spec (n := n) hY hw hγ hx
 obtain ⟨pre,suf,s1,s2⟩ := subAt_spec _ _ _ _ _ hs
 have:pre = [] := List.length_eq_zero_iff.1 s2
 subst this
 refine ⟨.t (.s w z),fun hc=>?_,rfl,trivial,h⟩
 exact load_cells (suf := suf) ho (x2 hc) (by rw [x1]; simp only [DA.toA,cellsAt,s1,List.nil_append]) (tyT_row hY hT hf)
theorem load_eptr_sound (hY:DXOk Y X) (hw:WF st) (hγ:gOk st γ) {ty e:TypeId} {x:Operand} {w t:Ty} {l:List t.I} {r' i j:Nat} {p:Option Nat} {z:w.I} (ho:o.op = .load ty x) (hT:tyT Y ty = some w) (hf:w.fine = true) (hx:rdD Y γ st x = some (.eptr r' p i j)) (hr:rootD st r' p = some (.own e t l))
  (hs:subAt t (l.getD i t.dflt) j w = some z) (h:K (.t (.s w z)) = some r):Shows X n st γ o K r := by
 obtain ⟨x1,x2,_,_⟩ := rdD_spec (n := n) hY hw hγ hx
 obtain ⟨pre,suf,s1,s2⟩ := subAt_spec _ _ _ _ _ hs
 refine ⟨.t (.s w z),fun hc=>?_,rfl,trivial,h⟩
 have hr' := rootD_spec (n := n) hr
 refine Good.eptr (x2 hc) x1 hr' (fun hlt=>?_)
 rw [List.length_map] at hlt
 refine load_cells (suf := suf) ho (x2 hc) ?_ (tyT_row hY hT hf)
 rw [x1]
 simp only [DA.toA,cellsAt,hr',DT.toT]
 rw [getD_map l i hlt,enc_cells,s1,List.append_assoc,← s2,List.drop_left]
end Go.Eng

/- One operation that writes one slot, in typed trees: that it is so (last part). -/
namespace Go.Eng
open Go.RowKit (Below)
set_option linter.unusedVariables false
set_option linter.unusedSimpArgs false
variable {X:Ctx} {Y:DX} {n:Nat} {st:DSt} {E:Env} {γ:Gam} {ρ:Type} {o:Oper} {K:DA → Option ρ} {r:ρ} {g:Nat → A}
theorem load_pref_sound (hY:DXOk Y X) (hw:WF st) (hγ:gOk st γ) {ty e:TypeId} {x:Operand} {w:Ty} {cs:List DT} {r' off:Nat} {p:Option Nat} {a:DA} (ho:o.op = .load ty x) (hT:tyT Y ty = some w) (hf:w.fine = true) (hx:rdD Y γ st x = some (.pref r' p off)) (hr:rootD st r' p = some (.box e cs))
  (hl:loadBox w r' p off cs = some a) (h:K a = some r):Shows X n st γ o K r := by
 obtain ⟨x1,x2,x3,x4⟩ := rdD_spec (n := n) hY hw hγ hx
 have hr' := rootD_spec (n := n) hr
 have hcells:cellsAt (stG n st.toSt) (rd X (stG n st.toSt) x) = some ((cs.map DT.toT).drop off) := by
  rw [x1]; simp only [DA.toA,cellsAt,hr',DT.toT,all_eq]
 unfold loadBox at hl
 split at hl
 ·rename_i hrow
  split at hl
  ·rename_i z hz
   cases hl
   obtain ⟨g1,g2⟩ := gatherD_spec _ _ _ hz
   refine ⟨.t (.s w z),fun hc=>?_,rfl,trivial,h⟩
   have e2:(cs.map DT.toT).drop off = w.cells z ++ ((cs.map DT.toT).drop off).drop w.sz := by
    rw [← List.map_drop,← g1,List.take_append_drop]
   exact load_cells ho (x2 hc) (by rw [hcells,← e2]) (tyT_row hY hT hf)
  ·cases hl
 ·rename_i hrow
  split at hl
  ·rename_i t y
   rename _ = some (DT.s _ _)=>hcs
   split at hl
   ·rename_i z hz
    cases hl
    obtain ⟨c1,c2,c3⟩ := castT_toT hz
    refine ⟨.t (.s w z),fun hc=>?_,rfl,trivial,h⟩
    have hg:(cs.map DT.toT)[off]? = some (w.enc z) := by rw [List.getElem?_map,hcs,c2]; rfl
    have hlt:off < (cs.map DT.toT).length := (List.getElem?_eq_some_iff.1 hg).1
    have e2:(cs.map DT.toT).drop off = w.cells z ++ (cs.map DT.toT).drop (off + 1) := by
     rw [List.drop_eq_getElem_cons hlt,(cells_one w z hrow).1]
     rw [List.getElem?_eq_getElem hlt] at hg
     simp only [Option.some.injEq] at hg
     rw [hg]; rfl
    exact load_cells ho (x2 hc) (by rw [hcells,← e2]) (tyT_row hY hT hf)
   ·cases hl
  ·rename_i e1 t l hcs
   cases hl
   have hrow':tyRow X.P ty = some (false,w.sz) := by rw [tyT_row hY hT hf,hrow]
   refine ⟨.ref r' (some off) 0 l.length .all,fun hc=>?_,rfl,.inr ⟨e1,t,l,?_,rfl,rfl⟩,h⟩
   ·have hg:stG n st.toSt r' = .t (.box e (cs.map DT.toT)) := by
     simp only [root] at hr'
     split at hr'
     ·rename_i t0 hg; rw [hg]; simp only [Option.some.injEq] at hr'; rw [hr']; simp only [DT.toT,all_eq]
     ·cases hr'
    have := good_load_alias ho (x2 hc) x1 hg (c0 := (DT.own e1 t l).toT) (by rw [List.getElem?_map,hcs]; rfl) hrow'
    simp only [DT.toT,partAlias,List.length_map] at this
    exact this
   ·simp only [rootD] at hr ⊢
    split at hr
    ·rename_i x' hx'; cases hr; rw [hx']; exact hcs
    ·cases hr
  ·rename_i e1 cs1 hcs
   cases hl
   have hrow':tyRow X.P ty = some (false,w.sz) := by rw [tyT_row hY hT hf,hrow]
   refine ⟨.pref r' (some off) 0,fun hc=>?_,rfl,trivial,h⟩
   have hg:stG n st.toSt r' = .t (.box e (cs.map DT.toT)) := by
    simp only [root] at hr'
    split at hr'
    ·rename_i t0 hg; rw [hg]; simp only [Option.some.injEq] at hr'; rw [hr']; simp only [DT.toT,all_eq]
    ·cases hr'
   have := good_load_alias ho (x2 hc) x1 hg (c0 := (DT.box e1 cs1).toT) (by rw [List.getElem?_map,hcs]; rfl) hrow'
   exact this
  ·cases hl
theorem load_sarr_sound (hY:DXOk Y X) (hw:WF st) (hγ:gOk st γ) {ty:TypeId} {x:Operand} {w t:Ty} {l:List t.I} (ho:o.op = .load ty x) (hT:tyT Y ty = some w) (hx:rdD Y γ st x = some (.sarr t l)) (h0:(w.fine && decide (w = arrTy t l.length)) = true) (h:K (.t (.s (arrTy t l.length) (arrX t l))) = some r):Shows X n st γ o K r := by
 simp only [Bool.and_eq_true,decide_eq_true_eq] at h0
 obtain ⟨hf,rfl⟩ := h0
 obtain ⟨x1,x2,_,_⟩ := rdD_spec (n := n) hY hw hγ hx
 refine ⟨.t (.s (arrTy t l.length) (arrX t l)),fun hc=>?_,rfl,trivial,h⟩
 exact load_cells (suf := []) ho (x2 hc) (by rw [x1]; simp only [DA.toA,cellsAt,arrX_cells,List.append_nil]) (tyT_row hY hT hf)
theorem drop_map_flat (t:Ty):∀ (l:List t.I) (i:Nat),i < l.length → ((l.flatMap t.cells).drop (i * t.sz)).take t.sz = t.cells (l.getD i t.dflt) ∧ i * t.sz + t.sz ≤ (l.flatMap t.cells).length
 | [],i,h=>by simp at h
 | x :: l,0,h=>by
  rw [List.flatMap_cons,Nat.zero_mul,List.drop_zero,List.take_append_of_le_length (by rw [cells_len]; exact Nat.le_refl _),List.take_of_length_le (by rw [cells_len]; exact Nat.le_refl _),List.length_append,cells_len]
  exact ⟨rfl,by omega⟩
 | x :: l,i + 1,h=>by
  obtain ⟨h1,h2⟩ := drop_map_flat t l i (by simpa using h)
  rw [List.flatMap_cons,Nat.succ_mul,Nat.add_comm (i * t.sz),← List.drop_drop,List.length_append,cells_len]
  have e:(t.cells x ++ l.flatMap t.cells).drop t.sz = l.flatMap t.cells := by
   have := List.drop_left (l₁ := t.cells x) (l₂ := l.flatMap t.cells)
   rwa [cells_len] at this
  rw [e]
  exact ⟨h1,by omega⟩
theorem index_arr_sound (hY:DXOk Y X) (hw:WF st) (hγ:gOk st γ) {ty:TypeId} {x i:Operand} {a1 b1:Ty} {y:(Ty.pair a1 b1).I} {k:IntKind} {a:Int} {m:Nat} {t w:Ty} {l:List t.I} (ho:o.op = .index ty x i) (hx:rdD Y γ st x = some (.t (.s (.pair a1 b1) y))) (hi:rdI Y γ st i = some (k,a)) (ht:arT Y ty = some (m,t)) (hT:tyT Y ty = some w) (hl:arrL (.pair a1 b1) y t = some l)
  (hf:w.fine = true) (hm:l.length = m) (hsz:0 < t.sz) (h:Gd γ (0 ≤ a ∧ a < (l.length:Int)) (K (.t (.s t (l.getD a.toNat t.dflt)))) = some r):Shows X n st γ o K r := by
 obtain ⟨x1,x2⟩ := rdT_spec (n := n) hY hw hγ hx
 obtain ⟨i1,i2,_⟩ := rdI_spec (n := n) hY hw hγ hi
 obtain ⟨h1,h2⟩ := Gd_some h
 obtain ⟨c1,c2⟩ := arrL_cells _ _ _ _ hl
 refine ⟨.t (.s t (l.getD a.toNat t.dflt)),fun hc=>?_,rfl,trivial,h2⟩
 have hr:arrR X.P ty = some (m,t.row,t.sz) := by
  unfold arT tyT at *
  split at ht
  ·rename_i d hd
   rw [hd] at hT
   simp only [Option.some.injEq] at hT
   have h3 := (hY.td hd).arv
   rw [ht,hT,hf] at h3
   rcases h3 with h3 | h3 | h3
   ·cases h3
   ·cases h3
   ·exact h3
  ·cases ht
 subst hm
 have hlt:a.toNat < l.length := by have := (h1 hc).1; have := (h1 hc).2; omega
 obtain ⟨d1,d2⟩ := drop_map_flat t l a.toNat hlt
 have hx1:(DT.s (.pair a1 b1) y).toT = .ag (l.flatMap t.cells) := by
  rw [← c1]; exact enc_row _ _ c2
 have x1':rd X (stG n st.toSt) x = .t (.ag (l.flatMap t.cells)) := by rw [← hx1]; exact x1
 have := good_index_ag ho (x2 hc) (i2 hc) x1' i1 hr hsz (h1 hc).1 (h1 hc).2 d2
 have e:partA (l.flatMap t.cells) (a.toNat * t.sz) t.row t.sz = t.enc (l.getD a.toNat t.dflt) := by
  unfold partA
  cases hrow:t.row with
  | true=>rw [if_pos rfl,d1,enc_row _ _ hrow]
  | false =>
   have h3 := (cells_one t (l.getD a.toNat t.dflt) hrow).1
   rw [h3,sz_one t hrow] at d1
   rw [if_neg Bool.false_ne_true,sz_one t hrow]
   have h4 := congrArg (fun q=>q.getD 0 T.u) d1
   simp only [List.getD_eq_getElem?_getD,List.getElem?_take,List.getElem?_drop] at h4 ⊢
   simpa using h4
 show Good _ _ _ (.t (t.enc (l.getD a.toNat t.dflt)))
 rw [← e]; exact this
theorem fine_get:∀ (fs:List Ty) (i:Nat) (t:Ty),(rowOf fs).fine = true → fs[i]? = some t → t.fine = true
 | [],_,_,_,h=>by simp at h
 | u :: fs,0,t,hf,h=>by simp at h; subst h; simp only [rowOf,Ty.fine,Bool.and_eq_true] at hf; exact hf.1
 | u :: fs,i + 1,t,hf,h=>by
  simp only [rowOf,Ty.fine,Bool.and_eq_true] at hf
  exact fine_get fs i t hf.2 (by simpa using h)
theorem buildGo_spec (hY:DXOk Y X) (hw:WF st) (hγ:gOk st γ) {fs:List Ty} (hf:(rowOf fs).fine = true):∀ (ps:List (Nat × Operand)) (x0 x:(rowOf fs).I),buildGo Y γ st fs ps x0 = some x →
  (cP γ → partsP X (stG n st.toSt) ps) ∧ ∃ ts,partsA X (stG n st.toSt) ps = some ts ∧ ∀ cs0,LLe cs0 ((rowOf fs).cells x0) → ∃ cs,fillT ((places 0 fs)[·]?) cs0 ts = some cs ∧ LLe cs ((rowOf fs).cells x)
 | [],x0,x,h=>by cases h; exact ⟨fun _=>trivial,[],rfl,fun cs0 h=>⟨cs0,rfl,h⟩⟩
 | (i,q) :: ps,x0,x,h=>by
  simp only [buildGo] at h
  split at h
  ·rename_i v hv
   split at h
   ·rename_i x' hx'
    obtain ⟨v1,v2⟩ := rdT_spec (n := n) hY hw hγ hv
    obtain ⟨t,w,s1,s2,s3,s4⟩ := setD_spec _ _ _ _ _ hx'
    obtain ⟨k1,ts,k2,k3⟩ := buildGo_spec hY hw hγ hf ps x' x h
    refine ⟨fun hc=>⟨v2 hc,k1 hc⟩,(i,v.toT) :: ts,?_,fun cs0 hcs0=>?_⟩
    ·simp only [partsA,v1,k2,s2]
     rw [if_pos (enc_solid t w (fine_get fs i t hf s1))]
    ·have hp:(places 0 fs)[i]? = some (offs fs i,t.sz) := by rw [places_get fs 0 i t s1,Nat.zero_add]
     have hlen := hcs0.length
     rw [cells_len] at hlen
     simp only [fillT,hp,s2]
     rw [enc_cells,if_pos ⟨cells_len t w,by omega⟩]
     exact k3 _ (by rw [s3]; exact hcs0.place _ _)
   ·cases h
  ·cases h
theorem buildGo2_spec (hY:DXOk Y X) (hw:WF st) (hγ:gOk st γ) {fs:List Ty}:∀ (ps:List (Nat × Operand)) (x0 x:(rowOf fs).I),(∀ p ∈ ps,∀ t,fs[p.1]? = some t → t.fine = true) → buildGo Y γ st fs ps x0 = some x →
  (cP γ → partsP X (stG n st.toSt) ps) ∧ ∃ ts,partsA X (stG n st.toSt) ps = some ts ∧ ∀ cs0,LLe cs0 ((rowOf fs).cells x0) → ∃ cs,fillT ((places 0 fs)[·]?) cs0 ts = some cs ∧ LLe cs ((rowOf fs).cells x)
 | [],x0,x,_,h=>by cases h; exact ⟨fun _=>trivial,[],rfl,fun cs0 h=>⟨cs0,rfl,h⟩⟩
 | (i,q) :: ps,x0,x,hf,h=>by
  simp only [buildGo] at h
  split at h
  ·rename_i v hv
   split at h
   ·rename_i x' hx'
    obtain ⟨v1,v2⟩ := rdT_spec (n := n) hY hw hγ hv
    obtain ⟨t,w,s1,s2,s3,s4⟩ := setD_spec _ _ _ _ _ hx'
    obtain ⟨k1,ts,k2,k3⟩ := buildGo2_spec hY hw hγ ps x' x (fun p hp=>hf p (List.mem_cons_of_mem _ hp)) h
    refine ⟨fun hc=>⟨v2 hc,k1 hc⟩,(i,v.toT) :: ts,?_,fun cs0 hcs0=>?_⟩
    ·simp only [partsA,v1,k2,s2]
     rw [if_pos (enc_solid t w (hf (i,q) List.mem_cons_self t s1))]
    ·have hp:(places 0 fs)[i]? = some (offs fs i,t.sz) := by rw [places_get fs 0 i t s1,Nat.zero_add]
     have hlen := hcs0.length
     rw [cells_len] at hlen
     simp only [fillT,hp,s2]
     rw [enc_cells,if_pos ⟨cells_len t w,by omega⟩]
     exact k3 _ (by rw [s3]; exact hcs0.place _ _)
   ·cases h
  ·cases h
theorem build_sound (hY:DXOk Y X) (hw:WF st) (hγ:gOk st γ) {ty:TypeId} {ps:Array (Nat × Operand)} {d:TD} {x:(rowOf d.fs).I} (ho:o.op = .build ty ps) (hd:look Y.tab ty = some d) (hne:d.fs ≠ []) (hf:d.ty.fine = true)
  (hb:buildGo Y γ st d.fs ps.toList (rowOf d.fs).dflt = some x) (h:K (.t (.s (rowOf d.fs) x)) = some r):Shows X n st γ o K r := by
 have hk := hY.td hd
 have hty:d.ty = rowOf d.fs := hk.rowT.resolve_left hne
 have hlay := hk.lay.resolve_left hne
 rw [hty] at hf hlay
 obtain ⟨k1,ts,k2,k3⟩ := buildGo_spec (n := n) hY hw hγ hf _ _ _ hb
 obtain ⟨cs,q1,q2⟩ := k3 _ (zcells_le _ hf)
 refine ⟨.t (.s (rowOf d.fs) x),fun hc=>?_,rfl,trivial,h⟩
 have := good_build ho (k1 hc) k2 hlay (zcells_one _ hf) q1
 have hx:(DT.s (rowOf d.fs) x).toT = .ag ((rowOf d.fs).cells x) := enc_row _ _ (rowOf_row _)
 simp only [DA.toA]
 rw [hx]
 exact this.le (TLe.ag q2)
theorem nilI_spec {t:Ty} {y:t.I} (h:nilI t = some y):t.sz = 1 ∧ (t.enc y).cells = [t.enc y] ∧ TLe (.v (.slice none 0 0)) (t.enc y) := by
 unfold nilI at h
 split at h
 ·cases h
  refine ⟨rfl,rfl,fun w F x c h=>?_⟩
  cases h with
  | v _ _ hc=>exact .slnil _ _ _ _ hc
 ·cases h
theorem buildL_spec (hY:DXOk Y X) (hw:WF st) (hγ:gOk st γ) {t:Ty} (hf:t.fine = true):∀ (ps:List (Nat × Operand)) (k:Nat) (l:List t.I),buildL Y γ st t k ps = some l →
  (cP γ → partsP X (stG n st.toSt) ps) ∧ ∃ ts,partsA X (stG n st.toSt) ps = some ts ∧ inOrder k ts = true ∧ LLe ((ts.map (·.2)).flatMap T.cells) ((l.map t.enc).flatMap T.cells) ∧ (∀ p ∈ ts,p.2.cells.length = t.sz) ∧ ts.length = ps.length ∧ l.length = ps.length
 | [],k,l,h=>by unfold buildL at h; cases h; exact ⟨fun _=>trivial,[],rfl,rfl,.nil,(fun p hp=>by cases hp),rfl,rfl⟩
 | (i,q) :: ps,k,l,h=>by
  unfold buildL at h
  split at h
  ·cases ‹_ :: _ = []›
  ·rename_i k' i' rest e1
   cases e1
   split at h
   ·rename_i y ys hb hy hys
    cases h
    have := Nat.eq_of_beq_eq_true hb
    subst this
    obtain ⟨k1,ts,k2,k3,k4,k4',k5,k6⟩ := buildL_spec hY hw hγ hf ps (i + 1) ys hys
    obtain ⟨n1,n2,n3⟩ := nilI_spec hy
    refine ⟨fun hc=>⟨trivial,k1 hc⟩,(i,.v (.slice none 0 0)) :: ts,?_,?_,?_,?_,?_,?_⟩
    ·have v1:rd X (stG n st.toSt) (.const (.slice none 0 0)) = .t (.v (.slice none 0 0)) := rfl
     simp only [partsA,v1,k2]
     rfl
    ·simp only [inOrder,k3,beq_self_eq_true,Bool.and_self]
    ·simp only [List.map_cons,List.flatMap_cons,n2]
     exact .cons n3 k4
    ·intro p hp
     rcases List.mem_cons.1 hp with rfl | hp
     ·rw [n1]; rfl
     ·exact k4' p hp
    ·simp only [List.length_cons,k5]
    ·simp only [List.length_cons,k6]
   ·cases h
  ·rename_i k' i' q' rest hno e1
   cases e1
   split at h
   ·rename_i w x hb hv
    split at h
    ·rename_i y ys hy hys
     cases h
     have := Nat.eq_of_beq_eq_true hb
     subst this
     obtain ⟨v1,v2⟩ := rdT_spec (n := n) hY hw hγ hv
     obtain ⟨c1,c2,c3⟩ := castT_toT hy
     obtain ⟨k1,ts,k2,k3,k4,k4',k5,k6⟩ := buildL_spec hY hw hγ hf ps (i + 1) ys hys
     have e:(DT.s w x).toT = t.enc y := c2.symm
     rw [e] at v1
     refine ⟨fun hc=>⟨v2 hc,k1 hc⟩,(i,t.enc y) :: ts,?_,?_,?_,?_,?_,?_⟩
     ·simp only [partsA,v1,k2]
      rw [if_pos (enc_solid t y hf)]
     ·simp only [inOrder,k3,beq_self_eq_true,Bool.and_self]
     ·simp only [List.map_cons,List.flatMap_cons]
      exact (LLe.refl _).append k4
     ·intro p hp
      rcases List.mem_cons.1 hp with rfl | hp
      ·exact len_list t [y] _ (by simp)
      ·exact k4' p hp
     ·simp only [List.length_cons,k5]
     ·simp only [List.length_cons,k6]
    ·cases h
   ·cases h
theorem buildSlice_sound (hY:DXOk Y X) (hw:WF st) (hγ:gOk st γ) {ty e:TypeId} {m b:Nat} {t:Ty} {ps:Array (Nat × Operand)} {l:List t.I} (ho:o.op = .buildSlice ty m ps) (hs:sliT Y ty = some (e,t,b)) (hb:buildL Y γ st t 0 ps.toList = some l)
  (h0:(Nat.beq ps.toList.length m && Nat.ble (m * t.sz) 16777216) = true) (h:K (.t (ownG γ (.own e t l))) = some r):Shows X n st γ o K r := by
 obtain ⟨s1,s2,s3,s4,_⟩ := sliT_spec hY hs
 simp only [Bool.and_eq_true,Nat.ble_eq] at h0
 have hm := Nat.eq_of_beq_eq_true h0.1
 obtain ⟨k1,ts,k2,k3,k4,k4',k5,k6⟩ := buildL_spec (n := n) hY hw hγ s4 _ _ _ hb
 refine ⟨.t (ownG γ (.own e t l)),fun hc=>ownG_good ?_,rfl,trivial,h⟩
 have hz:(zval t).cells.size = t.sz := by rw [zval_cells t s4]; simp [zcells_len t s4]
 have hone:(zval t).cells.toList.all Value.oneCell' = true := by rw [zval_cells t s4]; exact zcells_one t s4
 have hle:m ≤ m * t.sz := Nat.le_mul_of_pos_right m s3
 have := good_buildSlice ho (k1 hc) k2 s1 (by rw [k5,hm]) k3 s3 hz hone k4' h0.2 (by unfold maxLen; omega)
 refine this.le (LLe.flat k4 (by rw [List.length_map,List.length_map,k5,k6]) (len_list t l))
theorem makeSlice_sound (hY:DXOk Y X) (hw:WF st) (hγ:gOk st γ) {ty e:TypeId} {b:Nat} {t:Ty} {l cp:Operand} {kl kc:IntKind} {a c:Int} (ho:o.op = .makeSlice ty l cp) (hl:rdI Y γ st l = some (kl,a)) (hcp:rdI Y γ st cp = some (kc,c)) (hs:sliT Y ty = some (e,t,b))
  (h:Gd γ (0 ≤ a ∧ a ≤ c ∧ (b:Int) * c ≤ 281474976710656) (K (.t (.own e t (List.replicate a.toNat t.dflt)))) = some r):Shows X n st γ o K r := by
 obtain ⟨s1,s2,s3,s4,_⟩ := sliT_spec hY hs
 obtain ⟨l1,l2,_⟩ := rdI_spec (n := n) hY hw hγ hl
 obtain ⟨c1,c2,_⟩ := rdI_spec (n := n) hY hw hγ hcp
 obtain ⟨h1,h2⟩ := Gd_some h
 refine ⟨.t (.own e t (List.replicate a.toNat t.dflt)),fun hc=>?_,rfl,trivial,h2⟩
 have hz:(zval t).cells.size = t.sz := by rw [zval_cells t s4]; simp [zcells_len t s4]
 have hone:(zval t).cells.toList.all Value.oneCell' = true := by rw [zval_cells t s4]; exact zcells_one t s4
 obtain ⟨q1,q2,q3⟩ := h1 hc
 have hb1:(1:Int) * c ≤ (b:Int) * c := Int.mul_le_mul_of_nonneg_right (by omega) (by omega)
 have := good_makeSlice ho (l2 hc) (c2 hc) l1 c1 s1 hz s3 hone q1 q2 q3 (by omega)
 refine this.le ?_
 simp only [DT.toT]
 rw [List.map_replicate]
 have hcell:LLe (zeroT (zval t)).cells (t.enc t.dflt).cells := by
  rw [zeroT_cells,zval_cells t s4,enc_cells]; exact zcells_le t s4
 refine LLe.flat ?_ (by simp) (fun y hy=>?_)
 ·have:∀ k,LLe ((List.replicate k (zeroT (zval t))).flatMap T.cells) ((List.replicate k (t.enc t.dflt)).flatMap T.cells) := by
   intro k
   induction k with
   | zero=>exact .nil
   | succ k ih=>simp only [List.replicate_succ,List.flatMap_cons]; exact hcell.append ih
  exact this _
 ·rw [(List.mem_replicate.1 hy).2,enc_cells,cells_len]
theorem alloc_sound (hY:DXOk Y X) {ty:TypeId} {d:TD} (ho:o.op = .alloc ty) (hd:look Y.tab ty = some d) (hf:d.ty.fine = true) (h:K (.t (.box ty (splitD d.ty d.ty.dflt))) = some r):Shows X n st γ o K r := by
 have hk := hY.td hd
 have hz:zerOf X.P ty = some (zval d.ty) := by
  rcases hk.zer with e | e
  ·rw [hf] at e; cases e
  ·exact e
 refine ⟨.t (.box ty (splitD d.ty d.ty.dflt)),fun hc=>?_,rfl,trivial,h⟩
 have hone:(zval d.ty).cells.toList.all Value.oneCell' = true := by rw [zval_cells _ hf]; exact zcells_one _ hf
 refine (good_alloc ho hz hone).le ?_
 simp only [DT.toT,all_eq,splitD_spec]
 rw [zval_cells _ hf]
 exact TLe.box (zcells_le _ hf)
theorem box_sound (hY:DXOk Y X) (hw:WF st) (hγ:gOk st γ) {ty:TypeId} {x:Operand} {t:Ty} {y:t.I} (ho:o.op = .box ty x) (hx:rdD Y γ st x = some (.t (.s t y))) (hf:t.fine = true) (h:K (.t (.box ty (splitD t y))) = some r):Shows X n st γ o K r := by
 obtain ⟨x1,x2⟩ := rdT_spec (n := n) hY hw hγ hx
 refine ⟨.t (.box ty (splitD t y)),fun hc=>?_,rfl,trivial,h⟩
 have := good_box ho (x2 hc) x1 (enc_solid t y hf)
 simp only [DT.toT,enc_cells] at this
 simp only [DA.toA,DT.toT,all_eq,splitD_spec]
 exact this
theorem nilC_le (Y:DX):∀ c d:DT,TLe c.toT (nilC Y c d).toT := by
 intro c d
 unfold nilC
 split
 ·split
  ·intro w F x k hr
   cases hr with
   | v _ _ hk=>exact .ownnil _ _ _ hk
  ·exact TLe.rfl
 ·exact TLe.rfl
theorem nilsD_le (Y:DX):∀ cs ds:List DT,LLe (cs.map DT.toT) ((nilsD Y cs ds).map DT.toT)
 | c :: cs,d :: ds=>.cons (nilC_le Y c d) (nilsD_le Y cs ds)
 | [],[]=>.nil
 | c :: cs,[]=>LLe.refl _
 | [],_ :: _=>.nil
theorem boxn_sound (hY:DXOk Y X) (hw:WF st) (hγ:gOk st γ) {ty:TypeId} {x:Operand} {t:Ty} {y:t.I} {ds:List DT} (ho:o.op = .box ty x) (hx:rdD Y γ st x = some (.t (.s t y))) (hf:t.row = true) (h:K (.t (.box ty (nilsD Y (splitD t y) ds))) = some r):Shows X n st γ o K r := by
 obtain ⟨x1,x2⟩ := rdT_spec (n := n) hY hw hγ hx
 refine ⟨.t (.box ty (nilsD Y (splitD t y) ds)),fun hc=>?_,rfl,trivial,h⟩
 have hs:(t.enc y).solid = true := by rw [enc_row t y hf]; rfl
 have := good_box ho (x2 hc) x1 hs
 simp only [DT.toT,enc_cells] at this
 simp only [DA.toA,DT.toT,all_eq]
 refine this.le (TLe.box ?_)
 rw [← splitD_spec]
 exact nilsD_le Y _ _
theorem extract_sound {r' i:Nat} {cs:List DT} {c:DT} (ho:o.op = .extract (.tmp r') i) (hr:st.find r' = some (.t (.tup cs))) (hc:cs[i]? = some c) (hf:flatD c = true) (h:K (.t c) = some r):Shows X n st γ o K r := by
 refine ⟨.t c,fun _=>?_,rfl,trivial,h⟩
 exact good_extract (cs := cs.map DT.toT) ho (by rw [stG_toSt,hr]; simp only [DA.toA,DT.toT,all_eq]) (by rw [List.getElem?_map,hc]; rfl) (by rw [flatD_spec,hf])
theorem len_sound (hY:DXOk Y X) (hw:WF st) (hγ:gOk st γ) {ty:TypeId} {x:Operand} (ho:o.op = .call { callee := .builtin .len,args := ⟨[x]⟩,argTypes := ⟨[ty]⟩ })
  (h:(match rdD Y γ st x with
  | some (.t (.s .str s))=>tst (isTy Y ty .str) (K (.t (.s (.int .i64) (s.length:Int))))
  | some (.t (.s (.sl _ _) l))=>match sliT Y ty with
   | some _=>K (.t (.s (.int .i64) (l.length:Int)))
   | none=>none
  | some (.ref r p off len v)=>match sliT Y ty with
   | some _=>K (.t (.s (.int .i64) (len:Int)))
   | none=>none
  | _=>none) = some r):Shows X n st γ o K r := by
 split at h
 ·rename_i s hx
  obtain ⟨x1,x2⟩ := rdT_spec (n := n) hY hw hγ hx
  obtain ⟨h0,h⟩ := tst_some h
  refine ⟨.t (.s (.int .i64) (s.length:Int)),fun hc=>?_,rfl,trivial,h⟩
  have := good_len ho (x2 hc) (n := s.length) (by rw [x1]; simp only [DT.toT,Ty.enc,Ty.row,mkT,Ty.cells,List.headD_cons,lenA,bl_mkS]) (by rw [x1]; exact isTy_spec hY h0 (by simp [undOf]))
  exact this
 ·rename_i sz t l hx
  obtain ⟨x1,x2⟩ := rdT_spec (n := n) hY hw hγ hx
  split at h
  ·rename_i q hs
   obtain ⟨e,t',b⟩ := q
   refine ⟨.t (.s (.int .i64) (l.length:Int)),fun hc=>?_,rfl,trivial,h⟩
   have := good_len ho (x2 hc) (n := l.length) (by rw [x1]; simp only [DT.toT,enc_sl,lenA,List.length_map]) (by rw [x1]; exact ⟨e,(sliOf_spec (sliT_spec hY hs).1).1⟩)
   exact this
  ·cases h
 ·rename_i r' p off len v hx
  obtain ⟨x1,x2,_,_⟩ := rdD_spec (n := n) hY hw hγ hx
  split at h
  ·rename_i q hs
   obtain ⟨e,t',b⟩ := q
   refine ⟨.t (.s (.int .i64) (len:Int)),fun hc=>?_,rfl,trivial,h⟩
   have := good_len ho (x2 hc) (n := len) (by rw [x1]; rfl) (by rw [x1]; exact ⟨e,(sliOf_spec (sliT_spec hY hs).1).1⟩)
   exact this
  ·cases h
 ·cases h
theorem argD_spec (hY:DXOk Y X) (hw:WF st) (hγ:gOk st γ) {x:Operand} {ty:TypeId} {y:DT} {b:Bool} (h:argD Y γ st x ty = some (y,b)):(cP γ → argP X (stG n st.toSt) x) ∧ argA X (stG n st.toSt) x ty = some (y.toT,b) := by
 unfold argD at h
 split at h
 ·split at h
  ·rename_i e t b' hs
   cases h
   refine ⟨fun _=>trivial,?_⟩
   simp only [argA,(sliT_spec hY hs).1]
   rfl
  ·cases h
 ·rename_i hno
  have key:∀ {g:Nat → A},argA X g x ty = (match rd X g x with
   | .t t=>if t.flat then some (t,false) else none
   | .ref r p off len=>match root g r p with
    | some (.own _ sz es)=>if off + len ≤ es.length then some (.sl sz (cut (es.map T.fz) off (off + len)),true) else none
    | _=>none
   | _=>none) ∧ (rdp X g x → argP X g x) := by
   intro g
   unfold argA argP
   split
   ·exact absurd rfl hno
   ·exact ⟨rfl,fun h=>h⟩
  split at h
  ·rename_i y' hx
   obtain ⟨x1,x2⟩ := rdT_spec (n := n) hY hw hγ hx
   split at h
   ·rename_i hf
    cases h
    refine ⟨fun hc=>key.2 (x2 hc),?_⟩
    rw [key.1,x1]
    simp only
    rw [flatD_spec,hf]; rfl
   ·cases h
  ·rename_i r' p off len v hx
   obtain ⟨x1,x2,_,x4⟩ := rdD_spec (n := n) hY hw hγ hx
   split at h
   ·rename_i e t l hr
    split at h
    ·cases h
    ·rename_i hv
     cases h
     refine ⟨fun hc=>key.2 (x2 hc),?_⟩
     have hvw := viewOk_vw x4 hr
     have hle:off + len ≤ (l.map t.enc).length := by
      rw [List.length_map]
      cases v with
      | all=>obtain ⟨rfl,rfl⟩ := hvw; omega
      | tail=>obtain ⟨h1,rfl⟩ := hvw; omega
      | head=>obtain ⟨rfl,h2⟩ := hvw; omega
      | mid=>exact absurd rfl hv
     rw [key.1,x1]
     simp only [DA.toA,rootD_spec hr,DT.toT]
     rw [if_pos hle,fz_map,map_cut,vwL_spec _ hvw]
     rfl
   ·cases h
  ·cases h
theorem argsD_spec (hY:DXOk Y X) (hw:WF st) (hγ:gOk st γ):∀ {xs:List Operand} {tys:List TypeId} {ts:List DT} {b:Bool},argsD Y γ st xs tys = some (ts,b) → (cP γ → argsP X (stG n st.toSt) xs) ∧ argsA X (stG n st.toSt) xs tys = some (ts.map DT.toT,b)
 | [],_,ts,b,h=>by cases h; exact ⟨fun _=>trivial,rfl⟩
 | x :: xs,[],_,_,h=>by cases h
 | x :: xs,ty :: tys,ts,b,h=>by
  simp only [argsD] at h
  split at h
  ·rename_i t b1 ts' b2 e1 e2
   cases h
   obtain ⟨h1,h2⟩ := argD_spec (n := n) hY hw hγ e1
   obtain ⟨k1,k2⟩ := argsD_spec hY hw hγ e2
   refine ⟨fun hc=>⟨h1 hc,k1 hc⟩,?_⟩
   simp only [argsA,h2,k2,List.map_cons]
  ·cases h
theorem argD_noown {x:Operand} {ty:TypeId} {e:TypeId} {t:Ty} {l:List t.I} {b:Bool} (h:argD Y γ st x ty = some (.tup [.own e t l],b)):False := by
 unfold argD at h
 split at h
 ·split at h <;> cases h
 ·split at h
  ·split at h
   ·rename_i hf; cases h; cases hf
   ·cases h
  ·split at h
   ·split at h <;> cases h
   ·cases h
  ·cases h
theorem argsD_noown {xs:List Operand} {tys:List TypeId} {ts:List DT} {b:Bool} {e:TypeId} {t:Ty} {l:List t.I} (h:argsD Y γ st xs tys = some (ts,b)) (he:ts = [.tup [.own e t l]]):False := by
 subst he
 cases xs with
 | nil=>cases h
 | cons x xs =>
  cases tys with
  | nil=>cases h
  | cons ty tys =>
   simp only [argsD] at h
   split at h
   ·rename_i h1 h2
    cases h
    exact argD_noown h1
   ·cases h
theorem argD_notup {x:Operand} {ty:TypeId} {cs:List DT} {b:Bool} (h:argD Y γ st x ty = some (.tup cs,b)):False := by
 unfold argD at h
 split at h
 ·split at h <;> cases h
 ·split at h
  ·split at h
   ·rename_i hf; cases h; cases hf
   ·cases h
  ·split at h
   ·split at h <;> cases h
   ·cases h
  ·cases h
theorem argsD_notup {xs:List Operand} {tys:List TypeId} {cs ts:List DT} {b:Bool} (h:argsD Y γ st xs tys = some (.tup cs :: ts,b)):False := by
 cases xs with
 | nil=>cases h
 | cons x xs =>
  cases tys with
  | nil=>cases h
  | cons ty tys =>
   simp only [argsD] at h
   split at h
   ·rename_i h1 h2
    cases h
    exact argD_notup h1
   ·cases h
theorem call_sound (hY:DXOk Y X) (hE:EnvOk X E) (hw:WF st) (hγ:gOk st γ) {f:FuncId} {xs:Array Operand} {tys:Array TypeId} {ts:List DT} {b:Bool} {c:CallRes} (ho:o.op = .call { callee := .value (.func f),args := xs,argTypes := tys })
  (ha:argsD Y γ st xs.toList tys.toList = some (ts,b)) (hc:E f ts = some c) (h0:(!b || c.bare) = true)
  (h:callK γ c K = some r):Shows X n st γ o K r := by
 obtain ⟨a1,a2⟩ := argsD_spec (n := n) hY hw hγ ha
 have hE' := hE _ _ _ hc
 unfold CallOk at hE'
 split at hE'
 ·rename_i e0 t0 l0
  exfalso
  exact argsD_noown ha rfl
 ·exact (argsD_notup ha).elim
 ·exact (argsD_notup ha).elim
 ·exact (argsD_notup ha).elim
 obtain ⟨e1,e2⟩ := hE'
 have fin:∀ v,c.val = some v → cP γ → Good X (stG n st.toSt) o (.t (c.wrap v).toT) := by
  intro v hv hcp
  refine good_callee ho (a1 hcp) a2 ?_
  rcases e1 v hv with ⟨q1,q2⟩ | ⟨q0,q1⟩
  ·refine .inl ⟨q1,?_,q2⟩
   cases b with
   | false=>exact .inl rfl
   | true=>exact .inr (e2 (by simpa using h0) v)
  ·refine .inr ⟨?_,q1⟩
   rw [q0] at h0
   cases b with
   | false=>rfl
   | true=>simp at h0
 unfold callK at h
 split at h
 ·rw [Option.bind_eq_some_iff] at h
  obtain ⟨v,hv,h⟩ := h
  exact ⟨.t (c.wrap v),fun hcp=>fin v hv hcp,rfl,trivial,h⟩
 ·rename_i q
  rw [Option.bind_eq_some_iff] at h
  obtain ⟨v,hv,h⟩ := h
  refine ⟨.t (fzD (c.wrap v)),fun hcp=>?_,rfl,trivial,h⟩
  have hq:q = true := hcp
  rw [if_pos hq] at hv
  exact fzD_good (fin v hv hcp)
theorem callv_sound (hY:DXOk Y X) (hE:EnvOk X E) (hw:WF st) (hγ:gOk st γ) {x:Operand} {v:Value} {xs:Array Operand} {tys:Array TypeId} {ts:List DT} {b:Bool} {c:CallRes} (ho:o.op = .call { callee := .value x,args := xs,argTypes := tys })
  (hx:rdD Y γ st x = some (.t (.s .opq v))) (ha:argsD Y γ st xs.toList tys.toList = some (ts,b)) (hc:E 0 (.tup [.u,.s .opq v] :: ts) = some c) (h0:(!b || c.bare) = true)
  (h:callK γ c K = some r):Shows X n st γ o K r := by
 obtain ⟨a1,a2⟩ := argsD_spec (n := n) hY hw hγ ha
 obtain ⟨x1,x2⟩ := rdT_spec (n := n) hY hw hγ hx
 obtain ⟨e1,e2⟩:(∀ r,c.val = some r → ∃ f,v = fnv f ∧ isFn X.P f = true ∧ APure X f (ts.map DT.toT) (c.wrap r).toT) ∧ (c.bare = true → ∀ r,(c.wrap r).toT.noSl = true) := hE _ _ _ hc
 have fin:∀ u,c.val = some u → cP γ → Good X (stG n st.toSt) o (.t (c.wrap u).toT) := by
  intro u hu hcp
  obtain ⟨f,q1,q2,q3⟩ := e1 u hu
  subst q1
  refine good_callv ho (x2 hcp) x1 q2 (a1 hcp) a2 q3 ?_
  cases b with
  | false=>exact .inl rfl
  | true=>exact .inr (e2 (by simpa using h0) u)
 unfold callK at h
 split at h
 ·rw [Option.bind_eq_some_iff] at h
  obtain ⟨u,hu,h⟩ := h
  exact ⟨.t (c.wrap u),fun hcp=>fin u hu hcp,rfl,trivial,h⟩
 ·rename_i q
  rw [Option.bind_eq_some_iff] at h
  obtain ⟨u,hu,h⟩ := h
  refine ⟨.t (fzD (c.wrap u)),fun hcp=>?_,rfl,trivial,h⟩
  have hq:q = true := hcp
  rw [if_pos hq] at hu
  exact fzD_good (fin u hu hcp)
theorem arT_spec (hY:DXOk Y X) {ty:TypeId} {m:Nat} {t:Ty} (h:arT Y ty = some (m,t)):arrOf X.P ty = some (m,t.sz) := by
 unfold arT at h
 split at h
 ·rename_i d hd
  have h1 := (hY.td hd).arr
  rw [h] at h1
  rcases h1 with e | e
  ·cases e
  ·exact e
 ·cases h
theorem flat_cells (t:Ty) (l:List t.I):(l.map t.enc).flatMap T.cells = l.flatMap t.cells := by
 induction l with
 | nil=>rfl
 | cons x l ih=>simp only [List.map_cons,List.flatMap_cons,enc_cells,ih]
theorem slice_arr_sound (hY:DXOk Y X) (hw:WF st) (hγ:gOk st γ) {ty:TypeId} {x:Operand} {t:Ty} {l:List t.I} {m:Nat} (ho:o.op = .slice ty x none none none) (hx:rdD Y γ st x = some (.sarr t l)) (ht:arT Y ty = some (m,t)) (hm:l.length = m) (h:K (.t (.s (.sl t.sz t) l)) = some r):Shows X n st γ o K r := by
 subst hm
 obtain ⟨x1,x2,_,_⟩ := rdD_spec (n := n) hY hw hγ hx
 refine ⟨.t (.s (.sl t.sz t) l),fun hc=>?_,rfl,trivial,h⟩
 exact good_slice_arr (es := l.map t.enc) ho (x2 hc) (by rw [x1,flat_cells]; rfl) (by rw [List.length_map]; exact arT_spec hY ht) (len_list t l)
theorem idx_arr_sound (hY:DXOk Y X) (hw:WF st) (hγ:gOk st γ) {ty:TypeId} {x i:Operand} {t:Ty} {l:List t.I} {m:Nat} {k:IntKind} {a:Int} (ho:o.op = .indexAddr ty x i) (hx:rdD Y γ st x = some (.sarr t l)) (hi:rdI Y γ st i = some (k,a)) (ht:arT Y ty = some (m,t)) (hm:l.length = m)
  (h:Gd γ (0 ≤ a ∧ a < (l.length:Int)) (K (.sptr t (l.getD a.toNat t.dflt))) = some r):Shows X n st γ o K r := by
 subst hm
 obtain ⟨x1,x2,_,_⟩ := rdD_spec (n := n) hY hw hγ hx
 obtain ⟨i1,i2,_⟩ := rdI_spec (n := n) hY hw hγ hi
 obtain ⟨h1,h2⟩ := Gd_some h
 refine ⟨.sptr t (l.getD a.toNat t.dflt),fun hc=>?_,rfl,trivial,h2⟩
 have hlt := h1 hc
 have := good_indexAddr_arr (es := l.map t.enc) ho (x2 hc) (i2 hc) (by rw [x1,flat_cells]; rfl) i1 (by rw [List.length_map]; exact arT_spec hY ht) (len_list t l) hlt.1 (by rw [List.length_map]; exact hlt.2)
 rw [getD_map l a.toNat (by omega),enc_cells] at this
 exact this
theorem bndD_none (hY:DXOk Y X) {x:Option Operand} (h:bndD Y γ st x = some none):x = none := by
 cases x with
 | none=>rfl
 | some x=>simp only [bndD] at h; split at h <;> cases h
theorem locD_sound (hY:DXOk Y X) (hE:EnvOk X E) (hw:WF st) (hγ:gOk st γ) (h:locD Y st γ E o K = some r):Shows X n st γ o K r := by
 unfold locD at h
 split at h
 ·rename_i x ho
  split at h
  ·split at h
   ·rename_i e t b hs; exact nil_sound hY (.inr ho) hs h
   ·cases h
  ·split at h
   ·rename_i a hx; exact move_sound hY hw hγ (.inl ho) hx h
   ·cases h
 ·rename_i x ho
  split at h
  ·split at h
   ·rename_i e t b hs; exact nil_sound hY (.inl ho) hs h
   ·cases h
  ·split at h
   ·rename_i a hx; exact move_sound hY hw hγ (.inr ho) hx h
   ·cases h
 ·rename_i q x y ho
  split at h
  ·rename_i dq c hq
   split at h
   ·rename_i a b ha hb
    split at h
    ·rename_i v hv; exact pick_sound hY hw hγ ho hq ha hb hv h
    ·cases h
   ·cases h
  ·cases h
 ·rename_i op ty x y t' ho
  split at h
  ·rename_i a b ha hb; exact bin_sound hY hw hγ ho ha hb h
  ·cases h
 ·rename_i op ty x ho
  split at h
  ·rename_i b hx
   obtain ⟨x1,x2⟩ := rdT_spec (n := n) hY hw hγ hx
   split at h
   ·exact ⟨.t (.s .bool (!b)),fun hc=>good_un (a := .bool b) ho (x2 hc) x1 trivial,rfl,trivial,h⟩
   ·cases h
  ·rename_i a _ hx
   obtain ⟨x1,x2⟩ := rdT_spec (n := n) hY hw hγ hx
   split at h
   ·rename_i k m ha
    obtain ⟨a1,a2⟩ := asI_spec ha
    rw [a1] at x1
    refine ⟨.t (mkI k (k.wrap (0 - m))),fun hc=>?_,rfl,trivial,h⟩
    rw [DA.toA,mkI_spec _ _ (fun e=>by subst e; exact u8_wrap _)]
    exact good_un ho (x2 hc) x1 trivial
   ·cases h
  ·cases h
 ·rename_i s d x ho; exact conv_sound hY hw hγ ho h
 ·rename_i ty x i ho
  split at h
  ·rename_i s k a hx hi
   obtain ⟨h0,h⟩ := tst_some h
   exact index_sound hY hw hγ ho hx hi h0 h
  ·rename_i a1 b1 y k a hx hi
   split at h
   ·rename_i m t w ht hT
    split at h
    ·rename_i l hl
     obtain ⟨h0,h⟩ := tst_some h
     simp only [Bool.and_eq_true] at h0
     exact index_arr_sound hY hw hγ ho hx hi ht hT hl h0.1 (Nat.eq_of_beq_eq_true h0.2.1) (Nat.blt_eq.mp h0.2.2) h
    ·cases h
   ·cases h
  ·cases h
 ·rename_i ty x lo hi ho
  split at h
  ·rename_i s nlo nhi hx hl hh
   obtain ⟨h0,h⟩ := tst_some h
   exact slice_str_sound hY hw hγ ho hx hl hh h0 h
  ·rename_i sz t l nlo nhi hx hl hh
   split at h
   ·rename_i e t' b hs
    obtain ⟨h0,h⟩ := tst_some h
    simp only [Bool.and_eq_true,decide_eq_true_eq] at h0
    obtain ⟨rfl,h0⟩ := h0
    exact slice_sl_sound hY hw hγ ho hx hl hh hs h0 h
   ·cases h
  ·rename_i r' p off len v nlo nhi hx hl hh
   split at h
   ·rename_i e t' b e' t l hs hr
    obtain ⟨h0,h2⟩ := tst_some h
    simp only [decide_eq_true_eq] at h0
    subst h0
    exact slice_ref_sound hY hw hγ ho hx hl hh hs hr h2
   ·cases h
  ·rename_i t l hx hl hh
   split at h
   ·rename_i m t' ht
    obtain ⟨h0,h2⟩ := tst_some h
    simp only [Bool.and_eq_true,decide_eq_true_eq] at h0
    obtain ⟨rfl,h0⟩ := h0
    obtain rfl := bndD_none hY hl
    obtain rfl := bndD_none hY hh
    exact slice_arr_sound hY hw hγ ho hx ht (Nat.eq_of_beq_eq_true h0) h2
   ·cases h
  ·cases h
 ·rename_i ty x lo hi mx ho
  split at h
  ·rename_i sz t l k1 a k2 b k3 m hx hl hh hm
   split at h
   ·rename_i e t' b' hs
    obtain ⟨h0,h⟩ := tst_some h
    simp only [Bool.and_eq_true,decide_eq_true_eq] at h0
    obtain ⟨rfl,h0⟩ := h0
    exact slice3_sl_sound hY hw hγ ho hx hl hh hm hs h0 h
   ·cases h
  ·cases h
 ·rename_i ty x i ho
  split at h
  ·rename_i t l k a hx hi
   split at h
   ·rename_i m t' ht
    obtain ⟨h0,h2⟩ := tst_some h
    simp only [Bool.and_eq_true,decide_eq_true_eq] at h0
    obtain ⟨rfl,h0⟩ := h0
    exact idx_arr_sound hY hw hγ ho hx hi ht (Nat.eq_of_beq_eq_true h0) h2
   ·cases h
  ·rename_i sz t l k a e t' b hx hi hs
   obtain ⟨h0,h⟩ := tst_some h
   simp only [Bool.and_eq_true,decide_eq_true_eq] at h0
   obtain ⟨rfl,h0⟩ := h0
   exact idx_sl_sound hY hw hγ ho hx hi hs h0 h
  ·rename_i r' p off len v k a e t' b hx hi hs
   split at h
   ·rename_i e' t l hr
    obtain ⟨h0,h2⟩ := tst_some h
    simp only [decide_eq_true_eq] at h0
    subst h0
    exact idx_ref_sound hY hw hγ ho hx hi hs hr h2
   ·cases h
  ·cases h
 ·rename_i s x f ho
  split at h
  ·rename_i d t y hd hx
   split at h
   ·rename_i y' hy'
    split at h
    ·rename_i ft z hp; exact fieldAddr_sptr_sound hY hw hγ ho hd hx hy' hp h
    ·cases h
   ·cases h
  ·rename_i d r' p i j hd hx
   split at h
   ·rename_i e t l hr
    obtain ⟨h0,h⟩ := tst_some h
    exact fieldAddr_eptr_sound hY hw hγ ho hd hx hr h0 h
   ·cases h
  ·rename_i d r' p off hd hx
   split at h
   ·rename_i e cs hr
    obtain ⟨h0,h⟩ := tst_some h
    exact fieldAddr_pref_sound hY hw hγ ho hd hx hr h0 h
   ·cases h
  ·cases h
 ·rename_i x ho
  split at h
  ·rename_i t y hx; exact nilCheck_sound hY hw hγ ho hx trivial h
  ·rename_i r' p i j hx; exact nilCheck_sound hY hw hγ ho hx trivial h
  ·rename_i r' p off hx; exact nilCheck_sound hY hw hγ ho hx trivial h
  ·cases h
 ·rename_i s x f ho
  split at h
  ·rename_i d t y hd hx
   split at h
   ·rename_i y' hy'
    split at h
    ·rename_i z hp; exact field_sound hY hw hγ ho hd hx hy' hp h
    ·cases h
   ·cases h
  ·cases h
 ·rename_i ty x ho
  split at h
  ·rename_i w t y hT hx
   split at h
   ·rename_i z hz
    obtain ⟨h0,h⟩ := tst_some h
    exact load_sptr_sound hY hw hγ ho hT h0 hx hz h
   ·cases h
  ·rename_i w t l hT hx
   obtain ⟨h0,h⟩ := tst_some h
   exact load_sarr_sound hY hw hγ ho hT hx h0 h
  ·rename_i w r' p i j hT hx
   split at h
   ·rename_i e t l hr
    split at h
    ·rename_i z hz
     obtain ⟨h0,h⟩ := tst_some h
     exact load_eptr_sound hY hw hγ ho hT h0 hx hr hz h
    ·cases h
   ·cases h
  ·rename_i w r' p off hT hx
   split at h
   ·rename_i e cs hr
    split at h
    ·rename_i a ha
     obtain ⟨h0,h⟩ := tst_some h
     exact load_pref_sound hY hw hγ ho hT h0 hx hr ha h
    ·cases h
   ·cases h
  ·cases h
 ·rename_i ty ps ho
  split at h
  ·rename_i d hd
   split at h
   ·split at h
    ·rename_i he
     refine ⟨.t (.s .unit ()),fun hc=>?_,rfl,trivial,h⟩
     exact good_build ho trivial rfl ((hY.td hd).emp.resolve_left (by rw [he]; exact fun e=>by cases e)) rfl rfl
    ·cases h
   ·rename_i t fs hfs
    split at h
    ·rename_i x hx
     obtain ⟨h0,h⟩ := tst_some h
     have:∀ (l:List Ty) (hl:d.fs = l) (x:(rowOf l).I),l ≠ [] → buildGo Y γ st l ps.toList (rowOf l).dflt = some x → K (.t (.s (rowOf l) x)) = some r → Shows X n st γ o K r := by
      intro l hl; subst hl; intro x hne hx h
      exact build_sound hY hw hγ ho hd hne h0 hx h
     exact this _ hfs x (by simp) hx h
    ·cases h
  ·cases h
 ·rename_i ty m ps ho
  split at h
  ·rename_i e t b hs
   split at h
   ·rename_i l hl
    obtain ⟨h0,h⟩ := tst_some h
    exact buildSlice_sound hY hw hγ ho hs hl h0 h
   ·cases h
  ·cases h
 ·rename_i ty l cp ho
  split at h
  ·rename_i kl a kc b e t by_ hl hcp hs
   exact makeSlice_sound hY hw hγ ho hl hcp hs h
  ·cases h
 ·rename_i ty ho
  split at h
  ·rename_i d hd
   obtain ⟨h0,h⟩ := tst_some h
   exact alloc_sound hY ho hd h0 h
  ·cases h
 ·rename_i ty x ho
  split at h
  ·rename_i t y hx
   split at h
   ·rename_i h0; exact box_sound hY hw hγ ho hx h0 h
   ·split at h
    ·rename_i d h1 h2; exact boxn_sound hY hw hγ ho hx h1 h
    ·cases h
  ·cases h
 ·rename_i ty x ho
  split at h
  ·rename_i t y d hx hd
   obtain ⟨h0,h⟩ := tst_some h
   simp only [Bool.and_eq_true] at h0
   obtain ⟨⟨h1,h2⟩,h3⟩ := h0
   obtain ⟨x1,x2⟩ := rdT_spec (n := n) (X := X) hY hw hγ hx
   refine ⟨.t (.s .opq (.iface ty (valX t y))),fun hc=>?_,rfl,trivial,h⟩
   refine Good.of_run fun tmps ds w c hG hf=>?_
   have hr := rd_rep (ds := ds) hG hf x (x2 hc)
   rw [x1] at hr
   have hv := valX_of t y h1 h2 hr
   refine ⟨_,?_,.v _ _ (fun _=>rfl)⟩
   unfold execOp; simp only [ho,hv]
   exact run_val (run_mkI ((hY.td hd).mki.resolve_left (by rw [h3]; exact fun e=>by cases e)) _ _)
  ·cases h
 ·rename_i r' i ho
  split at h
  ·rename_i cs hr
   split at h
   ·rename_i c hc
    obtain ⟨h0,h⟩ := tst_some h
    exact extract_sound ho hr hc h0 h
   ·cases h
  ·cases h
 ·rename_i x ty ho; exact len_sound hY hw hγ ho h
 ·rename_i x y ts ho
  split at h
  ·rename_i k a k' b hx hy
   obtain ⟨h0,h9⟩ := tst_some h
   simp only [decide_eq_true_eq] at h0
   subst h0
   obtain ⟨x1,x2,x3⟩ := rdI_spec (n := n) hY hw hγ hx
   obtain ⟨y1,y2,y3⟩ := rdI_spec (n := n) hY hw hγ hy
   refine ⟨.t _,fun hc=>?_,rfl,trivial,h9⟩
   rw [DA.toA,mkI_spec _ _ (fun e=>by have := x3 e; have := y3 e; unfold mxI; split <;> omega)]
   exact good_max ho (x2 hc) (y2 hc) x1 y1
  ·cases h
 ·rename_i x y ts ho
  split at h
  ·rename_i k a k' b hx hy
   obtain ⟨h0,h9⟩ := tst_some h
   simp only [decide_eq_true_eq] at h0
   subst h0
   obtain ⟨x1,x2,x3⟩ := rdI_spec (n := n) hY hw hγ hx
   obtain ⟨y1,y2,y3⟩ := rdI_spec (n := n) hY hw hγ hy
   refine ⟨.t _,fun hc=>?_,rfl,trivial,h9⟩
   rw [DA.toA,mkI_spec _ _ (fun e=>by have := x3 e; have := y3 e; unfold mnI; split <;> omega)]
   exact good_min ho (x2 hc) (y2 hc) x1 y1
  ·cases h
 ·rename_i f xs tys ho
  split at h
  ·rename_i ts b ha
   split at h
   ·rename_i c hc
    obtain ⟨h0,h⟩ := tst_some h
    exact call_sound hY hE hw hγ ho ha hc h0 h
   ·cases h
  ·cases h
 ·rename_i k xs tys ho
  split at h
  ·rename_i v ts b hx ha
   split at h
   ·rename_i c hc
    obtain ⟨h0,h⟩ := tst_some h
    exact callv_sound hY hE hw hγ ho hx ha hc h0 h
   ·cases h
  ·cases h
 ·cases h
end Go.Eng
