/- A part of the proof: D2. -/
import Derived.Test.YtnjcbogckfiamaaDoorD1
import Derived.Test.YtnjcbogckfiamaaDoorE4
namespace Go.Eng
open Go.RowKit (Below)
set_option linter.unusedVariables false
set_option linter.unusedSimpArgs false
section
variable {ρ:Type}
def ownerD (st:DSt) (d:Nat):Bool := match st.find d with
 | some (.t (.own _ _ _))=>true
 | some (.t (.box _ _))=>true
 | some (.t (.own2 _ _ _ _))=>true
 | _=>false
def noRef:DSt → Nat → Bool
 | [],_=>true
 | (_,.opt d' _ _ _) :: r,d=>bif Nat.beq d' d then false else noRef r d
 | _ :: r,d=>noRef r d
def memN:List Nat → Nat → Bool
 | [],_=>false
 | k :: r,i=>bif Nat.beq i k then true else memN r i
def dstD (n:Nat) (Z:List Nat) (st:DSt) (d:Nat):Bool := Nat.blt d n && (!memN Z d && (!ownerD st d && noRef st d))
def redirD (s d:Nat):DA → DA
 | .ref r q off len v=>.ref (bif Nat.beq r s then d else r) q off len v
 | .eptr r q i j=>.eptr (bif Nat.beq r s then d else r) q i j
 | .pref r q off=>.pref (bif Nat.beq r s then d else r) q off
 | .opt g w b a=>.opt g w b (redirD s d a)
 | a=>a
def aliasD (d:Nat):DT → DA
 | .own _ _ l=>.ref d none 0 l.length .all
 | .box _ _=>.pref d none 0
 | .own2 _ _ _ L=>.ref d none 0 L.length .mid
 | _=>.t .u
def moveDS (st:DSt) (s d:Nat) (x:DT):DSt := ((st.mapA (redirD s d)).put s (aliasD d x)).put d (.t x)
def killQ (r:Nat) (p:Option Nat) (r':Nat) (q:Option Nat):Bool := Nat.beq r' r && (match p with
 | none=>true
 | some k=>match q with
  | some j=>Nat.beq j k
  | none=>false)
def killD (r:Nat) (p:Option Nat):DA → DA
 | .ref r' q off len v=>match killQ r p r' q with
  | true=>.t .u
  | false=>.ref r' q off len v
 | .eptr r' q i j=>match killQ r p r' q with
  | true=>.t .u
  | false=>.eptr r' q i j
 | .pref r' q off=>match killQ r p r' q with
  | true=>.t .u
  | false=>.pref r' q off
 | .opt g w b a=>.opt g w b (killD r p a)
 | a=>a
def putDT (t0:DT) (p:Option Nat) (t':DT):DT := match p,t0 with
 | none,_=>t'
 | some k,.box e cs=>.box e (cs.set k t')
 | some _,t=>t
def turnDS (st:DSt) (r:Nat) (p:Option Nat) (t0 t':DT):DSt := (st.mapA (killD r p)).put r (.t (putDT t0 p t'))
def ownboxDS (st:DSt) (r r2:Nat) (B:DT):DSt := ((((st.mapA (killD r none)).put r (.t .u)).mapA (killD r2 none)).put r2 (.t .u)).put r (.t B)
def localD (Y:DX) (n:Nat) (Z:List Nat) (st:DSt) (E:Env) (o:Oper) (K:DSt → Option ρ):Option ρ := match o.dst with
 | some d=>locD Y st none E o fun a=>tst (dstD n Z st d) (K (st.put d a))
 | none=>locD Y st none E o fun _=>K st
def moveD (n:Nat) (Z:List Nat) (st:DSt) (o:Oper) (s:Nat) (x:DT) (K:DSt → Option ρ):Option ρ := match o.dst with
 | some d=>tst (dstD n Z st d && !Nat.beq d s) (K (moveDS st s d x))
 | none=>none
def newsD (Y:DX) (st:DSt) (y:Operand) (t u:TypeId) (ty:Ty) (b:Nat) (k:Nat) (K:List ty.I → Option ρ):Option ρ := match rdD Y none st y with
 | some (.t (.s .str s))=>match castT (a := .sl 1 .u8) (b := .sl 1 ty) s with
  | some (s':List ty.I)=>tst (isTy Y u .str && Nat.beq b 1) (G (k + s.length ≤ 140737488355328) (K s'))
  | none=>none
 | some a=>match elemsD st a with
  | some ⟨t2,l2⟩=>match castT (a := .sl 1 t2) (b := .sl 1 ty) l2 with
   | some (l':List ty.I)=>tst (Nat.beq u t) (G ((k + l2.length) * b ≤ 140737488355328) (K l'))
   | none=>none
  | none=>none
 | none=>none
def opD (Y:DX) (n:Nat) (Z:List Nat) (st:DSt) (E:Env) (o:Oper) (K:DSt → Option ρ):Option ρ := match o.op with
 | .assign (.tmp s)=>match st.find s with
  | some (.t (.own e t l))=>moveD n Z st o s (.own e t l) K
  | some (.t (.box e cs))=>moveD n Z st o s (.box e cs) K
  | some (.t (.tup cs))=>match flatsD cs with
   | true=>localD Y n Z st E o K
   | false=>moveD n Z st o s (.tup cs) K
  | _=>localD Y n Z st E o K
 | .move (.tmp s)=>match st.find s with
  | some (.t (.tup cs))=>match flatsD cs with
   | true=>localD Y n Z st E o K
   | false=>moveD n Z st o s (.tup cs) K
  | _=>localD Y n Z st E o K
 | .extract (.tmp r) i=>match st.find r with
  | some (.t (.tup cs))=>match cs[i]? with
   | some c=>match flatD c with
    | true=>localD Y n Z st E o K
    | false=>match o.dst with
     | some d=>tst (dstD n Z st d && !Nat.beq d r) (K ((st.put r (.t (.tup (cs.set i .u)))).put d (.t c)))
     | none=>none
   | none=>none
  | _=>none
 | .call { callee := .builtin .append,args := ⟨[x,y]⟩,argTypes := ⟨[t,u]⟩ }=>match o.dst,rdD Y none st x with
  | some d,some (.ref r p off k v)=>match st.find r,rootD st r p,sliT Y t with
   | some (.t t0),some (.own e ty l),some (e',ty',b)=>tst (dstD n Z st d && !Nat.beq d r && Nat.beq e' e && decide (ty' = ty))
    (match v with
    | .all=>newsD Y st y t u ty b k fun l2=>K ((turnDS st r p t0 .u).put d (.t (.own e ty (l ++ l2))))
    | .head=>newsD Y st y t u ty b k fun l2=>K ((turnDS st r p t0 .u).put d (.t (.own e ty (l.take k ++ l2))))
    | _=>none)
   | _,_,_=>none
  | _,_=>none
 | .call { callee := .value (.func f),args := ⟨[x]⟩,argTypes := tys }=>match o.dst,rdD Y none st x with
  | some d,some (.ref r p off k .all)=>match st.find r,rootD st r p with
   | some (.t t0),some (.own e t l)=>match E f [.tup [.own e t l]] with
    | some c=>tst (dstD n Z st d && !Nat.beq d r) (c.val.bind fun v=>match c.wrap v with
     | .own e' t' l'=>match Nat.beq e' e,castT (a := .sl 1 t') (b := .sl 1 t) l' with
      | true,some (l2:List t.I)=>K ((turnDS st r p t0 (.own e t l2)).put d (.t (.tup [])))
      | _,_=>none
     | _=>none)
    | none=>match E f [.own e t l] with
     | some c=>tst (dstD n Z st d && !Nat.beq d r && c.bare) (c.val.bind fun v=>K ((turnDS st r p t0 .u).put d (.t (c.wrap v))))
     | none=>localD Y n Z st E o K
   | _,_=>localD Y n Z st E o K
  | _,_=>localD Y n Z st E o K
 | .store t a v=>match o.dst,rdD Y none st a,rdD Y none st v with
  | none,some (.pref r none off),some (.t (.s tv x))=>match st.find r,tyT Y t with
   | some (.t (.box e cs)),some w=>tst (decide (w = tv) && w.fine && Nat.ble (off + w.sz) cs.length && flatsD ((cs.drop off).take w.sz)) (K (st.put r (.t (.box e (placeT cs off (splitD tv x))))))
   | _,_=>none
  | none,some (.pref r none off),some (.ref r2 none 0 k .all)=>match st.find r,st.find r2,tyT Y t with
   | some (.t (.box e cs)),some (.t (.own e2 ty l)),some (.sl sz ty')=>match cs[off]? with
    | some told=>tst (flatD told && !Nat.beq r2 r && (Ty.sl sz ty').fine) (K (ownboxDS st r r2 (.box e (cs.set off (.own e2 ty l)))))
    | none=>none
   | _,_,_=>none
  | none,some (.eptr r none i j),some (.t (.s tv x))=>match st.find r,tyT Y t with
   | some (.t (.own e ty l)),some w=>match putAt ty (l.getD i ty.dflt) j (.s tv x) with
    | some y=>tst (decide (w = tv) && w.fine && Nat.blt 0 w.sz) (K (st.put r (.t (.own e ty (l.set i y)))))
    | none=>none
   | _,_=>none
  | _,_,_=>none
 | _=>localD Y n Z st E o K
def own2T (Y:DX) (t:TypeId):Option (TypeId × TypeId × Ty × Nat) := match sliT Y t with
 | some (e,.sl sz ty,b)=>match sliT Y e with
  | some (e2,ty2,_)=>match decide (ty2 = ty) && decide (sz = ty.sz) with
   | true=>some (e,e2,ty,b)
   | false=>none
  | none=>none
 | _=>none
def is2 (st:DSt):Operand → Bool
 | .tmp k=>match st.find k with
  | some (.t (.own2 _ _ _ _))=>true
  | some (.ref r _ _ _ _)=>match st.find r with
   | some (.t (.own2 _ _ _ _))=>true
   | _=>false
  | some (.eptr r _ _ _)=>match st.find r with
   | some (.t (.own2 _ _ _ _))=>true
   | _=>false
  | _=>false
 | _=>false
def any2 (st:DSt):List Operand → Bool
 | []=>false
 | x :: xs=>match is2 st x with
  | true=>true
  | false=>any2 st xs
def dst2 (o2:List Nat) (o:Oper):Bool := match o.dst with
 | some d=>memN o2 d
 | none=>false
def kind2 (Y:DX) (st:DSt) (o:Oper):Bool := match Y.o2 with
 | []=>false
 | o2=>match o.op with
  | .assign (.const (.slice none 0 0))=>dst2 o2 o && (own2T Y o.type).isSome
  | .assign (.tmp s)=>match st.find s with
   | some (.t (.own2 _ _ _ _))=>true
   | some (.t (.own _ _ _))=>dst2 o2 o
   | some (.ref _ none _ _ _)=>dst2 o2 o && is2 st (.tmp s)
   | some (.ref _ (some _) _ _ .all)=>dst2 o2 o
   | _=>false
  | .store _ a _=>is2 st a
  | .buildSlice _ _ _=>dst2 o2 o
  | .build _ _=>dst2 o2 o
  | .call { callee := .builtin .append,args := ⟨[x,_]⟩,argTypes := _ }=>is2 st x
  | .indexAddr _ x _=>is2 st x
  | .load _ x=>is2 st x
  | .call { callee := .value (.func _),args := xs,argTypes := _ }=>match dst2 o2 o with
   | true=>true
   | false=>any2 st xs.toList
  | .call { callee := .value (.tmp _),args := xs,argTypes := _ }=>any2 st xs.toList
  | _=>false
def castL {a b:Ty} (L:List (Bool × List a.I)):Option (List (Bool × List b.I)) := castT (a := .sl 1 (.pair .bool (.sl 1 a))) (b := .sl 1 (.pair .bool (.sl 1 b))) L
def el2D {α:Type} (L:List (Bool × List α)) (i:Nat):Bool × List α := L.getD i (false,[])
def arg2D (Y:DX) (st:DSt) (x:Operand) (ty:TypeId) (K:DT → Bool → Option ρ):Option ρ := match is2 st x with
 | true=>match rdD Y none st x with
  | some (.ref r p 0 k _)=>match st.find r with
   | some (.t (.own2 _ _ t L))=>match p with
    | none=>G (k = L.length) (K (.s (.sl 1 (.sl t.sz t)) (L.map fun y=>y.2)) true)
    | some i=>G (k = (el2D L i).2.length) (K (.s (.sl t.sz t) (el2D L i).2) true)
   | _=>none
  | _=>none
 | false=>match argD Y none st x ty with
  | some (t,b)=>K t b
  | none=>none
def args2D (Y:DX) (st:DSt):List Operand → List TypeId → (List DT → Bool → Option ρ) → Option ρ
 | [],_,K=>K [] false
 | _ :: _,[],_=>none
 | x :: xs,ty :: tys,K=>arg2D Y st x ty fun t b=>args2D Y st xs tys fun ts b'=>K (t :: ts) (b || b')
def nilFs (is:List Nat):Nat → List Ty → List Ty
 | _,[]=>[]
 | k,t :: fs=>(match t,memN is k with
  | .sl _ _,false=>.opq
  | t,_=>t) :: nilFs is (k + 1) fs
def zeroR:(fs:List Ty) → (rowOf fs).I
 | []=>()
 | .opq :: fs=>((.slice none 0 0:Value),zeroR fs)
 | t :: fs=>(t.dflt,zeroR fs)
def arg2G (Y:DX) (γ:Gam) (st:DSt) (x:Operand) (ty:TypeId) (K:DT → Bool → Option ρ):Option ρ := match argD Y γ st x ty with
 | some (t,b)=>K t b
 | none=>match x,rdD Y γ st x with
  | .tmp _,some (.ref r none 0 k _)=>match st.find r with
   | some (.t (.own2 _ _ t L))=>Gd γ (k = L.length) (K (.s (.sl 1 (.sl t.sz t)) (L.map fun y=>y.2)) true)
   | _=>none
  | .tmp _,some (.ref r (some i) 0 k _)=>match st.find r with
   | some (.t (.own2 _ _ t L))=>Gd γ (k = (el2D L i).2.length) (K (.s (.sl t.sz t) (el2D L i).2) true)
   | _=>none
  | _,_=>none
def args2G (Y:DX) (γ:Gam) (st:DSt):List Operand → List TypeId → (List DT → Bool → Option ρ) → Option ρ
 | [],_,K=>K [] false
 | _ :: _,[],_=>none
 | x :: xs,ty :: tys,K=>arg2G Y γ st x ty fun t b=>args2G Y γ st xs tys fun ts b'=>K (t :: ts) (b || b')
def callv2 (Y:DX) (γ:Gam) (st:DSt) (E:Env) (k:Nat) (xs:List Operand) (tys:List TypeId) (K:DA → Option ρ):Option ρ := match rdD Y γ st (.tmp k) with
 | some (.t (.s .opq v))=>args2G Y γ st xs tys fun ts b=>match E 0 (.tup [.u,.s .opq v] :: ts) with
  | some c=>tst (!b || c.bare) (callK γ c K)
  | none=>none
 | _=>none
def loc2D (Y:DX) (st:DSt) (E:Env) (o:Oper) (K:DA → Option ρ):Option ρ := match o.op with
 | .indexAddr ty x i=>match rdD Y none st x,rdI Y none st i,own2T Y ty with
  | some (.ref r none 0 k _),some (_,a),some _=>match st.find r with
   | some (.t (.own2 _ _ _ _))=>G (0 ≤ a ∧ a < (k:Int)) (K (.eptr r none a.toNat 0))
   | _=>none
  | _,_,_=>none
 | .load ty x=>match rdD Y none st x,tyT Y ty with
  | some (.eptr r none i 0),some (.sl sz t')=>match st.find r with
   | some (.t (.own2 e e2 t L))=>tst (decide (t' = t) && decide (sz = t.sz) && t.fine) (match dst2 Y.o2 o with
    | true=>G ((el2D L i).1 = true) (K (.ref r (some i) 0 (el2D L i).2.length .mid))
    | false=>G ((el2D L i).1 = false) (K (.t (.s (.sl t.sz t) (el2D L i).2))))
   | _=>none
  | _,_=>none
 | .call { callee := .value (.func f),args := xs,argTypes := tys }=>args2D Y st xs.toList tys.toList fun ts b=>match E f ts with
  | some c=>tst (!b || c.bare) (c.val.bind fun v=>K (.t (c.wrap v)))
  | none=>none
 | .call { callee := .value (.tmp k),args := xs,argTypes := tys }=>callv2 Y none st E k xs.toList tys.toList K
 | .build ty ps=>match look Y.tab ty with
  | some d=>match buildGo Y none st (nilFs (ps.toList.map (·.1)) 0 d.fs) ps.toList (zeroR (nilFs (ps.toList.map (·.1)) 0 d.fs)) with
   | some x=>tst (d.ty.fine && !d.fs.isEmpty) (K (.t (.s (rowOf (nilFs (ps.toList.map (·.1)) 0 d.fs)) x)))
   | none=>none
  | none=>none
 | _=>none
def is2G (Y:DX) (γ:Gam) (st:DSt) (x:Operand):Bool := match rdD Y γ st x with
 | some (.ref r none _ _ _) | some (.eptr r none _ _)=>match st.find r with
  | some (.t (.own2 _ _ _ _))=>true
  | _=>false
 | _=>false
def loc2G (Y:DX) (st:DSt) (γ:Gam) (E:Env) (o:Oper) (K:DA → Option ρ):Option ρ := match Y.o2 with
 | []=>locD Y st γ E o K
 | _=>match o.op with
  | .call { callee := .value (.func f),args := xs,argTypes := tys }=>match argsD Y γ st xs.toList tys.toList with
   | some _=>locD Y st γ E o K
   | none=>args2G Y γ st xs.toList tys.toList fun ts b=>match E f ts with
    | some c=>tst (!b || c.bare) (callK γ c K)
    | none=>none
  | .call { callee := .value (.tmp k),args := xs,argTypes := tys }=>match argsD Y γ st xs.toList tys.toList with
   | some _=>locD Y st γ E o K
   | none=>callv2 Y γ st E k xs.toList tys.toList K
  | .indexAddr ty x i=>match is2G Y γ st x with
   | true=>match rdD Y γ st x,rdI Y γ st i,own2T Y ty with
    | some (.ref r none 0 k _),some (_,a),some _=>match st.find r with
     | some (.t (.own2 _ _ _ _))=>Gd γ (0 ≤ a ∧ a < (k:Int)) (K (.eptr r none a.toNat 0))
     | _=>none
    | _,_,_=>none
   | false=>locD Y st γ E o K
  | .load ty x=>match is2G Y γ st x with
   | true=>match rdD Y γ st x,tyT Y ty with
    | some (.eptr r none i 0),some (.sl sz t')=>match st.find r with
     | some (.t (.own2 e e2 t L))=>tst (decide (t' = t) && decide (sz = t.sz) && t.fine) (Gd γ ((el2D L i).1 = true) (K (.ref r (some i) 0 (el2D L i).2.length .mid)))
     | _=>none
    | _,_=>none
   | false=>locD Y st γ E o K
  | _=>locD Y st γ E o K
def plainD:DA → Bool
 | .t x=>flatD x
 | .opt _ _ _ _=>false
 | _=>true
def g1D (Y:DX) (E:Env) (all:List Oper) (st:DSt) (o:Oper) (K:DA → Option ρ):Option ρ := match o.guard with
 | none=>match kind2 Y st o with
  | true=>loc2D Y st E o K
  | false=>locD Y st none E o K
 | some (j,want)=>match all[j]? with
  | some o'=>match o'.dst with
   | some dj=>match gB st dj want with
    | some b=>loc2G Y st (some (dj,want,b)) E o fun a=>tst (plainD a) (K (.opt dj want b a))
    | none=>none
   | none=>none
  | none=>none
def refOf:DA → Nat → Bool
 | .opt d' _ _ _,d=>Nat.beq d' d
 | _,_=>false
def atkD (ds:List Nat):DA → Bool
 | .ref r _ _ _ _=>memN ds r
 | .eptr r _ _ _=>memN ds r
 | .pref r _ _=>memN ds r
 | .opt _ _ _ a=>atkD ds a
 | _=>false
def atDrop (d:Nat):DA → Bool
 | .opt _ _ _ a=>match a with
  | .t _=>false
  | _=>true
 | a=>atkD [d] a
def dropA (d:Nat) (a:DA):DA := match atDrop d a with
 | true=>.t .u
 | false=>a
def dropDS (st:DSt) (d:Nat):DSt := (st.mapA (dropA d)).put d (.t .u)
def prepD (st:DSt) (o:Oper):DSt := match o.dst with
 | some d=>match ownerD st d with
  | true=>dropDS st d
  | false=>st
 | none=>st
def shareDA (r:Nat) (t:Ty) (l:List t.I):DA → DA
 | .ref r' q off len v=>match Nat.beq r' r with
  | true=>match q with
   | none=>.t (.s (.sl t.sz t) (vwL l off len v))
   | some _=>.t .u
  | false=>.ref r' q off len v
 | .eptr r' q i j=>match Nat.beq r' r with
  | true=>.t .u
  | false=>.eptr r' q i j
 | .pref r' q off=>match Nat.beq r' r with
  | true=>.t .u
  | false=>.pref r' q off
 | a=>a
def noOpt:DSt → Bool
 | []=>true
 | (_,.opt _ _ _ _) :: _=>false
 | _ :: r=>noOpt r
def badD (st:DSt):DA → Bool
 | .opt _ _ _ _=>true
 | _=>false
def cleanGo (st0:DSt):DSt → DSt
 | []=>[]
 | (k,a) :: r=>(k,match badD st0 a with
  | true=>.t .u
  | false=>a) :: cleanGo st0 r
def cleanD (st:DSt):DSt := cleanGo st st
def shareDS (st:DSt) (r:Nat):Option DSt := match st.find r with
 | some (.t (.own _ t l))=>some ((st.mapA (shareDA r t l)).put r (.t (.s (.sl t.sz t) l)))
 | _=>none
def sharesD:List Nat → DSt → Option DSt
 | [],st=>some st
 | r :: rs,st=>match noOpt st,shareDS st r with
  | true,some st'=>sharesD rs st'
  | _,_=>none
def rootX (st:DSt):Operand → List Nat
 | .tmp k=>match st.find k with
  | some (.ref r none _ _ _)=>[r]
  | some (.t (.own _ _ _))=>[k]
  | _=>[]
 | _=>[]
def rootsX (st:DSt):List Operand → List Nat
 | []=>[]
 | x :: xs=>match rootX st x with
  | []=>rootsX st xs
  | r :: _=>match memN (rootsX st xs) r with
   | true=>rootsX st xs
   | false=>r :: rootsX st xs
def cellU (Y:DX) (st:DSt) (a:Operand):Bool := match rdD Y none st a with
 | some (.pref r none off)=>match st.find r with
  | some (.t (.box _ cs))=>match cs[off]? with
   | some .u=>true
   | _=>false
  | _=>false
 | _=>false
def shareOf (Y:DX) (E:Env) (st:DSt) (o:Oper):List Nat := match o.op with
 | .buildSlice _ _ ps=>rootsX st (ps.toList.map (·.2))
 | .build _ ps=>rootsX st (ps.toList.map (·.2))
 | .store _ a v=>bif cellU Y st a then [] else rootsX st [v]
 | .call { callee := .value (.func f),args := xs,argTypes := tys }=>match argsD Y none st xs.toList tys.toList with
  | some (ts,true)=>match E f ts with
   | some c=>bif c.bare then [] else rootsX st xs.toList
   | none=>[]
  | _=>[]
 | _=>[]
def preShare (Y:DX) (E:Env) (st:DSt) (o:Oper):DSt := match shareOf Y E st o with
 | []=>st
 | rs=>match sharesD rs (cleanD st) with
  | some st'=>st'
  | none=>st
def shrinkD (n:Nat) (Z:List Nat) (st:DSt) (o:Oper):Option DSt := match o.op,o.dst with
 | .assign (.tmp s),some d=>match st.find s,st.find d with
  | some (.ref r none off k .head),some (.t (.own e t l))=>match Nat.beq r d && (Nat.beq off 0 && (!Nat.beq s d && (Nat.blt d n && (!memN Z d && noRef st d)))) with
   | true=>some ((st.mapA (killD d none)).put d (.t (.own e t (l.take k))))
   | false=>none
  | _,_=>none
 | _,_=>none
def put2 (n:Nat) (Z:List Nat) (st:DSt) (d:Nat) (a:DA) (K:DSt → Option ρ):Option ρ := tst (dstD n Z st d) (K (st.put d a))
def atNone (d:Nat):DSt → Bool
 | []=>true
 | (_,a) :: r=>match atkD [d] a with
  | true=>false
  | false=>atNone d r
def ownR (Y:DX) (st:DSt) (x:Operand):Option (Nat × DT) := match rdD Y none st x with
 | some (.ref r none 0 _ v)=>match st.find r with
  | some (.t (.own e t l))=>match v with
   | .all=>some (r,.own e t l)
   | _=>none
  | some (.t (.own2 e e2 t L))=>some (r,.own2 e e2 t L)
  | _=>none
 | some (.pref r none 0)=>match st.find r with
  | some (.t (.box e cs))=>some (r,.box e cs)
  | _=>none
 | _=>none
def ownW (Y:DX) (st:DSt) (x:Operand) (K:Option ρ):Option ρ := match rdD Y none st x with
 | some (.ref r none 0 k _)=>match st.find r with
  | some (.t (.own2 _ _ _ L))=>G (k = L.length) K
  | _=>K
 | _=>K
def splitOwn (Y:DX) (st:DSt):List Operand → List TypeId → Option ((List Operand × List TypeId) × Operand × (List Operand × List TypeId))
 | [],_=>none
 | x :: xs,tys=>match ownR Y st x with
  | some _=>some (([],[]),x,(xs,tys.tail))
  | none=>match splitOwn Y st xs tys.tail with
   | some ((p,tp),y,q)=>some ((x :: p,tys.headD 0 :: tp),y,q)
   | none=>none
def argsN (Y:DX) (st:DSt):List Operand → List TypeId → Option (List DT)
 | [],_=>some []
 | _ :: _,[]=>none
 | .const (.slice none 0 0) :: xs,ty :: tys=>match sliT Y ty,argsN Y st xs tys with
  | some (e,t,_),some ts=>some (.own e t [] :: ts)
  | _,_=>none
 | x :: xs,ty :: tys=>match argD Y none st x ty,argsN Y st xs tys with
  | some (t,false),some ts=>some (t :: ts)
  | _,_=>none
class Pan (ρ:Type) where
 pan:Value → Option ρ
instance (priority := low) noPan:Pan ρ := ⟨fun _=>none⟩
variable [Pan ρ]
def lendD (Y:DX) (n:Nat) (Z:List Nat) (st:DSt) (E:Env) (d:Nat) (f:FuncId) (xs:List Operand) (tys:List TypeId) (K:DSt → Option ρ):Option ρ := match splitOwn Y st xs tys with
 | some ((p,tp),x,(q,tq))=>match ownR Y st x,argsD Y none st p tp,argsD Y none st q tq with
  | some (r,t0),some (ts,false),some (us,false)=>ownW Y st x <| match E f (.tup [.u] :: (ts ++ t0 :: us)) with
   | some c=>tst (dstD n Z st d && !Nat.beq d r && noRef st r) (c.val.bind fun v=>match c.wrap v with
    | .tup [res,out]=>put2 n Z ((st.mapA (killD r none)).put r (.t out)) d (.t res) K
    | _=>none)
   | none=>match E f (.tup [.u,.u] :: (ts ++ t0 :: us)) with
    | some c=>tst (dstD n Z st d && !Nat.beq d r && noRef st r) (c.val.bind fun v=>match c.wrap v with
     | .tup [.s .bool b,.s .opq pv,res,out]=>if b = true then Pan.pan pv else put2 n Z ((st.mapA (killD r none)).put r (.t out)) d (.t res) K
     | _=>none)
    | none=>none
  | _,_,_=>none
 | none=>match argsN Y st xs tys with
  | some ts=>match E f (.tup [.u] :: ts) with
   | some c=>c.val.bind fun v=>match c.wrap v with
    | .tup [res,.u]=>put2 n Z st d (.t res) K
    | _=>none
   | none=>none
  | none=>none
def conv2D (Y:DX) (n:Nat) (Z:List Nat) (st:DSt) (o:Oper) (s:Nat) (e:TypeId) (t1:Ty) (l:List t1.I) (K:DSt → Option ρ):Option ρ := match own2T Y o.type with
 | some (e',e2,t,_)=>match castT (a := .sl 1 t1) (b := .sl 1 (.sl t.sz t)) l with
  | some (l':List (List t.I))=>tst (Nat.beq e' e && atNone s st && noRef st s) (moveD n Z (st.put s (.t (.own2 e e2 t (l'.map fun y=>(false,y))))) o s (.own2 e e2 t (l'.map fun y=>(false,y))) K)
  | none=>none
 | none=>none
def store2S (st:DSt) (r r2:Nat):DSt := (((st.mapA (killD r none)).put r (.t .u)).mapA (killD r2 none)).put r2 (.t .u)
def store2D (Y:DX) (st:DSt) (ty:TypeId) (a v:Operand) (K:DSt → Option ρ):Option ρ := match rdD Y none st a,rdD Y none st v,tyT Y ty with
 | some (.eptr r none i 0),some (.ref r2 none 0 _ .all),some (.sl sz t3)=>match st.find r,st.find r2 with
  | some (.t (.own2 e e2 t L)),some (.t (.own e' t' l))=>match castT (a := .sl 1 t') (b := .sl 1 t) l with
   | some (l':List t.I)=>tst (!Nat.beq r2 r && Nat.beq e' e2 && decide (t3 = t) && t.fine && noRef st r && noRef ((st.mapA (killD r none)).put r (.t .u)) r2 && noRef (store2S st r r2) r) (G ((el2D L i).1 = false) (K ((store2S st r r2).put r (.t (.own2 e e2 t (L.set i (true,l')))))))
   | none=>none
  | _,_=>none
 | _,_,_=>none
def op2D (Y:DX) (n:Nat) (Z:List Nat) (st:DSt) (E:Env) (o:Oper) (K:DSt → Option ρ):Option ρ := match o.dst with
 | none=>match o.op with
  | .store ty a v=>store2D Y st ty a v K
  | _=>none
 | some d=>match o.op with
  | .assign (.const (.slice none 0 0))=>match own2T Y o.type with
   | some (e,e2,t,_)=>put2 n Z st d (.t (.own2 e e2 t [])) K
   | none=>none
  | .assign (.tmp s)=>match st.find s with
   | some (.t (.own2 e e2 t L))=>moveD n Z st o s (.own2 e e2 t L) K
   | some (.t (.own e t1 l))=>conv2D Y n Z st o s e t1 l K
   | some (.ref r none 0 k _)=>match st.find r with
    | some (.t (.own2 e e2 t L))=>tst (dstD n Z st d && !Nat.beq d r) (G (k = L.length) (tst (dstD n Z (st.put d (.ref r none 0 L.length .mid)) d) (K (moveDS (st.put d (.ref r none 0 L.length .mid)) r d (.own2 e e2 t L)))))
    | _=>none
   | some (.ref r (some i) off _ .all)=>match st.find r,rootD st r (some i) with
    | some (.t t0),some (.own e t l)=>tst (dstD n Z st d && !Nat.beq d r && t.bare) (K ((turnDS st r (some i) t0 .u).put d (.t (.own e t l))))
    | _,_=>none
   | _=>none
  | .buildSlice ty m ps=>match own2T Y ty,ps with
   | some (e,e2,t,_),⟨[]⟩=>tst (Nat.beq m 0) (put2 n Z st d (.t (.own2 e e2 t [])) K)
   | some (e,e2,t,_),⟨[(0,x)]⟩=>match rdD Y none st x with
    | some (.ref r none 0 _ .all)=>match st.find r with
     | some (.t (.own e' t' l))=>match castT (a := .sl 1 t') (b := .sl 1 t) l with
      | some (l':List t.I)=>tst (dstD n Z st d && !Nat.beq d r && Nat.beq m 1 && Nat.beq e' e2 && noRef st r) (put2 n Z ((st.mapA (killD r none)).put r (.t .u)) d (.t (.own2 e e2 t [(true,l')])) K)
      | none=>none
     | _=>none
    | _=>none
   | _,_=>none
  | .call { callee := .builtin .append,args := ⟨[x,y]⟩,argTypes := ⟨[ty,u]⟩ }=>match rdD Y none st x,rdD Y none st y with
   | some (.ref r none 0 k _),some (.ref r2 none 0 k2 _)=>match st.find r,st.find r2,own2T Y ty with
    | some (.t (.own2 e e2 t L)),some (.t (.own2 e' e2' t' L2)),some (e'',_,t'',b)=>match castL (b := t) L2 with
     | some L2'=>tst (dstD n Z st d && !Nat.beq d r && !Nat.beq d r2 && !Nat.beq r2 r && Nat.beq e'' e && Nat.beq e2' e2 && Nat.beq u ty && atNone d st && noRef st r && noRef ((st.mapA (killD r none)).put r (.t .u)) r2)
      (G (k = L.length) (G (k2 = L2.length) (G ((L.length + L2.length) * b ≤ 140737488355328) (put2 n Z ((((st.mapA (killD r none)).put r (.t .u)).mapA (killD r2 none)).put r2 (.t .u)) d (.t (.own2 e e2 t (L ++ L2'))) K))))
     | none=>none
    | _,_,_=>none
   | _,_=>none
  | .call { callee := .value (.func f),args := xs,argTypes := tys }=>match dst2 Y.o2 o with
   | true=>lendD Y n Z st E d f xs.toList tys.toList K
   | false=>match xs with
   | ⟨[x]⟩=>match rdD Y none st x with
    | some (.ref r (some i) 0 k _)=>match st.find r with
     | some (.t (.own2 e e2 t L))=>match E f [.tup [.own e2 t (el2D L i).2]] with
      | some c=>tst (dstD n Z st d && !Nat.beq d r && noRef st r && noOpt st) (G (k = (el2D L i).2.length) (c.val.bind fun v=>match c.wrap v with
       | .own e' t' l'=>match Nat.beq e' e2,castT (a := .sl 1 t') (b := .sl 1 t) l' with
        | true,some (l2:List t.I)=>put2 n Z ((st.mapA (killD r none)).put r (.t (.own2 e e2 t (L.set i (true,l2))))) d (.t (.tup [])) K
        | _,_=>none
       | _=>none))
      | none=>loc2D Y st E o fun a=>put2 n Z st d a K
     | _=>none
    | _=>loc2D Y st E o fun a=>put2 n Z st d a K
   | _=>loc2D Y st E o fun a=>put2 n Z st d a K
  | _=>loc2D Y st E o fun a=>put2 n Z st d a K
def openDA (dj:Nat) (want:Bool):DA → DA
 | .opt d w b a=>bif Nat.beq d dj && (w == want) then a else .opt d w b a
 | a=>a
def openD (dj:Nat) (want:Bool) (st:DSt):DSt := st.mapA (openDA dj want)
def gop0D (Y:DX) (n:Nat) (Z:List Nat) (E:Env) (all:List Oper) (st:DSt) (o:Oper) (K:DSt → Option ρ):Option ρ := match o.guard with
 | none=>match shrinkD n Z st o with
  | some st'=>K st'
  | none=>match kind2 Y st o with
   | true=>op2D Y n Z (prepD (cleanD st) o) E o K
   | false=>opD Y n Z (prepD (preShare Y E st o) o) E o K
 | some (j,want)=>match o.dst with
  | some d=>match dst2 Y.o2 o with
   | true=>match all[j]? with
    | some o'=>match o'.dst with
     | some dj=>match gB st dj want with
      | some b=>if b = true then op2D Y n Z (prepD (cleanD (openD dj want st)) o) E o K else tst (dstD n Z st d && !Nat.beq dj d) (K (st.put d (.opt dj want b (.t (.s .bool false)))))
      | none=>none
     | none=>none
    | none=>none
   | false=>g1D Y E all st o fun a=>tst (dstD n Z st d && !refOf a d) (K (st.put d a))
  | none=>none
def panO (o:Oper):Option Operand := match o.guard,o.op with
 | none,.panic x=>some x
 | _,_=>none
def gopD (Y:DX) (n:Nat) (Z:List Nat) (E:Env) (all:List Oper) (st:DSt) (o:Oper) (K:DSt → Option ρ):Option ρ := match panO o with
 | some x=>match rdD Y none st x with
  | some (.t (.s .opq (.iface t v)))=>Pan.pan (.iface t v)
  | _=>none
 | none=>gop0D Y n Z E all st o K
def regD (Y:DX) (n:Nat) (Z:List Nat) (E:Env) (all:List Oper):List Oper → DSt → (DSt → Option ρ) → Option ρ
 | [],st,K=>K st
 | o :: rest,st,K=>gopD Y n Z E all st o fun st'=>regD Y n Z E all rest st' K
def hideDS (ds:List Nat):DSt → DSt
 | []=>[]
 | (k,a) :: r=>(k,bif memN ds k || atkD ds a then .t .u else a) :: hideDS ds r
def drawD (Y:DX) (n:Nat) (Z:List Nat) (E:Env) (all:List Oper):List (List Nat) → List Oper → DSt → (DSt → Option ρ) → Option ρ
 | _,[],st,K=>K st
 | [],_ :: _,_,_=>none
 | ds :: dss,o :: rest,st,K=>match o.dst with
  | some d=>g1D Y E all (hideDS ds st) o fun a=>tst (dstD n Z st d && !refOf a d) (drawD Y n Z E all dss rest (st.put d a) K)
  | none=>none
def exTmp (o:Oper):Option Nat := match o.guard,o.op with
 | none,.extract (.tmp r) _=>some r
 | _,_=>none
def sameEx (o p:Oper):Bool := match exTmp o,exTmp p with
 | some r,some r'=>Nat.beq r r'
 | _,_=>false
def blocksOf:List Oper → List (List Oper)
 | []=>[]
 | o :: rest=>match blocksOf rest with
  | (p :: b) :: bs=>match sameEx o p with
   | true=>(o :: p :: b) :: bs
   | false=>[o] :: (p :: b) :: bs
  | bs=>[o] :: bs
def runLo (ops:List Oper):Nat → Nat
 | 0=>0
 | k + 1=>match ops[k]?,ops[k + 1]? with
  | some o,some p=>match sameEx o p with
   | true=>runLo ops k
   | false=>k + 1
  | _,_=>k + 1
def fullAt (ops:List Oper) (tab:List (List Nat)) (k:Nat):Bool := (List.range (runLo ops k)).all fun j=>(tab.getD k []).contains j
def cutL (ops:List Oper) (tab:List (List Nat)):Nat → Nat
 | 0=>0
 | k + 1=>match fullAt ops tab k with
  | true=>cutL ops tab k
  | false=>k + 1
def headLen (ops:List Oper):Nat := cutL ops (ancTab ops []) ops.length
def exD (r:Nat) (st:DSt) (o:Oper):DSt := match st.find r with
 | some (.t (.tup cs))=>match cs[xi o]? with
  | some c=>(st.put r (.t (.tup (cs.set (xi o) .u)))).put (xd o) (.t c)
  | none=>st
 | _=>st
def exsOk (n:Nat) (Z:List Nat) (r m:Nat) (st:DSt) (es:List Oper):Bool :=
 decide (es.map xi).Nodup && (decide (es.map xd).Nodup && es.all fun o=>(match exTmp o with
  | some r'=>Nat.beq r' r
  | none=>false) && (o.dst.isSome && (dstD n Z st (xd o) && (!Nat.beq (xd o) r && Nat.blt (xi o) m))))
def exsD (n:Nat) (Z:List Nat) (st:DSt) (es:List Oper) (K:DSt → Option ρ):Option ρ := match es with
 | []=>none
 | o :: _=>match exTmp o with
  | some r=>match st.find r with
   | some (.t (.tup cs))=>tst (exsOk n Z r cs.length st es) (K (es.foldl (exD r) st))
   | _=>none
  | none=>none
def blkD (Y:DX) (n:Nat) (Z:List Nat) (E:Env) (all:List Oper):List (List Oper) → DSt → (DSt → Option ρ) → Option ρ
 | [],st,K=>K st
 | [] :: bs,st,K=>blkD Y n Z E all bs st K
 | [o] :: bs,st,K=>gopD Y n Z E all st o fun st'=>blkD Y n Z E all bs st' K
 | (o :: p :: es) :: bs,st,K=>exsD n Z st (o :: p :: es) fun st'=>blkD Y n Z E all bs st' K
def hideT (loc:List Oper) (tab:List (List Nat)):List (List Nat) :=
 (List.range loc.length).map fun k=>(List.range loc.length).filterMap fun j=>if j == k || (tab.getD k []).contains j || (tab.getD j []).contains k then none else (loc[j]?).bind (·.dst)
def regionD (Y:DX) (n:Nat) (Z:List Nat) (E:Env) (ops:Array Oper) (op:Bool) (st:DSt) (K:DSt → Option ρ):Option ρ := match op with
 | false=>regD Y n Z E ops.toList ops.toList st K
 | true =>
  tst (drawOkB (ops.toList.take (headLen ops.toList)) (blocksOf (ops.toList.drop (headLen ops.toList))) (ancTab ops.toList []) (hideT (ops.toList.take (headLen ops.toList)) (ancTab ops.toList [])) && (st.find n).isNone)
   (drawD Y n Z E ops.toList (hideT (ops.toList.take (headLen ops.toList)) (ancTab ops.toList [])) (ops.toList.take (headLen ops.toList)) st fun s=>blkD Y n Z E ops.toList (blocksOf (ops.toList.drop (headLen ops.toList))) s K)
end
variable {X:Ctx} {Y:DX} {n:Nat} {Z:List Nat} {st:DSt} {E:Env} {ρ:Type} {r:ρ}
theorem memN_spec {l:List Nat} {i:Nat}:memN l i = true ↔ i ∈ l := by
 induction l with
 | nil=>simp [memN]
 | cons k l ih =>
  simp only [memN,List.mem_cons]
  by_cases h:i = k
  ·subst h; simp
  ·rw [beq_ne h]; simp [h,ih]
theorem noRef_spec:∀ {st:DSt} {d:Nat},noRef st d = true → ∀ {k d':Nat} {w b:Bool} {a:DA},st.find k = some (.opt d' w b a) → d' ≠ d
 | [],_,_,_,_,_,_,_,h=>by cases h
 | (i,x) :: r,d,hn,k,d',w,b,a,h=>by
  simp only [DSt.find] at h
  by_cases hk:k = i
  ·subst hk
   rw [Nat.beq_refl] at h
   simp only [cond_true,Option.some.injEq] at h
   subst h
   simp only [noRef] at hn
   intro e; subst e
   rw [Nat.beq_refl] at hn; cases hn
  ·rw [beq_ne hk] at h
   refine noRef_spec (st := r) ?_ h
   cases x with
   | opt d2 _ _ _ =>
    simp only [noRef] at hn
    cases hb:Nat.beq d2 d with
    | true=>rw [hb] at hn; cases hn
    | false=>rw [hb] at hn; exact hn
   | _=>exact hn
theorem dstD_spec {d:Nat} (h:dstD n Z st d = true):dstOk n Z st.toSt d ∧ ownerD st d = false ∧ noRef st d = true := by
 simp only [dstD,Bool.and_eq_true,Nat.blt_eq,Bool.not_eq_true'] at h
 obtain ⟨h1,h2,h3,h4⟩ := h
 refine ⟨⟨h1,fun hm=>(by rw [memN_spec.2 hm] at h2; cases h2),?_⟩,h3,h4⟩
 rw [stG_toSt]
 unfold ownerD at h3
 cases hf:st.find d with
 | none=>simp only; split <;> rfl
 | some a =>
  rw [hf] at h3
  cases a with
  | t x =>
   cases x with
   | own | box | own2=>cases h3
   | s t y =>
    simp only [DA.toA,DT.toT]
    have := enc_flat t y
    revert this
    cases t.enc y <;> intro hh <;> first | rfl | cases hh
   | _=>rfl
  | _=>rfl
theorem rootD_owner {r':Nat} {p:Option Nat} {e:TypeId} {t:Ty} {l:List t.I} (h:rootD st r' p = some (.own e t l)):ownerD st r' = true := by
 unfold ownerD
 cases p with
 | none =>
  simp only [rootD] at h
  split at h
  ·rename_i x hx; cases h; rw [hx]
  ·cases h
 | some k =>
  simp only [rootD] at h
  split at h
  ·rename_i e cs hx; rw [hx]
  ·cases h
theorem rootD_put {d:Nat} {a:DA} (ho:ownerD st d = false) {r':Nat} {p:Option Nat} {e:TypeId} {t:Ty} {l:List t.I} (h:rootD st r' p = some (.own e t l)):rootD (st.put d a) r' p = some (.own e t l) := by
 have hne:r' ≠ d := by rintro rfl; rw [rootD_owner h] at ho; cases ho
 cases p <;> simp only [rootD,find_dput,if_neg hne] at h ⊢ <;> exact h
theorem viewOk_mono {st st':DSt} {a:DA} (h:viewOk st a) (hr:∀ {r':Nat} {p:Option Nat} {e:TypeId} {t:Ty} {l:List t.I},rootD st r' p = some (.own e t l) → rootD st' r' p = some (.own e t l)):viewOk st' a := by
 cases a with
 | ref r' p off len v =>
  rcases h with h | ⟨e,t,l,h1,h2⟩
  ·exact .inl h
  ·exact .inr ⟨e,t,l,hr h1,h2⟩
 | _=>trivial
theorem gB_put {d d':Nat} {w:Bool} {a:DA} (h:d' ≠ d):gB (st.put d a) d' w = gB st d' w := by
 unfold gB; rw [find_dput,if_neg h]
theorem WF.put (hw:WF st) {d:Nat} {a:DA} (ho:ownerD st d = false) (hn:noRef st d = true) (ha:slotWF st a) (hd:refOf a d = false):WF (st.put d a) := by
 intro k x hx
 rw [find_dput] at hx
 have key:∀ x,slotWF st x → refOf x d = false → slotWF (st.put d a) x := by
  intro x hx hr
  cases x with
  | opt d' w b a' =>
   have hne:d' ≠ d := by intro e; subst e; simp only [refOf,Nat.beq_refl] at hr; cases hr
   exact ⟨fun b' hb=>hx.1 b' (by rw [← gB_put (st := st) (a := a) hne]; exact hb),hx.2.1,viewOk_mono hx.2.2 (rootD_put ho)⟩
  | ref r' p off len v=>exact viewOk_mono (show viewOk st (.ref r' p off len v) from hx) (rootD_put ho)
  | _=>trivial
 by_cases hk:k = d
 ·rw [if_pos hk] at hx; cases hx; exact key _ ha hd
 ·rw [if_neg hk] at hx
  refine key x (hw k x hx) ?_
  cases x with
  | opt d' w b a'=>exact beq_ne (noRef_spec hn hx)
  | _=>rfl
theorem refOf_of {a:DA} (h:a.isOpt = false) (d:Nat):refOf a d = false := by cases a <;> first | rfl | cases h
theorem slotWF_of {a:DA} (h:a.isOpt = false) (hv:viewOk st a):slotWF st a := by cases a <;> first | exact hv | cases h
theorem toA_ne_ghost (a:DA):a.toA ≠ .ghost := by cases a <;> intro h <;> cases h
theorem localD_sound (hY:DXOk Y X) (hE:EnvOk X E) (hw:WF st) {o:Oper} {K:DSt → Option ρ} (h:localD Y n Z st E o K = some r) :
  ∃ st',Step X n Z (stG n st.toSt) o (stG n st'.toSt) ∧ WF st' ∧ K st' = some r := by
 unfold localD at h
 split at h
 ·rename_i d hd
  obtain ⟨a,h1,h2,h3,h4⟩ := locD_sound (n := n) hY hE hw (γ := none) trivial h
  obtain ⟨h5,h6⟩ := tst_some h4
  obtain ⟨k1,k2,k3⟩ := dstD_spec h5
  refine ⟨_,?_,hw.put k2 k3 (slotWF_of h2 h3) (refOf_of h2 d),h6⟩
  rw [put_toSt,stG_put]
  exact (h1 trivial).step (toA_ne_ghost a) hd ⟨k1.1,k1.2.1⟩ k1.2.2
 ·rename_i hd
  obtain ⟨a,h1,h2,h3,h4⟩ := locD_sound (n := n) hY hE hw (γ := none) trivial h
  exact ⟨st,(h1 trivial).step0 hd,hw,h4⟩
theorem redirD_toA (s d:Nat) (a:DA):(redirD s d a).toA = redir s d a.toA := by
 have hb:∀ r:Nat,(bif Nat.beq r s then d else r) = if r = s then d else r := fun r=>by
  by_cases h:r = s
  ·subst h; simp
  ·rw [beq_ne h,if_neg h]; rfl
 induction a with
 | ref r q off len v=>simp only [redirD,DA.toA,redir,hb]
 | eptr r q i j=>simp only [redirD,DA.toA,redir,hb]
 | pref r q off=>simp only [redirD,DA.toA,redir,hb]
 | opt g w b a ih=>simp only [redirD,DA.toA,redir,ih]
 | _=>rfl
theorem aliasD_toA (d:Nat) (x:DT):(aliasD d x).toA = aliasT d x.toT := by
 cases x with
 | own e t l=>simp [aliasD,DA.toA,DT.toT,aliasT]
 | own2 e e2 t L=>simp [aliasD,DA.toA,DT.toT,aliasT]
 | s t y =>
  simp only [aliasD,DA.toA,DT.toT]
  have := enc_flat t y
  revert this
  cases t.enc y <;> intro hh <;> first | rfl | cases hh
 | _=>rfl
theorem moveDS_toSt (s d:Nat) (x:DT):(moveDS st s d x).toSt = moveSt st.toSt s d x.toT := by
 unfold moveDS moveSt
 rw [put_toSt,put_toSt,mapA_toSt _ _ (redirD_toA s d),aliasD_toA]; rfl
theorem moveD_sound (hw:WF st) {o:Oper} {s:Nat} {x:DT} {K:DSt → Option ρ} (ho:o.op = .assign (.tmp s) ∨ o.op = .move (.tmp s)) (hx:st.find s = some (.t x)) (h:moveD n Z st o s x K = some r) :
  ∃ st',Step X n Z (stG n st.toSt) o (stG n st'.toSt) ∧ WF st' ∧ K st' = some r := by
 unfold moveD at h
 split at h
 ·rename_i d hd
  obtain ⟨h1,h2⟩ := tst_some h
  simp only [Bool.and_eq_true,Bool.not_eq_true'] at h1
  have hds:d ≠ s := by rintro rfl; rw [Nat.beq_refl] at h1; cases h1.2
  obtain ⟨k1,k2,k3⟩ := dstD_spec h1.1
  refine ⟨_,?_,?_,h2⟩
  ·rw [moveDS_toSt,stG_moveSt]
   exact step_move ho hd ⟨k1.1,k1.2.1⟩ hds k1.2.2 (by rw [stG_toSt,hx]; rfl)
  ·have hfind:∀ k,(moveDS st s d x).find k = if k = d then some (.t x) else if k = s then some (aliasD d x) else (st.find k).map (redirD s d) := fun k=>by
    unfold moveDS; rw [find_dput,find_dput,find_dmap]
   have hroot:∀ {r':Nat} {p:Option Nat} {e:TypeId} {t:Ty} {l:List t.I},rootD st r' p = some (.own e t l) → rootD (moveDS st s d x) (bif Nat.beq r' s then d else r') p = some (.own e t l) := by
    intro r' p e t l hr
    have hnd:r' ≠ d := by rintro rfl; rw [rootD_owner hr] at k2; cases k2
    by_cases hs:r' = s
    ·subst hs
     rw [Nat.beq_refl]
     cases p <;> simp only [rootD,cond_true,hfind,if_pos,hx] at hr ⊢ <;> exact hr
    ·rw [beq_ne hs]
     cases p with
     | none =>
      simp only [rootD,cond_false,hfind,if_neg hnd,if_neg hs] at hr ⊢
      split at hr
      ·rename_i y hy; rw [hy]; exact hr
      ·cases hr
     | some k =>
      simp only [rootD,cond_false,hfind,if_neg hnd,if_neg hs] at hr ⊢
      split at hr
      ·rename_i e2 cs hy; rw [hy]; exact hr
      ·cases hr
   have hview:∀ a,viewOk st a → viewOk (moveDS st s d x) (redirD s d a) := by
    intro a ha
    cases a with
    | ref r' p off len v =>
     rcases ha with ha | ⟨e,t,l,q1,q2⟩
     ·exact .inl ha
     ·exact .inr ⟨e,t,l,hroot q1,q2⟩
    | _=>trivial
   intro k y hy
   rw [hfind] at hy
   by_cases hkd:k = d
   ·rw [if_pos hkd] at hy; cases hy; trivial
   ·rw [if_neg hkd] at hy
    by_cases hks:k = s
    ·rw [if_pos hks] at hy
     cases hy
     cases x with
     | own e t l=>exact .inr ⟨e,t,l,by simp only [rootD,hfind,if_pos],rfl,rfl⟩
     | own2=>exact .inl rfl
     | _=>trivial
    ·rw [if_neg hks] at hy
     cases hq:st.find k with
     | none=>rw [hq] at hy; cases hy
     | some a =>
      rw [hq] at hy
      simp only [Option.map_some,Option.some.injEq] at hy
      subst hy
      have hwf := hw k a hq
      cases a with
      | opt d' w b a' =>
       have hd':d' ≠ d := noRef_spec k3 hq
       refine ⟨fun b' hb'=>hwf.1 b' ?_,?_,hview a' hwf.2.2⟩
       ·unfold gB at hb' ⊢
        rw [hfind,if_neg hd'] at hb'
        by_cases hds':d' = s
        ·subst hds'
         rw [if_pos rfl] at hb'
         cases x with
         | own=>cases hb'
         | box=>cases hb'
         | _=>cases hb'
        ·rw [if_neg hds'] at hb'
         cases hq2:st.find d' with
         | none=>rw [hq2] at hb'; cases hb'
         | some a2 =>
          rw [hq2] at hb'
          cases a2 with
          | t y=>exact hb'
          | opt g2 w2 b2 a2 =>
           cases a2 with
           | t y=>exact hb'
           | _=>cases hb'
          | _=>cases hb'
       ·have := hwf.2.1
        cases a' <;> first | rfl | cases this
      | ref r' p off len v=>exact hview _ (show viewOk st (.ref r' p off len v) from hwf)
      | _=>trivial
 ·cases h
end Go.Eng

/- Operations, guards, regions, in typed trees: that it is so. -/
namespace Go.Eng
open Go.RowKit (Below)
set_option linter.unusedVariables false
set_option linter.unusedSimpArgs false
variable {X:Ctx} {Y:DX} {n:Nat} {Z:List Nat} {st:DSt} {E:Env} {ρ:Type} {r:ρ}
theorem noRef_putt:∀ (s:DSt) (d k:Nat) (y:DT),noRef s d = true → noRef (s.put k (.t y)) d = true := by
 intro s d k y
 induction s with
 | nil=>intro _; rfl
 | cons p s ih =>
  obtain ⟨i,x⟩ := p
  intro hn
  simp only [DSt.put]
  have htl:noRef s d = true := by
   cases x with
   | opt d2 w b a =>
    simp only [noRef] at hn
    cases hb:Nat.beq d2 d with
    | true=>rw [hb] at hn; cases hn
    | false=>rw [hb] at hn; exact hn
   | _=>exact hn
  cases hb:Nat.beq k i with
  | true=>simp only [cond_true]; exact htl
  | false =>
   simp only [cond_false]
   cases x with
   | opt d2 w b a =>
    simp only [noRef] at hn ⊢
    cases hb2:Nat.beq d2 d with
    | true=>rw [hb2] at hn; cases hn
    | false=>simp only [cond_false]; exact ih htl
   | _=>exact ih htl
theorem extract_own_sound (hw:WF st) {o:Oper} {r' i d:Nat} {cs:List DT} {c:DT} {K:DSt → Option ρ} (ho:o.op = .extract (.tmp r') i) (hd:o.dst = some d) (hr:st.find r' = some (.t (.tup cs))) (hc:cs[i]? = some c)
  (h0:(dstD n Z st d && !Nat.beq d r') = true) (h:K ((st.put r' (.t (.tup (cs.set i .u)))).put d (.t c)) = some r):∃ st',Step X n Z (stG n st.toSt) o (stG n st'.toSt) ∧ WF st' ∧ K st' = some r := by
 simp only [Bool.and_eq_true,Bool.not_eq_true'] at h0
 have hds:d ≠ r' := by rintro rfl; rw [Nat.beq_refl] at h0; cases h0.2
 obtain ⟨k1,k2,k3⟩ := dstD_spec h0.1
 refine ⟨_,?_,?_,h⟩
 ·rw [put_toSt,put_toSt,stG_put,stG_put]
  have := step_extract (X := X) (cs := cs.map DT.toT) ho hd ⟨k1.1,k1.2.1⟩ hds k1.2.2 (by rw [stG_toSt,hr]; simp only [DA.toA,DT.toT,all_eq]) (t := c.toT) (by rw [List.getElem?_map,hc]; rfl)
  have e:(cs.map DT.toT).set i .u = (cs.set i .u).map DT.toT := by rw [List.map_set]; rfl
  rw [e] at this
  simp only [DA.toA,DT.toT,all_eq] at this ⊢
  exact this
 ·have hnr:noRef st r' = true ∨ True := .inr trivial
  have hw1:WF (st.put r' (.t (.tup (cs.set i .u)))) := by
   intro k x hx
   rw [find_dput] at hx
   have hor:ownerD st r' = false := by unfold ownerD; rw [hr]
   by_cases hk:k = r'
   ·rw [if_pos hk] at hx; cases hx; trivial
   ·rw [if_neg hk] at hx
    have hwf := hw k x hx
    cases x with
    | opt d' w b a' =>
     refine ⟨fun b' hb'=>hwf.1 b' ?_,hwf.2.1,viewOk_mono hwf.2.2 (rootD_put hor)⟩
     by_cases hne:d' = r'
     ·subst hne
      unfold gB at hb'
      rw [find_dput,if_pos rfl] at hb'; cases hb'
     ·rw [← hb',gB_put hne]
    | ref r2 p off len v=>exact viewOk_mono (show viewOk st (.ref r2 p off len v) from hwf) (rootD_put hor)
    | _=>trivial
  refine hw1.put ?_ ?_ trivial rfl
  ·unfold ownerD; rw [find_dput,if_neg hds]; exact k2
  ·exact noRef_putt _ _ _ _ k3
theorem killQ_spec {r:Nat} {p:Option Nat} {r':Nat} {q:Option Nat}:killQ r p r' q = true ↔ r' = r ∧ (p = none ∨ q = p) := by
 unfold killQ
 by_cases h:r' = r
 ·subst h
  cases p with
  | none=>simp
  | some k =>
   cases q with
   | none=>simp
   | some j =>
    by_cases hj:j = k
    ·subst hj; simp
    ·simp only [Nat.beq_refl,Bool.true_and,true_and,reduceCtorEq,false_or,Option.some.injEq,hj,iff_false]; rw [beq_ne hj]; simp
 ·simp [beq_ne h,h]
theorem killD_toA (r:Nat) (p:Option Nat) (a:DA):(killD r p a).toA = killA r p a.toA := by
 induction a with
 | ref r' q off len v =>
  simp only [killD,DA.toA,killA]
  cases hk:killQ r p r' q with
  | true=>rw [if_pos (killQ_spec.1 hk)]; rfl
  | false=>rw [if_neg (fun e=>by rw [killQ_spec.2 e] at hk; cases hk)]; rfl
 | eptr r' q i j =>
  simp only [killD,DA.toA,killA]
  cases hk:killQ r p r' q with
  | true=>rw [if_pos (killQ_spec.1 hk)]; rfl
  | false=>rw [if_neg (fun e=>by rw [killQ_spec.2 e] at hk; cases hk)]; rfl
 | pref r' q off =>
  simp only [killD,DA.toA,killA]
  cases hk:killQ r p r' q with
  | true=>rw [if_pos (killQ_spec.1 hk)]; rfl
  | false=>rw [if_neg (fun e=>by rw [killQ_spec.2 e] at hk; cases hk)]; rfl
 | opt g w b a ih=>simp only [killD,DA.toA,killA,ih]
 | _=>rfl
theorem killD_isOpt (r:Nat) (p:Option Nat) (a:DA):(killD r p a).isOpt = a.isOpt := by
 cases a with
 | ref r' q off len v=>simp only [killD]; cases killQ r p r' q <;> rfl
 | eptr r' q i j=>simp only [killD]; cases killQ r p r' q <;> rfl
 | pref r' q off=>simp only [killD]; cases killQ r p r' q <;> rfl
 | _=>rfl
theorem putDT_toT {t0:DT} {p:Option Nat} {e:TypeId} {ty:Ty} {l:List ty.I} {r':Nat} (ht:st.find r' = some (.t t0)) (hr:rootD st r' p = some (.own e ty l)) (t':DT):(putDT t0 p t').toT = putT t0.toT p t'.toT := by
 cases p with
 | none=>rfl
 | some k =>
  simp only [rootD,ht] at hr
  split at hr
  ·rename_i e2 cs hx
   cases hx
   simp only [putDT,DT.toT,all_eq,putT,List.map_set]
  ·cases hr
theorem turnDS_toSt {t0:DT} {p:Option Nat} {e:TypeId} {ty:Ty} {l:List ty.I} {r':Nat} (ht:st.find r' = some (.t t0)) (hr:rootD st r' p = some (.own e ty l)) (t':DT):(turnDS st r' p t0 t').toSt = turnSt st.toSt r' p t0.toT t'.toT := by
 unfold turnDS turnSt
 rw [put_toSt,mapA_toSt _ _ (killD_toA r' p)]
 simp only [DA.toA,putDT_toT ht hr]
theorem newsD_spec (hY:DXOk Y X) (hw:WF st) {y:Operand} {t u e:TypeId} {ty:Ty} {b k:Nat} {K:List ty.I → Option ρ} (hs:sliT Y t = some (e,ty,b)) (h:newsD Y st y t u ty b k K = some r) :
  ∃ l2,K l2 = some r ∧ rdp X (stG n st.toSt) y ∧ ((∃ s:List UInt8,rd X (stG n st.toSt) y = .t (.v (.string (mkS s))) ∧ ty = .u8 ∧ l2.map ty.enc = s.map encB ∧ b = 1 ∧ X.P.underlying u = some .string ∧ k + s.length ≤ 140737488355328) ∨
   (elemsA (stG n st.toSt) (rd X (stG n st.toSt) y) = some (l2.map ty.enc) ∧ sizA (stG n st.toSt) ty.sz (rd X (stG n st.toSt) y) ∧ u = t ∧ (k + l2.length) * b ≤ 140737488355328)) := by
 unfold newsD at h
 split at h
 ·rename_i s hy
  obtain ⟨y1,y2⟩ := rdT_spec (n := n) (X := X) hY hw (γ := none) trivial hy
  split at h
  ·rename_i s' hs'
   obtain ⟨h0,h⟩ := tst_some h
   obtain ⟨h1,h2⟩ := G_some h
   simp only [Bool.and_eq_true] at h0
   obtain ⟨e1,e2⟩ := castT_some hs'
   injection e1 with e0 e1
   subst e1
   subst e2
   exact ⟨s,h2,y2 trivial,.inl ⟨s,y1,rfl,rfl,Nat.eq_of_beq_eq_true h0.2,isTy_spec hY h0.1 (by simp [undOf]),h1⟩⟩
  ·cases h
 ·rename_i a _ hy
  obtain ⟨y1,y2,y3,y4⟩ := rdD_spec (n := n) (X := X) hY hw (γ := none) trivial hy
  split at h
  ·rename_i t2 l2 he
   split at h
   ·rename_i l' hl'
    obtain ⟨h0,h⟩ := tst_some h
    obtain ⟨h1,h2⟩ := G_some h
    obtain ⟨e1,e2⟩ := castT_some hl'
    injection e1 with e0 e1
    subst e1
    subst e2
    obtain ⟨q1,q2⟩ := elemsD_spec (n := n) y4 he
    exact ⟨l2,h2,y2 trivial,.inr ⟨by rw [y1]; exact q1,by rw [y1]; exact q2,Nat.eq_of_beq_eq_true h0,h1⟩⟩
   ·cases h
  ·cases h
 ·cases h
theorem append_wf (hw:WF st) {r' d:Nat} {p:Option Nat} {t0:DT} {e:TypeId} {ty:Ty} {l:List ty.I} {x:DT} (ht:st.find r' = some (.t t0)) (hr:rootD st r' p = some (.own e ty l)) (hdr:d ≠ r') (ho:ownerD st d = false) (hn:noRef st d = true) :
  WF ((turnDS st r' p t0 .u).put d (.t x)) := by
 have hfind:∀ k,((turnDS st r' p t0 .u).put d (.t x)).find k = if k = d then some (.t x) else if k = r' then some (.t (putDT t0 p .u)) else (st.find k).map (killD r' p) := fun k=>by
  unfold turnDS; rw [find_dput,find_dput,find_dmap]
 have hroot:∀ {r2:Nat} {q:Option Nat} {e2:TypeId} {t2:Ty} {l2:List t2.I},killQ r' p r2 q = false → rootD st r2 q = some (.own e2 t2 l2) → rootD ((turnDS st r' p t0 .u).put d (.t x)) r2 q = some (.own e2 t2 l2) := by
  intro r2 q e2 t2 l2 hk h2
  have hnd:r2 ≠ d := by rintro rfl; rw [rootD_owner h2] at ho; cases ho
  by_cases h:r2 = r'
  ·subst h
   cases p with
   | none=>rw [killQ_spec.2 ⟨rfl,.inl rfl⟩] at hk; cases hk
   | some k =>
    simp only [rootD,ht] at hr
    split at hr
    ·rename_i e3 cs hx
     cases hx
     cases q with
     | none=>simp only [rootD,ht] at h2; cases h2
     | some j =>
      simp only [rootD,ht] at h2
      have hjk:j ≠ k := by rintro rfl; rw [killQ_spec.2 ⟨rfl,.inr rfl⟩] at hk; cases hk
      simp only [rootD,hfind,if_neg hnd,if_pos,putDT]
      rw [List.getElem?_set_ne (fun e=>hjk e.symm)]; exact h2
    ·cases hr
  ·cases q with
   | none =>
    simp only [rootD,hfind,if_neg hnd,if_neg h] at h2 ⊢
    split at h2
    ·rename_i y hy; rw [hy]; exact h2
    ·cases h2
   | some j =>
    simp only [rootD,hfind,if_neg hnd,if_neg h] at h2 ⊢
    split at h2
    ·rename_i e3 cs hy; rw [hy]; exact h2
    ·cases h2
 have hview:∀ a,viewOk st a → viewOk ((turnDS st r' p t0 .u).put d (.t x)) (killD r' p a) := by
  intro a ha
  cases a with
  | ref r2 q off len v =>
   simp only [killD]
   cases hk:killQ r' p r2 q with
   | true=>trivial
   | false =>
    rcases ha with ha | ⟨e2,t2,l2,q1,q2⟩
    ·exact .inl ha
    ·exact .inr ⟨e2,t2,l2,hroot hk q1,q2⟩
  | eptr r2 q i j=>simp only [killD]; cases killQ r' p r2 q <;> trivial
  | pref r2 q off=>simp only [killD]; cases killQ r' p r2 q <;> trivial
  | _=>trivial
 intro k y hy
 rw [hfind] at hy
 by_cases hkd:k = d
 ·rw [if_pos hkd] at hy; cases hy; trivial
 ·rw [if_neg hkd] at hy
  by_cases hkr:k = r'
  ·rw [if_pos hkr] at hy; cases hy; trivial
  ·rw [if_neg hkr] at hy
   cases hq:st.find k with
   | none=>rw [hq] at hy; cases hy
   | some a =>
    rw [hq] at hy
    simp only [Option.map_some,Option.some.injEq] at hy
    subst hy
    have hwf := hw k a hq
    cases a with
    | opt d' w b a' =>
     have hd':d' ≠ d := noRef_spec hn hq
     refine ⟨fun b' hb'=>hwf.1 b' ?_,?_,hview a' hwf.2.2⟩
     ·unfold gB at hb' ⊢
      rw [hfind,if_neg hd'] at hb'
      by_cases hds':d' = r'
      ·subst hds'
       rw [if_pos rfl] at hb'
       cases p with
       | none=>cases hb'
       | some j =>
        simp only [rootD,ht] at hr
        split at hr
        ·rename_i e3 cs hx; cases hx; cases hb'
        ·cases hr
      ·rw [if_neg hds'] at hb'
       cases hq2:st.find d' with
       | none=>rw [hq2] at hb'; cases hb'
       | some a2 =>
        rw [hq2] at hb'
        cases a2 with
        | t y=>exact hb'
        | opt g2 w2 b2 a2 =>
         cases a2 with
         | t y=>exact hb'
         | ref r2 q off len v=>simp only [Option.map_some,killD] at hb'; cases hk:killQ r' p r2 q <;> rw [hk] at hb' <;> cases hb'
         | eptr r2 q i j=>simp only [Option.map_some,killD] at hb'; cases hk:killQ r' p r2 q <;> rw [hk] at hb' <;> cases hb'
         | pref r2 q off=>simp only [Option.map_some,killD] at hb'; cases hk:killQ r' p r2 q <;> rw [hk] at hb' <;> cases hb'
         | _=>cases hb'
        | ref r2 q off len v=>simp only [Option.map_some,killD] at hb'; cases hk:killQ r' p r2 q <;> rw [hk] at hb' <;> cases hb'
        | eptr r2 q i j=>simp only [Option.map_some,killD] at hb'; cases hk:killQ r' p r2 q <;> rw [hk] at hb' <;> cases hb'
        | pref r2 q off=>simp only [Option.map_some,killD] at hb'; cases hk:killQ r' p r2 q <;> rw [hk] at hb' <;> cases hb'
        | _=>cases hb'
     ·rw [killD_isOpt]; exact hwf.2.1
    | ref r2 q off len v=>exact slotWF_of (by rw [killD_isOpt]; rfl) (hview _ (show viewOk st (.ref r2 q off len v) from hwf))
    | eptr r2 q i j=>exact slotWF_of (by rw [killD_isOpt]; rfl) (hview _ (show viewOk st (.eptr r2 q i j) from trivial))
    | pref r2 q off=>exact slotWF_of (by rw [killD_isOpt]; rfl) (hview _ (show viewOk st (.pref r2 q off) from trivial))
    | _=>trivial
theorem spend_wf (hw:WF st) {r' d:Nat} {p:Option Nat} {t0:DT} {e:TypeId} {ty:Ty} {l:List ty.I} {x:DT} {l':List ty.I} (ht:st.find r' = some (.t t0)) (hr:rootD st r' p = some (.own e ty l)) (hdr:d ≠ r') (ho:ownerD st d = false) (hn:noRef st d = true) :
  WF ((turnDS st r' p t0 (.own e ty l')).put d (.t x)) := by
 have hfind:∀ k,((turnDS st r' p t0 (.own e ty l')).put d (.t x)).find k = if k = d then some (.t x) else if k = r' then some (.t (putDT t0 p (.own e ty l'))) else (st.find k).map (killD r' p) := fun k=>by
  unfold turnDS; rw [find_dput,find_dput,find_dmap]
 have hroot:∀ {r2:Nat} {q:Option Nat} {e2:TypeId} {t2:Ty} {l2:List t2.I},killQ r' p r2 q = false → rootD st r2 q = some (.own e2 t2 l2) → rootD ((turnDS st r' p t0 (.own e ty l')).put d (.t x)) r2 q = some (.own e2 t2 l2) := by
  intro r2 q e2 t2 l2 hk h2
  have hnd:r2 ≠ d := by rintro rfl; rw [rootD_owner h2] at ho; cases ho
  by_cases h:r2 = r'
  ·subst h
   cases p with
   | none=>rw [killQ_spec.2 ⟨rfl,.inl rfl⟩] at hk; cases hk
   | some k =>
    simp only [rootD,ht] at hr
    split at hr
    ·rename_i e3 cs hx
     cases hx
     cases q with
     | none=>simp only [rootD,ht] at h2; cases h2
     | some j =>
      simp only [rootD,ht] at h2
      have hjk:j ≠ k := by rintro rfl; rw [killQ_spec.2 ⟨rfl,.inr rfl⟩] at hk; cases hk
      simp only [rootD,hfind,if_neg hnd,if_pos,putDT]
      rw [List.getElem?_set_ne (fun e=>hjk e.symm)]; exact h2
    ·cases hr
  ·cases q with
   | none =>
    simp only [rootD,hfind,if_neg hnd,if_neg h] at h2 ⊢
    split at h2
    ·rename_i y hy; rw [hy]; exact h2
    ·cases h2
   | some j =>
    simp only [rootD,hfind,if_neg hnd,if_neg h] at h2 ⊢
    split at h2
    ·rename_i e3 cs hy; rw [hy]; exact h2
    ·cases h2
 have hview:∀ a,viewOk st a → viewOk ((turnDS st r' p t0 (.own e ty l')).put d (.t x)) (killD r' p a) := by
  intro a ha
  cases a with
  | ref r2 q off len v =>
   simp only [killD]
   cases hk:killQ r' p r2 q with
   | true=>trivial
   | false =>
    rcases ha with ha | ⟨e2,t2,l2,q1,q2⟩
    ·exact .inl ha
    ·exact .inr ⟨e2,t2,l2,hroot hk q1,q2⟩
  | eptr r2 q i j=>simp only [killD]; cases killQ r' p r2 q <;> trivial
  | pref r2 q off=>simp only [killD]; cases killQ r' p r2 q <;> trivial
  | _=>trivial
 intro k y hy
 rw [hfind] at hy
 by_cases hkd:k = d
 ·rw [if_pos hkd] at hy; cases hy; trivial
 ·rw [if_neg hkd] at hy
  by_cases hkr:k = r'
  ·rw [if_pos hkr] at hy; cases hy; trivial
  ·rw [if_neg hkr] at hy
   cases hq:st.find k with
   | none=>rw [hq] at hy; cases hy
   | some a =>
    rw [hq] at hy
    simp only [Option.map_some,Option.some.injEq] at hy
    subst hy
    have hwf := hw k a hq
    cases a with
    | opt d' w b a' =>
     have hd':d' ≠ d := noRef_spec hn hq
     refine ⟨fun b' hb'=>hwf.1 b' ?_,?_,hview a' hwf.2.2⟩
     ·unfold gB at hb' ⊢
      rw [hfind,if_neg hd'] at hb'
      by_cases hds':d' = r'
      ·subst hds'
       rw [if_pos rfl] at hb'
       cases p with
       | none=>cases hb'
       | some j =>
        simp only [rootD,ht] at hr
        split at hr
        ·rename_i e3 cs hx; cases hx; cases hb'
        ·cases hr
      ·rw [if_neg hds'] at hb'
       cases hq2:st.find d' with
       | none=>rw [hq2] at hb'; cases hb'
       | some a2 =>
        rw [hq2] at hb'
        cases a2 with
        | t y=>exact hb'
        | opt g2 w2 b2 a2 =>
         cases a2 with
         | t y=>exact hb'
         | ref r2 q off len v=>simp only [Option.map_some,killD] at hb'; cases hk:killQ r' p r2 q <;> rw [hk] at hb' <;> cases hb'
         | eptr r2 q i j=>simp only [Option.map_some,killD] at hb'; cases hk:killQ r' p r2 q <;> rw [hk] at hb' <;> cases hb'
         | pref r2 q off=>simp only [Option.map_some,killD] at hb'; cases hk:killQ r' p r2 q <;> rw [hk] at hb' <;> cases hb'
         | _=>cases hb'
        | ref r2 q off len v=>simp only [Option.map_some,killD] at hb'; cases hk:killQ r' p r2 q <;> rw [hk] at hb' <;> cases hb'
        | eptr r2 q i j=>simp only [Option.map_some,killD] at hb'; cases hk:killQ r' p r2 q <;> rw [hk] at hb' <;> cases hb'
        | pref r2 q off=>simp only [Option.map_some,killD] at hb'; cases hk:killQ r' p r2 q <;> rw [hk] at hb' <;> cases hb'
        | _=>cases hb'
     ·rw [killD_isOpt]; exact hwf.2.1
    | ref r2 q off len v=>exact slotWF_of (by rw [killD_isOpt]; rfl) (hview _ (show viewOk st (.ref r2 q off len v) from hwf))
    | eptr r2 q i j=>exact slotWF_of (by rw [killD_isOpt]; rfl) (hview _ (show viewOk st (.eptr r2 q i j) from trivial))
    | pref r2 q off=>exact slotWF_of (by rw [killD_isOpt]; rfl) (hview _ (show viewOk st (.pref r2 q off) from trivial))
    | _=>trivial
end Go.Eng

/- Operations, guards, regions, in typed trees: that it is so. -/
namespace Go.Eng
open Go.RowKit (Below)
set_option linter.unusedVariables false
set_option linter.unusedSimpArgs false
variable {X:Ctx} {Y:DX} {n:Nat} {Z:List Nat} {st:DSt} {E:Env} {ρ:Type} {r:ρ}
theorem append_sound (hY:DXOk Y X) (hw:WF st) {o:Oper} {x y:Operand} {t u e:TypeId} {ty:Ty} {b d r' off k:Nat} {p:Option Nat} {v:Vw} {t0:DT} {l:List ty.I} {K:DSt → Option ρ} (ho:o.op = .call { callee := .builtin .append,args := ⟨[x,y]⟩,argTypes := ⟨[t,u]⟩ }) (hd:o.dst = some d)
  (hx:rdD Y none st x = some (.ref r' p off k v)) (ht:st.find r' = some (.t t0)) (hr:rootD st r' p = some (.own e ty l)) (hs:sliT Y t = some (e,ty,b)) (h0:(dstD n Z st d && !Nat.beq d r') = true) {base:List ty.I} (hoff:off = 0) (hbase:l.take k = base)
  (h:newsD Y st y t u ty b k (fun l2=>K ((turnDS st r' p t0 .u).put d (.t (.own e ty (base ++ l2))))) = some r):∃ st',Step X n Z (stG n st.toSt) o (stG n st'.toSt) ∧ WF st' ∧ K st' = some r := by
 subst hoff
 simp only [Bool.and_eq_true,Bool.not_eq_true'] at h0
 have hds:d ≠ r' := by rintro rfl; rw [Nat.beq_refl] at h0; cases h0.2
 obtain ⟨k1,k2,k3⟩ := dstD_spec h0.1
 obtain ⟨x1,x2,x3,x4⟩ := rdD_spec (n := n) (X := X) hY hw (γ := none) trivial hx
 obtain ⟨s1,s2,s3,s4,s5⟩ := sliT_spec hY hs
 obtain ⟨l2,q1,q2,q3⟩ := newsD_spec (n := n) hY hw hs h
 have hg:stG n st.toSt r' = .t t0.toT := by rw [stG_toSt,ht]; rfl
 have hrt := rootD_spec (n := n) hr
 refine ⟨_,?_,append_wf hw ht hr hds k2 k3,q1⟩
 rw [put_toSt,stG_put,turnDS_toSt ht hr,stG_turnSt]
 have hz:(zval ty).cells.size = ty.sz := by rw [zval_cells ty s4]; simp [zcells_len ty s4]
 have htk:(l.map ty.enc).take k = base.map ty.enc := by rw [← List.map_take,hbase]
 rcases q3 with ⟨s,p1,p2,p3,p4,p5,p6⟩ | ⟨p1,p2,p3,p4⟩
 ·subst p2
  subst p4
  have := step_append_str (by_ := 1) (z := .int .u8 0) (es := l.map Ty.u8.enc) ho hd ⟨k1.1,k1.2.1⟩ hds k1.2.2 (x2 trivial) q2 x1 hg hrt p1 s1 p5 (by rw [bl_mkS]; exact p6)
  rw [bl_mkS,htk,← p3,← List.map_append] at this
  exact this
 ·subst p3
  have := step_append (es := l.map ty.enc) (news := l2.map ty.enc) ho hd ⟨k1.1,k1.2.1⟩ hds k1.2.2 (x2 trivial) q2 x1 hg hrt p1 s1 hz s3 (len_list ty l2) p2 (flat_list ty l2)
   (by rw [List.length_map]; have:(k + l2.length) * 1 ≤ (k + l2.length) * b := Nat.mul_le_mul_left _ s2; omega) (by rw [List.length_map]; exact p4)
  rw [htk,← List.map_append] at this
  exact this
end Go.Eng

/- Operations, guards, regions, in typed trees: that it is so. -/
namespace Go.Eng
open Go.RowKit (Below)
set_option linter.unusedVariables false
set_option linter.unusedSimpArgs false
variable {X:Ctx} {Y:DX} {n:Nat} {Z:List Nat} {st:DSt} {E:Env} {ρ:Type} {r:ρ}
theorem placeT_map {α β:Type} (f:α → β) (cs ts:List α) (off:Nat):(placeT cs off ts).map f = placeT (cs.map f) off (ts.map f) := by
 simp [placeT,List.map_take,List.map_drop]
theorem store_wf (hw:WF st) {r':Nat} {t0 t1:DT} (ht:st.find r' = some (.t t0)) (hb:∀ q,t0 ≠ .s .bool q)
  (hroot:∀ {q:Option Nat} {e2:TypeId} {t2:Ty} {l2:List t2.I},rootD st r' q = some (.own e2 t2 l2) → ∃ l3,rootD (st.put r' (.t t1)) r' q = some (.own e2 t2 l3) ∧ l3.length = l2.length) (hb1:∀ q,t1 ≠ .s .bool q):WF (st.put r' (.t t1)) := by
 have hview:∀ a,viewOk st a → viewOk (st.put r' (.t t1)) a := by
  intro a ha
  cases a with
  | ref r2 q off len v =>
   rcases ha with ha | ⟨e2,t2,l2,q1,q2⟩
   ·exact .inl ha
   ·by_cases h:r2 = r'
    ·subst h
     obtain ⟨l3,h3,h4⟩ := hroot q1
     exact .inr ⟨e2,t2,l3,h3,by rw [h4]; exact q2⟩
    ·refine .inr ⟨e2,t2,l2,?_,q2⟩
     cases q <;> simp only [rootD,find_dput,if_neg h] at q1 ⊢ <;> exact q1
  | _=>trivial
 intro k y hy
 rw [find_dput] at hy
 by_cases hk:k = r'
 ·rw [if_pos hk] at hy; cases hy; trivial
 ·rw [if_neg hk] at hy
  have hwf := hw k y hy
  cases y with
  | opt d' w b a' =>
   refine ⟨fun b' hb'=>hwf.1 b' ?_,hwf.2.1,hview a' hwf.2.2⟩
   by_cases h:d' = r'
   ·subst h
    unfold gB at hb'
    rw [find_dput,if_pos rfl] at hb'
    split at hb'
    ·rename_i q hq; cases hq; exact absurd rfl (hb1 q)
    ·rename_i hq; cases hq
    ·cases hb'
   ·rw [gB_put h] at hb'; exact hb'
  | ref r2 q off len v=>exact hview _ (show viewOk st (.ref r2 q off len v) from hwf)
  | _=>trivial
theorem flatsD_get {cs:List DT} (h:flatsD cs = true) {i:Nat} {c:DT} (hc:cs[i]? = some c):flatD c = true := by
 induction cs generalizing i with
 | nil=>simp at hc
 | cons x xs ih =>
  simp only [flatsD] at h
  cases hx:flatD x with
  | false=>rw [hx] at h; cases h
  | true =>
   rw [hx] at h
   cases i with
   | zero=>simp at hc; subst hc; exact hx
   | succ i=>exact ih h (by simpa using hc)
theorem store_box_sound (hY:DXOk Y X) (hw:WF st) {o:Oper} {t e:TypeId} {a v:Operand} {r' off:Nat} {tv w:Ty} {x:tv.I} {cs:List DT} {K:DSt → Option ρ} (ho:o.op = .store t a v) (hd:o.dst = none) (ha:rdD Y none st a = some (.pref r' none off)) (hv:rdD Y none st v = some (.t (.s tv x)))
  (hr:st.find r' = some (.t (.box e cs))) (hT:tyT Y t = some w) (h0:(decide (w = tv) && w.fine && Nat.ble (off + w.sz) cs.length && flatsD ((cs.drop off).take w.sz)) = true) (h:K (st.put r' (.t (.box e (placeT cs off (splitD tv x))))) = some r) :
  ∃ st',Step X n Z (stG n st.toSt) o (stG n st'.toSt) ∧ WF st' ∧ K st' = some r := by
 simp only [Bool.and_eq_true,decide_eq_true_eq,Nat.ble_eq] at h0
 obtain ⟨⟨⟨rfl,h1⟩,h2⟩,h3⟩ := h0
 obtain ⟨a1,a2,_,_⟩ := rdD_spec (n := n) (X := X) hY hw (γ := none) trivial ha
 obtain ⟨v1,v2⟩ := rdT_spec (n := n) (X := X) hY hw (γ := none) trivial hv
 have hlen:(splitD w x).length = w.sz := by
  have := congrArg List.length (splitD_spec w x)
  rwa [List.length_map,cells_len] at this
 refine ⟨_,?_,store_wf hw hr (fun q h=>by cases h) ?_ (fun q h=>by cases h),h⟩
 ·rw [put_toSt,stG_put]
  have hg:stG n st.toSt r' = .t (.box e (cs.map DT.toT)) := by rw [stG_toSt,hr]; simp only [DA.toA,DT.toT,all_eq]
  have := step_store_box (X := X) (n := n) (Z := Z) ho hd (a2 trivial) (v2 trivial) a1 hg v1 (enc_solid w x h1) (tyT_row hY hT h1) (by rw [DT.toT,enc_cells,cells_len]) (by rw [List.length_map]; exact h2) (by rw [← List.map_drop,← List.map_take,flatsD_spec]; exact h3)
  simp only [DA.toA,DT.toT,all_eq,placeT_map,splitD_spec,enc_cells] at this ⊢
  exact this
 ·intro q e2 t2 l2 hq
  cases q with
  | none=>simp only [rootD,hr] at hq; cases hq
  | some k =>
   simp only [rootD,hr] at hq
   refine ⟨l2,?_,rfl⟩
   simp only [rootD,find_dput,if_pos]
   rw [placeT_get _ _ _ _ ?_ (by rw [hlen]; exact h2)]
   ·exact hq
   ·rw [hlen]
    rcases Nat.lt_or_ge k off with h4 | h4
    ·exact .inl h4
    ·rcases Nat.lt_or_ge k (off + w.sz) with h5 | h5
     ·exfalso
      have:((cs.drop off).take w.sz)[k - off]? = some (.own e2 t2 l2) := by
       rw [List.getElem?_take,if_pos (by omega),List.getElem?_drop,show off + (k - off) = k by omega]; exact hq
      have := flatsD_get h3 this
      cases this
     ·exact .inr h5
theorem Step.eptr {g:Nat → A} {o:Oper} {g':Nat → A} {x:Operand} {r' i j:Nat} {p:Option Nat} {e:TypeId} {sz:Nat} {es:List T} (hx:rdp X g x) (ex:rd X g x = .eptr r' p i j) (hr:root g r' p = some (.own e sz es)) (h:i < es.length → Step X n Z g o g'):Step X n Z g o g' := by
 intro D gc v0 w0 tmps ds w hI next Q hn
 obtain ⟨c,hf,_⟩ := hI.frm
 have hrep := rd_rep (ds := ds) hI.glob hf x hx
 rw [ex] at hrep
 obtain ⟨_,t0,e',sz',es',b,m,cap,h1,h2,h3,_⟩ := hrep
 have := root_of h1 h2
 rw [hr] at this; cases this
 exact h h3 D gc v0 w0 tmps ds w hI next Q hn
theorem placeT_mid {α:Type} (pre mid suf ts:List α) (h:mid.length = ts.length):placeT (pre ++ mid ++ suf) pre.length ts = pre ++ ts ++ suf := by
 unfold placeT
 have e1:List.take pre.length (pre ++ mid ++ suf) = pre := by rw [List.append_assoc,List.take_left]
 have e2:List.drop (pre.length + ts.length) (pre ++ mid ++ suf) = suf := by rw [← h,← List.length_append,List.drop_left]
 rw [e1,e2]
theorem store_elem_sound (hY:DXOk Y X) (hw:WF st) {o:Oper} {t e:TypeId} {a v:Operand} {r' i j:Nat} {tv w ty:Ty} {x:tv.I} {l:List ty.I} {y:ty.I} {K:DSt → Option ρ} (ho:o.op = .store t a v) (hd:o.dst = none) (ha:rdD Y none st a = some (.eptr r' none i j)) (hv:rdD Y none st v = some (.t (.s tv x)))
  (hr:st.find r' = some (.t (.own e ty l))) (hT:tyT Y t = some w) (hp:putAt ty (l.getD i ty.dflt) j (.s tv x) = some y) (h0:(decide (w = tv) && w.fine && Nat.blt 0 w.sz) = true) (h:K (st.put r' (.t (.own e ty (l.set i y)))) = some r) :
  ∃ st',Step X n Z (stG n st.toSt) o (stG n st'.toSt) ∧ WF st' ∧ K st' = some r := by
 simp only [Bool.and_eq_true,decide_eq_true_eq,Nat.blt_eq] at h0
 obtain ⟨⟨rfl,h1⟩,h2⟩ := h0
 obtain ⟨a1,a2,_,_⟩ := rdD_spec (n := n) (X := X) hY hw (γ := none) trivial ha
 obtain ⟨v1,v2⟩ := rdT_spec (n := n) (X := X) hY hw (γ := none) trivial hv
 obtain ⟨w',z,pre,suf,mid,p1,p2,p3,p4,p5,p6⟩ := putAt_spec _ _ _ _ _ hp
 cases p2
 refine ⟨_,?_,store_wf hw hr (fun q h=>by cases h) ?_ (fun q h=>by cases h),h⟩
 ·rw [put_toSt,stG_put]
  have hg:stG n st.toSt r' = .t (.own e ty.sz (l.map ty.enc)) := by rw [stG_toSt,hr]; rfl
  refine Step.eptr (a2 trivial) a1 (e := e) (sz := ty.sz) (es := l.map ty.enc) (by simp only [root,hg]) (fun hlt=>?_)
  rw [List.length_map] at hlt
  have hel:(l.map ty.enc)[i]? = some (ty.enc (l.getD i ty.dflt)) := by
   rw [List.getElem?_map,List.getElem?_eq_getElem hlt,List.getD_eq_getElem?_getD,List.getElem?_eq_getElem hlt]; rfl
  have hcl:(ty.enc (l.getD i ty.dflt)).cells = pre ++ mid ++ suf := by rw [enc_cells,p3]
  have hput:elemPut (ty.enc (l.getD i ty.dflt)) j (DT.s w x).toT.cells = ty.enc y := by
   have htc:(DT.s w x).toT.cells = w.cells x := by rw [DT.toT,enc_cells]
   rw [htc]
   cases hrow:ty.row with
   | true =>
    rw [enc_row _ _ hrow,enc_row _ _ hrow]
    simp only [elemPut,T.ag.injEq]
    rw [p3,p5,← p6,placeT_mid _ _ _ _ (by rw [p4,cells_len])]
   | false =>
    obtain ⟨c1,c2⟩ := cells_one ty (l.getD i ty.dflt) hrow
    obtain ⟨c3,c4⟩ := cells_one ty y hrow
    have hlen := congrArg List.length p3
    rw [cells_len,sz_one ty hrow] at hlen
    simp only [List.length_append] at hlen
    have hpre:pre = [] := List.length_eq_zero_iff.1 (by omega)
    have hsuf:suf = [] := List.length_eq_zero_iff.1 (by omega)
    subst hpre; subst hsuf
    rw [List.nil_append,List.append_nil] at p5
    have hnot:elemPut (ty.enc (l.getD i ty.dflt)) j (w.cells x) = (w.cells x).headD .u := by
     unfold elemPut
     split
     ·rename_i cs hcs
      cases ty <;> first | (cases hcs; done) | (cases hrow; done)
     ·rfl
    rw [hnot,← p5,c3]; rfl
  have := step_store_elem (X := X) (n := n) (Z := Z) ho hd (a2 trivial) (v2 trivial) a1 hg v1 (enc_solid w x h1) (tyT_row hY hT h1) (by rw [DT.toT,enc_cells,cells_len]) hel (by
    have := congrArg List.length p3
    rw [cells_len] at this
    simp only [List.length_append] at this
    omega) (by
    rw [hcl,← p6,List.append_assoc,List.drop_left,← p4,List.take_left]
    have := cells_flat ty (l.getD i ty.dflt)
    rw [p3] at this
    simp only [List.all_append,Bool.and_eq_true] at this
    exact this.1.2) (by
    rw [hput,enc_cells,p5,hcl,DT.toT,enc_cells,← p6,placeT_mid _ _ _ _ (by rw [p4,cells_len])])
  rw [hput,← List.map_set] at this
  exact this
 ·intro q e2 t2 l2 hq
  cases q with
  | none =>
   simp only [rootD,hr] at hq
   cases hq
   exact ⟨l.set i y,by simp only [rootD,find_dput,if_pos],by simp⟩
  | some k=>simp only [rootD,hr] at hq; cases hq
theorem gB_killR {r':Nat} {p:Option Nat} {d:Nat} {w b':Bool} (h:gB (st.mapA (killD r' p)) d w = some b'):gB st d w = some b' := by
 unfold gB at h ⊢
 rw [find_dmap] at h
 cases hf:st.find d with
 | none=>rw [hf] at h; cases h
 | some a =>
  rw [hf] at h
  simp only [Option.map_some] at h
  cases a with
  | opt g w2 b a2 =>
   cases a2 with
   | t x=>exact h
   | ref r2 q off len v =>
    simp only [killD] at h
    cases hk:killQ r' p r2 q <;> rw [hk] at h <;> cases h
   | eptr r2 q i j =>
    simp only [killD] at h
    cases hk:killQ r' p r2 q <;> rw [hk] at h <;> cases h
   | pref r2 q off =>
    simp only [killD] at h
    cases hk:killQ r' p r2 q <;> rw [hk] at h <;> cases h
   | _=>exact h
  | ref r2 q off len v =>
   simp only [killD] at h
   cases hk:killQ r' p r2 q <;> rw [hk] at h <;> cases h
  | eptr r2 q i j =>
   simp only [killD] at h
   cases hk:killQ r' p r2 q <;> rw [hk] at h <;> cases h
  | pref r2 q off =>
   simp only [killD] at h
   cases hk:killQ r' p r2 q <;> rw [hk] at h <;> cases h
  | _=>exact h
theorem turn0_wf (hw:WF st) {d:Nat} {x:DT} (hb:∀ q,x ≠ .s .bool q):WF ((st.mapA (killD d none)).put d (.t x)) := by
 have hroot:∀ {r2:Nat} {q:Option Nat} {e2:TypeId} {t2:Ty} {l2:List t2.I},r2 ≠ d → rootD st r2 q = some (.own e2 t2 l2) → rootD ((st.mapA (killD d none)).put d (.t x)) r2 q = some (.own e2 t2 l2) := by
  intro r2 q e2 t2 l2 h h2
  cases q with
  | none =>
   simp only [rootD,find_dput,find_dmap,if_neg h] at h2 ⊢
   split at h2
   ·rename_i y hy; rw [hy]; exact h2
   ·cases h2
  | some k =>
   simp only [rootD,find_dput,find_dmap,if_neg h] at h2 ⊢
   split at h2
   ·rename_i e cs hy; rw [hy]; exact h2
   ·cases h2
 have hview:∀ a,viewOk st a → viewOk ((st.mapA (killD d none)).put d (.t x)) (killD d none a) := by
  intro a ha
  cases a with
  | ref r2 q off len v =>
   simp only [killD]
   cases hk:killQ d none r2 q with
   | true=>trivial
   | false =>
    have hne:r2 ≠ d := by rintro rfl; simp [killQ,Nat.beq_refl] at hk
    rcases ha with ha | ⟨e2,t2,l2,q1,q2⟩
    ·exact .inl ha
    ·exact .inr ⟨e2,t2,l2,hroot hne q1,q2⟩
  | eptr r2 q i j=>simp only [killD]; cases killQ d none r2 q <;> trivial
  | pref r2 q off=>simp only [killD]; cases killQ d none r2 q <;> trivial
  | _=>trivial
 intro k y hy
 rw [find_dput] at hy
 by_cases hk:k = d
 ·rw [if_pos hk] at hy; cases hy; trivial
 ·rw [if_neg hk,find_dmap] at hy
  cases hf:st.find k with
  | none=>rw [hf] at hy; cases hy
  | some a =>
   rw [hf] at hy
   cases hy
   have hwf := hw k a hf
   cases a with
   | opt d' w b a' =>
    refine ⟨fun b' hb'=>hwf.1 b' ?_,?_,hview a' hwf.2.2⟩
    ·by_cases h:d' = d
     ·subst h
      unfold gB at hb'
      rw [find_dput,if_pos rfl] at hb'
      split at hb'
      ·rename_i q hq; cases hq; exact absurd rfl (hb q)
      ·rename_i hq; cases hq
      ·cases hb'
     ·rw [gB_put h] at hb'; exact gB_killR hb'
    ·rw [killD_isOpt]; exact hwf.2.1
   | ref r2 q off len v =>
    have := hview (.ref r2 q off len v) hwf
    refine slotWF_of ?_ this
    rw [killD_isOpt]; rfl
   | eptr r2 q i j=>simp only [killD]; cases killQ d none r2 q <;> trivial
   | pref r2 q off=>simp only [killD]; cases killQ d none r2 q <;> trivial
   | _=>trivial
theorem store_ownbox_sound (hY:DXOk Y X) (hw:WF st) {o:Oper} {t e e2:TypeId} {a v:Operand} {r' r2 off k sz:Nat} {ty ty':Ty} {l:List ty.I} {cs:List DT} {told:DT} {K:DSt → Option ρ} (ho:o.op = .store t a v) (hd:o.dst = none) (ha:rdD Y none st a = some (.pref r' none off)) (hv:rdD Y none st v = some (.ref r2 none 0 k .all))
  (hr:st.find r' = some (.t (.box e cs))) (hr2:st.find r2 = some (.t (.own e2 ty l))) (hT:tyT Y t = some (.sl sz ty')) (hold:cs[off]? = some told) (h0:(flatD told && !Nat.beq r2 r' && (Ty.sl sz ty').fine) = true) (h:K (ownboxDS st r' r2 (.box e (cs.set off (.own e2 ty l)))) = some r) :
  ∃ st',Step X n Z (stG n st.toSt) o (stG n st'.toSt) ∧ WF st' ∧ K st' = some r := by
 simp only [Bool.and_eq_true,Bool.not_eq_true'] at h0
 obtain ⟨⟨h1,h2⟩,h3⟩ := h0
 have hne:r2 ≠ r' := by rintro rfl; rw [Nat.beq_refl] at h2; cases h2
 obtain ⟨a1,a2,_,_⟩ := rdD_spec (n := n) (X := X) hY hw (γ := none) trivial ha
 obtain ⟨v1,v2,_,v4⟩ := rdD_spec (n := n) (X := X) hY hw (γ := none) trivial hv
 have hk:k = l.length := by
  rcases v4 with v4 | ⟨e3,t3,l3,q1,q2⟩
  ·cases v4
  ·simp only [rootD,hr2,Option.some.injEq] at q1
   cases q1
   have := q2
   simp only [vwOk] at this
   omega
 have w1 := turn0_wf (d := r') (x := .u) hw (fun q e=>by cases e)
 have w2 := turn0_wf (d := r2) (x := .u) w1 (fun q e=>by cases e)
 have hf:((((st.mapA (killD r' none)).put r' (.t .u)).mapA (killD r2 none)).put r2 (.t .u)).find r' = some (.t .u) := by
  rw [find_dput,if_neg (fun e=>hne e.symm),find_dmap,find_dput,if_pos rfl]; rfl
 refine ⟨_,?_,store_wf w2 hf (fun q h=>by cases h) (fun {q e3 t3 l3} hq=>?_) (fun q h=>by cases h),h⟩
 ·have hg:stG n st.toSt r' = .t (.box e (cs.map DT.toT)) := by rw [stG_toSt,hr]; simp only [DA.toA,DT.toT,all_eq]
  have hg2:stG n st.toSt r2 = .t (.own e2 ty.sz (l.map ty.enc)) := by rw [stG_toSt,hr2]; rfl
  have e1:(ownboxDS st r' r2 (.box e (cs.set off (.own e2 ty l)))).toSt = (turnSt (turnSt st.toSt r' none (.box e (cs.map DT.toT)) .u) r2 none (.own e2 ty.sz (l.map ty.enc)) .u).put r' (.t (.box e ((cs.map DT.toT).set off (.own e2 ty.sz (l.map ty.enc))))) := by
   unfold ownboxDS turnSt
   rw [put_toSt,put_toSt,mapA_toSt _ _ (killD_toA r2 none),put_toSt,mapA_toSt _ _ (killD_toA r' none)]
   simp only [DA.toA,DT.toT,all_eq,putT,List.map_set]
  show Step X n Z _ o (stG n (ownboxDS st r' r2 (.box e (cs.set off (.own e2 ty l)))).toSt)
  rw [e1,stG_put,stG_turnSt,stG_turnSt]
  refine step_store_ownbox ho hd (a2 trivial) (v2 trivial) a1 ?_ hne hg hg2 (tyT_row hY hT h3) (told := told.toT) (by rw [List.getElem?_map,hold]; rfl) (by rw [flatD_spec]; exact h1)
  rw [v1,hk]; simp [DA.toA]
 ·exfalso
  cases q with
  | none=>simp only [rootD,hf] at hq; cases hq
  | some k=>simp only [rootD,hf] at hq; cases hq
end Go.Eng

/- Operations, guards, regions, in typed trees: that it is so. -/
namespace Go.Eng
open Go.RowKit (Below)
set_option linter.unusedVariables false
set_option linter.unusedSimpArgs false
variable {X:Ctx} {Y:DX} {n:Nat} {Z:List Nat} {st:DSt} {E:Env} {ρ:Type} {r:ρ}
theorem noSl_list0 (t:Ty) (h:t.bare = true) (l:List t.I):T.noSl.all (l.map t.enc) = true := by
 induction l with
 | nil=>rfl
 | cons x l ih=>simp only [List.map_cons,T.noSl.all,enc_noSl t x h,ih,Bool.and_self]
theorem spend_sound (hY:DXOk Y X) (hE:EnvOk X E) (hw:WF st) {o:Oper} {f:FuncId} {x:Operand} {tys:Array TypeId} {d r' off k:Nat} {p:Option Nat} {t0:DT} {e:TypeId} {t:Ty} {l l2:List t.I} {c:CallRes} {v:c.α} {K:DSt → Option ρ}
  (ho:o.op = .call { callee := .value (.func f),args := ⟨[x]⟩,argTypes := tys }) (hd:o.dst = some d) (hx:rdD Y none st x = some (.ref r' p off k .all)) (ht:st.find r' = some (.t t0)) (hr:rootD st r' p = some (.own e t l)) (hc:E f [.tup [.own e t l]] = some c)
  (h0:(dstD n Z st d && !Nat.beq d r') = true) (hv:c.val = some v) (hwr:c.wrap v = .own e t l2) (h:K ((turnDS st r' p t0 (.own e t l2)).put d (.t (.tup []))) = some r) :
  ∃ st',Step X n Z (stG n st.toSt) o (stG n st'.toSt) ∧ WF st' ∧ K st' = some r := by
 simp only [Bool.and_eq_true,Bool.not_eq_true'] at h0
 have hds:d ≠ r' := by rintro rfl; rw [Nat.beq_refl] at h0; cases h0.2
 obtain ⟨k1,k2,k3⟩ := dstD_spec h0.1
 obtain ⟨x1,x2,x3,x4⟩ := rdD_spec (n := n) (X := X) hY hw (γ := none) trivial hx
 obtain ⟨q1,q2⟩ := viewOk_vw x4 hr
 subst q1
 obtain ⟨a1,a2,a3⟩ := hE _ _ _ hc v hv l2 hwr
 refine ⟨_,?_,spend_wf hw ht hr hds k2 k3,h⟩
 rw [put_toSt,stG_put,turnDS_toSt ht hr,stG_turnSt]
 have hg:stG n st.toSt r' = .t t0.toT := by rw [stG_toSt,ht]; rfl
 exact step_spend (es := l.map t.enc) (es' := l2.map t.enc) ho hd ⟨k1.1,k1.2.1⟩ hds k1.2.2 (x2 trivial) (by rw [x1,List.length_map,← q2]; rfl) hg (rootD_spec (n := n) hr) a1 a2 (flat_list t l) (noSl_list0 t a3 l2) (fun w F v c h=>by
  cases h with
  | tup _ vs _ hl=>generalize vs.toList = l at hl; cases hl; assumption) rfl
theorem give_sound (hY:DXOk Y X) (hE:EnvOk X E) (hw:WF st) {o:Oper} {f:FuncId} {x:Operand} {tys:Array TypeId} {d r' off k:Nat} {p:Option Nat} {t0:DT} {e:TypeId} {t:Ty} {l:List t.I} {c:CallRes} {v:c.α} {K:DSt → Option ρ}
  (ho:o.op = .call { callee := .value (.func f),args := ⟨[x]⟩,argTypes := tys }) (hd:o.dst = some d) (hx:rdD Y none st x = some (.ref r' p off k .all)) (ht:st.find r' = some (.t t0)) (hr:rootD st r' p = some (.own e t l)) (hc:E f [.own e t l] = some c)
  (h0:(dstD n Z st d && !Nat.beq d r') = true) (hbare:c.bare = true) (hv:c.val = some v) (h:K ((turnDS st r' p t0 .u).put d (.t (c.wrap v))) = some r) :
  ∃ st',Step X n Z (stG n st.toSt) o (stG n st'.toSt) ∧ WF st' ∧ K st' = some r := by
 simp only [Bool.and_eq_true,Bool.not_eq_true'] at h0
 have hds:d ≠ r' := by rintro rfl; rw [Nat.beq_refl] at h0; cases h0.2
 obtain ⟨k1,k2,k3⟩ := dstD_spec h0.1
 obtain ⟨x1,x2,x3,x4⟩ := rdD_spec (n := n) (X := X) hY hw (γ := none) trivial hx
 obtain ⟨q1,q2⟩ := viewOk_vw x4 hr
 subst q1
 obtain ⟨a1,a2⟩ := (show _ ∧ _ from hE _ _ _ hc)
 rcases a1 v hv with ⟨b1,b2⟩ | ⟨b1,_⟩
 ·refine ⟨_,?_,append_wf hw ht hr hds k2 k3,h⟩
  rw [put_toSt,stG_put,turnDS_toSt ht hr,stG_turnSt]
  have hg:stG n st.toSt r' = .t t0.toT := by rw [stG_toSt,ht]; rfl
  exact step_give (es := l.map t.enc) ho hd ⟨k1.1,k1.2.1⟩ hds k1.2.2 (x2 trivial) (by rw [x1,List.length_map,← q2]; rfl) hg (rootD_spec (n := n) hr) b1 b2 (flat_list t l) (a2 hbare v)
 ·rw [b1] at hbare; cases hbare
theorem take_sound (hY:DXOk Y X) (hw:WF st) {o:Oper} {s d r' off k i:Nat} {t0:DT} {e:TypeId} {t:Ty} {l:List t.I} {K:DSt → Option ρ}
  (ho:o.op = .assign (.tmp s)) (hd:o.dst = some d) (hx:st.find s = some (.ref r' (some i) off k .all)) (ht:st.find r' = some (.t t0)) (hr:rootD st r' (some i) = some (.own e t l))
  (h0:(dstD n Z st d && !Nat.beq d r' && t.bare) = true) (h:K ((turnDS st r' (some i) t0 .u).put d (.t (.own e t l))) = some r) :
  ∃ st',Step X n Z (stG n st.toSt) o (stG n st'.toSt) ∧ WF st' ∧ K st' = some r := by
 simp only [Bool.and_eq_true,Bool.not_eq_true'] at h0
 have hds:d ≠ r' := by rintro rfl; rw [Nat.beq_refl] at h0; cases h0.1.2
 obtain ⟨k1,k2,k3⟩ := dstD_spec h0.1.1
 have x4:viewOk st (.ref r' (some i) off k .all) := hw s _ hx
 obtain ⟨q1,q2⟩ := viewOk_vw x4 hr
 subst q1
 refine ⟨_,?_,append_wf hw ht hr hds k2 k3,h⟩
 rw [put_toSt,stG_put,turnDS_toSt ht hr,stG_turnSt]
 have hg:stG n st.toSt r' = .t t0.toT := by rw [stG_toSt,ht]; rfl
 exact step_take (es := l.map t.enc) ho hd ⟨k1.1,k1.2.1⟩ hds k1.2.2 (by rw [stG_toSt,hx,List.length_map,← q2]; rfl) hg (rootD_spec (n := n) hr) (noSl_list0 t h0.2 l)
theorem opD_sound (hY:DXOk Y X) (hE:EnvOk X E) (hw:WF st) {o:Oper} {K:DSt → Option ρ} (h:opD Y n Z st E o K = some r):∃ st',Step X n Z (stG n st.toSt) o (stG n st'.toSt) ∧ WF st' ∧ K st' = some r := by
 unfold opD at h
 split at h
 ·rename_i s ho
  split at h
  ·rename_i e t l hs; exact moveD_sound hw (.inl ho) hs h
  ·rename_i e cs hs; exact moveD_sound hw (.inl ho) hs h
  ·rename_i cs hs
   split at h
   ·exact localD_sound hY hE hw h
   ·exact moveD_sound hw (.inl ho) hs h
  ·exact localD_sound hY hE hw h
 ·rename_i s ho
  split at h
  ·rename_i cs hs
   split at h
   ·exact localD_sound hY hE hw h
   ·exact moveD_sound hw (.inr ho) hs h
  ·exact localD_sound hY hE hw h
 ·rename_i r' i ho
  split at h
  ·rename_i cs hr
   split at h
   ·rename_i c hc
    split at h
    ·exact localD_sound hY hE hw h
    ·split at h
     ·rename_i d hd
      obtain ⟨h0,h⟩ := tst_some h
      exact extract_own_sound hw ho hd hr hc h0 h
     ·cases h
   ·cases h
  ·cases h
 ·rename_i x y t u ho
  split at h
  ·rename_i d r' p off k v hd hx
   split at h
   ·rename_i t0 e ty l e' ty' b ht hr hs
    obtain ⟨h0,h2⟩ := tst_some h
    simp only [Bool.and_eq_true,decide_eq_true_eq] at h0
    obtain ⟨⟨h0,h3⟩,rfl⟩ := h0
    have := Nat.eq_of_beq_eq_true h3
    subst this
    have hvw := viewOk_vw (rdD_spec (n := n) (X := X) hY hw (γ := none) trivial hx).2.2.2 hr
    have h0':(dstD n Z st d && !Nat.beq d r') = true := by simp only [Bool.and_eq_true]; exact h0
    split at h2
    ·obtain ⟨q1,q2⟩ := hvw
     exact append_sound hY hw ho hd hx ht hr hs h0' q1 (by rw [q2,List.take_length]) h2
    ·obtain ⟨q1,q2⟩ := hvw
     exact append_sound hY hw ho hd hx ht hr hs h0' q1 rfl h2
    ·cases h2
   ·cases h
  ·cases h
 ·rename_i f x tys ho
  split at h
  ·rename_i d r' p off k hd hx
   split at h
   ·rename_i t0 e t l ht hr
    split at h
    ·rename_i c hc
     obtain ⟨h0,h⟩ := tst_some h
     obtain ⟨v,hv,h⟩ := Option.bind_eq_some_iff.1 h
     split at h
     ·rename_i e' t' l' hwr
      split at h
      ·rename_i l2 he hl
       have he := Nat.eq_of_beq_eq_true he
       subst he
       obtain ⟨q0,q1⟩ := castT_some hl
       injection q0 with _ q0
       subst q0
       subst q1
       exact spend_sound hY hE hw ho hd hx ht hr hc h0 hv hwr h
      ·cases h
     ·cases h
    ·split at h
     ·rename_i c hc
      obtain ⟨h0,h⟩ := tst_some h
      obtain ⟨v,hv,h⟩ := Option.bind_eq_some_iff.1 h
      simp only [Bool.and_eq_true] at h0
      exact give_sound hY hE hw ho hd hx ht hr hc (by simp only [Bool.and_eq_true]; exact h0.1) h0.2 hv h
     ·exact localD_sound hY hE hw h
   ·exact localD_sound hY hE hw h
  ·exact localD_sound hY hE hw h
 ·rename_i t a v ho
  split at h
  ·rename_i r' off tv x hd ha hv
   split at h
   ·rename_i e cs w hr hT
    obtain ⟨h0,h⟩ := tst_some h
    exact store_box_sound hY hw ho hd ha hv hr hT h0 h
   ·cases h
  ·rename_i r' off r2 k hd ha hv
   split at h
   ·rename_i e cs e2 ty l sz ty' hr hr2 hT
    split at h
    ·rename_i told hold
     obtain ⟨h0,h⟩ := tst_some h
     exact store_ownbox_sound hY hw ho hd ha hv hr hr2 hT hold h0 h
    ·cases h
   ·cases h
  ·rename_i r' i j tv x hd ha hv
   split at h
   ·rename_i e ty l w hr hT
    split at h
    ·rename_i y hp
     obtain ⟨h0,h⟩ := tst_some h
     exact store_elem_sound hY hw ho hd ha hv hr hT hp h0 h
    ·cases h
   ·cases h
  ·cases h
 ·exact localD_sound hY hE hw h
theorem shrink_wf (hw:WF st) {d:Nat} {e:TypeId} {t:Ty} {l:List t.I} {x:DT} (hd:st.find d = some (.t (.own e t l))) (hn:noRef st d = true):WF ((st.mapA (killD d none)).put d (.t x)) := by
 have hfind:∀ k,((st.mapA (killD d none)).put d (.t x)).find k = if k = d then some (.t x) else (st.find k).map (killD d none) := fun k=>by
  rw [find_dput,find_dmap]
 have hroot:∀ {r2:Nat} {q:Option Nat} {e2:TypeId} {t2:Ty} {l2:List t2.I},r2 ≠ d → rootD st r2 q = some (.own e2 t2 l2) → rootD ((st.mapA (killD d none)).put d (.t x)) r2 q = some (.own e2 t2 l2) := by
  intro r2 q e2 t2 l2 h h2
  cases q with
  | none =>
   simp only [rootD,hfind,if_neg h] at h2 ⊢
   split at h2
   ·rename_i y hy; rw [hy]; exact h2
   ·cases h2
  | some j =>
   simp only [rootD,hfind,if_neg h] at h2 ⊢
   split at h2
   ·rename_i e3 cs hy; rw [hy]; exact h2
   ·cases h2
 have hview:∀ a,viewOk st a → viewOk ((st.mapA (killD d none)).put d (.t x)) (killD d none a) := by
  intro a ha
  cases a with
  | ref r2 q off len v =>
   simp only [killD]
   cases hk:killQ d none r2 q with
   | true=>trivial
   | false =>
    have hne:r2 ≠ d := by rintro rfl; rw [killQ_spec.2 ⟨rfl,.inl rfl⟩] at hk; cases hk
    rcases ha with ha | ⟨e2,t2,l2,q1,q2⟩
    ·exact .inl ha
    ·exact .inr ⟨e2,t2,l2,hroot hne q1,q2⟩
  | eptr r2 q i j=>simp only [killD]; cases killQ d none r2 q <;> trivial
  | pref r2 q off=>simp only [killD]; cases killQ d none r2 q <;> trivial
  | _=>trivial
 intro k y hy
 rw [hfind] at hy
 by_cases hkd:k = d
 ·rw [if_pos hkd] at hy; cases hy; trivial
 ·rw [if_neg hkd] at hy
  cases hq:st.find k with
  | none=>rw [hq] at hy; cases hy
  | some a =>
   rw [hq] at hy
   simp only [Option.map_some,Option.some.injEq] at hy
   subst hy
   have hwf := hw k a hq
   cases a with
   | opt d' w b a' =>
    have hd':d' ≠ d := noRef_spec hn hq
    refine ⟨fun b' hb'=>hwf.1 b' ?_,?_,hview a' hwf.2.2⟩
    ·unfold gB at hb' ⊢
     rw [hfind,if_neg hd'] at hb'
     cases hqq:st.find d' with
     | none=>rw [hqq] at hb'; exact hb'
     | some a2 =>
      rw [hqq] at hb'
      simp only [Option.map_some] at hb'
      cases a2 with
      | t=>exact hb'
      | opt d2 w2 b2 a3 =>
       simp only [killD] at hb'
       cases a3 with
       | t=>exact hb'
       | ref r2 q _ _ _=>simp only [killD] at hb'; cases hk:killQ d none r2 q <;> rw [hk] at hb' <;> exact hb'
       | eptr r2 q _ _=>simp only [killD] at hb'; cases hk:killQ d none r2 q <;> rw [hk] at hb' <;> exact hb'
       | pref r2 q _=>simp only [killD] at hb'; cases hk:killQ d none r2 q <;> rw [hk] at hb' <;> exact hb'
       | _=>exact hb'
      | ref r2 q _ _ _=>simp only [killD] at hb'; cases hk:killQ d none r2 q <;> rw [hk] at hb' <;> exact hb'
      | eptr r2 q _ _=>simp only [killD] at hb'; cases hk:killQ d none r2 q <;> rw [hk] at hb' <;> exact hb'
      | pref r2 q _=>simp only [killD] at hb'; cases hk:killQ d none r2 q <;> rw [hk] at hb' <;> exact hb'
      | _=>exact hb'
    ·have := hwf.2.1
     cases a' <;> simp only [killD] <;> first | exact this | (split <;> first | exact this | rfl)
   | ref r2 q off len v=>exact slotWF_of (by simp only [killD]; split <;> rfl) (hview _ hwf)
   | eptr r2 q i j=>exact slotWF_of (by simp only [killD]; split <;> rfl) (hview _ trivial)
   | pref r2 q i=>exact slotWF_of (by simp only [killD]; split <;> rfl) (hview _ trivial)
   | _=>trivial
theorem shrink_sound (hw:WF st) {o:Oper} {st':DSt} (h:shrinkD n Z st o = some st'):Step X n Z (stG n st.toSt) o (stG n st'.toSt) ∧ WF st' := by
 unfold shrinkD at h
 split at h
 ·rename_i s d ho hdst
  split at h
  ·rename_i r' off k e t l hs hd
   split at h
   ·rename_i hc
    cases h
    simp only [Bool.and_eq_true,Bool.not_eq_true',Nat.blt_eq] at hc
    obtain ⟨h1,h2,h3,h4,h5,h6⟩ := hc
    have e1 := Nat.eq_of_beq_eq_true h1
    have e2 := Nat.eq_of_beq_eq_true h2
    subst e1; subst e2
    refine ⟨?_,shrink_wf hw hd h6⟩
    rw [put_toSt,stG_put,mapA_toSt _ _ (killD_toA r' none),stG_mapA n st.toSt _ rfl rfl]
    have := step_shrink (X := X) (n := n) (Z := Z) (g := stG n st.toSt) (o := o) (s := s) (d := r') (k := k) (e := e) (sz := t.sz) (es := l.map t.enc) ho hdst ⟨h4,fun hm=>by rw [memN_spec.2 hm] at h5; cases h5⟩ (by rw [stG_toSt,hd]; rfl) (by rw [stG_toSt,hs]; rfl) (flat_list t l)
    rw [← List.map_take] at this
    exact this
   ·cases h
  ·cases h
 ·cases h
section
def GhostTo (X:Ctx) (n:Nat) (Z:List Nat) (s s':St):Prop := ∀ (D:Nat → Prop) (gc:Cnt) (v0:Nat → Value) (w0:World) (tmps:Array Value) (w:World),Inv X n Z D gc v0 w0 (stG n s) tmps w → Inv X n Z D gc v0 w0 (stG n s') tmps w
theorem GhostTo.refl {s:St}:GhostTo X n Z s s := fun _ _ _ _ _ _ h=>h
theorem GhostTo.trans {s t u:St} (h:GhostTo X n Z s t) (k:GhostTo X n Z t u):GhostTo X n Z s u := fun D gc v0 w0 tmps w hI=>k D gc v0 w0 tmps w (h D gc v0 w0 tmps w hI)
theorem noOpt_spec:∀ {st:DSt},noOpt st = true → ∀ {k:Nat} {a:DA},st.find k = some a → a.isOpt = false
 | [],_,_,_,h=>by cases h
 | (i,x) :: r,hn,k,a,h=>by
  simp only [DSt.find] at h
  have hx:x.isOpt = false ∧ noOpt r = true := by
   cases x with
   | opt=>cases hn
   | _=>exact ⟨rfl,hn⟩
  cases hb:Nat.beq k i with
  | true=>rw [hb] at h; cases h; exact hx.1
  | false=>rw [hb] at h; exact noOpt_spec hx.2 h
theorem noOpt_map {f:DA → DA} (hf:∀ a,a.isOpt = false → (f a).isOpt = false):∀ {st:DSt},noOpt st = true → noOpt (st.mapA f) = true
 | [],_=>rfl
 | (i,x) :: r,hn=>by
  have hx:x.isOpt = false ∧ noOpt r = true := by
   cases x with
   | opt=>cases hn
   | _=>exact ⟨rfl,hn⟩
  have h1 := hf x hx.1
  have h2 := noOpt_map hf hx.2
  simp only [DSt.mapA]
  cases hq:f x with
  | opt=>rw [hq] at h1; cases h1
  | _=>exact h2
theorem noOpt_put {a:DA} (ha:a.isOpt = false) (k:Nat):∀ {st:DSt},noOpt st = true → noOpt (st.put k a) = true
 | [],_=>by simp only [DSt.put]; cases a <;> first | rfl | cases ha
 | (i,x) :: r,hn=>by
  have hx:x.isOpt = false ∧ noOpt r = true := by
   cases x with
   | opt=>cases hn
   | _=>exact ⟨rfl,hn⟩
  simp only [DSt.put]
  cases hb:Nat.beq k i with
  | true=>simp only [cond_true]; cases a <;> first | exact hx.2 | cases ha
  | false =>
   simp only [cond_false]
   have := noOpt_put ha k hx.2
   cases x <;> first | exact this | cases hx.1
theorem shareDA_isOpt (r:Nat) (t:Ty) (l:List t.I) (a:DA) (h:a.isOpt = false):(shareDA r t l a).isOpt = false := by
 cases a with
 | ref r' q off len v=>simp only [shareDA]; cases Nat.beq r' r <;> cases q <;> rfl
 | eptr r' q i j=>simp only [shareDA]; cases Nat.beq r' r <;> rfl
 | pref r' q off=>simp only [shareDA]; cases Nat.beq r' r <;> rfl
 | opt=>cases h
 | _=>rfl
theorem shareDS_sound (hw:WF st) (hno:noOpt st = true) {r:Nat} {st':DSt} (h:shareDS st r = some st'):GhostTo X n Z st.toSt st'.toSt ∧ WF st' ∧ noOpt st' = true := by
 unfold shareDS at h
 split at h
 ·rename_i e t l hr
  cases h
  have hfind:∀ k,((st.mapA (shareDA r t l)).put r (.t (.s (.sl t.sz t) l))).find k = if k = r then some (.t (.s (.sl t.sz t) l)) else (st.find k).map (shareDA r t l) := fun k=>by rw [find_dput,find_dmap]
  refine ⟨fun D gc v0 w0 tmps w hI=>?_,?_,noOpt_put rfl r (noOpt_map (shareDA_isOpt r t l) hno)⟩
  ·have hg:stG n st.toSt r = .t (.own e t.sz (l.map t.enc)) := by rw [stG_toSt,hr]; rfl
   have := hI.share hg
   have heq:stG n ((st.mapA (shareDA r t l)).put r (.t (.s (.sl t.sz t) l))).toSt = shared (stG n st.toSt) r t.sz (l.map t.enc) := by
    funext i
    rw [stG_toSt,hfind]
    unfold shared
    by_cases hi:i = r
    ·subst hi
     rw [if_pos rfl,upd_same]
     simp only [DA.toA,DT.toT,enc_sl,fz_map]
    ·rw [if_neg hi,upd_ne _ _ hi,stG_toSt]
     cases hq:st.find i with
     | none=>simp only [Option.map_none]; split <;> rfl
     | some a =>
      simp only [Option.map_some]
      have hopt := noOpt_spec hno hq
      have hwf := hw i a hq
      cases a with
      | ref r' q off len v =>
       simp only [shareDA,DA.toA,shareA]
       by_cases hr':r' = r
       ·subst hr'
        rw [Nat.beq_refl,if_pos rfl]
        cases q with
        | none =>
         have hvw := viewOk_vw (show viewOk st (.ref r' none off len v) from hwf) (e := e) (t := t) (l := l) (by simp only [rootD,hr])
         simp only [if_true,DA.toA,DT.toT,enc_sl,fz_map,map_cut,vwL_spec _ hvw]
        | some j=>simp [DA.toA,DT.toT]
       ·rw [beq_ne hr',if_neg hr']; rfl
      | eptr r' q i j =>
       simp only [shareDA,DA.toA,shareA]
       by_cases hr':r' = r
       ·subst hr'; rw [Nat.beq_refl,if_pos rfl]; rfl
       ·rw [beq_ne hr',if_neg hr']; rfl
      | pref r' q off =>
       simp only [shareDA,DA.toA,shareA]
       by_cases hr':r' = r
       ·subst hr'; rw [Nat.beq_refl,if_pos rfl]; rfl
       ·rw [beq_ne hr',if_neg hr']; rfl
      | opt=>cases hopt
      | _=>rfl
   rw [heq]; exact this
  ·intro k x hx
   rw [hfind] at hx
   by_cases hk:k = r
   ·rw [if_pos hk] at hx; cases hx; trivial
   ·rw [if_neg hk] at hx
    cases hq:st.find k with
    | none=>rw [hq] at hx; cases hx
    | some a =>
     rw [hq] at hx
     simp only [Option.map_some,Option.some.injEq] at hx
     subst hx
     have hopt := noOpt_spec hno hq
     have hwf := hw k a hq
     refine slotWF_of (shareDA_isOpt _ _ _ _ hopt) ?_
     cases a with
     | ref r' q off len v =>
      simp only [shareDA]
      by_cases hr':r' = r
      ·subst hr'; rw [Nat.beq_refl]; cases q <;> trivial
      ·rw [beq_ne hr']
       rcases (show viewOk st (.ref r' q off len v) from hwf) with h1 | ⟨e2,t2,l2,q1,q2⟩
       ·exact .inl h1
       ·refine .inr ⟨e2,t2,l2,?_,q2⟩
        cases q with
        | none =>
         simp only [rootD,hfind,if_neg hr'] at q1 ⊢
         split at q1
         ·rename_i y hy; rw [hy]; exact q1
         ·cases q1
        | some j =>
         simp only [rootD,hfind,if_neg hr'] at q1 ⊢
         split at q1
         ·rename_i e3 cs hy; rw [hy]; exact q1
         ·cases q1
     | eptr r' q i j=>simp only [shareDA]; cases Nat.beq r' r <;> trivial
     | pref r' q off=>simp only [shareDA]; cases Nat.beq r' r <;> trivial
     | opt=>cases hopt
     | _=>trivial
 ·cases h
theorem sharesD_sound:∀ {rs:List Nat} {st st':DSt},WF st → sharesD rs st = some st' → GhostTo X n Z st.toSt st'.toSt ∧ WF st'
 | [],st,st',hw,h=>by cases h; exact ⟨GhostTo.refl,hw⟩
 | r :: rs,st,st',hw,h=>by
  simp only [sharesD] at h
  split at h
  ·rename_i s1 hno hs
   obtain ⟨h1,h2,h3⟩ := shareDS_sound (X := X) (n := n) (Z := Z) hw hno hs
   obtain ⟨h4,h5⟩ := sharesD_sound h2 h
   exact ⟨h1.trans h4,h5⟩
  ·cases h
theorem find_clean (st0:DSt):∀ (st:DSt) (k:Nat),(cleanGo st0 st).find k = (st.find k).map fun a=>match badD st0 a with | true=>.t .u | false=>a
 | [],_=>rfl
 | (i,a) :: r,k=>by
  simp only [cleanGo,DSt.find,find_clean st0 r k]
  cases Nat.beq k i <;> rfl
theorem clean_sound (hw:WF st):GhostTo X n Z st.toSt (cleanD st).toSt ∧ WF (cleanD st) := by
 have hf:∀ k,(cleanD st).find k = (st.find k).map fun a=>match badD st a with | true=>.t .u | false=>a := find_clean st st
 refine ⟨fun D gc v0 w0 tmps w hI=>?_,?_⟩
 ·obtain ⟨c,hfr,_⟩ := hI.frm
  refine hI.less fun i=>?_
  rw [stG_toSt,stG_toSt,hf]
  cases hq:st.find i with
  | none =>
   left
   refine ⟨rfl,fun r hr=>?_⟩
   simp only at hr
   split at hr <;> cases hr
  | some a =>
   simp only [Option.map_some]
   cases hb:badD st a with
   | true=>right; exact ⟨rfl,toA_ne_ghost a⟩
   | false =>
    left
    refine ⟨rfl,fun r hr=>?_⟩
    have hrep := hfr.rep i
    have hgi:stG n st.toSt i = a.toA := by rw [stG_toSt,hq]
    rw [hgi] at hrep
    have hgr:∃ t0,stG n st.toSt r = .t t0 := by
     cases a with
     | ref r' q off len v=>cases hr; obtain ⟨_,t0,e,sz,es,x0,h1,_⟩ := hrep; exact ⟨t0,h1⟩
     | eptr r' q i j=>cases hr; obtain ⟨_,t0,e,sz,es,b,m,cap,h1,_⟩ := hrep; exact ⟨t0,h1⟩
     | pref r' q off=>cases hr; obtain ⟨_,t0,e,cs,b,h1,_⟩ := hrep; exact ⟨t0,h1⟩
     | opt=>cases hb
     | _=>cases hr
    obtain ⟨t0,hgr⟩ := hgr
    rw [stG_toSt] at hgr
    rw [stG_toSt,stG_toSt,hf]
    cases hq2:st.find r with
    | none=>rfl
    | some b =>
     rw [hq2] at hgr
     simp only [Option.map_some]
     have:badD st b = false := by cases b <;> first | rfl | cases hgr
     rw [this]
 ·intro k x hx
  rw [hf] at hx
  cases hq:st.find k with
  | none=>rw [hq] at hx; cases hx
  | some a =>
   rw [hq] at hx
   simp only [Option.map_some,Option.some.injEq] at hx
   cases hb:badD st a with
   | true=>rw [hb] at hx; simp only at hx; subst hx; trivial
   | false =>
    rw [hb] at hx; simp only at hx; subst hx
    have hwf := hw k a hq
    have hopt:a.isOpt = false := by cases a <;> first | rfl | cases hb
    refine slotWF_of hopt ?_
    cases a with
    | ref r' q off len v =>
     rcases (show viewOk st (.ref r' q off len v) from hwf) with h1 | ⟨e2,t2,l2,q1,q2⟩
     ·exact .inl h1
     ·refine .inr ⟨e2,t2,l2,?_,q2⟩
      cases q with
      | none =>
       simp only [rootD,hf] at q1 ⊢
       split at q1
       ·rename_i y hy; rw [hy]; exact q1
       ·cases q1
      | some j =>
       simp only [rootD,hf] at q1 ⊢
       split at q1
       ·rename_i e3 cs hy; rw [hy]; exact q1
       ·cases q1
    | opt=>cases hopt
    | _=>trivial
theorem preShare_sound (hw:WF st) (o:Oper):WF (preShare Y E st o) ∧ GhostTo X n Z st.toSt (preShare Y E st o).toSt := by
 unfold preShare
 split
 ·exact ⟨hw,GhostTo.refl⟩
 ·split
  ·rename_i st' hs
   obtain ⟨c1,c2⟩ := clean_sound (X := X) (n := n) (Z := Z) hw
   obtain ⟨h1,h2⟩ := sharesD_sound (X := X) (n := n) (Z := Z) c2 hs
   exact ⟨h2,c1.trans h1⟩
  ·exact ⟨hw,GhostTo.refl⟩
end
end Go.Eng

/- Owned slices of owned slices, in typed trees: that it is so. -/
namespace Go.Eng
open Go.RowKit (Below)
set_option linter.unusedVariables false
set_option linter.unusedSimpArgs false
set_option linter.unusedSectionVars false
section
variable {X:Ctx} {g g':Nat → A} {n:Nat} {Z:List Nat} {o:Oper}
theorem Good.facts {P:Prop} {a:A} (hP:∀ (tmps:Array Value) (ds:List Deferred) (w:World) (c:Nat → Cnt),X.G w → Frm X.N w g tmps c → P) (h:P → Good X g o a):Good X g o a := fun tmps ds w c hG hf=>h (hP tmps ds w c hG hf) tmps ds w c hG hf
theorem Step.facts {P:Prop} (hP:∀ (tmps:Array Value) (ds:List Deferred) (w:World) (c:Nat → Cnt),X.G w → Frm X.N w g tmps c → P) (h:P → Step X n Z g o g'):Step X n Z g o g' := fun D gc v0 w0 tmps ds w hI=>by
 obtain ⟨c,hf,_⟩ := hI.frm
 exact h (hP tmps ds w c hI.glob hf) D gc v0 w0 tmps ds w hI
theorem Step.post {g1:Nat → A} (h:Step X n Z g o g1) (k:∀ (D:Nat → Prop) (gc:Cnt) (v0:Nat → Value) (w0:World) (tmps:Array Value) (w:World),Inv X n Z D gc v0 w0 g1 tmps w → Inv X n Z D gc v0 w0 g' tmps w):Step X n Z g o g' :=
 fun D gc v0 w0 tmps ds w hI next Q hn=>h D gc v0 w0 tmps ds w hI next Q (fun tmps' w' hI'=>hn tmps' w' (k D gc v0 w0 tmps' w' hI'))
theorem ref_fact {tmps:Array Value} {ds:List Deferred} {w:World} {c:Nat → Cnt} (hG:X.G w) (hf:Frm X.N w g tmps c) {x:Operand} {r:Nat} {p:Option Nat} {off len:Nat} (hx:rdp X g x) (ex:rd X g x = .ref r p off len):∃ e sz es,root g r p = some (.own e sz es) ∧ off + len ≤ es.length := by
 have rx := rd_rep (ds := ds) hG hf x hx
 rw [ex] at rx
 obtain ⟨_,t1,e',s,es',x0,h1,h2,h3,h4⟩ := rx
 exact ⟨e',s,es',root_of h1 h2,h3⟩
theorem eptr_fact {tmps:Array Value} {ds:List Deferred} {w:World} {c:Nat → Cnt} (hG:X.G w) (hf:Frm X.N w g tmps c) {x:Operand} {r:Nat} {p:Option Nat} {i j:Nat} (hx:rdp X g x) (ex:rd X g x = .eptr r p i j):∃ e sz es,root g r p = some (.own e sz es) ∧ i < es.length := by
 have rx := rd_rep (ds := ds) hG hf x hx
 rw [ex] at rx
 obtain ⟨_,t0,e,sz,es,b,m,cap,h1,h2,h3,h4,h5⟩ := rx
 exact ⟨e,sz,es,root_of h1 h2,h3⟩
theorem good_load_own {t:TypeId} {x:Operand} {r i m:Nat} {e e2:TypeId} {sz2:Nat} {es es2:List T} (ho:o.op = .load t x) (hx:rdp X g x) (ex:rd X g x = .eptr r none i 0) (hg:g r = .t (.own e 1 es)) (hone:∀ t ∈ es,t.cells = [t]) (hel:es[i]? = some (.own e2 sz2 es2)) (ht:tyRow X.P t = some (false,m)):Good X g o (.ref r (some i) 0 es2.length) :=
 Good.of_run fun tmps ds w c hG hf=>by
  obtain ⟨d,inf,hu,hi,hd,hn⟩ := tyRow_spec ht
  have rx := rd_rep (ds := ds) hG hf x hx
  rw [ex] at rx
  obtain ⟨_,t0,e',sz',es',b,mm,cap,h1,h2,h3,h4,h5⟩ := rx
  rw [hg] at h1; cases h1
  obtain ⟨h6,h7⟩ := h2
  cases h6
  have hr := hf.rep r
  rw [hg,← h7] at hr
  generalize c r = cr at hr
  cases hr with
  | own _ _ _ _ _ _ cur cc _ hgb hmm hcap hm hcur hz hl hone' hc =>
   rw [flatMap_cells_one es hone] at hl
   obtain ⟨y,d1,hy,k1,k2⟩ := hl.get i _ hel
   rw [List.getElem?_take,if_pos (by omega),Array.getElem?_toList] at hy
   have hcell:w.cell? ⟨b,i,none⟩ = some y := by rw [cell_at hgb]; exact hy
   have hagg:(isAgg t).run X.P w = .ok false w := by
    unfold isAgg
    rw [Sem.run_bind,run_underlying hu w]
    cases d <;> first | rfl | cases hd
   refine ⟨y,?_,?_⟩
   ·unfold execOp; simp only [ho]
    refine run_val ?_
    rw [h5]
    simp [Instr.loadAt,Instr.sureAddr,loadVar,hagg,hcell]
   ·have hat:AtV w (.own e 1 es) (tmps.getD r undef) (some i) (.own e2 sz2 es2) y := .inr ⟨e,es,b,mm,cap,cur,rfl,h7.symm,hgb,hel,rfl,hone,by omega,hy⟩
    refine ⟨fun _=>rfl,_,e2,sz2,es2,y,hg,hat,by omega,?_⟩
    cases k1 with
    | ownnil=>exact .inl ⟨rfl,rfl,rfl,rfl⟩
    | own _ _ _ b' n' cap' cur' c0' _ _ hn'=>exact .inr ⟨b',n',cap',0,rfl,by rw [hn']; simp,Nat.zero_le _,fun _=>by simp⟩
end
theorem kill_t {r:Nat} {p:Option Nat} {a:A} {t:T} (h:killA r p a = .t t):killA r none a = .t t := by
 cases a with
 | t x=>exact h
 | ref r' q off len =>
  unfold killA at h ⊢
  split at h
  ·rename_i hk; rw [if_pos ⟨hk.1,.inl rfl⟩]; exact h
  ·cases h
 | eptr r' q i j =>
  unfold killA at h ⊢
  split at h
  ·rename_i hk; rw [if_pos ⟨hk.1,.inl rfl⟩]; exact h
  ·cases h
 | pref r' q i =>
  unfold killA at h ⊢
  split at h
  ·rename_i hk; rw [if_pos ⟨hk.1,.inl rfl⟩]; exact h
  ·cases h
 | _=>cases h
theorem kill_less {X:Ctx} {n:Nat} {Z:List Nat} {D:Nat → Prop} {gc:Cnt} {v0:Nat → Value} {w0 w:World} {tmps:Array Value} {g0 g1 g2:Nat → A} {r' d i:Nat} (hno:∀ j q a,g0 j ≠ .opt q a) (h1:∀ j,j ≠ d → j ≠ r' → g1 j = killA r' (some i) (g0 j)) (h2:∀ j,j ≠ d → j ≠ r' → g2 j = killA r' none (g0 j))
  (hd:g2 d = g1 d ∧ (g1 d).at = none) (hr:g2 r' = g1 r' ∧ (g1 r').at = none) (hI:Inv X n Z D gc v0 w0 g1 tmps w):Less g2 g1 := by
 obtain ⟨c,hf,_⟩ := hI.frm
 have hroot:∀ r2,r2 ≠ r' → (∃ t0,g1 r2 = .t t0) → g2 r2 = g1 r2 := fun r2 hne ⟨t0,h⟩=>by
  by_cases hrd:r2 = d
  ·subst hrd; exact hd.1
  ·rw [h1 r2 hrd hne] at h ⊢
   rw [h2 r2 hrd hne,h]; exact kill_t h
 intro j
 by_cases hj:j = d
 ·subst hj; exact .inl ⟨hd.1,fun r h=>by rw [hd.2] at h; cases h⟩
 ·by_cases hj2:j = r'
  ·subst hj2; exact .inl ⟨hr.1,fun r h=>by rw [hr.2] at h; cases h⟩
  ·have hrep := hf.rep j
   rw [h1 j hj hj2] at hrep ⊢
   rw [h2 j hj hj2]
   cases hq:g0 j with
   | opt q a=>exact absurd hq (hno j q a)
   | t x=>exact .inl ⟨rfl,fun r h=>by cases h⟩
   | sptr cs=>exact .inl ⟨rfl,fun r h=>by cases h⟩
   | ghost=>exact .inl ⟨rfl,fun r h=>by cases h⟩
   | ref r2 q off len =>
    rw [hq] at hrep
    unfold killA at hrep ⊢
    by_cases hr2:r2 = r'
    ·right
     rw [if_pos ⟨hr2,.inl rfl⟩]
     exact ⟨rfl,by split <;> exact fun e=>by cases e⟩
    ·left
     rw [if_neg (fun e=>hr2 e.1),if_neg (fun e=>hr2 e.1)]
     rw [if_neg (fun e=>hr2 e.1)] at hrep
     obtain ⟨_,t0,e,sz,es,x0,q1,_⟩ := hrep
     exact ⟨rfl,fun r h=>by cases h; exact hroot r2 hr2 ⟨t0,q1⟩⟩
   | eptr r2 q k j2 =>
    rw [hq] at hrep
    unfold killA at hrep ⊢
    by_cases hr2:r2 = r'
    ·right
     rw [if_pos ⟨hr2,.inl rfl⟩]
     exact ⟨rfl,by split <;> exact fun e=>by cases e⟩
    ·left
     rw [if_neg (fun e=>hr2 e.1),if_neg (fun e=>hr2 e.1)]
     rw [if_neg (fun e=>hr2 e.1)] at hrep
     obtain ⟨_,t0,e,sz,es,b,m,cap,q1,_⟩ := hrep
     exact ⟨rfl,fun r h=>by cases h; exact hroot r2 hr2 ⟨t0,q1⟩⟩
   | pref r2 q k =>
    rw [hq] at hrep
    unfold killA at hrep ⊢
    by_cases hr2:r2 = r'
    ·right
     rw [if_pos ⟨hr2,.inl rfl⟩]
     exact ⟨rfl,by split <;> exact fun e=>by cases e⟩
    ·left
     rw [if_neg (fun e=>hr2 e.1),if_neg (fun e=>hr2 e.1)]
     rw [if_neg (fun e=>hr2 e.1)] at hrep
     obtain ⟨_,t0,e,cs,b,q1,_⟩ := hrep
     exact ⟨rfl,fun r h=>by cases h; exact hroot r2 hr2 ⟨t0,q1⟩⟩
variable {X:Ctx} {Y:DX} {n:Nat} {Z:List Nat} {st:DSt} {E:Env} {ρ:Type} {r:ρ}
theorem el2_cells (e2:TypeId) (t:Ty) (L:List (Bool × List t.I)):∀ y ∈ L.map (el2 e2 t),y.cells = [y] := by
 intro y hy
 obtain ⟨⟨b,l⟩,_,rfl⟩ := List.mem_map.1 hy
 cases b <;> rfl
theorem el2_fz (e2:TypeId) (t:Ty) (L:List (Bool × List t.I)):(L.map (el2 e2 t)).map T.fz = (L.map fun y=>y.2).map (Ty.sl t.sz t).enc := by
 rw [List.map_map,List.map_map]
 congr 1
 funext y
 obtain ⟨b,l⟩ := y
 cases b with
 | true=>simp only [Function.comp_apply,el2,T.fz,fzAll_eq,fz_map]; rfl
 | false=>rfl
theorem own2_root {e e2:TypeId} {t:Ty} {L:List (Bool × List t.I)} {r':Nat} (ht:st.find r' = some (.t (.own2 e e2 t L))):stG n st.toSt r' = .t (.own e 1 (L.map (el2 e2 t))) := by rw [stG_toSt,ht]; rfl
theorem el_fact {e e2:TypeId} {t:Ty} {L:List (Bool × List t.I)} {r' i:Nat} (ht:st.find r' = some (.t (.own2 e e2 t L))) {e':TypeId} {sz:Nat} {es:List T} (h:root (stG n st.toSt) r' (some i) = some (.own e' sz es)) :
  L[i]? = some (true,(el2D L i).2) ∧ e' = e2 ∧ sz = t.sz ∧ es = (el2D L i).2.map t.enc := by
 simp only [root,own2_root ht,List.getElem?_map] at h
 unfold el2D
 rw [List.getD_eq_getElem?_getD]
 cases hq:L[i]? with
 | none=>rw [hq] at h; cases h
 | some y =>
  rw [hq] at h
  obtain ⟨b,l⟩ := y
  simp only [Option.map_some,Option.some.injEq] at h
  cases b with
  | false=>cases h
  | true =>
   cases h
   exact ⟨rfl,rfl,rfl,rfl⟩
theorem own2T_spec (hY:DXOk Y X) {ty e e2:TypeId} {t:Ty} {b:Nat} (h:own2T Y ty = some (e,e2,t,b)):∃ z,sliT Y ty = some (e,.sl t.sz t,b) ∧ sliOf X.P ty = some (e,1,b,z) ∧ 1 ≤ b ∧ z.cells.size = 1 := by
 unfold own2T at h
 split at h
 ·rename_i e0 sz ty0 b0 hs
  split at h
  ·rename_i e20 ty2 b2 hs2
   split at h
   ·rename_i hq
    simp only [Bool.and_eq_true,decide_eq_true_eq] at hq
    obtain ⟨rfl,rfl⟩ := hq
    cases h
    obtain ⟨h1,h2,h3,h4,_⟩ := sliT_spec (X := X) hY hs
    exact ⟨_,hs,h1,h2,by rw [zval_cells _ h4]; rfl⟩
   ·cases h
  ·cases h
 ·cases h
theorem put2_spec {st1:DSt} (hw:WF st1) {d:Nat} {a:DA} {K:DSt → Option ρ} (h:put2 n Z st1 d a K = some r) (ho:a.isOpt = false) (hv:viewOk st1 a):dstOk n Z st1.toSt d ∧ WF (st1.put d a) ∧ K (st1.put d a) = some r := by
 obtain ⟨h1,h2⟩ := tst_some h
 obtain ⟨k1,k2,k3⟩ := dstD_spec h1
 exact ⟨k1,hw.put k2 k3 (slotWF_of ho hv) (refOf_of ho d),h2⟩
theorem put2_good (hw:WF st) {o:Oper} {d:Nat} {a:DA} {K:DSt → Option ρ} (hd:o.dst = some d) (h:put2 n Z st d a K = some r) (ho:a.isOpt = false) (hv:viewOk st a) (hg:Good X (stG n st.toSt) o a.toA) :
  ∃ st',Step X n Z (stG n st.toSt) o (stG n st'.toSt) ∧ WF st' ∧ K st' = some r := by
 obtain ⟨k1,k2,k3⟩ := put2_spec hw h ho hv
 refine ⟨_,?_,k2,k3⟩
 rw [put_toSt,stG_put]
 exact hg.step (toA_ne_ghost a) hd ⟨k1.1,k1.2.1⟩ k1.2.2
theorem gB_kill (r':Nat) (p:Option Nat) {d:Nat} {w b:Bool} (h:gB (st.mapA (killD r' p)) d w = some b):gB st d w = some b := by
 unfold gB at h ⊢
 rw [find_dmap] at h
 cases hq:st.find d with
 | none=>rw [hq] at h; exact h
 | some a =>
  rw [hq] at h
  simp only [Option.map_some] at h
  cases a with
  | t=>exact h
  | opt d2 w2 b2 a3 =>
   simp only [killD] at h
   cases a3 with
   | t=>exact h
   | ref r2 q _ _ _=>simp only [killD] at h; cases hk:killQ r' p r2 q <;> rw [hk] at h <;> exact h
   | eptr r2 q _ _=>simp only [killD] at h; cases hk:killQ r' p r2 q <;> rw [hk] at h <;> exact h
   | pref r2 q _=>simp only [killD] at h; cases hk:killQ r' p r2 q <;> rw [hk] at h <;> exact h
   | _=>exact h
  | ref r2 q _ _ _=>simp only [killD] at h; cases hk:killQ r' p r2 q <;> rw [hk] at h <;> exact h
  | eptr r2 q _ _=>simp only [killD] at h; cases hk:killQ r' p r2 q <;> rw [hk] at h <;> exact h
  | pref r2 q _=>simp only [killD] at h; cases hk:killQ r' p r2 q <;> rw [hk] at h <;> exact h
  | _=>exact h
theorem rootD_kill (r':Nat) (p:Option Nat) {r2:Nat} {q:Option Nat} {e:TypeId} {t:Ty} {l:List t.I} (h:rootD st r2 q = some (.own e t l)):rootD (st.mapA (killD r' p)) r2 q = some (.own e t l) := by
 cases q with
 | none =>
  simp only [rootD,find_dmap] at h ⊢
  split at h
  ·rename_i y hy; rw [hy]; exact h
  ·cases h
 | some j =>
  simp only [rootD,find_dmap] at h ⊢
  split at h
  ·rename_i e3 cs hy; rw [hy]; exact h
  ·cases h
theorem kill_wf (hw:WF st) (r':Nat) (p:Option Nat):WF (st.mapA (killD r' p)) := by
 have hview:∀ a,viewOk st a → viewOk (st.mapA (killD r' p)) (killD r' p a) := by
  intro a ha
  cases a with
  | ref r2 q off len v =>
   simp only [killD]
   cases hk:killQ r' p r2 q with
   | true=>trivial
   | false =>
    rcases ha with ha | ⟨e2,t2,l2,q1,q2⟩
    ·exact .inl ha
    ·exact .inr ⟨e2,t2,l2,rootD_kill r' p q1,q2⟩
  | eptr r2 q i j=>simp only [killD]; cases killQ r' p r2 q <;> trivial
  | pref r2 q off=>simp only [killD]; cases killQ r' p r2 q <;> trivial
  | _=>trivial
 intro k y hy
 rw [find_dmap] at hy
 cases hq:st.find k with
 | none=>rw [hq] at hy; cases hy
 | some a =>
  rw [hq] at hy
  simp only [Option.map_some,Option.some.injEq] at hy
  subst hy
  have hwf := hw k a hq
  cases a with
  | opt d' w b a'=>exact ⟨fun b' hb'=>hwf.1 b' (gB_kill r' p hb'),by rw [killD_isOpt]; exact hwf.2.1,hview a' hwf.2.2⟩
  | ref r2 q off len v=>exact slotWF_of (by rw [killD_isOpt]; rfl) (hview _ (show viewOk st (.ref r2 q off len v) from hwf))
  | eptr r2 q i j=>exact slotWF_of (by rw [killD_isOpt]; rfl) (hview (.eptr r2 q i j) trivial)
  | pref r2 q i=>exact slotWF_of (by rw [killD_isOpt]; rfl) (hview (.pref r2 q i) trivial)
  | _=>trivial
theorem root_wf (hw:WF st) {r':Nat} (hn:noRef st r' = true) (h2:∀ p e t (l:List (Ty.I t)),rootD st r' p ≠ some (.own e t l)) (x:DT):WF (st.put r' (.t x)) := by
 have hroot:∀ {r2:Nat} {q:Option Nat} {e:TypeId} {t:Ty} {l:List t.I},rootD st r2 q = some (.own e t l) → rootD (st.put r' (.t x)) r2 q = some (.own e t l) := by
  intro r2 q e t l h
  have hne:r2 ≠ r' := by rintro rfl; exact h2 _ _ _ _ h
  cases q <;> simp only [rootD,find_dput,if_neg hne] at h ⊢ <;> exact h
 intro k y hy
 rw [find_dput] at hy
 by_cases hk:k = r'
 ·rw [if_pos hk] at hy; cases hy; trivial
 ·rw [if_neg hk] at hy
  have hwf := hw k y hy
  cases y with
  | opt d' w b a' =>
   have hd':d' ≠ r' := noRef_spec hn hy
   exact ⟨fun b' hb'=>hwf.1 b' (by rw [← gB_put (st := st) (a := .t x) hd']; exact hb'),hwf.2.1,viewOk_mono hwf.2.2 hroot⟩
  | ref r2 p off len v=>exact viewOk_mono (show viewOk st (.ref r2 p off len v) from hwf) hroot
  | _=>trivial
theorem noRef_kill {r' d:Nat} {p:Option Nat}:∀ {st:DSt},noRef st d = true → noRef (st.mapA (killD r' p)) d = true
 | [],_=>rfl
 | (i,x) :: s,h=>by
  simp only [DSt.mapA]
  cases x with
  | opt d2 w b a =>
   simp only [noRef,killD] at h ⊢
   cases hb:Nat.beq d2 d with
   | true=>rw [hb] at h; cases h
   | false=>rw [hb] at h; exact noRef_kill (st := s) h
  | ref r2 q off len v=>simp only [killD]; cases killQ r' p r2 q <;> exact noRef_kill (st := s) h
  | eptr r2 q i j=>simp only [killD]; cases killQ r' p r2 q <;> exact noRef_kill (st := s) h
  | pref r2 q i=>simp only [killD]; cases killQ r' p r2 q <;> exact noRef_kill (st := s) h
  | _=>exact noRef_kill (st := s) h
theorem own2_rootD {e e2:TypeId} {t:Ty} {L:List (Bool × List t.I)} {r':Nat} (ht:st.find r' = some (.t (.own2 e e2 t L))):∀ p e' t' (l:List (Ty.I t')),rootD st r' p ≠ some (.own e' t' l) := by
 intro p e' t' l h
 cases p <;> simp only [rootD,ht] at h <;> cases h
theorem kill2_wf (hw:WF st) {e e2:TypeId} {t:Ty} {L:List (Bool × List t.I)} {r':Nat} (ht:st.find r' = some (.t (.own2 e e2 t L))) (hn:noRef st r' = true) (p:Option Nat) (x:DT):WF ((st.mapA (killD r' p)).put r' (.t x)) :=
 root_wf (kill_wf hw r' p) (noRef_kill hn) (own2_rootD (e := e) (e2 := e2) (t := t) (L := L) (by rw [find_dmap,ht]; rfl)) x
theorem kill_toSt (r':Nat) (p:Option Nat) (t0 t':T) (x:DT) (hx:x.toT = putT t0 p t'):stG n ((st.mapA (killD r' p)).put r' (.t x)).toSt = turned (stG n st.toSt) r' p t0 t' := by
 rw [put_toSt,stG_put,mapA_toSt _ _ (killD_toA r' p),stG_mapA n st.toSt _ rfl rfl]
 simp only [DA.toA,hx]; rfl
theorem atk_at {d:Nat} {a:DA} (h:atkD [d] a = false):a.toA.at ≠ some d := by
 have key:∀ r',memN [d] r' = false → some r' ≠ some d := fun r' h e=>by
  cases e
  simp only [memN,Nat.beq_refl,cond_true] at h; cases h
 induction a with
 | opt g w b a ih=>exact ih h
 | ref r' p off len v=>exact key r' h
 | eptr r' p i j=>exact key r' h
 | pref r' p off=>exact key r' h
 | _=>exact fun e=>by cases e
theorem atNone_spec:∀ {st:DSt} {d:Nat},atNone d st = true → ∀ i,(stG n st.toSt i).at ≠ some d
 | [],d,_,i=>by
  rw [stG_toSt]; simp only [DSt.find]
  split <;> exact fun e=>by cases e
 | (k,a) :: s,d,h,i=>by
  simp only [atNone] at h
  cases ha:atkD [d] a with
  | true=>rw [ha] at h; cases h
  | false =>
   rw [ha] at h
   have ih := atNone_spec (st := s) h i
   rw [stG_toSt] at ih ⊢
   simp only [DSt.find]
   cases hb:Nat.beq i k with
   | true=>exact atk_at ha
   | false=>exact ih
def factA (X:Ctx) (g:Nat → A) (x:Operand):Prop := ∀ r p off len,rd X g x = .ref r p off len → ∃ e sz es,root g r p = some (.own e sz es) ∧ off + len ≤ es.length
theorem arg2D_spec (hY:DXOk Y X) (hw:WF st) {x:Operand} {ty:TypeId} {K:DT → Bool → Option ρ} (h:arg2D Y st x ty K = some r) :
  ∃ t b,K t b = some r ∧ argP X (stG n st.toSt) x ∧ (factA X (stG n st.toSt) x → argA X (stG n st.toSt) x ty = some (t.toT,b)) ∧ ∀ cs,t ≠ .tup cs := by
 unfold arg2D at h
 split at h
 ·rename_i his
  have hno:∃ k,x = .tmp k := by
   cases x with
   | tmp k=>exact ⟨k,rfl⟩
   | _=>cases his
  obtain ⟨k0,rfl⟩ := hno
  split at h
  ·rename_i r' p k v hx
   obtain ⟨x1,x2,_,_⟩ := rdD_spec (n := n) (X := X) hY hw (γ := none) trivial hx
   split at h
   ·rename_i e e2 t L ht
    split at h
    ·obtain ⟨h1,h2⟩ := G_some h
     subst h1
     refine ⟨_,_,h2,x2 trivial,fun _=>?_,fun _ e=>by cases e⟩
     simp only [argA,x1,DA.toA,root,own2_root ht]
     rw [if_pos (by simp),el2_fz,Nat.zero_add,take_cut,List.take_of_length_le (by simp)]
     rfl
    ·rename_i i
     obtain ⟨h1,h2⟩ := G_some h
     subst h1
     refine ⟨_,_,h2,x2 trivial,fun hf=>?_,fun _ e=>by cases e⟩
     obtain ⟨e',sz,es,q1,q2⟩ := hf _ _ _ _ x1
     obtain ⟨_,rfl,rfl,rfl⟩ := el_fact ht q1
     simp only [argA,x1,DA.toA,q1]
     rw [if_pos (by simp),fz_map,Nat.zero_add,take_cut,List.take_of_length_le (by simp)]
     rfl
   ·cases h
  ·cases h
 ·split at h
  ·rename_i t b ha
   obtain ⟨h1,h2⟩ := argD_spec (n := n) (X := X) hY hw (γ := none) trivial ha
   exact ⟨t,b,h,h1 trivial,fun _=>h2,fun cs he=>by subst he; exact argD_notup ha⟩
  ·cases h
theorem args2D_spec (hY:DXOk Y X) (hw:WF st):∀ {xs:List Operand} {tys:List TypeId} {K:List DT → Bool → Option ρ},args2D Y st xs tys K = some r →
  ∃ ts b,K ts b = some r ∧ argsP X (stG n st.toSt) xs ∧ ((∀ x ∈ xs,factA X (stG n st.toSt) x) → argsA X (stG n st.toSt) xs tys = some (ts.map DT.toT,b)) ∧ ∀ cs us,ts ≠ .tup cs :: us
 | [],_,K,h=>⟨[],false,h,trivial,fun _=>rfl,fun _ _ e=>by cases e⟩
 | _ :: _,[],_,h=>by cases h
 | x :: xs,ty :: tys,K,h=>by
  obtain ⟨t,b,h1,h2,h3,h4⟩ := arg2D_spec (n := n) (X := X) hY hw (show arg2D Y st x ty _ = some r from h)
  obtain ⟨ts,b',k1,k2,k3,k4⟩ := args2D_spec hY hw h1
  refine ⟨t :: ts,b || b',k1,⟨h2,k2⟩,fun hf=>?_,fun cs us he=>by cases he; exact h4 _ rfl⟩
  simp only [argsA,h3 (hf x (by simp)),k3 (fun y hy=>hf y (by simp [hy])),List.map_cons]
theorem args_facts {X:Ctx} {g:Nat → A} {tmps:Array Value} {ds:List Deferred} {w:World} {c:Nat → Cnt} (hG:X.G w) (hf:Frm X.N w g tmps c):∀ {xs:List Operand},argsP X g xs → ∀ x ∈ xs,factA X g x
 | [],_,x,h=>by cases h
 | y :: ys,hp,x,h=>by
  rcases List.mem_cons.1 h with rfl | h
  ·intro r p off len ex
   refine ref_fact (ds := ds) hG hf ?_ ex
   have h1 := hp.1
   unfold argP at h1
   split at h1
   ·cases ex
   ·exact h1
  ·exact args_facts (ds := ds) hG hf hp.2 x h
theorem call2_sound (hY:DXOk Y X) (hE:EnvOk X E) (hw:WF st) {o:Oper} {f:FuncId} {xs:Array Operand} {tys:Array TypeId} {K:DA → Option ρ} (ho:o.op = .call { callee := .value (.func f),args := xs,argTypes := tys })
  (h:(args2D Y st xs.toList tys.toList fun ts b=>match E f ts with
   | some c=>tst (!b || c.bare) (c.val.bind fun v=>K (.t (c.wrap v)))
   | none=>none) = some r):Shows X n st none o K r := by
 obtain ⟨ts,b,h1,h2,h3,h4⟩ := args2D_spec (n := n) (X := X) hY hw h
 split at h1
 ·rename_i c hc
  obtain ⟨h0,h1⟩ := tst_some h1
  obtain ⟨v,hv,h1⟩ := Option.bind_eq_some_iff.1 h1
  refine ⟨.t (c.wrap v),fun _=>?_,rfl,trivial,h1⟩
  refine Good.facts (P := ∀ x ∈ xs.toList,factA X (stG n st.toSt) x) (fun tmps ds w c hG hf=>args_facts (ds := ds) hG hf h2) (fun hP=>?_)
  have hE' := hE _ _ _ hc
  unfold CallOk at hE'
  split at hE'
  ·exact absurd rfl (h4 _ _)
  ·exact absurd rfl (h4 _ _)
  ·exact absurd rfl (h4 _ _)
  ·exact absurd rfl (h4 _ _)
  ·obtain ⟨e1,e2⟩ := hE'
   refine good_callee ho h2 (h3 hP) ?_
   rcases e1 v hv with ⟨q1,q2⟩ | ⟨q0,q1⟩
   ·refine .inl ⟨q1,?_,q2⟩
    cases b with
    | false=>exact .inl rfl
    | true=>exact .inr (e2 (by simpa using h0) v)
   ·refine .inr ⟨?_,q1⟩
    rw [q0] at h0
    cases b with
    | false=>rfl
    | true=>simp at h0
 ·cases h1
theorem arg2G_spec (hY:DXOk Y X) (hw:WF st) {γ:Gam} (hγ:gOk st γ) {x:Operand} {ty:TypeId} {K:DT → Bool → Option ρ} (h:arg2G Y γ st x ty K = some r) :
  ∃ t b,K t b = some r ∧ (cP γ → argP X (stG n st.toSt) x) ∧ (cP γ → factA X (stG n st.toSt) x → argA X (stG n st.toSt) x ty = some (t.toT,b)) ∧ ∀ cs,t ≠ .tup cs := by
 unfold arg2G at h
 split at h
 ·rename_i t b ha
  obtain ⟨h1,h2⟩ := argD_spec (n := n) (X := X) hY hw hγ ha
  exact ⟨t,b,h,h1,fun _ _=>h2,fun cs he=>by subst he; exact argD_notup ha⟩
 ·split at h
  ·rename_i _ r' k v hx
   obtain ⟨x1,x2,_,_⟩ := rdD_spec (n := n) (X := X) hY hw hγ hx
   split at h
   ·rename_i e e2 t L ht
    obtain ⟨h1,h2⟩ := Gd_some h
    refine ⟨_,_,h2,fun hc=>x2 hc,fun hc _=>?_,fun _ e=>by cases e⟩
    ·have hk := h1 hc
     subst hk
     simp only [argA,x1,DA.toA,root,own2_root ht]
     rw [if_pos (by simp),el2_fz,Nat.zero_add,take_cut,List.take_of_length_le (by simp)]
     rfl
   ·cases h
  ·rename_i _ r' i k v hx
   obtain ⟨x1,x2,_,_⟩ := rdD_spec (n := n) (X := X) hY hw hγ hx
   split at h
   ·rename_i e e2 t L ht
    obtain ⟨h1,h2⟩ := Gd_some h
    refine ⟨_,_,h2,fun hc=>x2 hc,fun hc hf=>?_,fun _ e=>by cases e⟩
    have hk := h1 hc
    subst hk
    obtain ⟨e',sz,es,q1,q2⟩ := hf _ _ _ _ x1
    obtain ⟨_,rfl,rfl,rfl⟩ := el_fact ht q1
    simp only [argA,x1,DA.toA,q1]
    rw [if_pos (by simp),fz_map,Nat.zero_add,take_cut,List.take_of_length_le (by simp)]
    rfl
   ·cases h
  ·cases h
theorem args2G_spec (hY:DXOk Y X) (hw:WF st) {γ:Gam} (hγ:gOk st γ):∀ {xs:List Operand} {tys:List TypeId} {K:List DT → Bool → Option ρ},args2G Y γ st xs tys K = some r →
  ∃ ts b,K ts b = some r ∧ (cP γ → argsP X (stG n st.toSt) xs) ∧ (cP γ → (∀ x ∈ xs,factA X (stG n st.toSt) x) → argsA X (stG n st.toSt) xs tys = some (ts.map DT.toT,b)) ∧ ∀ cs us,ts ≠ .tup cs :: us
 | [],_,K,h=>⟨[],false,h,fun _=>trivial,fun _ _=>rfl,fun _ _ e=>by cases e⟩
 | _ :: _,[],_,h=>by cases h
 | x :: xs,ty :: tys,K,h=>by
  obtain ⟨t,b,h1,h2,h3,h4⟩ := arg2G_spec (n := n) (X := X) hY hw hγ (show arg2G Y γ st x ty _ = some r from h)
  obtain ⟨ts,b',k1,k2,k3,k4⟩ := args2G_spec hY hw hγ h1
  refine ⟨t :: ts,b || b',k1,fun hc=>⟨h2 hc,k2 hc⟩,fun hc hf=>?_,fun cs us he=>by cases he; exact h4 _ rfl⟩
  simp only [argsA,h3 hc (hf x (by simp)),k3 hc (fun y hy=>hf y (by simp [hy])),List.map_cons]
theorem callv2_sound (hY:DXOk Y X) (hE:EnvOk X E) (hw:WF st) {γ:Gam} (hγ:gOk st γ) {o:Oper} {k:Nat} {xs:Array Operand} {tys:Array TypeId} {K:DA → Option ρ} (ho:o.op = .call { callee := .value (.tmp k),args := xs,argTypes := tys })
  (h:callv2 Y γ st E k xs.toList tys.toList K = some r):Shows X n st γ o K r := by
 unfold callv2 at h
 split at h
 case h_2=>cases h
 rename_i v hx
 obtain ⟨ts,b,h1,h2,h3,h4⟩ := args2G_spec (n := n) (X := X) hY hw hγ h
 split at h1
 case h_2=>cases h1
 rename_i c hc
 obtain ⟨h0,h1⟩ := tst_some h1
 obtain ⟨x1,x2⟩ := rdT_spec (n := n) hY hw hγ hx
 obtain ⟨e1,e2⟩:(∀ r,c.val = some r → ∃ f,v = fnv f ∧ isFn X.P f = true ∧ APure X f (ts.map DT.toT) (c.wrap r).toT) ∧ (c.bare = true → ∀ r,(c.wrap r).toT.noSl = true) := hE _ _ _ hc
 have fin:∀ u,c.val = some u → cP γ → Good X (stG n st.toSt) o (.t (c.wrap u).toT) := by
  intro u hu hcp
  obtain ⟨f,q1,q2,q3⟩ := e1 u hu
  subst q1
  refine Good.facts (P := ∀ x ∈ xs.toList,factA X (stG n st.toSt) x) (fun tmps ds w c hG hf=>args_facts (ds := ds) hG hf (h2 hcp)) (fun hP=>?_)
  refine good_callv ho (x2 hcp) x1 q2 (h2 hcp) (h3 hcp hP) q3 ?_
  cases b with
  | false=>exact .inl rfl
  | true=>exact .inr (e2 (by simpa using h0) u)
 unfold callK at h1
 split at h1
 ·rw [Option.bind_eq_some_iff] at h1
  obtain ⟨u,hu,h1⟩ := h1
  exact ⟨.t (c.wrap u),fun hcp=>fin u hu hcp,rfl,trivial,h1⟩
 ·
  rw [Option.bind_eq_some_iff] at h1
  obtain ⟨u,hu,h1⟩ := h1
  refine ⟨.t (fzD (c.wrap u)),fun hcp=>?_,rfl,trivial,h1⟩
  have hq:(_:Bool) = true := hcp
  rw [if_pos hq] at hu
  exact fzD_good (fin u hu hcp)
theorem index2G_sound (hY:DXOk Y X) (hw:WF st) {γ:Gam} (hγ:gOk st γ) {o:Oper} {ty:TypeId} {x i:Operand} {r' k:Nat} {v:Vw} {kk:IntKind} {a:Int} {q:TypeId × TypeId × Ty × Nat} {e e2:TypeId} {t:Ty} {L:List (Bool × List t.I)} {K:DA → Option ρ} (ho:o.op = .indexAddr ty x i)
  (hx:rdD Y γ st x = some (.ref r' none 0 k v)) (hi:rdI Y γ st i = some (kk,a)) (hs:own2T Y ty = some q) (ht:st.find r' = some (.t (.own2 e e2 t L))) (h:Gd γ (0 ≤ a ∧ a < (k:Int)) (K (.eptr r' none a.toNat 0)) = some r):Shows X n st γ o K r := by
 obtain ⟨e',e2',t',b⟩ := q
 obtain ⟨z,_,h1,_,_⟩ := own2T_spec (X := X) hY hs
 obtain ⟨x1,x2,_,_⟩ := rdD_spec (n := n) (X := X) hY hw hγ hx
 obtain ⟨i1,i2,_⟩ := rdI_spec (n := n) (X := X) hY hw hγ hi
 obtain ⟨h2,h⟩ := Gd_some h
 refine ⟨.eptr r' none a.toNat 0,fun hc=>?_,rfl,trivial,h⟩
 have := good_indexAddr_ref ho (x2 hc) (i2 hc) x1 i1 (e0 := e) (es0 := L.map (el2 e2 t)) (by simp only [root,own2_root ht]) h1 (by decide) (h2 hc).1 (h2 hc).2
 rw [Nat.zero_add] at this
 exact this
theorem load2G_sound (hY:DXOk Y X) (hw:WF st) {γ:Gam} (hγ:gOk st γ) {o:Oper} {ty:TypeId} {x:Operand} {r' i sz:Nat} {t':Ty} {e e2:TypeId} {t:Ty} {L:List (Bool × List t.I)} {K:DA → Option ρ} (ho:o.op = .load ty x)
  (hx:rdD Y γ st x = some (.eptr r' none i 0)) (hT:tyT Y ty = some (.sl sz t')) (ht:st.find r' = some (.t (.own2 e e2 t L))) (h0:(decide (t' = t) && decide (sz = t.sz) && t.fine) = true)
  (h:Gd γ ((el2D L i).1 = true) (K (.ref r' (some i) 0 (el2D L i).2.length .mid)) = some r):Shows X n st γ o K r := by
 simp only [Bool.and_eq_true,decide_eq_true_eq] at h0
 obtain ⟨⟨rfl,rfl⟩,hf⟩ := h0
 obtain ⟨x1,x2,_,_⟩ := rdD_spec (n := n) (X := X) hY hw hγ hx
 have hrow := tyT_row (X := X) hY hT (show (Ty.sl t'.sz t').fine = true from hf)
 have hget:i < L.length → L[i]? = some (el2D L i) := fun hi=>by unfold el2D; rw [List.getD_eq_getElem?_getD,List.getElem?_eq_getElem hi]; rfl
 obtain ⟨h1,h⟩ := Gd_some h
 refine ⟨.ref r' (some i) 0 (el2D L i).2.length .mid,fun hc=>Good.facts (P := i < L.length) (fun tmps ds w c hG hf=>by
  obtain ⟨e',s,es,q1,q2⟩ := eptr_fact (ds := ds) hG hf (x2 hc) x1
  simp only [root,own2_root ht] at q1
  cases q1
  rwa [List.length_map] at q2) (fun hi=>?_),rfl,.inl rfl,h⟩
 have := good_load_own ho (x2 hc) x1 (own2_root ht) (el2_cells e2 _ L) (es2 := (el2D L i).2.map (Ty.enc t')) (e2 := e2) (sz2 := t'.sz) (by
  rw [List.getElem?_map,hget hi]
  simp only [Option.map_some,el2]
  rw [h1 hc]) hrow
 rw [List.length_map] at this
 exact this
theorem loc2G_sound (hY:DXOk Y X) (hE:EnvOk X E) (hw:WF st) {γ:Gam} (hγ:gOk st γ) {o:Oper} {K:DA → Option ρ} (h:loc2G Y st γ E o K = some r):Shows X n st γ o K r := by
 unfold loc2G at h
 split at h
 ·exact locD_sound (n := n) hY hE hw hγ h
 split at h
 case h_5=>exact locD_sound (n := n) hY hE hw hγ h
 case h_2 =>
  rename_i k xs tys ho
  split at h
  ·exact locD_sound (n := n) hY hE hw hγ h
  ·exact callv2_sound hY hE hw hγ ho h
 case h_3 =>
  rename_i ty x i ho
  split at h
  ·split at h
   ·rename_i r' k v kk a q hx hi hs
    split at h
    ·rename_i e e2 t L ht; exact index2G_sound hY hw hγ ho hx hi hs ht h
    ·cases h
   ·cases h
  ·exact locD_sound (n := n) hY hE hw hγ h
 case h_4 =>
  rename_i ty x ho
  split at h
  ·split at h
   ·rename_i r' i sz t' hx hT
    split at h
    ·rename_i e e2 t L ht
     obtain ⟨h0,h⟩ := tst_some h
     exact load2G_sound hY hw hγ ho hx hT ht h0 h
    ·cases h
   ·cases h
  ·exact locD_sound (n := n) hY hE hw hγ h
 rename_i f xs tys ho
 split at h
 ·exact locD_sound (n := n) hY hE hw hγ h
 obtain ⟨ts,b,h1,h2,h3,h4⟩ := args2G_spec (n := n) (X := X) hY hw hγ h
 split at h1
 case h_2=>cases h1
 rename_i c hc
 obtain ⟨h0,h1⟩ := tst_some h1
 have hE' := hE _ _ _ hc
 unfold CallOk at hE'
 split at hE'
 ·exact absurd rfl (h4 _ _)
 ·exact absurd rfl (h4 _ _)
 ·exact absurd rfl (h4 _ _)
 ·exact absurd rfl (h4 _ _)
 obtain ⟨e1,e2⟩ := hE'
 have fin:∀ v,c.val = some v → cP γ → Good X (stG n st.toSt) o (.t (c.wrap v).toT) := by
  intro v hv hcp
  refine Good.facts (P := ∀ x ∈ xs.toList,factA X (stG n st.toSt) x) (fun tmps ds w c hG hf=>args_facts (ds := ds) hG hf (h2 hcp)) (fun hP=>?_)
  refine good_callee ho (h2 hcp) (h3 hcp hP) ?_
  rcases e1 v hv with ⟨q1,q2⟩ | ⟨q0,q1⟩
  ·refine .inl ⟨q1,?_,q2⟩
   cases b with
   | false=>exact .inl rfl
   | true=>exact .inr (e2 (by simpa using h0) v)
  ·refine .inr ⟨?_,q1⟩
   rw [q0] at h0
   cases b with
   | false=>rfl
   | true=>simp at h0
 unfold callK at h1
 split at h1
 ·rw [Option.bind_eq_some_iff] at h1
  obtain ⟨v,hv,h1⟩ := h1
  exact ⟨.t (c.wrap v),fun hcp=>fin v hv hcp,rfl,trivial,h1⟩
 ·rename_i q _ _
  rw [Option.bind_eq_some_iff] at h1
  obtain ⟨v,hv,h1⟩ := h1
  refine ⟨.t (fzD (c.wrap v)),fun hcp=>?_,rfl,trivial,h1⟩
  have hq:q = true := hcp
  rw [if_pos hq] at hv
  exact fzD_good (fin v hv hcp)
theorem castL_some {a b:Ty} {L:List (Bool × List a.I)} {L':List (Bool × List b.I)} (h:castL L = some L'):∃ e:a = b,e ▸ L = L' := by
 obtain ⟨q0,q1⟩ := castT_some h
 injection q0 with _ q0
 injection q0 with _ q0
 injection q0 with _ q0
 subst q0
 exact ⟨rfl,q1⟩
theorem nil2_sound (hY:DXOk Y X) (hw:WF st) {o:Oper} {d:Nat} {e e2:TypeId} {t:Ty} {b:Nat} {K:DSt → Option ρ} (ho:o.op = .assign (.const (.slice none 0 0))) (hd:o.dst = some d) (hs:own2T Y o.type = some (e,e2,t,b)) (h:put2 n Z st d (.t (.own2 e e2 t [])) K = some r) :
  ∃ st',Step X n Z (stG n st.toSt) o (stG n st'.toSt) ∧ WF st' ∧ K st' = some r := by
 obtain ⟨z,_,h1,_,_⟩ := own2T_spec (X := X) hY hs
 exact put2_good hw hd h rfl trivial (good_nil (.inl ho) h1)
theorem build20_sound (hY:DXOk Y X) (hw:WF st) {o:Oper} {d:Nat} {ty e e2:TypeId} {t:Ty} {b m:Nat} {K:DSt → Option ρ} (ho:o.op = .buildSlice ty m ⟨[]⟩) (hd:o.dst = some d) (hs:own2T Y ty = some (e,e2,t,b)) (hm:Nat.beq m 0 = true) (h:put2 n Z st d (.t (.own2 e e2 t [])) K = some r) :
  ∃ st',Step X n Z (stG n st.toSt) o (stG n st'.toSt) ∧ WF st' ∧ K st' = some r := by
 obtain ⟨z,h0,h1,_,_⟩ := own2T_spec (X := X) hY hs
 have hm := Nat.eq_of_beq_eq_true hm
 subst hm
 obtain ⟨a,q1,q2,q3,q4⟩ := buildSlice_sound (X := X) (n := n) (st := st) (γ := none) (K := fun a=>some a) (r := .t (.own e (.sl t.sz t) [])) (l := []) hY hw trivial ho h0 rfl (by simp [Nat.zero_mul,Nat.ble]) rfl
 cases q4
 exact put2_good hw hd h rfl trivial (q1 trivial)
theorem index2_sound (hY:DXOk Y X) (hw:WF st) {o:Oper} {ty:TypeId} {x i:Operand} {r' k:Nat} {v:Vw} {kk:IntKind} {a:Int} {q:TypeId × TypeId × Ty × Nat} {e e2:TypeId} {t:Ty} {L:List (Bool × List t.I)} {K:DA → Option ρ} (ho:o.op = .indexAddr ty x i)
  (hx:rdD Y none st x = some (.ref r' none 0 k v)) (hi:rdI Y none st i = some (kk,a)) (hs:own2T Y ty = some q) (ht:st.find r' = some (.t (.own2 e e2 t L))) (h:G (0 ≤ a ∧ a < (k:Int)) (K (.eptr r' none a.toNat 0)) = some r):Shows X n st none o K r := by
 obtain ⟨e',e2',t',b⟩ := q
 obtain ⟨z,_,h1,_,_⟩ := own2T_spec (X := X) hY hs
 obtain ⟨x1,x2,_,_⟩ := rdD_spec (n := n) (X := X) hY hw (γ := none) trivial hx
 obtain ⟨i1,i2,_⟩ := rdI_spec (n := n) (X := X) hY hw (γ := none) trivial hi
 obtain ⟨h2,h⟩ := G_some h
 have := good_indexAddr_ref ho (x2 trivial) (i2 trivial) x1 i1 (e0 := e) (es0 := L.map (el2 e2 t)) (by simp only [root,own2_root ht]) h1 (by decide) h2.1 h2.2
 rw [Nat.zero_add] at this
 exact ⟨.eptr r' none a.toNat 0,fun _=>this,rfl,trivial,h⟩
theorem load2_sound (hY:DXOk Y X) (hw:WF st) {o:Oper} {q0:Bool} {ty:TypeId} {x:Operand} {r' i sz:Nat} {t':Ty} {e e2:TypeId} {t:Ty} {L:List (Bool × List t.I)} {K:DA → Option ρ} (ho:o.op = .load ty x)
  (hx:rdD Y none st x = some (.eptr r' none i 0)) (hT:tyT Y ty = some (.sl sz t')) (ht:st.find r' = some (.t (.own2 e e2 t L))) (h0:(decide (t' = t) && decide (sz = t.sz) && t.fine) = true)
  (h:(match q0 with
   | true=>G ((el2D L i).1 = true) (K (.ref r' (some i) 0 (el2D L i).2.length .mid))
   | false=>G ((el2D L i).1 = false) (K (.t (.s (.sl t.sz t) (el2D L i).2)))) = some r):Shows X n st none o K r := by
 simp only [Bool.and_eq_true,decide_eq_true_eq] at h0
 obtain ⟨⟨rfl,rfl⟩,hf⟩ := h0
 obtain ⟨x1,x2,_,_⟩ := rdD_spec (n := n) (X := X) hY hw (γ := none) trivial hx
 have hrow := tyT_row (X := X) hY hT (show (Ty.sl t'.sz t').fine = true from hf)
 have key:∀ {a:DA},(i < L.length → Good X (stG n st.toSt) o a.toA) → Good X (stG n st.toSt) o a.toA := fun hk=>Good.facts (P := i < L.length) (fun tmps ds w c hG hf=>by
  obtain ⟨e',s,es,q1,q2⟩ := eptr_fact (ds := ds) hG hf (x2 trivial) x1
  simp only [root,own2_root ht] at q1
  cases q1
  rwa [List.length_map] at q2) hk
 have hget:i < L.length → L[i]? = some (el2D L i) := fun hi=>by unfold el2D; rw [List.getD_eq_getElem?_getD,List.getElem?_eq_getElem hi]; rfl
 split at h
 ·obtain ⟨h1,h⟩ := G_some h
  refine ⟨.ref r' (some i) 0 (el2D L i).2.length .mid,fun _=>key fun hi=>?_,rfl,.inl rfl,h⟩
  have := good_load_own ho (x2 trivial) x1 (own2_root ht) (el2_cells e2 _ L) (es2 := (el2D L i).2.map (Ty.enc t')) (e2 := e2) (sz2 := t'.sz) (by
   rw [List.getElem?_map,hget hi]
   simp only [Option.map_some,el2]
   rw [h1]) hrow
  rw [List.length_map] at this
  exact this
 ·obtain ⟨h1,h⟩ := G_some h
  refine ⟨.t (.s (.sl t'.sz t') (el2D L i).2),fun _=>key fun hi=>?_,rfl,trivial,h⟩
  refine good_load (cs := []) ho (x2 trivial) ?_ hrow (enc_flat _ _)
  rw [x1]
  simp only [DA.toA,cellsAt,root,own2_root ht]
  have:(L.map (el2 e2 t')).getD i .u = .sl t'.sz ((el2D L i).2.map t'.enc) := by
   rw [List.getD_eq_getElem?_getD,List.getElem?_map,hget hi]
   simp only [Option.map_some,Option.getD_some,el2]
   rw [h1]
  rw [this]; rfl
theorem spend2_sound (hY:DXOk Y X) (hE:EnvOk X E) (hw:WF st) {o:Oper} {f:FuncId} {x:Operand} {tys:Array TypeId} {d r' i k:Nat} {v0:Vw} {e e2:TypeId} {t:Ty} {L:List (Bool × List t.I)} {c:CallRes} {v:c.α} {l2:List t.I} {K:DSt → Option ρ}
  (ho:o.op = .call { callee := .value (.func f),args := ⟨[x]⟩,argTypes := tys }) (hd:o.dst = some d) (hx:rdD Y none st x = some (.ref r' (some i) 0 k v0)) (ht:st.find r' = some (.t (.own2 e e2 t L))) (hc:E f [.tup [.own e2 t (el2D L i).2]] = some c)
  (h0:(dstD n Z st d && !Nat.beq d r' && noRef st r' && noOpt st) = true) (hk:k = (el2D L i).2.length) (hv:c.val = some v) (hwr:c.wrap v = .own e2 t l2) (h:put2 n Z ((st.mapA (killD r' none)).put r' (.t (.own2 e e2 t (L.set i (true,l2))))) d (.t (.tup [])) K = some r) :
  ∃ st',Step X n Z (stG n st.toSt) o (stG n st'.toSt) ∧ WF st' ∧ K st' = some r := by
 simp only [Bool.and_eq_true,Bool.not_eq_true'] at h0
 obtain ⟨⟨⟨h1,h2⟩,h3⟩,hno0⟩ := h0
 have hds:d ≠ r' := by rintro rfl; rw [Nat.beq_refl] at h2; cases h2
 obtain ⟨k1,k2,k3⟩ := dstD_spec h1
 obtain ⟨x1,x2,_,_⟩ := rdD_spec (n := n) (X := X) hY hw (γ := none) trivial hx
 obtain ⟨a1,a2,a3⟩ := hE _ _ _ hc v hv l2 hwr
 obtain ⟨p1,p2,p3⟩ := put2_spec (kill2_wf hw ht h3 none _) h rfl trivial
 refine ⟨_,?_,p2,p3⟩
 have hx0:(DT.own2 e e2 t (L.set i (true,l2))).toT = putT (T.own e 1 (L.map (el2 e2 t))) (some i) (.own e2 t.sz (l2.map t.enc)) := by simp only [DT.toT,putT,List.map_set]; rfl
 refine Step.post (g1 := upd (turned (stG n st.toSt) r' (some i) (T.own e 1 (L.map (el2 e2 t))) (.own e2 t.sz (l2.map t.enc))) d (.t (.tup []))) ?_ (fun D gc v0 w0 tmps w hI=>hI.less ?_)
 rotate_left
 ·rw [put_toSt,stG_put,kill_toSt r' none (T.own e 1 (L.map (el2 e2 t))) _ _ rfl,hx0]
  refine kill_less (i := i) (r' := r') (d := d) (g0 := stG n st.toSt) ?_ ?_ ?_ ?_ ?_ hI
  ·intro j q a hj
   rw [stG_toSt] at hj
   cases hq:st.find j with
   | none=>rw [hq] at hj; simp only at hj; split at hj <;> cases hj
   | some b =>
    rw [hq] at hj
    have := noOpt_spec hno0 hq
    cases b with
    | opt=>cases this
    | _=>cases hj
  ·intro j h1 h2; rw [upd_ne _ _ h1]; unfold turned turnedK; rw [upd_ne _ _ h2]
  ·intro j h1 h2; rw [upd_ne _ _ h1]; unfold turned turnedK; rw [upd_ne _ _ h2]
  ·rw [upd_same,upd_same]; exact ⟨rfl,rfl⟩
  ·rw [upd_ne _ _ (fun e=>hds e.symm),upd_ne _ _ (fun e=>hds e.symm)]; unfold turned turnedK; rw [upd_same,upd_same]; exact ⟨rfl,rfl⟩
 refine Step.facts (P := ∃ e' sz es,root (stG n st.toSt) r' (some i) = some (.own e' sz es)) (fun tmps ds w c hG hf=>by
  obtain ⟨e',sz,es,q1,_⟩ := ref_fact (ds := ds) hG hf (x2 trivial) x1
  exact ⟨e',sz,es,q1⟩) (fun ⟨e',sz,es,q1⟩=>?_)
 obtain ⟨_,rfl,rfl,rfl⟩ := el_fact ht q1
 exact step_spend (es := (el2D L i).2.map t.enc) (es' := l2.map t.enc) ho hd ⟨k1.1,k1.2.1⟩ hds k1.2.2 (x2 trivial) (by rw [x1,List.length_map,← hk]; rfl) (own2_root ht) q1 a1 a2 (flat_list t _) (noSl_list0 t a3 l2) (fun w F v c h=>by
  cases h with
  | tup _ vs _ hl=>generalize vs.toList = l at hl; cases hl; assumption) rfl
theorem build21_sound (hY:DXOk Y X) (hw:WF st) {o:Oper} {d:Nat} {ty e e2:TypeId} {t:Ty} {b r' len:Nat} {x:Operand} {l:List t.I} {K:DSt → Option ρ} (ho:o.op = .buildSlice ty 1 ⟨[(0,x)]⟩) (hd:o.dst = some d) (hs:own2T Y ty = some (e,e2,t,b))
  (hx:rdD Y none st x = some (.ref r' none 0 len .all)) (ht:st.find r' = some (.t (.own e2 t l))) (h0:dstD n Z st d = true) (hne:Nat.beq d r' = false) (hn:noRef st r' = true) (h:put2 n Z ((st.mapA (killD r' none)).put r' (.t .u)) d (.t (.own2 e e2 t [(true,l)])) K = some r) :
  ∃ st',Step X n Z (stG n st.toSt) o (stG n st'.toSt) ∧ WF st' ∧ K st' = some r := by
 have hds:d ≠ r' := by rintro rfl; rw [Nat.beq_refl] at hne; cases hne
 obtain ⟨k1,k2,k3⟩ := dstD_spec h0
 obtain ⟨z,_,h1,_,h2⟩ := own2T_spec (X := X) hY hs
 obtain ⟨x1,x2,_,x4⟩ := rdD_spec (n := n) (X := X) hY hw (γ := none) trivial hx
 obtain ⟨_,q2⟩ := viewOk_vw x4 (e := e2) (t := t) (l := l) (by simp only [rootD,ht])
 subst q2
 obtain ⟨p1,p2,p3⟩ := put2_spec (shrink_wf hw ht hn) h rfl trivial
 refine ⟨_,?_,p2,p3⟩
 rw [put_toSt,stG_put,kill_toSt r' none (T.own e2 t.sz (l.map t.enc)) .u .u rfl]
 exact step_build_own (es := l.map t.enc) ho hd ⟨k1.1,k1.2.1⟩ hds k1.2.2 (x2 trivial) (by rw [x1,List.length_map]; rfl) (by rw [stG_toSt,ht]; rfl) h1 h2
theorem append2_sound (hY:DXOk Y X) (hw:WF st) {o:Oper} {d:Nat} {x y:Operand} {ty e e2 e' e4:TypeId} {t t3:Ty} {b r1 r2 k k2:Nat} {v v2:Vw} {L L2:List (Bool × List t.I)} {K:DSt → Option ρ} (ho:o.op = .call { callee := .builtin .append,args := ⟨[x,y]⟩,argTypes := ⟨[ty,ty]⟩ }) (hd:o.dst = some d) (hs:own2T Y ty = some (e,e4,t3,b))
  (hx:rdD Y none st x = some (.ref r1 none 0 k v)) (hy:rdD Y none st y = some (.ref r2 none 0 k2 v2)) (ht:st.find r1 = some (.t (.own2 e e2 t L))) (ht2:st.find r2 = some (.t (.own2 e' e2 t L2))) (h0:dstD n Z st d = true) (hd1:Nat.beq d r1 = false) (hd2:Nat.beq d r2 = false) (h12:Nat.beq r2 r1 = false) (hat:atNone d st = true)
  (hn:noRef st r1 = true) (hn2:noRef ((st.mapA (killD r1 none)).put r1 (.t .u)) r2 = true) (hk:k = L.length) (hk2:k2 = L2.length) (hb:(L.length + L2.length) * b ≤ 140737488355328)
  (h:put2 n Z ((((st.mapA (killD r1 none)).put r1 (.t .u)).mapA (killD r2 none)).put r2 (.t .u)) d (.t (.own2 e e2 t (L ++ L2))) K = some r) :
  ∃ st',Step X n Z (stG n st.toSt) o (stG n st'.toSt) ∧ WF st' ∧ K st' = some r := by
 have ne:∀ {a b:Nat},Nat.beq a b = false → a ≠ b := fun h e=>by subst e; rw [Nat.beq_refl] at h; cases h
 obtain ⟨k1,_,_⟩ := dstD_spec h0
 obtain ⟨z,_,h1,hby,hz⟩ := own2T_spec (X := X) hY hs
 obtain ⟨x1,x2,_,_⟩ := rdD_spec (n := n) (X := X) hY hw (γ := none) trivial hx
 obtain ⟨y1,y2,_,_⟩ := rdD_spec (n := n) (X := X) hY hw (γ := none) trivial hy
 subst hk; subst hk2
 have w1 := kill2_wf hw ht hn none .u
 have hf2:((st.mapA (killD r1 none)).put r1 (.t .u)).find r2 = some (.t (.own2 e' e2 t L2)) := by rw [find_dput,if_neg (ne h12),find_dmap,ht2]; rfl
 obtain ⟨p1,p2,p3⟩ := put2_spec (kill2_wf w1 hf2 hn2 none .u) h rfl trivial
 refine ⟨_,?_,p2,p3⟩
 rw [put_toSt,stG_put,kill_toSt r2 none (T.own e' 1 (L2.map (el2 e2 t))) .u .u rfl,kill_toSt r1 none (T.own e 1 (L.map (el2 e2 t))) .u .u rfl]
 have := step_append_own (X := X) (n := n) (Z := Z) (es := L.map (el2 e2 t)) (news := L2.map (el2 e2 t)) (k := L.length) ho hd ⟨k1.1,k1.2.1⟩ (ne hd1) (ne hd2) (ne h12) k1.2.2 (fun i _=>atNone_spec hat i) (x2 trivial) (y2 trivial) x1 (own2_root ht) (by simp only [root,own2_root ht]) (by rw [y1,List.length_map]; rfl) (own2_root ht2) h1 hz (by rw [List.length_map]; exact hb) hby
 rw [List.take_of_length_le (by rw [List.length_map]; exact Nat.le_refl _),← List.map_append] at this
 exact this
theorem move2_sound (hY:DXOk Y X) (hw:WF st) {o:Oper} {d s r' k:Nat} {v:Vw} {e e2:TypeId} {t:Ty} {L:List (Bool × List t.I)} {K:DSt → Option ρ} (ho:o.op = .assign (.tmp s)) (hd:o.dst = some d) (hs:st.find s = some (.ref r' none 0 k v)) (ht:st.find r' = some (.t (.own2 e e2 t L)))
  (h0:dstD n Z st d = true) (hne:Nat.beq d r' = false) (hk:k = L.length) (h1:dstD n Z (st.put d (.ref r' none 0 L.length .mid)) d = true) (h:K (moveDS (st.put d (.ref r' none 0 L.length .mid)) r' d (.own2 e e2 t L)) = some r) :
  ∃ st',Step X n Z (stG n st.toSt) o (stG n st'.toSt) ∧ WF st' ∧ K st' = some r := by
 subst hk
 have hds:d ≠ r' := by rintro rfl; rw [Nat.beq_refl] at hne; cases hne
 obtain ⟨k1,k2,k3⟩ := dstD_spec h0
 have hx:rdD Y none st (.tmp s) = some (.ref r' none 0 L.length v) := by simp only [rdD,dev,hs]
 obtain ⟨x1,x2,_,_⟩ := rdD_spec (n := n) (X := X) hY hw (γ := none) trivial hx
 have hw1:WF (st.put d (.ref r' none 0 L.length .mid)) := hw.put k2 k3 (.inl rfl) rfl
 have hf1:(st.put d (.ref r' none 0 L.length .mid)).find r' = some (.t (.own2 e e2 t L)) := by rw [find_dput,if_neg (fun e=>hds e.symm)]; exact ht
 refine ⟨_,?_,?_,h⟩
 ·have hg := good_move (.inr ho) (x2 trivial)
  rw [x1] at hg
  have hst := hg.step (n := n) (Z := Z) (toA_ne_ghost (.ref r' none 0 L.length v)) hd ⟨k1.1,k1.2.1⟩ k1.2.2
  refine hst.post (fun D gc v0 w0 tmps w hI=>?_)
  rw [moveDS_toSt,stG_moveSt]
  have e1:upd (stG n st.toSt) d (DA.ref r' none 0 L.length v).toA = stG n (st.put d (.ref r' none 0 L.length .mid)).toSt := by rw [put_toSt,stG_put]; rfl
  rw [e1] at hI
  exact hI.swap (d := d) (s := r') (e := e) (sz := 1) (es := L.map (el2 e2 t)) k1.1 (own2_root hf1) (by rw [stG_toSt,find_dput,if_pos rfl]; simp only [DA.toA,List.length_map])
 ·obtain ⟨st2,_,hw2,hk⟩ := moveD_sound (X := X) (n := n) (Z := Z) (K := fun s'=>some s') hw1 (o := { dst := some d,op := .assign (.tmp r'),type := 0,pos := default,after := #[],guard := none }) (s := r') (x := .own2 e e2 t L) (.inl rfl) hf1 (by
   show tst (dstD n Z _ d && !Nat.beq d r') (some _) = some _
   rw [h1,hne]; rfl)
  cases hk; exact hw2
theorem nilFs_cons (is:List Nat) (k:Nat) (t:Ty) (fs:List Ty):(nilFs is k (t :: fs) = t :: nilFs is (k + 1) fs) ∨ (∃ sz t',t = .sl sz t' ∧ memN is k = false ∧ nilFs is k (t :: fs) = .opq :: nilFs is (k + 1) fs) := by
 simp only [nilFs]
 split
 ·rename_i sz t' h
  exact .inr ⟨sz,t',rfl,h,rfl⟩
 ·exact .inl rfl
theorem nilFs_get (is:List Nat):∀ (fs:List Ty) (k i:Nat) (t:Ty),(rowOf fs).fine = true → memN is (k + i) = true → (nilFs is k fs)[i]? = some t → t.fine = true
 | [],k,i,t,hf,hm,h=>by simp [nilFs] at h
 | u :: fs,k,i,t,hf,hm,h=>by
  simp only [rowOf,Ty.fine,Bool.and_eq_true] at hf
  rcases nilFs_cons is k u fs with e | ⟨sz,t',e1,e2,e⟩
  ·rw [e] at h
   cases i with
   | zero=>simp at h; subst h; exact hf.1
   | succ i =>
    simp only [List.getElem?_cons_succ] at h
    exact nilFs_get is fs (k + 1) i t hf.2 (by rw [← hm]; congr 1; omega) h
  ·rw [e] at h
   cases i with
   | zero=>rw [Nat.add_zero,e2] at hm; cases hm
   | succ i =>
    simp only [List.getElem?_cons_succ] at h
    exact nilFs_get is fs (k + 1) i t hf.2 (by rw [← hm]; congr 1; omega) h
theorem nilFs_places (is:List Nat):∀ (fs:List Ty) (k o:Nat),places o (nilFs is k fs) = places o fs
 | [],k,o=>rfl
 | u :: fs,k,o=>by
  rcases nilFs_cons is k u fs with e | ⟨sz,t',e1,e2,e⟩
  ·rw [e]; simp only [places,nilFs_places is fs]
  ·rw [e]; subst e1; simp only [places,nilFs_places is fs]; rfl
theorem zeroR_le (is:List Nat):∀ (fs:List Ty) (k:Nat),(rowOf fs).fine = true → LLe ((zcells (rowOf fs)).map .v) ((rowOf (nilFs is k fs)).cells (zeroR (nilFs is k fs)))
 | [],k,_=>.nil
 | u :: fs,k,hf=>by
  simp only [rowOf,Ty.fine,Bool.and_eq_true] at hf
  rcases nilFs_cons is k u fs with e | ⟨sz,t',e1,e2,e⟩
  ·rw [e]
   have h1 := zcells_le u hf.1
   have h2 := zeroR_le is fs (k + 1) hf.2
   have h3:zeroR (u :: nilFs is (k + 1) fs) = (u.dflt,zeroR (nilFs is (k + 1) fs)) := by
    cases u <;> first | rfl | cases hf.1
   rw [h3]
   simp only [rowOf,zcells,Ty.cells,List.map_append]
   exact h1.append h2
  ·rw [e]; subst e1
   exact .cons TLe.rfl (zeroR_le is fs (k + 1) hf.2)
theorem build2_sound (hY:DXOk Y X) (hw:WF st) {o:Oper} {K:DA → Option ρ} {ty:TypeId} {ps:Array (Nat × Operand)} {d:TD} {x:(rowOf (nilFs (ps.toList.map (·.1)) 0 d.fs)).I} (ho:o.op = .build ty ps) (hd:look Y.tab ty = some d)
  (hb:buildGo Y none st (nilFs (ps.toList.map (·.1)) 0 d.fs) ps.toList (zeroR (nilFs (ps.toList.map (·.1)) 0 d.fs)) = some x) (h0:(d.ty.fine && !d.fs.isEmpty) = true) (h:K (.t (.s (rowOf (nilFs (ps.toList.map (·.1)) 0 d.fs)) x)) = some r):Shows X n st none o K r := by
 simp only [Bool.and_eq_true,Bool.not_eq_true'] at h0
 have hne:d.fs ≠ [] := by
  intro e; rw [e] at h0; cases h0.2
 have hk := hY.td hd
 have hf := h0.1
 have hty:d.ty = rowOf d.fs := hk.rowT.resolve_left hne
 have hlay := hk.lay.resolve_left hne
 rw [hty] at hf hlay
 obtain ⟨k1,ts,k2,k3⟩ := buildGo2_spec (n := n) hY hw (by trivial) _ _ _ (fun p hp t ht=>nilFs_get _ d.fs 0 p.1 t hf (by rw [Nat.zero_add,memN_spec]; exact List.mem_map_of_mem hp) ht) hb
 obtain ⟨cs,q1,q2⟩ := k3 _ (zeroR_le _ d.fs 0 hf)
 rw [nilFs_places] at q1
 refine ⟨.t (.s (rowOf (nilFs (ps.toList.map (·.1)) 0 d.fs)) x),fun hc=>?_,rfl,trivial,h⟩
 have := good_build ho (k1 hc) k2 hlay (zcells_one _ hf) q1
 have hx:(DT.s (rowOf (nilFs (ps.toList.map (·.1)) 0 d.fs)) x).toT = .ag ((rowOf (nilFs (ps.toList.map (·.1)) 0 d.fs)).cells x) := enc_row _ _ (rowOf_row _)
 simp only [DA.toA]
 rw [hx]
 exact this.le (TLe.ag q2)
theorem loc2D_sound (hY:DXOk Y X) (hE:EnvOk X E) (hw:WF st) {o:Oper} {K:DA → Option ρ} (h:loc2D Y st E o K = some r):Shows X n st none o K r := by
 unfold loc2D at h
 split at h
 ·rename_i ty x i ho
  split at h
  ·rename_i r' k v kk a q hx hi hs
   split at h
   ·rename_i e e2 t L ht; exact index2_sound hY hw ho hx hi hs ht h
   ·cases h
  ·cases h
 ·rename_i ty x ho
  split at h
  ·rename_i r' i sz t' hx hT
   split at h
   ·rename_i e e2 t L ht
    obtain ⟨h0,h⟩ := tst_some h
    exact load2_sound hY hw ho hx hT ht h0 h
   ·cases h
  ·cases h
 ·rename_i f xs tys ho; exact call2_sound hY hE hw ho h
 ·rename_i k xs tys ho; exact callv2_sound (γ := none) hY hE hw trivial ho h
 ·rename_i ty ps ho
  split at h
  ·rename_i d hd
   split at h
   ·rename_i x hb
    obtain ⟨h0,h⟩ := tst_some h
    exact build2_sound hY hw ho hd hb h0 h
   ·cases h
  ·cases h
 ·cases h
theorem put2_shows (hw:WF st) {o:Oper} {d:Nat} {K:DSt → Option ρ} (hd:o.dst = some d) (h:Shows X n st none o (fun a=>put2 n Z st d a K) r):∃ st',Step X n Z (stG n st.toSt) o (stG n st'.toSt) ∧ WF st' ∧ K st' = some r := by
 obtain ⟨a,h1,h2,h3,h4⟩ := h
 exact put2_good hw hd h4 h2 h3 (h1 trivial)
theorem killn_wf (hw:WF st) {d:Nat} {x:DT} (hn:noRef st d = true):WF ((st.mapA (killD d none)).put d (.t x)) := by
 have hfind:∀ k,((st.mapA (killD d none)).put d (.t x)).find k = if k = d then some (.t x) else (st.find k).map (killD d none) := fun k=>by
  rw [find_dput,find_dmap]
 have hroot:∀ {r2:Nat} {q:Option Nat} {e2:TypeId} {t2:Ty} {l2:List t2.I},r2 ≠ d → rootD st r2 q = some (.own e2 t2 l2) → rootD ((st.mapA (killD d none)).put d (.t x)) r2 q = some (.own e2 t2 l2) := by
  intro r2 q e2 t2 l2 h h2
  cases q with
  | none =>
   simp only [rootD,hfind,if_neg h] at h2 ⊢
   split at h2
   ·rename_i y hy; rw [hy]; exact h2
   ·cases h2
  | some j =>
   simp only [rootD,hfind,if_neg h] at h2 ⊢
   split at h2
   ·rename_i e3 cs hy; rw [hy]; exact h2
   ·cases h2
 have hview:∀ a,viewOk st a → viewOk ((st.mapA (killD d none)).put d (.t x)) (killD d none a) := by
  intro a ha
  cases a with
  | ref r2 q off len v =>
   simp only [killD]
   cases hk:killQ d none r2 q with
   | true=>trivial
   | false =>
    have hne:r2 ≠ d := by rintro rfl; rw [killQ_spec.2 ⟨rfl,.inl rfl⟩] at hk; cases hk
    rcases ha with ha | ⟨e2,t2,l2,q1,q2⟩
    ·exact .inl ha
    ·exact .inr ⟨e2,t2,l2,hroot hne q1,q2⟩
  | eptr r2 q i j=>simp only [killD]; cases killQ d none r2 q <;> trivial
  | pref r2 q off=>simp only [killD]; cases killQ d none r2 q <;> trivial
  | _=>trivial
 intro k y hy
 rw [hfind] at hy
 by_cases hkd:k = d
 ·rw [if_pos hkd] at hy; cases hy; trivial
 ·rw [if_neg hkd] at hy
  cases hq:st.find k with
  | none=>rw [hq] at hy; cases hy
  | some a =>
   rw [hq] at hy
   simp only [Option.map_some,Option.some.injEq] at hy
   subst hy
   have hwf := hw k a hq
   cases a with
   | opt d' w b a' =>
    have hd':d' ≠ d := noRef_spec hn hq
    refine ⟨fun b' hb'=>hwf.1 b' ?_,?_,hview a' hwf.2.2⟩
    ·unfold gB at hb' ⊢
     rw [hfind,if_neg hd'] at hb'
     cases hqq:st.find d' with
     | none=>rw [hqq] at hb'; exact hb'
     | some a2 =>
      rw [hqq] at hb'
      simp only [Option.map_some] at hb'
      cases a2 with
      | t=>exact hb'
      | opt d2 w2 b2 a3 =>
       simp only [killD] at hb'
       cases a3 with
       | t=>exact hb'
       | ref r2 q _ _ _=>simp only [killD] at hb'; cases hk:killQ d none r2 q <;> rw [hk] at hb' <;> exact hb'
       | eptr r2 q _ _=>simp only [killD] at hb'; cases hk:killQ d none r2 q <;> rw [hk] at hb' <;> exact hb'
       | pref r2 q _=>simp only [killD] at hb'; cases hk:killQ d none r2 q <;> rw [hk] at hb' <;> exact hb'
       | _=>exact hb'
      | ref r2 q _ _ _=>simp only [killD] at hb'; cases hk:killQ d none r2 q <;> rw [hk] at hb' <;> exact hb'
      | eptr r2 q _ _=>simp only [killD] at hb'; cases hk:killQ d none r2 q <;> rw [hk] at hb' <;> exact hb'
      | pref r2 q _=>simp only [killD] at hb'; cases hk:killQ d none r2 q <;> rw [hk] at hb' <;> exact hb'
      | _=>exact hb'
    ·have := hwf.2.1
     cases a' <;> simp only [killD] <;> first | exact this | (split <;> first | exact this | rfl)
   | ref r2 q off len v=>exact slotWF_of (by simp only [killD]; split <;> rfl) (hview _ hwf)
   | eptr r2 q i j=>exact slotWF_of (by simp only [killD]; split <;> rfl) (hview _ trivial)
   | pref r2 q i=>exact slotWF_of (by simp only [killD]; split <;> rfl) (hview _ trivial)
   | _=>trivial
theorem ownW_some {x:Operand} {K:Option ρ} (h:ownW Y st x K = some r):K = some r ∧ ∀ (r2 k:Nat) (v:Vw) (e e2:TypeId) (t:Ty) (L:List (Bool × List t.I)),rdD Y none st x = some (.ref r2 none 0 k v) → st.find r2 = some (.t (.own2 e e2 t L)) → k = L.length := by
 unfold ownW at h
 split at h
 ·rename_i r3 k3 v3 hx
  split at h
  ·rename_i e e2 t L ht
   obtain ⟨h1,h2⟩ := G_some h
   refine ⟨h2,fun r2 k v e' e2' t' L' h3 h4=>?_⟩
   rw [hx] at h3; cases h3
   rw [ht] at h4; cases h4
   exact h1
  ·rename_i hn
   refine ⟨h,fun r2 k v e' e2' t' L' h3 h4=>?_⟩
   rw [hx] at h3; cases h3
   exact absurd h4 (hn _ _ _ _)
 ·rename_i hn
  exact ⟨h,fun r2 k v e' e2' t' L' h3 h4=>absurd h3 (hn _ _ _)⟩
theorem ownR_spec (hY:DXOk Y X) (hw:WF st) {x:Operand} {r':Nat} {t0:DT} (h:ownR Y st x = some (r',t0)) (hg:∀ (r2 k:Nat) (v:Vw) (e e2:TypeId) (t:Ty) (L:List (Bool × List t.I)),rdD Y none st x = some (.ref r2 none 0 k v) → st.find r2 = some (.t (.own2 e e2 t L)) → k = L.length):st.find r' = some (.t t0) ∧ ownDT t0 = true ∧ rdp X (stG n st.toSt) x ∧ wholeA (stG n st.toSt) r' t0.toT (rd X (stG n st.toSt) x) := by
 unfold ownR at h
 split at h
 ·rename_i r2 len v hx
  obtain ⟨x1,x2,_,x4⟩ := rdD_spec (n := n) (X := X) hY hw (γ := none) trivial hx
  split at h
  ·rename_i e t l ht
   split at h
   ·cases h
    obtain ⟨_,q2⟩ := viewOk_vw x4 (e := e) (t := t) (l := l) (by simp only [rootD,ht])
    exact ⟨ht,rfl,x2 trivial,.inl ⟨e,t.sz,l.map t.enc,rfl,by rw [x1,List.length_map,← q2]; rfl⟩⟩
   ·cases h
  ·rename_i e e2 t L ht
   cases h
   have hk := hg _ _ _ _ _ _ _ hx ht
   exact ⟨ht,rfl,x2 trivial,.inl ⟨e,1,L.map (el2 e2 t),rfl,by rw [x1,List.length_map,← hk]; rfl⟩⟩
  ·cases h
 ·rename_i r2 hx
  obtain ⟨x1,x2,_,_⟩ := rdD_spec (n := n) (X := X) hY hw (γ := none) trivial hx
  split at h
  ·rename_i e cs ht
   cases h
   exact ⟨ht,rfl,x2 trivial,.inr ⟨e,cs.map DT.toT,by simp only [DT.toT,all_eq],by rw [x1]; rfl⟩⟩
  ·cases h
 ·cases h
theorem splitOwn_spec:∀ {xs:List Operand} {tys:List TypeId} {p:List Operand} {tp:List TypeId} {x:Operand} {q:List Operand} {tq:List TypeId},splitOwn Y st xs tys = some ((p,tp),x,(q,tq)) → xs = p ++ x :: q
 | [],_,_,_,_,_,_,h=>by cases h
 | y :: ys,tys,p,tp,x,q,tq,h=>by
  simp only [splitOwn] at h
  split at h
  ·cases h; rfl
  ·split at h
   ·rename_i p' tp' y' q' hq
    cases h
    have := splitOwn_spec hq
    rw [this]; rfl
   ·cases h
theorem flat_noown {t:DT} (h:flatD t = true):ownDT t = false := by cases t <;> first | rfl | cases h
theorem argD_flat {x:Operand} {ty:TypeId} {γ:Gam} {t:DT} {b:Bool} (h:argD Y γ st x ty = some (t,b)):flatD t = true := by
 unfold argD at h
 split at h
 ·split at h <;> cases h; rfl
 ·split at h
  ·split at h
   ·rename_i hf; cases h; exact hf
   ·cases h
  ·split at h
   ·split at h <;> cases h <;> rfl
   ·cases h
  ·cases h
theorem argsD_outs {γ:Gam} (out:T):∀ {xs:List Operand} {tys:List TypeId} {ts:List DT} {b:Bool},argsD Y γ st xs tys = some (ts,b) → lendOuts ts out = List.replicate ts.length .u
 | [],_,ts,b,h=>by cases h; rfl
 | x :: xs,[],_,_,h=>by cases h
 | x :: xs,ty :: tys,ts,b,h=>by
  simp only [argsD] at h
  split at h
  ·rename_i t b1 ts' b2 e1 e2
   cases h
   simp only [lendOuts,flat_noown (argD_flat e1),argsD_outs out e2,List.length_cons,List.replicate_succ]
  ·cases h
theorem lendOuts_app (out:T):∀ (a b:List DT),lendOuts (a ++ b) out = lendOuts a out ++ lendOuts b out
 | [],b=>rfl
 | x :: a,b=>by simp only [List.cons_append,lendOuts,lendOuts_app out a b]
theorem argsN_rep (hY:DXOk Y X) (hw:WF st):∀ {xs:List Operand} {tys:List TypeId} {ts:List DT},argsN Y st xs tys = some ts → ∀ (tmps:Array Value) (ds:List Deferred) (w:World) (c:Nat → Cnt),X.G w → Frm X.N w (stG n st.toSt) tmps c →
  LRep w (fun b => ∀ j,c j b = 0) (ts.map DT.toT) (xs.map (Act.eval ⟨tmps,ds⟩)) (fun _=>0)
 | [],_,ts,h,tmps,ds,w,c,hG,hf=>by cases h; exact .nil _ (fun _=>rfl)
 | x :: xs,[],ts,h,tmps,ds,w,c,hG,hf=>by cases x <;> cases h
 | x :: xs,ty :: tys,ts,h,tmps,ds,w,c,hG,hf=>by
  unfold argsN at h
  split at h
  ·cases ‹_ :: _ = []›
  ·cases ‹_ :: _ = []›
  ·rename_i xs' ty' tys' h1 h2
   cases h1; cases h2
   split at h
   ·rename_i e t b ts' hs hr
    cases h
    exact .cons _ _ _ _ (fun _=>0) (fun _=>0) _ (.ownnil _ _ _ (fun _=>rfl)) (argsN_rep hY hw hr tmps ds w c hG hf) (fun _=>rfl)
   ·cases h
  ·rename_i x' xs' ty' tys' hno h1 h2
   cases h1; cases h2
   split at h
   ·rename_i t ts' ha hr
    cases h
    obtain ⟨h3,h4⟩ := argD_spec (n := n) (X := X) hY hw (γ := none) trivial ha
    obtain ⟨_,k2⟩ := arg_rep (ds := ds) hG hf (h3 trivial) h4
    exact .cons _ _ _ _ (fun _=>0) (fun _=>0) _ (k2 rfl) (argsN_rep hY hw hr tmps ds w c hG hf) (fun _=>rfl)
   ·cases h
theorem outs_u:∀ ts:List DT,lendOuts ts .u = List.replicate (ts.map DT.toT).length .u
 | []=>rfl
 | t :: ts=>by simp only [lendOuts,outs_u ts,List.map_cons,List.length_cons,List.replicate_succ]; cases ownDT t <;> rfl
def Ends [Pan ρ] (X:Ctx) (n:Nat) (Z:List Nat) (st:DSt) (o:Oper) (K:DSt → Option ρ) (r:ρ):Prop :=
 (∃ st',Step X n Z (stG n st.toSt) o (stG n st'.toSt) ∧ WF st' ∧ K st' = some r) ∨ ∃ pv st',PStep X n Z (stG n st.toSt) o pv (stG n (DSt.toSt st')) ∧ (Pan.pan pv:Option ρ) = some r
variable [Pan ρ]
theorem lend_sound (hY:DXOk Y X) (hE:EnvOk X E) (hw:WF st) {o:Oper} {f:FuncId} {xs:Array Operand} {tys:Array TypeId} {d:Nat} {K:DSt → Option ρ} (ho:o.op = .call { callee := .value (.func f),args := xs,argTypes := tys }) (hd:o.dst = some d)
  (h:lendD Y n Z st E d f xs.toList tys.toList K = some r):Ends X n Z st o K r := by
 unfold lendD at h
 split at h
 ·rename_i p tp x q tq hsp
  have hxs := splitOwn_spec hsp
  split at h
  ·rename_i r' t0 ts us hr hp hq
   replace h := ownW_some h
   obtain ⟨h,hgg⟩ := h
   split at h
   ·rename_i c hc
    obtain ⟨h0,hh⟩ := tst_some h
    clear h
    obtain ⟨v,hv,hh⟩ := Option.bind_eq_some_iff.1 hh
    split at hh
    ·rename_i res out hwr
     simp only [Bool.and_eq_true,Bool.not_eq_true'] at h0
     obtain ⟨⟨h1,h2⟩,h3⟩ := h0
     have hds:d ≠ r' := by rintro rfl; rw [Nat.beq_refl] at h2; cases h2
     obtain ⟨k1,k2,k3⟩ := dstD_spec h1
     obtain ⟨o1,o2,o3,o4⟩ := ownR_spec (n := n) (X := X) hY hw hr hgg
     obtain ⟨p1,p2⟩ := argsD_spec (n := n) (X := X) hY hw (γ := none) trivial hp
     obtain ⟨q1,q2⟩ := argsD_spec (n := n) (X := X) hY hw (γ := none) trivial hq
     obtain ⟨a1,a2,a3,a4,a5⟩ := (show _ ∧ _ from hE _ _ _ hc v hv res out hwr)
     obtain ⟨s1,s2,s3⟩ := put2_spec (killn_wf hw h3) hh rfl trivial
     refine .inl ⟨_,?_,s2,s3⟩
     rw [put_toSt,stG_put,kill_toSt r' none t0.toT out.toT out rfl]
     have hcall:ACall X f (ts.map DT.toT ++ t0.toT :: us.map DT.toT) res.toT (List.replicate (ts.map DT.toT).length .u ++ out.toT :: List.replicate (us.map DT.toT).length .u) := by
      have e1:(ts ++ t0 :: us).map DT.toT = ts.map DT.toT ++ t0.toT :: us.map DT.toT := by simp
      have e2:lendOuts (ts ++ t0 :: us) out.toT = List.replicate (ts.map DT.toT).length .u ++ out.toT :: List.replicate (us.map DT.toT).length .u := by
       rw [lendOuts_app,argsD_outs _ hp,List.length_map,List.length_map]
       simp only [lendOuts,o2,argsD_outs _ hq]
      rw [← e1,← e2]; exact a2
     exact step_lend (pre := p) (post := q) (x := x) ho hxs hd ⟨k1.1,k1.2.1⟩ hds k1.2.2 (p1 trivial) p2 (q1 trivial) q2 o3 o4 (by rw [stG_toSt,o1]; rfl) a1 hcall a5 a4 a3
    ·cases hh
   ·split at h
    case h_2=>cases h
    rename_i hnc c hc
    clear hnc
    obtain ⟨h0,hh⟩ := tst_some h
    clear h
    obtain ⟨v,hv,hh⟩ := Option.bind_eq_some_iff.1 hh
    split at hh
    ·rename_i b pv res out hwr
     simp only [Bool.and_eq_true,Bool.not_eq_true'] at h0
     obtain ⟨⟨h1,h2⟩,h3⟩ := h0
     have hds:d ≠ r' := by rintro rfl; rw [Nat.beq_refl] at h2; cases h2
     obtain ⟨k1,k2,k3⟩ := dstD_spec h1
     obtain ⟨o1,o2,o3,o4⟩ := ownR_spec (n := n) (X := X) hY hw hr hgg
     obtain ⟨p1,p2⟩ := argsD_spec (n := n) (X := X) hY hw (γ := none) trivial hp
     obtain ⟨q1,q2⟩ := argsD_spec (n := n) (X := X) hY hw (γ := none) trivial hq
     obtain ⟨a1,a2,a2',a3,a4,a5⟩ := (show _ ∧ _ from hE _ _ _ hc v hv b pv res out hwr)
     have e1:(ts ++ t0 :: us).map DT.toT = ts.map DT.toT ++ t0.toT :: us.map DT.toT := by simp
     split at hh
     ·rename_i hb
      refine .inr ⟨pv,(st.mapA (killD r' none)).put r' (.t .u),?_,hh⟩
      rw [kill_toSt r' none t0.toT .u .u rfl]
      exact step_lend_pan (pre := p) (post := q) (x := x) ho hxs (p1 trivial) p2 (q1 trivial) q2 o3 o4 (by rw [stG_toSt,o1]; rfl) a1 (by rw [← e1]; exact a2' hb)
     ·rename_i hb
      obtain ⟨s1,s2,s3⟩ := put2_spec (killn_wf hw h3) hh rfl trivial
      refine .inl ⟨_,?_,s2,s3⟩
      rw [put_toSt,stG_put,kill_toSt r' none t0.toT out.toT out rfl]
      have hcall:ACall X f (ts.map DT.toT ++ t0.toT :: us.map DT.toT) res.toT (List.replicate (ts.map DT.toT).length .u ++ out.toT :: List.replicate (us.map DT.toT).length .u) := by
       have e2:lendOuts (ts ++ t0 :: us) out.toT = List.replicate (ts.map DT.toT).length .u ++ out.toT :: List.replicate (us.map DT.toT).length .u := by
        rw [lendOuts_app,argsD_outs _ hp,List.length_map,List.length_map]
        simp only [lendOuts,o2,argsD_outs _ hq]
       rw [← e1,← e2]; exact a2 (by simpa using hb)
      exact step_lend (pre := p) (post := q) (x := x) ho hxs hd ⟨k1.1,k1.2.1⟩ hds k1.2.2 (p1 trivial) p2 (q1 trivial) q2 o3 o4 (by rw [stG_toSt,o1]; rfl) a1 hcall a5 a4 a3
    ·cases hh
  ·cases h
 ·split at h
  ·rename_i ts ha
   split at h
   ·rename_i c hc
    obtain ⟨v,hv,hh⟩ := Option.bind_eq_some_iff.1 h
    clear h
    split at hh
    ·rename_i res hwr
     obtain ⟨a1,a2,a3,a4,a5⟩ := (show _ ∧ _ from hE _ _ _ hc v hv res .u hwr)
     refine .inl (put2_good hw hd hh rfl trivial ?_)
     refine good_call_rep ho a1 (argsN_rep (n := n) (X := X) hY hw ha) ?_
     unfold APure
     rw [← outs_u]; exact a2
    ·cases hh
   ·cases h
  ·cases h
theorem atNone_find:∀ {st:DSt} {d k:Nat} {a:DA},atNone d st = true → st.find k = some a → atkD [d] a = false
 | [],_,_,_,_,h=>by cases h
 | (j,b) :: s,d,k,a,h,hk=>by
  simp only [atNone] at h
  cases hb:atkD [d] b with
  | true=>rw [hb] at h; cases h
  | false =>
   rw [hb] at h
   simp only [DSt.find] at hk
   cases hj:Nat.beq k j with
   | true=>rw [hj] at hk; cases hk; exact hb
   | false=>rw [hj] at hk; exact atNone_find h hk
theorem conv_wf (hw:WF st) {s:Nat} (ha:atNone s st = true) (hn:noRef st s = true) (x:DT):WF (st.put s (.t x)) := by
 have hroot:∀ {r2:Nat} {q:Option Nat} {e:TypeId} {t:Ty} {l:List t.I},r2 ≠ s → rootD st r2 q = some (.own e t l) → rootD (st.put s (.t x)) r2 q = some (.own e t l) := by
  intro r2 q e t l hne h
  cases q <;> simp only [rootD,find_dput,if_neg hne] at h ⊢ <;> exact h
 have hview:∀ k a,st.find k = some a → ∀ b,(b = a ∨ ∃ d w q,a = .opt d w q b) → viewOk st b → viewOk (st.put s (.t x)) b := by
  intro k a hk b hb hv
  cases b with
  | ref r2 q off len v =>
   rcases hv with hv | ⟨e2,t2,l2,q1,q2⟩
   ·exact .inl hv
   ·refine .inr ⟨e2,t2,l2,hroot ?_ q1,q2⟩
    rintro rfl
    have := atNone_find ha hk
    rcases hb with rfl | ⟨d,w,q',rfl⟩ <;> simp [atkD,memN,Nat.beq_refl] at this
  | _=>trivial
 intro k y hy
 rw [find_dput] at hy
 by_cases hk:k = s
 ·rw [if_pos hk] at hy; cases hy; trivial
 ·rw [if_neg hk] at hy
  have hwf := hw k y hy
  cases y with
  | opt d' w b a' =>
   have hd':d' ≠ s := noRef_spec hn hy
   exact ⟨fun b' hb'=>hwf.1 b' (by rw [← gB_put (st := st) (a := .t x) hd']; exact hb'),hwf.2.1,hview k _ hy _ (.inr ⟨_,_,_,rfl⟩) hwf.2.2⟩
  | ref r2 p off len v=>exact hview k _ hy _ (.inl rfl) (show viewOk st (.ref r2 p off len v) from hwf)
  | _=>trivial
theorem conv2_sound (hY:DXOk Y X) (hw:WF st) {o:Oper} {s:Nat} {e:TypeId} {t1:Ty} {l:List t1.I} {K:DSt → Option ρ} (ho:o.op = .assign (.tmp s)) (hs:st.find s = some (.t (.own e t1 l))) (h:conv2D Y n Z st o s e t1 l K = some r) :
  ∃ st',Step X n Z (stG n st.toSt) o (stG n st'.toSt) ∧ WF st' ∧ K st' = some r := by
 unfold conv2D at h
 split at h
 ·rename_i e' e2 t b hT
  split at h
  ·rename_i l' hl
   obtain ⟨h0,h⟩ := tst_some h
   simp only [Bool.and_eq_true] at h0
   obtain ⟨⟨_,h1⟩,h2⟩ := h0
   obtain ⟨q0,q1⟩ := castT_some hl
   injection q0 with _ q0
   subst q0
   subst q1
   obtain ⟨st',k1,k2,k3⟩ := moveD_sound (X := X) (conv_wf hw h1 h2 _) (.inl ho) (by rw [find_dput,if_pos rfl]) h
   refine ⟨st',?_,k2,k3⟩
   have:stG n (st.put s (.t (.own2 e e2 t (l.map fun y=>(false,y))))).toSt = stG n st.toSt := by
    rw [put_toSt,stG_put]
    funext i
    by_cases hi:i = s
    ·subst hi; rw [upd_same,stG_toSt,hs]
     simp only [DA.toA,DT.toT,List.map_map]; rfl
    ·rw [upd_ne _ _ hi]
   rw [this] at k1
   exact k1
  ·cases h
 ·cases h
theorem store2_sound (hY:DXOk Y X) (hw:WF st) {o:Oper} {ty:TypeId} {a v:Operand} {K:DSt → Option ρ} (ho:o.op = .store ty a v) (hd:o.dst = none) (h:store2D Y st ty a v K = some r) :
  ∃ st',Step X n Z (stG n st.toSt) o (stG n st'.toSt) ∧ WF st' ∧ K st' = some r := by
 unfold store2D at h
 split at h
 ·rename_i r1 i r2 k2 sz t3 ha hv hT
  split at h
  ·rename_i e e2 t L e' t' l ht ht2
   split at h
   ·rename_i l' hl
    obtain ⟨h0,hh⟩ := tst_some h
    clear h
    simp only [Bool.and_eq_true,Bool.not_eq_true',decide_eq_true_eq] at h0
    obtain ⟨⟨⟨⟨⟨⟨h1,h2⟩,rfl⟩,h4⟩,h5⟩,h6⟩,h7⟩ := h0
    have h2 := Nat.eq_of_beq_eq_true h2
    subst h2
    obtain ⟨q0,q1⟩ := castT_some hl
    injection q0 with _ q0
    subst q0
    subst q1
    obtain ⟨g1,hh⟩ := G_some hh
    have hne:r2 ≠ r1 := fun e=>by subst e; rw [Nat.beq_refl] at h1; cases h1
    obtain ⟨a1,a2,_,_⟩ := rdD_spec (n := n) (X := X) hY hw (γ := none) trivial ha
    obtain ⟨v1,v2,_,x4⟩ := rdD_spec (n := n) (X := X) hY hw (γ := none) trivial hv
    obtain ⟨_,q2⟩ := viewOk_vw x4 (e := e') (t := t') (l := l) (by simp only [rootD,ht2])
    subst q2
    have hrow := tyT_row (X := X) hY hT (show (Ty.sl sz t').fine = true from h4)
    have w1:WF ((st.mapA (killD r1 none)).put r1 (.t .u)) := killn_wf hw h5
    have w2:WF (store2S st r1 r2) := killn_wf w1 h6
    have hf1:(store2S st r1 r2).find r1 = some (.t .u) := by
     unfold store2S
     rw [find_dput,if_neg (fun e=>hne e.symm),find_dmap,find_dput,if_pos rfl]; rfl
    refine ⟨_,?_,root_wf w2 h7 (fun p e0 t0 l0 hq=>?_) _,hh⟩
    ·rw [put_toSt,stG_put]
     unfold store2S
     rw [kill_toSt r2 none (T.own e' t'.sz (l.map t'.enc)) .u .u rfl,kill_toSt r1 none (T.own e 1 (L.map (el2 e' t'))) .u .u rfl]
     refine Step.facts (P := i < L.length) (fun tmps ds w c hG hf=>by
      obtain ⟨e',s,es,q1,q2⟩ := eptr_fact (ds := ds) hG hf (a2 trivial) a1
      simp only [root,own2_root ht] at q1
      cases q1
      rwa [List.length_map] at q2) (fun hi=>?_)
     have hget:L[i]? = some (el2D L i) := by unfold el2D; rw [List.getD_eq_getElem?_getD,List.getElem?_eq_getElem hi]; rfl
     have := step_store_own (X := X) (n := n) (Z := Z) (es := L.map (el2 e' t')) (es2 := l.map t'.enc) (told := .sl t'.sz ((el2D L i).2.map t'.enc)) ho hd (a2 trivial) (v2 trivial) a1 (by rw [v1,List.length_map]; rfl) hne (own2_root ht) (by rw [stG_toSt,ht2]; rfl) hrow (el2_cells e' _ L) (by
      rw [List.getElem?_map,hget]
      simp only [Option.map_some,el2]
      rw [g1]) rfl
     have e3:(DA.t (.own2 e e' t' (L.set i (true,l)))).toA = A.t (.own e 1 ((L.map (el2 e' t')).set i (.own e' t'.sz (l.map t'.enc)))) := by
      simp only [DA.toA,DT.toT,List.map_set]; rfl
     rw [e3]
     exact this
    ·cases p <;> simp only [rootD,hf1] at hq <;> cases hq
   ·cases h
  ·cases h
 ·cases h
theorem op2D_sound (hY:DXOk Y X) (hE:EnvOk X E) (hw:WF st) {o:Oper} {K:DSt → Option ρ} (h:op2D Y n Z st E o K = some r):Ends X n Z st o K r := by
 unfold op2D at h
 split at h
 ·rename_i hd
  split at h
  ·rename_i ty a v ho; exact .inl (store2_sound hY hw ho hd h)
  ·cases h
 ·rename_i d hd
  split at h
  ·rename_i ho
   split at h
   ·rename_i e e2 t b hs; exact .inl (nil2_sound hY hw ho hd hs h)
   ·cases h
  ·rename_i s ho
   split at h
   ·rename_i e e2 t L hs; exact .inl (moveD_sound hw (.inl ho) hs h)
   ·rename_i e t1 l hs; exact .inl (conv2_sound hY hw ho hs h)
   ·rename_i r' k v hs
    split at h
    ·rename_i e e2 t L ht
     obtain ⟨h0,h⟩ := tst_some h
     obtain ⟨h1,h⟩ := G_some h
     obtain ⟨h2,h⟩ := tst_some h
     simp only [Bool.and_eq_true,Bool.not_eq_true'] at h0
     exact .inl (move2_sound hY hw ho hd hs ht h0.1 h0.2 h1 h2 h)
    ·cases h
   ·rename_i r' i off k hs
    split at h
    ·rename_i t0 e t l ht hr
     obtain ⟨h0,h⟩ := tst_some h
     exact .inl (take_sound hY hw ho hd hs ht hr h0 h)
    ·cases h
   ·cases h
  ·rename_i ty m ps ho
   split at h
   ·rename_i e e2 t b hs
    obtain ⟨h0,h⟩ := tst_some h
    exact .inl (build20_sound hY hw ho hd hs h0 h)
   ·rename_i e e2 t b x hs
    split at h
    ·rename_i r' len hx
     split at h
     ·rename_i e' t' l ht
      split at h
      ·rename_i l' hl
       obtain ⟨h0,hh⟩ := tst_some h
       clear h
       simp only [Bool.and_eq_true,Bool.not_eq_true'] at h0
       obtain ⟨⟨⟨⟨h1,h2⟩,h3⟩,h4⟩,h5⟩ := h0
       have h3 := Nat.eq_of_beq_eq_true h3
       have h4 := Nat.eq_of_beq_eq_true h4
       subst h3; subst h4
       obtain ⟨q0,q1⟩ := castT_some hl
       injection q0 with _ q0
       subst q0
       subst q1
       exact .inl (build21_sound hY hw ho hd hs hx ht h1 h2 h5 hh)
      ·cases h
     ·cases h
    ·cases h
   ·cases h
  ·rename_i x y ty u ho
   split at h
   ·rename_i r1 k v r2 k2 v2 hx hy
    split at h
    ·rename_i e e2 t L e' e2' t' L2 e'' e4 t'' b ht ht2 hs
     split at h
     ·rename_i L2' hL
      obtain ⟨h0,hh⟩ := tst_some h
      clear h
      simp only [Bool.and_eq_true,Bool.not_eq_true'] at h0
      obtain ⟨⟨⟨⟨⟨⟨⟨⟨⟨h1,h2⟩,h3⟩,h4⟩,h5⟩,h6⟩,h7⟩,h8⟩,h9⟩,h10⟩ := h0
      have h5 := Nat.eq_of_beq_eq_true h5
      have h6 := Nat.eq_of_beq_eq_true h6
      have h7 := Nat.eq_of_beq_eq_true h7
      subst h5; subst h6; subst h7
      obtain ⟨rfl,rfl⟩ := castL_some hL
      obtain ⟨g1,hh⟩ := G_some hh
      obtain ⟨g2,hh⟩ := G_some hh
      obtain ⟨g3,hh⟩ := G_some hh
      exact .inl (append2_sound hY hw ho hd hs hx hy ht ht2 h1 h2 h3 h4 h8 h9 h10 g1 g2 g3 hh)
     ·cases h
    ·cases h
   ·cases h
  ·rename_i f xs tys ho
   split at h
   ·exact lend_sound hY hE hw ho hd h
   split at h
   ·rename_i x
    split at h
    ·rename_i r' i k v hx
     split at h
     ·rename_i e e2 t L ht
      split at h
      ·rename_i c hc
       obtain ⟨h0,h⟩ := tst_some h
       obtain ⟨h1,h⟩ := G_some h
       obtain ⟨v,hv,h⟩ := Option.bind_eq_some_iff.1 h
       split at h
       ·rename_i e' t' l' hwr
        split at h
        ·rename_i l2 he hl
         have he := Nat.eq_of_beq_eq_true he
         subst he
         obtain ⟨q0,q1⟩ := castT_some hl
         injection q0 with _ q0
         subst q0
         subst q1
         exact .inl (spend2_sound hY hE hw ho hd hx ht hc h0 h1 hv hwr h)
        ·cases h
       ·cases h
      ·exact .inl (put2_shows hw hd (loc2D_sound hY hE hw h))
     ·cases h
    ·exact .inl (put2_shows hw hd (loc2D_sound hY hE hw h))
   ·exact .inl (put2_shows hw hd (loc2D_sound hY hE hw h))
  ·exact .inl (put2_shows hw hd (loc2D_sound hY hE hw h))
end Go.Eng

/- What is held under a guard, where the guard is known to hold. -/
namespace Go.Eng
open Go.RowKit (Below)
set_option linter.unusedVariables false
set_option linter.unusedSimpArgs false
variable {X:Ctx} {Y:DX} {n:Nat} {Z:List Nat} {st:DSt} {E:Env} {ρ:Type} {r:ρ}
variable {D:Nat → Prop} {gc:Cnt} {v0:Nat → Value} {w0 w:World} {g g':Nat → A} {tmps:Array Value}
theorem Inv.opened (h:Inv X n Z D gc v0 w0 g tmps w) (hg:∀ i,g' i = g i ∨ ∃ a,g i = .opt true a ∧ g' i = a ∧ a ≠ .ghost):Inv X n Z D gc v0 w0 g' tmps w := by
 obtain ⟨c,hf,hb1,hb2⟩ := h.frm
 have key:∀ (a:A) (x:Value) (cc:Cnt),ARep w (fun b => ∀ j,c j b = 0) g tmps a x cc → ARep w (fun b => ∀ j,c j b = 0) g' tmps a x cc := fun a x cc hr =>
  ARep.mono hr (fun b _ h=>⟨h,rfl⟩) (Nat.le_refl _) (fun _ _=>rfl) (fun r2 t hr2 ho=>by
   have h1:g' r2 = .t t := by
    rcases hg r2 with e | ⟨a2,e,_⟩
    ·rw [e]; exact hr2
    ·rw [hr2] at e; cases e
   have h2 := hf.rep r2
   rw [hr2] at h2
   exact ⟨h1,rfl,fun b => ∀ j,c j b = 0,c r2,h2,fun _ _=>rfl⟩)
 refine ⟨h.size,h.fix,h.os,h.tape,h.output,h.kept,h.grow,h.glob,h.hD,h.base,c,⟨fun i=>?_,hf.one,hf.uniq,hf.low⟩,fun i b hi hne=>?_,fun i hi b=>?_⟩
 ·rcases hg i with e | ⟨a,e1,e2,_⟩
  ·rw [e]; exact key _ _ _ (hf.rep i)
  ·rw [e2]
   have := hf.rep i
   rw [e1] at this
   exact key _ _ _ (this.2.1 rfl)
 ·refine hb1 i b hi fun e=>hne ?_
  rcases hg i with e2 | ⟨a,e1,_⟩
  ·rw [e2]; exact e
  ·rw [e] at e1; cases e1
 ·refine hb2 i ?_ b
  rcases hg i with e2 | ⟨a,e1,e2,e3⟩
  ·rw [← e2]; exact hi
  ·rw [e2] at hi; exact absurd hi e3
theorem open_root {dj:Nat} {want:Bool} {r2:Nat} {q:Option Nat} {e2:TypeId} {t2:Ty} {l2:List t2.I} (h2:rootD st r2 q = some (.own e2 t2 l2)):rootD (openD dj want st) r2 q = some (.own e2 t2 l2) := by
 unfold openD
 cases q with
 | none =>
  simp only [rootD,find_dmap] at h2 ⊢
  split at h2
  ·rename_i y hy; rw [hy]; exact h2
  ·cases h2
 | some k =>
  simp only [rootD,find_dmap] at h2 ⊢
  split at h2
  ·rename_i e cs hy; rw [hy]; exact h2
  ·cases h2
theorem open_gB (hw:WF st) {dj:Nat} {want:Bool} (hb:gB st dj want = some true) (d:Nat) (w:Bool) {b':Bool} (h:gB (openD dj want st) d w = some b'):gB st d w = some b' := by
 unfold gB openD at h
 rw [find_dmap] at h
 unfold gB
 cases hf:st.find d with
 | none=>rw [hf] at h; cases h
 | some a =>
  rw [hf] at h
  cases a with
  | opt d2 w2 b2 a2 =>
   simp only [Option.map_some,openDA] at h
   cases hc:Nat.beq d2 dj && (w2 == want) with
   | false=>rw [hc] at h; exact h
   | true =>
    rw [hc] at h
    simp only [Bool.and_eq_true,beq_iff_eq] at hc
    have e1 := Nat.eq_of_beq_eq_true hc.1
    have e2 := hc.2
    subst e1 e2
    have := hw d _ hf
    have hb2 := this.1 true hb
    subst hb2
    have hio := this.2.1
    cases a2 with
    | t x =>
     cases x with
     | s t y=>cases t <;> first | exact h | cases h
     | _=>exact h
    | opt=>cases hio
    | _=>exact h
  | _=>exact h
theorem open_sound (hw:WF st) {dj:Nat} {want:Bool} (hb:gB st dj want = some true):GhostTo X n Z st.toSt (openD dj want st).toSt ∧ WF (openD dj want st) := by
 have hf:∀ k,(openD dj want st).find k = (st.find k).map (openDA dj want) := fun k=>find_dmap _ _ _
 refine ⟨fun D gc v0 w0 tmps w hI=>hI.opened fun i=>?_,fun k x hx=>?_⟩
 ·rw [stG_toSt,stG_toSt,hf]
  cases hq:st.find i with
  | none=>exact .inl rfl
  | some a =>
   simp only [Option.map_some]
   cases a with
   | opt d2 w2 b2 a2 =>
    simp only [openDA]
    cases hc:Nat.beq d2 dj && (w2 == want) with
    | false=>exact .inl rfl
    | true =>
     simp only [Bool.and_eq_true,beq_iff_eq] at hc
     have e1 := Nat.eq_of_beq_eq_true hc.1
     have e2 := hc.2
     subst e1 e2
     have hb2 := (hw i _ hq).1 true hb
     subst hb2
     exact .inr ⟨a2.toA,rfl,rfl,toA_ne_ghost a2⟩
   | _=>exact .inl rfl
 ·rw [hf] at hx
  cases hq:st.find k with
  | none=>rw [hq] at hx; cases hx
  | some a =>
   rw [hq] at hx
   simp only [Option.map_some,Option.some.injEq] at hx
   have hwf := hw k a hq
   have hv:∀ a,viewOk st a → viewOk (openD dj want st) a := fun a ha=>viewOk_mono ha open_root
   cases a with
   | opt d2 w2 b2 a2 =>
    have h3:slotWF (openD dj want st) (.opt d2 w2 b2 a2) := ⟨fun b' h=>hwf.1 b' (open_gB hw hb d2 w2 h),hwf.2.1,hv a2 hwf.2.2⟩
    simp only [openDA] at hx
    cases hc:Nat.beq d2 dj && (w2 == want) with
    | false=>rw [hc] at hx; cases hx; exact h3
    | true=>rw [hc] at hx; cases hx; exact slotWF_of hwf.2.1 (hv a2 hwf.2.2)
   | ref r2 q off len v=>cases hx; exact hv (.ref r2 q off len v) hwf
   | _=>cases hx; trivial
end Go.Eng

/- Guards, regions, in typed trees: that it is so. -/
namespace Go.Eng
open Go.RowKit (Below)
set_option linter.unusedVariables false
set_option linter.unusedSimpArgs false
set_option linter.unusedSectionVars false
variable {X:Ctx} {Y:DX} {n:Nat} {Z:List Nat} {st:DSt} {E:Env} {ρ:Type} [Pan ρ] {r:ρ}
theorem gB_guardA {all:List Oper} {j dj:Nat} {want b:Bool} {o':Oper} (h1:all[j]? = some o') (h2:o'.dst = some dj) (h3:gB st dj want = some b):guardA (stG n st.toSt) all j want = some b := by
 simp only [guardA,h1,h2,stG_toSt]
 unfold gB at h3
 split at h3
 ·rename_i q hq
  rw [hq]
  cases h3
  simp only [DA.toA,DT.toT,Ty.enc,Ty.row,mkT,Ty.cells,List.headD_cons]
  cases q <;> cases want <;> rfl
 ·rename_i q b' hq
  rw [hq]
  cases h3
  simp only [DA.toA,DT.toT,Ty.enc,Ty.row,mkT,Ty.cells,List.headD_cons]
  cases q <;> cases want <;> cases b' <;> rfl
 ·cases h3
theorem plainD_spec (a:DA) (h:plainD a = true):a.toA.plain = true := by
 cases a with
 | t x=>exact (flatD_spec x).trans h
 | opt=>cases h
 | _=>rfl
theorem g1D_sound (hY:DXOk Y X) (hE:EnvOk X E) (hw:WF st) {all:List Oper} {o:Oper} {K:DA → Option ρ} (h:g1D Y E all st o K = some r):∃ a,LG X all (stG n st.toSt) o a.toA ∧ slotWF st a ∧ K a = some r ∧ ∀ d w b a',a = .opt d w b a' → gB st d w = some b := by
 unfold g1D at h
 split at h
 ·rename_i hg
  have hsh:Shows X n st none o K r := by
   split at h
   ·exact loc2D_sound hY hE hw h
   ·exact locD_sound (n := n) hY hE hw (γ := none) trivial h
  obtain ⟨a,h1,h2,h3,h4⟩ := hsh
  refine ⟨a,fun tmps ds w c hG hf next Q hn=>?_,slotWF_of h2 h3,h4,fun d w b a' e=>by subst e; cases h2⟩
  rw [if_pos (by simp [Region.wanted,hg])]
  exact h1 trivial tmps ds w c hG hf next Q hn
 ·rename_i j want hg
  split at h
  ·rename_i o' ho'
   split at h
   ·rename_i dj hdj
    split at h
    ·rename_i b hb
     obtain ⟨a,h1,h2,h3,h4⟩ := loc2G_sound (n := n) hY hE hw (γ := some (dj,want,b)) hb h
     obtain ⟨hpl,h5⟩ := tst_some h4
     have hplA := plainD_spec a hpl
     refine ⟨.opt dj want b a,fun tmps ds w c hG hf next Q hn=>?_,⟨fun b' hb'=>by rw [hb] at hb'; cases hb'; rfl,h2,h3⟩,h5,fun d w b' a' e=>by cases e; exact hb⟩
     have hy := yielded_of (n := n) hf (gB_guardA (n := n) ho' hdj hb)
     have hwant:Region.wanted o (yielded all.toArray tmps) = b := by simp only [Region.wanted,hg]; exact hy
     rw [hwant]
     cases b with
     | true =>
      simp only [if_true]
      refine h1 rfl tmps ds w c hG hf next Q (fun v w' hw' hr=>hn v w' hw' ?_)
      obtain ⟨cd,r1,r2,r3⟩ := hr
      exact ⟨cd,⟨A.plain_zero r1 hplA,fun _=>r1,fun h=>by cases h⟩,r2,r3⟩
     | false =>
      simp only [Bool.false_eq_true,if_false]
      exact hn undef w (Below.refl _ _) ⟨fun _=>0,⟨fun _=>rfl,(fun h=>by cases h),fun _=>rfl⟩,fun b hb=>absurd hb (by simp),fun _=>Nat.zero_le _⟩
    ·cases h
   ·cases h
  ·cases h
theorem LG.gstep {all:List Oper} {g:Nat → A} {o:Oper} {a:A} {d:Nat} (h:LG X all g o a) (hag:a ≠ .ghost) (hd:o.dst = some d) (hn:d < n ∧ d ∉ Z) (ho:(g d).owner = false):GStep' X n Z all g o (upd g d a) := by
 intro D gc v0 w0 tmps ds w hI next Q hnext
 obtain ⟨c,hf,hb⟩ := hI.frm
 refine h tmps ds w c hI.glob hf next Q (fun v w' hw hr=>?_)
 rw [hd]
 exact hnext _ _ (hI.put hn ho hw hf hb hag hr)
theorem atk_one {d:Nat} {a:DA} (h:atDrop d a = false):∀ r,a.toA.at = some r → r ≠ d ∧ a.isOpt = false := by
 have hm:∀ r,memN [d] r = false → r ≠ d := fun r h e=>by subst e; simp [memN] at h
 intro r hr
 cases a with
 | opt d' w b a =>
  cases a with
  | t x=>cases hr
  | _=>cases h
 | ref r' p off len v=>simp only [DA.toA,A.at,Option.some.injEq] at hr; subst hr; exact ⟨hm _ h,rfl⟩
 | eptr r' p i j=>simp only [DA.toA,A.at,Option.some.injEq] at hr; subst hr; exact ⟨hm _ h,rfl⟩
 | pref r' p off=>simp only [DA.toA,A.at,Option.some.injEq] at hr; subst hr; exact ⟨hm _ h,rfl⟩
 | _=>cases hr
theorem at_root {w:World} {F:Nat → Prop} {g:Nat → A} {tmps:Array Value} {a:DA} {x:Value} {c:Cnt} (h:ARep w F g tmps a.toA x c) (hno:a.isOpt = false) {r:Nat} (hr:a.toA.at = some r):∃ t0,g r = .t t0 := by
 cases a with
 | ref r' p off len v=>cases hr; obtain ⟨_,t0,e,sz,es,x0,h1,_⟩ := h; exact ⟨t0,h1⟩
 | eptr r' p i j=>cases hr; obtain ⟨_,t0,e,sz,es,b,m,cap,h1,_⟩ := h; exact ⟨t0,h1⟩
 | pref r' p off=>cases hr; obtain ⟨_,t0,e,cs,b,h1,_⟩ := h; exact ⟨t0,h1⟩
 | opt=>cases hno
 | _=>cases hr
theorem find_drop (d k:Nat):(dropDS st d).find k = if k = d then some (.t .u) else (st.find k).map (dropA d) := by
 unfold dropDS; rw [find_dput,find_dmap]
theorem drop_wf (hw:WF st) (d:Nat) (hd:ownerD st d = true):WF (dropDS st d) := by
 intro k x hx
 rw [find_drop] at hx
 by_cases hk:k = d
 ·rw [if_pos hk] at hx; cases hx; trivial
 ·rw [if_neg hk] at hx
  cases hq:st.find k with
  | none=>rw [hq] at hx; cases hx
  | some a =>
   rw [hq] at hx
   simp only [Option.map_some,Option.some.injEq] at hx
   unfold dropA at hx
   cases hb:atDrop d a with
   | true=>rw [hb] at hx; simp only at hx; subst hx; trivial
   | false =>
    rw [hb] at hx; simp only at hx; subst hx
    have hwf := hw k a hq
    have hview:∀ y,viewOk st y → atDrop d y = false → viewOk (dropDS st d) y := by
     intro y hy hat
     cases y with
     | ref r' p off len v =>
      rcases hy with hy | ⟨e,t,l,q1,q2⟩
      ·exact .inl hy
      ·refine .inr ⟨e,t,l,?_,q2⟩
       have hne:r' ≠ d := (atk_one hat r' rfl).1
       cases p with
       | none =>
        simp only [rootD,find_drop,if_neg hne] at q1 ⊢
        split at q1
        ·rename_i x hx; rw [hx]; exact q1
        ·cases q1
       | some j =>
        simp only [rootD,find_drop,if_neg hne] at q1 ⊢
        split at q1
        ·rename_i e2 cs hx; rw [hx]; exact q1
        ·cases q1
     | _=>trivial
    cases a with
    | opt d' w b a' =>
     refine ⟨fun b' hb'=>hwf.1 b' ?_,hwf.2.1,by cases a' with | t x=>trivial | _=>cases hb⟩
     unfold gB at hb' ⊢
     rw [find_drop] at hb'
     by_cases hdd:d' = d
     ·rw [if_pos hdd] at hb'; cases hb'
     ·rw [if_neg hdd] at hb'
      cases hq2:st.find d' with
      | none=>rw [hq2] at hb'; cases hb'
      | some a2 =>
       rw [hq2] at hb'
       simp only [Option.map_some,dropA] at hb'
       cases hb2:atDrop d a2 with
       | true=>rw [hb2] at hb'; cases hb'
       | false=>rw [hb2] at hb'; exact hb'
    | ref r' p off len v=>exact hview _ (show viewOk st (.ref r' p off len v) from hwf) hb
    | _=>trivial
theorem drop_less {D:Nat → Prop} {gc:Cnt} {v0:Nat → Value} {w0 w:World} {tmps:Array Value} (d:Nat) (hd:ownerD st d = true) (hI:Inv X n Z D gc v0 w0 (stG n st.toSt) tmps w):Inv X n Z D gc v0 w0 (stG n (dropDS st d).toSt) tmps w := by
 obtain ⟨c,hfr,_⟩ := hI.frm
 refine hI.less fun i=>?_
 rw [stG_toSt,stG_toSt,find_drop]
 by_cases hi:i = d
 ·right
  subst hi
  rw [if_pos rfl]
  refine ⟨rfl,?_⟩
  unfold ownerD at hd
  cases hq:st.find i with
  | none=>rw [hq] at hd; cases hd
  | some a=>exact toA_ne_ghost a
 ·rw [if_neg hi]
  cases hq:st.find i with
  | none =>
   left
   refine ⟨rfl,fun r hr=>?_⟩
   simp only at hr
   split at hr <;> cases hr
  | some a =>
   simp only [Option.map_some,dropA]
   cases hb:atDrop d a with
   | true=>right; exact ⟨rfl,toA_ne_ghost a⟩
   | false =>
    left
    refine ⟨rfl,fun r hr=>?_⟩
    have hne:r ≠ d := (atk_one hb r hr).1
    rw [stG_toSt,stG_toSt,find_drop,if_neg hne]
    cases hq2:st.find r with
    | none=>rfl
    | some b =>
     simp only [Option.map_some,dropA]
     cases hb2:atDrop d b with
     | false=>rfl
     | true =>
      exfalso
      have hrep := hfr.rep i
      have hgi:stG n st.toSt i = a.toA := by rw [stG_toSt,hq]
      rw [hgi] at hrep
      obtain ⟨t0,ht0⟩ := at_root hrep (atk_one hb r hr).2 hr
      rw [stG_toSt,hq2] at ht0
      simp only at ht0
      cases b with
      | t x=>cases hb2
      | _=>cases ht0
theorem Step.pre {g g1 g':Nat → A} {o:Oper} (h:∀ (D:Nat → Prop) (gc:Cnt) (v0:Nat → Value) (w0:World) (tmps:Array Value) (w:World),Inv X n Z D gc v0 w0 g tmps w → Inv X n Z D gc v0 w0 g1 tmps w) (k:Step X n Z g1 o g'):Step X n Z g o g' :=
 fun D gc v0 w0 tmps ds w hI next Q hn=>k D gc v0 w0 tmps ds w (h D gc v0 w0 tmps w hI) next Q hn
theorem prep_sound (hw:WF st) (o:Oper):WF (prepD st o) ∧ ∀ (D:Nat → Prop) (gc:Cnt) (v0:Nat → Value) (w0:World) (tmps:Array Value) (w:World),Inv X n Z D gc v0 w0 (stG n st.toSt) tmps w → Inv X n Z D gc v0 w0 (stG n (prepD st o).toSt) tmps w := by
 unfold prepD
 split
 ·rename_i d hdst
  split
  ·rename_i hd; exact ⟨drop_wf hw d hd,fun D gc v0 w0 tmps w hI=>drop_less d hd hI⟩
  ·exact ⟨hw,fun _ _ _ _ _ _ h=>h⟩
 ·exact ⟨hw,fun _ _ _ _ _ _ h=>h⟩
theorem PStep.pre {g g1 g':Nat → A} {o:Oper} {pv:Value} (h:∀ (D:Nat → Prop) (gc:Cnt) (v0:Nat → Value) (w0:World) (tmps:Array Value) (w:World),Inv X n Z D gc v0 w0 g tmps w → Inv X n Z D gc v0 w0 g1 tmps w) (k:PStep X n Z g1 o pv g'):PStep X n Z g o pv g' :=
 fun D gc v0 w0 tmps ds w hI next Q hn=>k D gc v0 w0 tmps ds w (h D gc v0 w0 tmps w hI) next Q hn
def GEnds (X:Ctx) (n:Nat) (Z:List Nat) (all:List Oper) (st:DSt) (o:Oper) (K:DSt → Option ρ) (r:ρ):Prop :=
 (∃ st',GStep' X n Z all (stG n st.toSt) o (stG n st'.toSt) ∧ WF st' ∧ K st' = some r) ∨ ∃ pv st',GPan X n Z all (stG n st.toSt) o pv (stG n (DSt.toSt st')) ∧ (Pan.pan pv:Option ρ) = some r
theorem gop0D_sound (hY:DXOk Y X) (hE:EnvOk X E) (hw:WF st) {all:List Oper} {o:Oper} {K:DSt → Option ρ} (h:gop0D Y n Z E all st o K = some r):GEnds X n Z all st o K r := by
 unfold gop0D at h
 split at h
 ·rename_i hg
  split at h
  ·rename_i st' hs
   obtain ⟨h1,h2⟩ := shrink_sound (X := X) hw hs
   refine .inl ⟨st',fun D gc v0 w0 tmps ds w hI next Q hn=>?_,h2,h⟩
   rw [if_pos (by simp [Region.wanted,hg])]
   exact h1 D gc v0 w0 tmps ds w hI next Q hn
  ·split at h
   ·obtain ⟨z2,z1⟩ := clean_sound (X := X) (n := n) (Z := Z) hw
    obtain ⟨p1,p2⟩ := prep_sound (X := X) (n := n) (Z := Z) z1 o
    rcases op2D_sound hY hE p1 h with ⟨st',h1,h2,h3⟩ | ⟨pv,st',h1,h2⟩
    ·refine .inl ⟨st',fun D gc v0 w0 tmps ds w hI next Q hn=>?_,h2,h3⟩
     rw [if_pos (by simp [Region.wanted,hg])]
     exact Step.pre (fun D gc v0 w0 tmps w hI=>p2 D gc v0 w0 tmps w (z2 D gc v0 w0 tmps w hI)) h1 D gc v0 w0 tmps ds w hI next Q hn
    ·refine .inr ⟨pv,st',fun D gc v0 w0 tmps ds w hI next Q hn=>⟨by simp [Region.wanted,hg],?_⟩,h2⟩
     exact PStep.pre (fun D gc v0 w0 tmps w hI=>p2 D gc v0 w0 tmps w (z2 D gc v0 w0 tmps w hI)) h1 D gc v0 w0 tmps ds w hI next Q hn
   ·obtain ⟨z1,z2⟩ := preShare_sound (X := X) (Y := Y) (E := E) (n := n) (Z := Z) hw o
    obtain ⟨p1,p2⟩ := prep_sound (X := X) (n := n) (Z := Z) z1 o
    obtain ⟨st',h1,h2,h3⟩ := opD_sound hY hE p1 h
    refine .inl ⟨st',fun D gc v0 w0 tmps ds w hI next Q hn=>?_,h2,h3⟩
    rw [if_pos (by simp [Region.wanted,hg])]
    exact Step.pre (fun D gc v0 w0 tmps w hI=>p2 D gc v0 w0 tmps w (z2 D gc v0 w0 tmps w hI)) h1 D gc v0 w0 tmps ds w hI next Q hn
 ·rename_i j want hg
  split at h
  ·rename_i d hd
   split at h
   ·split at h
    ·rename_i o' ho'
     split at h
     ·rename_i dj hdj
      split at h
      ·rename_i b hb
       have hwant:∀ {tmps:Array Value} {w:World} {c:Nat → Cnt},Frm X.N w (stG n st.toSt) tmps c → Region.wanted o (yielded all.toArray tmps) = b := fun hf=>by
        have hy := yielded_of (n := n) hf (gB_guardA (n := n) ho' hdj hb)
        simp only [Region.wanted,hg]; exact hy
       split at h
       ·rename_i hbt
        rw [hbt] at hb hwant
        obtain ⟨y2,y1⟩ := open_sound (X := X) (n := n) (Z := Z) hw hb
        obtain ⟨z2,z1⟩ := clean_sound (X := X) (n := n) (Z := Z) y1
        obtain ⟨p1,p2⟩ := prep_sound (X := X) (n := n) (Z := Z) z1 o
        rcases op2D_sound hY hE p1 h with ⟨st',h1,h2,h3⟩ | ⟨pv,st',h1,h2⟩
        ·refine .inl ⟨st',fun D gc v0 w0 tmps ds w hI next Q hn=>?_,h2,h3⟩
         obtain ⟨c,hf,_⟩ := hI.frm
         rw [if_pos (hwant hf)]
         exact Step.pre (fun D gc v0 w0 tmps w hI=>p2 D gc v0 w0 tmps w (z2 D gc v0 w0 tmps w (y2 D gc v0 w0 tmps w hI))) h1 D gc v0 w0 tmps ds w hI next Q hn
        ·refine .inr ⟨pv,st',fun D gc v0 w0 tmps ds w hI next Q hn=>?_,h2⟩
         obtain ⟨c,hf,_⟩ := hI.frm
         refine ⟨hwant hf,?_⟩
         exact PStep.pre (fun D gc v0 w0 tmps w hI=>p2 D gc v0 w0 tmps w (z2 D gc v0 w0 tmps w (y2 D gc v0 w0 tmps w hI))) h1 D gc v0 w0 tmps ds w hI next Q hn
       ·rename_i hbf
        have hbf:b = false := by simpa using hbf
        rw [hbf] at hwant
        obtain ⟨h0,h⟩ := tst_some h
        simp only [Bool.and_eq_true,Bool.not_eq_true'] at h0
        obtain ⟨k1,k2,k3⟩ := dstD_spec h0.1
        refine .inl ⟨st.put d (.opt dj want b (.t (.s .bool false))),fun D gc v0 w0 tmps ds w hI next Q hn=>?_,hw.put (a := .opt dj want b (.t (.s .bool false))) k2 k3 ⟨fun b' hb'=>by rw [hb] at hb'; cases hb'; rfl,rfl,trivial⟩ h0.2,h⟩
        obtain ⟨c,hf,hbd⟩ := hI.frm
        rw [if_neg (by rw [hwant hf]; exact Bool.false_ne_true)]
        rw [hd]
        refine hn _ _ ?_
        rw [put_toSt,stG_put]
        rw [hbf]
        exact hI.put ⟨k1.1,k1.2.1⟩ k1.2.2 (Below.refl _ _) hf hbd (fun e=>by cases e) ⟨fun _=>0,⟨fun _=>rfl,(fun e=>by cases e),fun _=>rfl⟩,fun b hb=>absurd hb (by simp),fun b=>by simp⟩
      ·cases h
     ·cases h
    ·cases h
   ·obtain ⟨a,h1,h2,h3,_⟩ := g1D_sound (n := n) hY hE hw h
    obtain ⟨h0,h3⟩ := tst_some h3
    simp only [Bool.and_eq_true,Bool.not_eq_true'] at h0
    obtain ⟨k1,k2,k3⟩ := dstD_spec h0.1
    refine .inl ⟨_,?_,hw.put k2 k3 h2 h0.2,h3⟩
    rw [put_toSt,stG_put]
    exact h1.gstep (toA_ne_ghost a) hd ⟨k1.1,k1.2.1⟩ k1.2.2
  ·cases h
theorem gopD_sound (hY:DXOk Y X) (hE:EnvOk X E) (hw:WF st) {all:List Oper} {o:Oper} {K:DSt → Option ρ} (h:gopD Y n Z E all st o K = some r):GEnds X n Z all st o K r := by
 unfold gopD at h
 split at h
 ·rename_i x hx
  split at h
  ·rename_i t v hv
   have ho:o.guard = none ∧ o.op = .panic x := by
    unfold panO at hx
    split at hx
    ·rename_i h1 h2; cases hx; exact ⟨h1,h2⟩
    ·cases hx
   obtain ⟨x1,x2⟩ := rdT_spec (n := n) (X := X) hY hw (γ := none) trivial hv
   refine .inr ⟨.iface t v,st,fun D gc v0 w0 tmps ds w hI next Q hn=>⟨by simp [Region.wanted,ho.1],?_⟩,h⟩
   obtain ⟨c,hf,_⟩ := hI.frm
   have hr := rd_v (ds := ds) hI.glob hf (x2 trivial) x1
   unfold Oper.wp
   have hx2:(execOp (Act.eval ⟨tmps,ds⟩) o).run X.P w = .halt (.panic (.iface t v)) w := by
    unfold execOp
    simp only [ho.2,hr]
    rfl
   rw [hx2,Oper.upon_panic]
   exact hn tmps w hI
  ·cases h
 ·exact gop0D_sound hY hE hw h
def PanK (n:Nat) (r:ρ) (pv:Value) (s:St):Prop := (Pan.pan pv:Option ρ) = some r ∧ ∃ st':DSt,s = st'.toSt
theorem regD_sound (hY:DXOk Y X) (hE:EnvOk X E) {all:List Oper} {K:DSt → Option ρ}:∀ (rest:List Oper) (st:DSt),WF st → regD Y n Z E all rest st K = some r → RegQ X n Z all (PanK n r) rest st.toSt (fun s => ∃ st',s = st'.toSt ∧ WF st' ∧ K st' = some r)
 | [],st,hw,h=>⟨st,rfl,hw,h⟩
 | o :: rest,st,hw,h=>by
  rcases gopD_sound hY hE hw (show gopD Y n Z E all st o _ = some r from h) with ⟨st',h1,h2,h3⟩ | ⟨pv,st',h1,h2⟩
  ·exact .inl ⟨st'.toSt,h1,regD_sound hY hE rest st' h2 h3⟩
  ·exact .inr ⟨pv,st'.toSt,h1,h2,st',rfl⟩
theorem atkD_spec (ds:List Nat) (a:DA):atOk ds a.toA = !atkD ds a := by
 have hm:∀ r,ds.contains r = memN ds r := fun r=>by
  cases h:memN ds r with
  | true=>rw [List.contains_iff_mem]; exact memN_spec.1 h
  | false =>
   rw [Bool.eq_false_iff]
   intro e
   rw [List.contains_iff_mem] at e
   rw [memN_spec.2 e] at h; cases h
 induction a with
 | opt d w b a ih=>simp only [DA.toA,atOk,A.at,atkD] at ih ⊢; exact ih
 | t x=>rfl
 | ref r p off len v=>simp only [DA.toA,atOk,A.at,atkD,hm]
 | eptr r p i j=>simp only [DA.toA,atOk,A.at,atkD,hm]
 | pref r p off=>simp only [DA.toA,atOk,A.at,atkD,hm]
 | sptr t x=>rfl
 | sarr t l=>rfl
theorem hideDS_toSt (ds:List Nat):∀ st:DSt,(hideDS ds st).toSt = st.toSt.hide ds
 | []=>rfl
 | (k,a) :: r=>by
  simp only [hideDS,DSt.toSt,St.hide,hideDS_toSt ds r]
  congr 1
  have hm:ds.contains k = memN ds k := by
   cases h:memN ds k with
   | true=>rw [List.contains_iff_mem]; exact memN_spec.1 h
   | false =>
    rw [Bool.eq_false_iff]
    intro e
    rw [List.contains_iff_mem] at e
    rw [memN_spec.2 e] at h; cases h
  rw [atkD_spec,hm]
  cases memN ds k <;> cases atkD ds a <;> simp [DA.toA,DT.toT]
theorem find_hideDS (ds:List Nat):∀ (st:DSt) (k:Nat),(hideDS ds st).find k = (st.find k).map fun a=>bif memN ds k || atkD ds a then .t .u else a
 | [],_=>rfl
 | (i,a) :: r,k=>by
  simp only [hideDS,DSt.find,find_hideDS ds r k]
  by_cases h:k = i
  ·subst h; simp
  ·rw [beq_ne h]; rfl
theorem WF.hide (hw:WF st) (ds:List Nat):WF (hideDS ds st) := by
 intro k x hx
 rw [find_hideDS] at hx
 cases hq:st.find k with
 | none=>rw [hq] at hx; cases hx
 | some a =>
  rw [hq] at hx
  simp only [Option.map_some,Option.some.injEq] at hx
  cases hb:memN ds k || atkD ds a with
  | true=>rw [hb] at hx; simp only [cond_true] at hx; subst hx; trivial
  | false =>
   rw [hb] at hx; simp only [cond_false] at hx; subst hx
   simp only [Bool.or_eq_false_iff] at hb
   have hwf := hw k a hq
   have hview:∀ y,viewOk st y → atkD ds y = false → viewOk (hideDS ds st) y := by
    intro y hy hat
    cases y with
    | ref r' p off len v =>
     rcases hy with hy | ⟨e,t,l,q1,q2⟩
     ·exact .inl hy
     ·refine .inr ⟨e,t,l,?_,q2⟩
      simp only [atkD] at hat
      cases p with
      | none =>
       simp only [rootD,find_hideDS] at q1 ⊢
       split at q1
       ·rename_i x hx; rw [hx]; simp only [Option.map_some,hat,atkD,Bool.or_false,cond_false]; exact q1
       ·cases q1
      | some j =>
       simp only [rootD,find_hideDS] at q1 ⊢
       split at q1
       ·rename_i e2 cs hx; rw [hx]; simp only [Option.map_some,hat,atkD,Bool.or_false,cond_false]; exact q1
       ·cases q1
    | _=>trivial
   cases a with
   | opt d w b a' =>
    refine ⟨fun b' hb'=>hwf.1 b' ?_,hwf.2.1,hview a' hwf.2.2 hb.2⟩
    unfold gB at hb' ⊢
    rw [find_hideDS] at hb'
    cases hq2:st.find d with
    | none=>rw [hq2] at hb'; cases hb'
    | some a2 =>
     rw [hq2] at hb'
     simp only [Option.map_some] at hb'
     cases hb2:memN ds d || atkD ds a2 with
     | true=>rw [hb2] at hb'; cases hb'
     | false=>rw [hb2] at hb'; exact hb'
   | ref r' p off len v=>exact hview _ (show viewOk st (.ref r' p off len v) from hwf) hb.2
   | _=>trivial
theorem rootD_hide {ds:List Nat} {r':Nat} {p:Option Nat} {e:TypeId} {t:Ty} {l:List t.I} (h:rootD (hideDS ds st) r' p = some (.own e t l)):rootD st r' p = some (.own e t l) := by
 cases p with
 | none =>
  simp only [rootD,find_hideDS] at h ⊢
  cases hq:st.find r' with
  | none=>rw [hq] at h; cases h
  | some a =>
   rw [hq] at h
   simp only [Option.map_some] at h
   cases hb:memN ds r' || atkD ds a with
   | true=>rw [hb] at h; cases h
   | false=>rw [hb] at h; exact h
 | some j =>
  simp only [rootD,find_hideDS] at h ⊢
  cases hq:st.find r' with
  | none=>rw [hq] at h; cases h
  | some a =>
   rw [hq] at h
   simp only [Option.map_some] at h
   cases hb:memN ds r' || atkD ds a with
   | true=>rw [hb] at h; cases h
   | false=>rw [hb] at h; exact h
theorem slotWF_hide {ds:List Nat} (hw:WF st) {a:DA} (h:slotWF (hideDS ds st) a) (hg:∀ d w b a',a = .opt d w b a' → gB (hideDS ds st) d w = some b):slotWF st a := by
 have hview:∀ y,viewOk (hideDS ds st) y → viewOk st y := fun y hy=>viewOk_mono hy rootD_hide
 cases a with
 | opt d w b a' =>
  refine ⟨fun b' hb'=>?_,h.2.1,hview _ h.2.2⟩
  have h2 := hg d w b a' rfl
  unfold gB at h2 hb'
  rw [find_hideDS] at h2
  cases hq:st.find d with
  | none=>rw [hq] at h2; cases h2
  | some a2 =>
   rw [hq] at h2 hb'
   simp only [Option.map_some] at h2
   cases hb2:memN ds d || atkD ds a2 with
   | true=>rw [hb2] at h2; cases h2
   | false=>rw [hb2] at h2; simp only [cond_false] at h2; rw [h2] at hb'; cases hb'; rfl
 | ref r' p off len v=>exact hview _ (show viewOk (hideDS ds st) (.ref r' p off len v) from h)
 | _=>trivial
theorem drawD_sound (hY:DXOk Y X) (hE:EnvOk X E) {all:List Oper} {K:DSt → Option ρ}:∀ (dss:List (List Nat)) (rest:List Oper) (st:DSt),WF st → drawD Y n Z E all dss rest st K = some r →
  ∃ (sts:Nat → DSt) (bs:Nat → A),sts 0 = st ∧ WF (sts rest.length) ∧ K (sts rest.length) = some r ∧ ∀ k o,rest[k]? = some o → ∃ d,o.dst = some d ∧ dstOk n Z (sts k).toSt d ∧ bs k ≠ .ghost ∧ LG X all (stG n ((sts k).toSt.hide (dss.getD k []))) o (bs k) ∧ (sts (k + 1)).toSt = (sts k).toSt.put d (bs k)
 | dss,[],st,hw,h=>⟨fun _=>st,fun _=>.ghost,rfl,hw,(by cases dss <;> exact h),fun k o hk=>by simp at hk⟩
 | [],_ :: _,_,_,h=>by cases h
 | ds :: dss,o :: rest,st,hw,h=>by
  simp only [drawD] at h
  split at h
  ·rename_i d hd
   obtain ⟨a,h1,h2,h3,h4⟩ := g1D_sound (n := n) hY hE (hw.hide ds) h
   obtain ⟨h0,h3⟩ := tst_some h3
   simp only [Bool.and_eq_true,Bool.not_eq_true'] at h0
   obtain ⟨k1,k2,k3⟩ := dstD_spec h0.1
   obtain ⟨sts,bs,q1,q2,q2',q3⟩ := drawD_sound hY hE dss rest _ (hw.put k2 k3 (slotWF_hide hw h2 h4) h0.2) h3
   refine ⟨fun k=>match k with | 0=>st | k + 1=>sts k,fun k=>match k with | 0=>a.toA | k + 1=>bs k,rfl,q2,q2',fun k o' hk=>?_⟩
   cases k with
   | zero =>
    simp at hk; subst hk
    refine ⟨d,hd,k1,toA_ne_ghost a,?_,?_⟩
    ·rw [hideDS_toSt] at h1; simpa using h1
    ·show (sts 0).toSt = _
     rw [q1,put_toSt]
   | succ k =>
    simp only [List.getElem?_cons_succ] at hk
    obtain ⟨d',e1,e2,e3,e4,e5⟩ := q3 k o' hk
    exact ⟨d',e1,e2,e3,by simpa using e4,e5⟩
  ·cases h
theorem RegP_mono {all:List Oper}:∀ (l:List Oper) (s:St) {K1 K2:St → Prop},(∀ s,K1 s → K2 s) → RegP X n Z all l s K1 → RegP X n Z all l s K2
 | [],s,K1,K2,hk,h=>hk s h
 | o :: l,s,K1,K2,hk,h=>by obtain ⟨s',h1,h2⟩ := h; exact ⟨s',h1,RegP_mono l s' hk h2⟩
theorem blocks_flat:∀ ops:List Oper,(blocksOf ops).flatten = ops
 | []=>rfl
 | o :: rest=>by
  have ih := blocks_flat rest
  unfold blocksOf
  split
  ·rename_i p b bs hb
   rw [hb] at ih
   split
   ·rw [List.flatten_cons] at ih ⊢; rw [List.cons_append,ih]
   ·rw [List.flatten_cons,ih]; rfl
  ·rw [List.flatten_cons,ih]; rfl
theorem exsOk_spec {r m:Nat} {st:DSt} {es:List Oper} (h:exsOk n Z r m st es = true):(es.map xi).Nodup ∧ (es.map xd).Nodup ∧ ∀ o ∈ es,exTmp o = some r ∧ o.dst = some (xd o) ∧ dstD n Z st (xd o) = true ∧ xd o ≠ r ∧ xi o < m := by
 simp only [exsOk,Bool.and_eq_true,decide_eq_true_eq,List.all_eq_true] at h
 refine ⟨h.1,h.2.1,fun o ho=>?_⟩
 obtain ⟨h1,h2,h3,h4,h5⟩ := h.2.2 o ho
 refine ⟨?_,?_,h3,?_,by simpa using h5⟩
 ·split at h1
  ·rename_i r' hr; rw [hr,Nat.eq_of_beq_eq_true h1]
  ·cases h1
 ·unfold xd
  cases hd:o.dst with
  | none=>rw [hd] at h2; cases h2
  | some d=>rfl
 ·rintro e
  rw [e,Nat.beq_refl] at h4; cases h4
theorem exTmp_spec {o:Oper} {r:Nat} (h:exTmp o = some r):o.op = .extract (.tmp r) (xi o) ∧ o.guard = none := by
 unfold exTmp at h
 split at h
 ·rename_i r' i hg ho
  cases h
  refine ⟨?_,hg⟩
  unfold xi
  rw [ho]
 ·cases h
theorem exs_sound (X:Ctx):∀ (es:List Oper) (st:DSt) (r:Nat) (cs:List DT),WF st → st.find r = some (.t (.tup cs)) → (es.map xd).Nodup → (∀ o ∈ es,exTmp o = some r ∧ o.dst = some (xd o) ∧ dstD n Z st (xd o) = true ∧ xd o ≠ r ∧ xi o < cs.length) →
  WF (es.foldl (exD r) st) ∧ stG n (es.foldl (exD r) st).toSt = es.foldl (exStep r) (stG n st.toSt)
 | [],st,r,cs,hw,hr,hn,h=>⟨hw,rfl⟩
 | o :: es,st,r,cs,hw,hr,hn,h=>by
  obtain ⟨h1,h2,h3,h4,h5⟩ := h o (by simp)
  obtain ⟨h6,h7⟩ := exTmp_spec h1
  obtain ⟨c,hc⟩:∃ c,cs[xi o]? = some c := ⟨_,List.getElem?_eq_getElem h5⟩
  have hst:exD r st o = (st.put r (.t (.tup (cs.set (xi o) .u)))).put (xd o) (.t c) := by
   unfold exD; rw [hr]; simp only [hc]
  obtain ⟨st1,_,q1,q2⟩ := extract_own_sound (X := X) (n := n) (Z := Z) (K := fun s=>some s) hw h6 h2 hr hc (by rw [h3,beq_ne h4]; rfl) rfl
  cases q2
  have hG:stG n (exD r st o).toSt = exStep r (stG n st.toSt) o := by
   rw [exStep_tup (cs := cs.map DT.toT) (t := c.toT) (by rw [stG_toSt,hr]; simp only [DA.toA,DT.toT,all_eq]) (by rw [List.getElem?_map,hc]; rfl),hst,put_toSt,put_toSt,stG_put,stG_put]
   have e:(cs.map DT.toT).set (xi o) .u = (cs.set (xi o) .u).map DT.toT := by rw [List.map_set]; rfl
   rw [e]
   simp only [DA.toA,DT.toT,all_eq]
  rw [List.map_cons,List.nodup_cons] at hn
  have hrd:r ≠ xd o := fun e=>h4 e.symm
  obtain ⟨k1,k2⟩ := exs_sound X es (exD r st o) r (cs.set (xi o) .u) (by rw [hst]; exact q1) (by rw [hst,find_dput,if_neg hrd,find_dput,if_pos rfl]) hn.2 (fun p hp=>by
   obtain ⟨p1,p2,p3,p4,p5⟩ := h p (by simp [hp])
   refine ⟨p1,p2,?_,p4,by rw [List.length_set]; exact p5⟩
   have hne:xd p ≠ xd o := fun e=>hn.1 (List.mem_map.2 ⟨p,hp,e⟩)
   simp only [dstD,Bool.and_eq_true] at p3 ⊢
   refine ⟨p3.1,p3.2.1,?_,?_⟩
   ·rw [hst]; unfold ownerD; rw [find_dput,if_neg hne,find_dput,if_neg p4]; exact p3.2.2.1
   ·rw [hst]; exact noRef_putt _ _ _ _ (noRef_putt _ _ _ _ p3.2.2.2))
  exact ⟨k1,by rw [List.foldl_cons,List.foldl_cons,k2,hG]⟩
theorem blkD_sound (hY:DXOk Y X) (hE:EnvOk X E) {all:List Oper} {K:DSt → Option ρ}:∀ (bs:List (List Oper)) (st:DSt),WF st → blkD Y n Z E all bs st K = some r → TailR X n Z all (fun pv g=>(Pan.pan pv:Option ρ) = some r ∧ ∃ st':DSt,g = stG n st'.toSt) (fun g => ∃ st',g = stG n st'.toSt ∧ WF st' ∧ K st' = some r) bs (stG n st.toSt)
 | [],st,hw,h=>⟨st,rfl,hw,h⟩
 | [] :: bs,st,hw,h=>blkD_sound hY hE bs st hw h
 | [o] :: bs,st,hw,h=>by
  rcases gopD_sound hY hE hw (show gopD Y n Z E all st o _ = some r from h) with ⟨st',h1,h2,h3⟩ | ⟨pv,st',h1,h2⟩
  ·exact .inl ⟨_,h1,blkD_sound hY hE bs st' h2 h3⟩
  ·exact .inr ⟨pv,_,h1,h2,st',rfl⟩
 | (o :: p :: es) :: bs,st,hw,h=>by
  simp only [blkD,exsD] at h
  split at h
  ·rename_i r' hr'
   split at h
   ·rename_i cs hcs
    obtain ⟨h0,h⟩ := tst_some h
    obtain ⟨k1,k2,k3⟩ := exsOk_spec h0
    obtain ⟨w1,w2⟩ := exs_sound (n := n) (Z := Z) X _ st r' cs hw hcs k2 k3
    refine ⟨r',⟨⟨cs.map DT.toT,by rw [stG_toSt,hcs]; simp only [DA.toA,DT.toT,all_eq],fun q hq=>by rw [List.length_map]; exact (k3 q hq).2.2.2.2⟩,k1,k2,fun q hq=>?_,fun q hq=>?_⟩,?_⟩
    ·obtain ⟨a1,a2,_⟩ := k3 q hq
     obtain ⟨b1,b2⟩ := exTmp_spec a1
     exact ⟨b1,a2,b2⟩
    ·obtain ⟨_,_,a3,a4,_⟩ := k3 q hq
     obtain ⟨c1,c2,c3⟩ := dstD_spec a3
     exact ⟨c1.1,c1.2.1,a4,c1.2.2⟩
    ·rw [← w2]
     exact blkD_sound hY hE bs _ w1 h
   ·cases h
  ·cases h
theorem region_sound (hY:DXOk Y X) (hE:EnvOk X E) (hm:X.P.follows .mixedOrders = true) (hw:WF st) {id:Nat} {ops:Array Oper} {op:Bool} {K:DSt → Option ρ} (h:regionD Y n Z E ops op st K = some r) {Q:Exit → St → Prop}
  (hP:∀ pv (st':DSt),(Pan.pan pv:Option ρ) = some r → Q (.panic [{ v := pv,recovered := false }]) st'.toSt) (hQ:∀ st',WF st' → K st' = some r → Q .normal st'.toSt):AW X n Z (.region id ops op) st.toSt Q := by
 unfold regionD at h
 split at h
 ·have := regD_sound (n := n) (Z := Z) hY hE _ st hw h
  exact AW_regionQ (RegQ_mono (fun s hs=>by obtain ⟨st',rfl,h1,h2⟩ := hs; exact hQ st' h1 h2) (fun pv s hs=>by obtain ⟨h1,st',rfl⟩ := hs; exact hP pv st' h1) _ _ this)
 ·obtain ⟨h0,h⟩ := tst_some h
  simp only [Bool.and_eq_true,Option.isNone_iff_eq_none] at h0
  obtain ⟨sts,bs,q1,q2,q3,q4⟩ := drawD_sound (n := n) (Z := Z) hY hE _ _ st hw h
  have hreg := blkD_sound (n := n) (Z := Z) hY hE _ _ q2 q3
  have hsplit:ops.toList.take (headLen ops.toList) ++ (blocksOf (ops.toList.drop (headLen ops.toList))).flatten = ops.toList := by rw [blocks_flat]; exact List.take_append_drop _ _
  refine AW_drawB (ops.toList.take (headLen ops.toList)) (blocksOf (ops.toList.drop (headLen ops.toList))) _ _ hsplit.symm hm h0.1 ?_ (sts := fun k=>(sts k).toSt) (bs := bs) ?_ ?_ ?_
  ·rw [find_toSt,h0.2]; rfl
  ·simp only [q1]
  ·rw [hsplit]
   exact TailR_mono _ _ (fun g hg=>by obtain ⟨st',e,h1,h2⟩ := hg; exact ⟨_,e,hQ st' h1 h2⟩) (fun pv g hg=>by obtain ⟨h1,st',e⟩ := hg; exact ⟨_,e,hP pv st' h1⟩) hreg
  ·rw [hsplit]; exact q4
end Go.Eng
