/- A part of the proof: E3. -/
import Derived.Test.YtnjcbogckfiamaaDoorE2
import Derived.Lib.Bytealg
import Derived.Laws.IdiomStrings
import Derived.Deep.LoopGhost
import Derived.Orders
namespace Go.Eng
open Go.RowKit (Below)
set_option linter.unusedVariables false
set_option linter.unusedSimpArgs false
variable {X:Ctx} {g:Nat → A}
def ACall (X:Ctx) (f:FuncId) (args:List T) (res:T) (outs:List T):Prop :=
 ∀ (w:World) (vals:List Value) (ca:Cnt) (F:Nat → Prop),X.G w → (∀ b,b < X.N → F b) → LRep w F args vals ca → (∀ b,ca b ≤ 1) → (∀ b,0 < ca b → X.N ≤ b ∧ ¬ F b) →
  Calls X.P f vals.toArray w fun e w' => ∃ v cr,e = .returned v ∧ w'.os = w.os ∧ w'.tape = w.tape ∧ w'.output = w.output ∧ w.heap.size ≤ w'.heap.size ∧
   (∀ b,b < w.heap.size → ca b = 0 → w'.heap[b]? = w.heap[b]?) ∧ LRep w' (fun b=>(F b ∨ 0 < ca b ∨ w.heap.size ≤ b) ∧ cr b = 0) (res :: outs) (v :: vals) cr ∧ (∀ b,cr b ≤ 1) ∧ (∀ b,0 < cr b → 0 < ca b ∨ w.heap.size ≤ b)
def PCall (X:Ctx) (f:FuncId) (args:List T) (pv:Value):Prop :=
 ∀ (w:World) (vals:List Value) (ca:Cnt) (F:Nat → Prop),X.G w → (∀ b,b < X.N → F b) → LRep w F args vals ca → (∀ b,ca b ≤ 1) → (∀ b,0 < ca b → X.N ≤ b ∧ ¬ F b) →
  Calls X.P f vals.toArray w fun e w'=>e = .panicked [{ v := pv,recovered := false }] ∧ w'.os = w.os ∧ w'.tape = w.tape ∧ w'.output = w.output ∧ w.heap.size ≤ w'.heap.size ∧ (∀ b,b < w.heap.size → ca b = 0 → w'.heap[b]? = w.heap[b]?)
def APure (X:Ctx) (f:FuncId) (args:List T) (res:T):Prop := ACall X f args res (List.replicate args.length .u)
def T.noSl:T → Bool
 | .u | .v _=>true
 | .sl _ es=>es.isEmpty
 | .ag cs=>all cs
 | .own _ _ es=>all es
 | .box _ cs=>all cs
 | .tup cs=>all cs
 | .opt _ t=>t.noSl
where all:List T → Bool
 | []=>true
 | t :: ts=>t.noSl && all ts
theorem noSl_cells (t:T) (h:t.noSl = true):T.noSl.all t.cells = true := by
 cases t with
 | ag cs=>exact h
 | _=>simp [T.cells,T.noSl.all,h]
theorem noSl_append:∀ (a b:List T),T.noSl.all a = true → T.noSl.all b = true → T.noSl.all (a ++ b) = true
 | [],b,_,h=>h
 | t :: ts,b,h1,h2=>by
  simp only [T.noSl.all,Bool.and_eq_true] at h1
  simp only [List.cons_append,T.noSl.all,Bool.and_eq_true]
  exact ⟨h1.1,noSl_append ts b h1.2 h2⟩
theorem noSl_flatMap:∀ (es:List T),T.noSl.all es = true → T.noSl.all (es.flatMap T.cells) = true
 | [],_=>rfl
 | t :: ts,h=>by
  simp only [T.noSl.all,Bool.and_eq_true] at h
  rw [List.flatMap_cons]
  exact noSl_append _ _ (noSl_cells t h.1) (noSl_flatMap ts h.2)
theorem TRep.anyF {w:World} {F F':Nat → Prop} {t:T} {x:Value} {c:Cnt} (h:TRep w F t x c):t.noSl = true → TRep w F' t x c := by
 refine TRep.rec (motive_1 := fun t x c _=>t.noSl = true → TRep w F' t x c) (motive_2 := fun ts xs c _=>T.noSl.all ts = true → LRep w F' ts xs c) ?_ ?_ ?_ ?_ ?_ ?_ ?_ ?_ ?_ ?_ ?_ ?_ h
 ·exact fun x c hc _=>.u _ _ hc
 ·exact fun x c hc _=>.v _ _ hc
 ·exact fun sz a cap c hc _=>.slnil _ _ _ _ hc
 ·intro sz es b n cap vals c0 c hn hcap hF hb hs hv hz hl hone hc0 hc ih hno
  have:es = [] := by simpa [T.noSl] using hno
  subst this
  subst hn
  exact .slnil _ _ _ _ hc
 ·exact fun cs vs c hl hone hc ih hno=>.ag _ _ _ (ih hno) hone hc
 ·exact fun e sz c hc _=>.ownnil _ _ _ hc
 ·exact fun e sz es g n cap cur c0 c hg hn hcap hm hcur hz hl hone hc ih hno=>.own e sz es g n cap cur c0 c hg hn hcap hm hcur hz (ih (noSl_flatMap es hno)) hone hc
 ·exact fun e cs g cur c0 c hg hl hone hc ih hno=>.box e cs g cur c0 c hg (ih hno) hone hc
 ·exact fun cs vs c hl ih hno=>.tup _ _ _ (ih hno)
 ·exact fun b t x c ht hc ih hno=>.opt _ _ _ _ (fun hb=>ih hb hno) hc
 ·exact fun c hc _=>.nil _ hc
 ·intro t ts x xs c1 c2 c h1 h2 hc ih1 ih2 hno
  simp only [T.noSl.all,Bool.and_eq_true] at hno
  exact .cons _ _ _ _ c1 c2 c (ih1 hno.1) (ih2 hno.2) hc
theorem LRep.anyF {w:World} {F F':Nat → Prop} {ts:List T} {xs:List Value} {c:Cnt} (h:LRep w F ts xs c) (hno:T.noSl.all ts = true):LRep w F' ts xs c := by
 have:TRep w F' (.tup ts) (.tuple xs.toArray) c := TRep.anyF (F := F) (.tup _ _ _ (by simpa using h)) hno
 cases this with | tup _ _ _ hl=>simpa using hl
def argA (X:Ctx) (g:Nat → A) (x:Operand) (ty:TypeId):Option (T × Bool) :=
 match x with
 | .const (.slice none 0 0)=>match sliOf X.P ty with
  | some (_,sz,_,_)=>some (.sl sz [],false)
  | none=>none
 | _=>match rd X g x with
  | .t t=>if t.flat then some (t,false) else none
  | .ref r p off len=>match root g r p with
   | some (.own _ sz es)=>if off + len ≤ es.length then some (.sl sz (cut (es.map T.fz) off (off + len)),true) else none
   | _=>none
  | _=>none
def argP (X:Ctx) (g:Nat → A) (x:Operand):Prop :=
 match x with
 | .const (.slice none 0 0)=>True
 | _=>rdp X g x
theorem arg_rep {tmps:Array Value} {ds:List Deferred} {w:World} {c:Nat → Cnt} (hG:X.G w) (hf:Frm X.N w g tmps c) {x:Operand} {ty:TypeId} {t:T} {b:Bool} (hp:argP X g x) (ha:argA X g x ty = some (t,b)) :
  TRep w (fun _=>True) t (Act.eval ⟨tmps,ds⟩ x) (fun _=>0) ∧ (b = false → TRep w (fun b => ∀ j,c j b = 0) t (Act.eval ⟨tmps,ds⟩ x) (fun _=>0)) := by
 have key:∀ t,TRep w (fun b => ∀ j,c j b = 0) t (Act.eval ⟨tmps,ds⟩ x) (fun _=>0) → TRep w (fun _=>True) t (Act.eval ⟨tmps,ds⟩ x) (fun _=>0) := fun t h=>h.mono (fun _ _ _=>⟨trivial,rfl⟩) (Nat.le_refl _) (fun _ _=>rfl)
 unfold argA at ha
 unfold argP at hp
 split at ha
 ·split at ha
  ·cases ha
   rename_i sz _ _ _
   have:TRep w (fun b => ∀ j,c j b = 0) (.sl sz []) (Act.eval ⟨tmps,ds⟩ (.const (.slice none 0 0))) (fun _=>0) := .slnil _ none 0 _ (fun _=>rfl)
   exact ⟨this.mono (fun _ _ _=>⟨trivial,rfl⟩) (Nat.le_refl _) (fun _ _=>rfl),fun _=>this⟩
  ·cases ha
 ·rename_i hx
  have hp':rdp X g x := by
   split at hp
   ·rename_i h; exact absurd rfl (hx)
   ·exact hp
  have hr := rd_rep (ds := ds) hG hf x hp'
  split at ha
  ·rename_i t' e
   split at ha
   ·cases ha
    rw [e] at hr
    exact ⟨key _ hr,fun _=>hr⟩
   ·cases ha
  ·rename_i r p off len e
   rw [e] at hr
   obtain ⟨_,t0,e',sz,es,x0,h1,h2,h3,h4⟩ := hr
   rw [root_of h1 h2] at ha
   simp only at ha
   rw [if_pos h3] at ha
   cases ha
   have hrr := hf.rep r
   rw [h1] at hrr
   obtain ⟨d,hd,_⟩ := h2.rep hrr
   exact ⟨(View.sl hd h4 h3).mono (fun _ _ _=>⟨trivial,rfl⟩) (Nat.le_refl _) (fun _ _=>rfl),fun h=>by cases h⟩
  ·cases ha
def argsA (X:Ctx) (g:Nat → A):List Operand → List TypeId → Option (List T × Bool)
 | [],_=>some ([],false)
 | x :: xs,[]=>none
 | x :: xs,ty :: tys=>match argA X g x ty,argsA X g xs tys with
  | some (t,b),some (ts,b')=>some (t :: ts,b || b')
  | _,_=>none
def argsP (X:Ctx) (g:Nat → A):List Operand → Prop
 | []=>True
 | x :: xs=>argP X g x ∧ argsP X g xs
theorem args_rep {tmps:Array Value} {ds:List Deferred} {w:World} {c:Nat → Cnt} (hG:X.G w) (hf:Frm X.N w g tmps c):∀ {xs:List Operand} {tys:List TypeId} {ts:List T} {b:Bool},argsP X g xs → argsA X g xs tys = some (ts,b) →
  LRep w (fun _=>True) ts (xs.map (Act.eval ⟨tmps,ds⟩)) (fun _=>0) ∧ (b = false → LRep w (fun b => ∀ j,c j b = 0) ts (xs.map (Act.eval ⟨tmps,ds⟩)) (fun _=>0))
 | [],_,ts,b,_,h=>by cases h; exact ⟨.nil _ (fun _=>rfl),fun _=>.nil _ (fun _=>rfl)⟩
 | x :: xs,[],_,_,_,h=>by cases h
 | x :: xs,ty :: tys,ts,b,hp,h=>by
  simp only [argsA] at h
  split at h
  ·rename_i t b1 ts' b2 e1 e2
   cases h
   obtain ⟨k1,k2⟩ := arg_rep (ds := ds) hG hf hp.1 e1
   obtain ⟨q1,q2⟩ := args_rep (ds := ds) hG hf hp.2 e2
   refine ⟨.cons _ _ _ _ _ _ _ k1 q1 (fun _=>rfl),fun hb=>?_⟩
   simp only [Bool.or_eq_false_iff] at hb
   exact .cons _ _ _ _ _ _ _ (k2 hb.1) (q2 hb.2) (fun _=>rfl)
  ·cases h
def isFn (P:Program) (f:FuncId):Bool :=
 match P.funcs[f]? with
 | some fn=>fn.body.isSome && fn.name != "runtime.NumGoroutine"
 | none=>false
theorem exec_call {P:Program} {o:Oper} {a:Act} {w:World} {f:FuncId} {xs:Array Operand} {ts:Array TypeId} (ho:o.op = .call { callee := .value (.func f),args := xs,argTypes := ts }) (hf:isFn P f = true):(execOp a.eval o).run P w = .ok (.enter f (xs.map a.eval)) w := by
 unfold isFn at hf
 split at hf
 ·rename_i fn hfn
  simp only [Bool.and_eq_true,bne_iff_ne,ne_eq] at hf
  have h1:fn.body.isNone = false := by cases hb:fn.body <;> simp_all
  have h2:(fn.name == "runtime.NumGoroutine") = false := by simpa using hf.2
  unfold execOp
  simp only [ho,resolve,Act.eval,Deferred.ofValue,invoke,callFunc,Sem.run_bind,Sem.run_pure,Result.andThen_ok,run_program,hfn,h1,h2]
  simp
 ·cases hf
theorem good_call_of {o:Oper} {f:FuncId} {xs:Array Operand} {tys:Array TypeId} {ts:List T} {res:T} {b:Bool} (hex:∀ (tmps:Array Value) (ds:List Deferred) (w:World) (c:Nat → Cnt),X.G w → Frm X.N w g tmps c → (execOp (Act.eval ⟨tmps,ds⟩) o).run X.P w = .ok (.enter f (xs.map (Act.eval ⟨tmps,ds⟩))) w) (hp:argsP X g xs.toList) (ha:argsA X g xs.toList tys.toList = some (ts,b))
  (hc:APure X f ts res) (hb:b = false ∨ res.noSl = true):Good X g o (.t res) := by
 intro tmps ds w c hG hf next Q hnext
 have hlow:∀ b,b < X.N → ∀ j,c j b = 0 := fun b hb j=>by
  rcases Nat.eq_zero_or_pos (c j b) with e | e
  ·exact e
  ·have := hf.low j b e; omega
 have hge:∀ b,w.heap.size ≤ b → ∀ j,c j b = 0 := fun b hb j=>by
  rcases Nat.eq_zero_or_pos (c j b) with e | e
  ·exact e
  ·have := hf.lt j b e; omega
 obtain ⟨k1,k2⟩ := args_rep (ds := ds) hG hf hp ha
 unfold Oper.wp
 rw [hex tmps ds w c hG hf]
 simp only [Oper.upon]
 have hvals:(xs.map (Act.eval ⟨tmps,ds⟩)) = (xs.toList.map (Act.eval ⟨tmps,ds⟩)).toArray := by
  apply Array.ext'; simp
 rw [hvals]
 have outs:∀ (w':World) (F:Nat → Prop) (m:Nat) (vs:List Value) (cr:Cnt),LRep w' F (List.replicate m .u) vs cr → ∀ b,cr b = 0 := by
  intro w' F m
  induction m with
  | zero=>intro vs cr h; cases h; assumption
  | succ m ih =>
   intro vs cr h
   rw [List.replicate_succ] at h
   cases h with
   | cons _ _ _ _ c1 c2 _ h1 h2 hc=>intro b; rw [hc,h1.zero rfl,ih _ _ h2]
 have fin:∀ (F:Nat → Prop),(∀ b,b < X.N → F b) → LRep w F ts (xs.toList.map (Act.eval ⟨tmps,ds⟩)) (fun _=>0) → ((∀ b,F b → ∀ j,c j b = 0) ∨ res.noSl = true) →
   Calls X.P f (xs.toList.map (Act.eval ⟨tmps,ds⟩)).toArray w fun e w''=>match e,w'' with
    | .returned v,w''=>next ((⟨tmps,ds⟩:Act).put o.dst v) w''
    | .panicked chain,w''=>Q (.panic chain) ⟨tmps,ds⟩ w''
    | .outgrown,_=>LetsOut Q := by
  intro F hFN hl hF
  refine (hc w _ (fun _=>0) F hG hFN hl (fun _=>Nat.zero_le _) (fun b hb=>absurd hb (by simp))).mono ?_
  rintro e w' ⟨v,cr,rfl,e1,e2,e3,e4,e5,h1,h2,h3⟩
  cases h1 with
  | cons _ _ _ _ c1 c2 _ q1 q2 hcr =>
   have hz := outs _ _ _ _ _ q2
   have hcr':∀ b,cr b = c1 b := fun b=>by rw [hcr,hz]; omega
   refine hnext v w' ⟨e1,e2,e3,e4,fun b hb=>e5 b hb rfl⟩ ⟨c1,?_,fun b hb=>?_,fun b=>by rw [← hcr']; exact h2 b⟩
   ·rcases hF with hF | hF
    ·refine TRep.mono (fun b _ hb=>⟨?_,rfl⟩) (Nat.le_refl _) q1 (fun _ _=>rfl)
     obtain ⟨hb1,hb2⟩ := hb
     refine ⟨?_,by rw [← hcr']; exact hb2⟩
     rcases hb1 with hb1 | hb1 | hb1
     ·exact hF b hb1
     ·exact absurd hb1 (by simp)
     ·exact hge b hb1
    ·exact TRep.anyF q1 hF
   ·rcases h3 b (by rw [hcr']; exact hb) with h | h
    ·exact absurd h (by simp)
    ·exact h
 rcases hb with hb | hb
 ·exact fin _ hlow (k2 hb) (.inl (fun b h=>h))
 ·exact fin _ (fun _ _=>trivial) k1 (.inr hb)
theorem good_call {o:Oper} {f:FuncId} {xs:Array Operand} {tys:Array TypeId} {ts:List T} {res:T} {b:Bool} (ho:o.op = .call { callee := .value (.func f),args := xs,argTypes := tys }) (hfn:isFn X.P f = true) (hp:argsP X g xs.toList) (ha:argsA X g xs.toList tys.toList = some (ts,b))
  (hc:APure X f ts res) (hb:b = false ∨ res.noSl = true):Good X g o (.t res) :=
 good_call_of (fun tmps ds w c hG hf=>exec_call ho hfn) hp ha hc hb
def AExt (X:Ctx) (f:FuncId) (args:List T) (res:T):Prop :=
 ∀ (w:World) (F:Nat → Prop) (vals:List Value),LRep w F args vals (fun _=>0) → ∃ v,(callFunc f vals.toArray).run X.P w = .ok (.value v) w ∧ TRep w F res v (fun _=>0)
theorem exec_call_ext {P:Program} {o:Oper} {a:Act} {f:FuncId} {xs:Array Operand} {ts:Array TypeId} (ho:o.op = .call { callee := .value (.func f),args := xs,argTypes := ts }):execOp a.eval o = callFunc f (xs.map a.eval) := by
 unfold execOp
 simp only [ho,resolve,Act.eval,Deferred.ofValue,invoke]
 simp
theorem good_ext {o:Oper} {f:FuncId} {xs:Array Operand} {tys:Array TypeId} {ts:List T} {res:T} (ho:o.op = .call { callee := .value (.func f),args := xs,argTypes := tys }) (hp:argsP X g xs.toList) (ha:argsA X g xs.toList tys.toList = some (ts,false))
  (hc:AExt X f ts res):Good X g o (.t res) :=
 Good.of_run fun tmps ds w c hG hf=>by
  obtain ⟨_,k2⟩ := args_rep (ds := ds) hG hf hp ha
  obtain ⟨v,h1,h2⟩ := hc w _ _ (k2 rfl)
  refine ⟨v,?_,h2⟩
  have hvals:(xs.map (Act.eval ⟨tmps,ds⟩)) = (xs.toList.map (Act.eval ⟨tmps,ds⟩)).toArray := by
   apply Array.ext'; simp
  rw [exec_call_ext (P := X.P) ho,hvals]
  exact h1
def ACallee (X:Ctx) (f:FuncId) (args:List T) (b:Bool) (res:T):Prop := (isFn X.P f = true ∧ (b = false ∨ res.noSl = true) ∧ APure X f args res) ∨ (b = false ∧ AExt X f args res)
theorem good_callee {o:Oper} {f:FuncId} {xs:Array Operand} {tys:Array TypeId} {ts:List T} {res:T} {b:Bool} (ho:o.op = .call { callee := .value (.func f),args := xs,argTypes := tys }) (hp:argsP X g xs.toList) (ha:argsA X g xs.toList tys.toList = some (ts,b))
  (hc:ACallee X f ts b res):Good X g o (.t res) := by
 rcases hc with ⟨h1,h2,h3⟩ | ⟨h1,h2⟩
 ·exact good_call ho h1 hp ha h3 h2
 ·subst h1; exact good_ext ho hp ha h2
theorem AExt_indexByteString {f:FuncId} {fn:Func} (hf:X.P.funcs[f]? = some fn) (hname:(fn.name == "runtime.NumGoroutine") = false) (hb:fn.body.isNone = true) (hn:Extern.findNext fn = none) (he:Extern.find fn = some Extern.BytealgIndexByte.indexByte) (s:ByteArray) (c:Int) :
  AExt X f [.v (.string s),.v (.int .u8 c)] (.v (.int .i64 (Lib.indexByte (bl s) c.toNat.toUInt8))) := by
 intro w F vals hl
 cases hl with
 | cons _ _ x xs _ _ _ h1 h2 _ =>
  cases h2 with
  | cons _ _ y ys _ _ _ h3 h4 _ =>
   cases h4
   have e1 := TRep.of_v h1
   have e2 := TRep.of_v h3
   subst e1; subst e2
   refine ⟨_,?_,.v _ _ (fun _=>rfl)⟩
   rw [run_callFunc_extern hf hname hb hn he,Go.Lib.run_indexByteString]
   rfl
theorem AExt_compareString {f:FuncId} {fn:Func} (hf:X.P.funcs[f]? = some fn) (hname:(fn.name == "runtime.NumGoroutine") = false) (hb:fn.body.isNone = true) (hn:Extern.findNext fn = none) (he:Extern.find fn = some Extern.BytealgCompare.compare) (s t:ByteArray) :
  AExt X f [.v (.string s),.v (.string t)] (.v (.int .i64 (Lib.compareBytes (bl s) (bl t)))) := by
 intro w F vals hl
 cases hl with
 | cons _ _ x xs _ _ _ h1 h2 _ =>
  cases h2 with
  | cons _ _ y ys _ _ _ h3 h4 _ =>
   cases h4
   have e1 := TRep.of_v h1
   have e2 := TRep.of_v h3
   subst e1; subst e2
   refine ⟨_,?_,.v _ _ (fun _=>rfl)⟩
   rw [run_callFunc_extern hf hname hb hn he,Go.Lib.run_compareString]
   rfl
theorem good_bytes_str {o:Oper} {s d:TypeId} {x:Operand} {e:TypeId} {es:List T} {l:List UInt8} (ho:o.op = .convert s d x) (hx:rdp X g x) (he:elemsA g (rd X g x) = some es) (hl:es = l.map encB) (hsz:sizA g 1 (rd X g x))
  (hs:X.P.underlying s = some (.slice e)) (heu:X.P.underlying e = some (.int .u8)) (hd:X.P.underlying d = some .string):Good X g o (.t (.v (.string (mkS l)))) :=
 Good.of_run fun tmps ds w c hG hf=>by
  have hr := rd_rep (ds := ds) hG hf x hx
  subst hl
  have hcells:∀ l:List UInt8,(l.map encB).flatMap T.cells = l.map encB := by
   intro l; induction l with
   | nil=>rfl
   | cons b bs ih=>rw [List.map_cons,List.flatMap_cons,ih]; rfl
  obtain ⟨a0,cap,vals,hxv,h1,_,h3,h4⟩ := elems_rep (sz := 1) hf hr he (fun t ht=>by obtain ⟨b,_,rfl⟩ := List.mem_map.1 ht; rfl) hsz (by rw [hcells]; simp [encB,T.flat])
  rw [hcells] at h1
  have hvals:∀ (l:List UInt8) (vals:List Value),LRep w (fun b => ∀ j,c j b = 0) (l.map encB) vals (fun _=>0) → vals = l.map fun b=>Value.int .u8 b.toNat := by
   intro l
   induction l with
   | nil=>intro vals h; cases h; rfl
   | cons b bs ih =>
    intro vals h
    rw [List.map_cons] at h
    cases h with
    | cons _ _ x xs c1 c2 _ q1 q2 qc =>
     have := TRep.of_v q1
     subst this
     rw [List.map_cons,ih xs (q2.count (fun b=>by have := qc b; simp only at this; omega))]
  have hv := hvals l vals h1
  subst hv
  refine ⟨.string (mkS l),?_,.v _ _ (fun _=>rfl)⟩
  unfold execOp; simp only [ho]
  rw [hxv]
  refine run_val ?_
  rw [List.length_map]
  rcases h4 with ⟨q1,q2⟩ | ⟨b,rfl,q2⟩
  ·have:l = [] := by simpa using q1
   subst this
   cases a0 with
   | none=>rw [List.length_nil,run_convert_bytes_string w s d e none 0 cap hs heu hd]; simp [Conv.bytesToString]; rfl
   | some a=>exact run_convert_bytes_back w s d e a cap [] hs heu hd (fun j hj=>absurd hj (by simp))
  ·exact run_convert_bytes_back w s d e b cap l hs heu hd (fun j hj=>q2 j _ (by rw [List.getElem?_map,List.getElem?_eq_getElem hj]; rfl))
end Go.Eng

/- The evaluator of operations. -/
namespace Go.Eng
open Go.RowKit (Below)
set_option linter.unusedVariables false
set_option linter.unusedSimpArgs false
variable {X:Ctx} {g:Nat → A}
def partAlias (r off:Nat):T → A
 | .own _ _ es=>.ref r (some off) 0 es.length
 | .box _ _=>.pref r (some off) 0
 | _=>.t .u
theorem good_load_alias {o:Oper} {t:TypeId} {x:Operand} {r off n:Nat} {e:TypeId} {cs:List T} {c0:T} (ho:o.op = .load t x) (hx:rdp X g x) (ex:rd X g x = .pref r none off) (hg:g r = .t (.box e cs)) (hc0:cs[off]? = some c0) (ht:tyRow X.P t = some (false,n)):Good X g o (partAlias r off c0) :=
 Good.of_run fun tmps ds w c hG hf=>by
  obtain ⟨d,i,hu,hi,hd,hn⟩ := tyRow_spec ht
  have rx := rd_rep (ds := ds) hG hf x hx
  rw [ex] at rx
  obtain ⟨_,t0,e',cs',b,h1,h2,h3,h4⟩ := rx
  rw [hg] at h1; cases h1
  obtain ⟨h5,h6⟩ := h2
  cases h5
  have hr := hf.rep r
  rw [hg,← h6] at hr
  generalize c r = cr at hr
  cases hr with
  | box _ _ _ cur cc _ hgb hl hone hc =>
   obtain ⟨y,d1,hy,k1,k2⟩ := hl.get off c0 hc0
   rw [Array.getElem?_toList] at hy
   have hcell:w.cell? ⟨b,off,none⟩ = some y := by rw [cell_at hgb]; exact hy
   have hagg:(isAgg t).run X.P w = .ok false w := by
    unfold isAgg
    rw [Sem.run_bind,run_underlying hu w]
    cases d <;> first | rfl | cases hd
   refine ⟨y,?_,?_⟩
   ·unfold execOp; simp only [ho]
    refine run_val ?_
    rw [h4]
    simp [Instr.loadAt,Instr.sureAddr,loadVar,hagg,hcell]
   ·have hat:AtV w (.box e cs) (tmps.getD r undef) (some off) c0 y := .inl ⟨e,cs,b,cur,rfl,h6.symm,hgb,hc0,hy⟩
    cases c0 with
    | own e1 sz es =>
     refine ⟨fun _=>rfl,_,e1,sz,es,y,hg,hat,by omega,?_⟩
     cases k1 with
     | ownnil=>exact .inl ⟨rfl,rfl,rfl,rfl⟩
     | own _ _ _ b' n' cap cur' c0' _ _ hn'=>exact .inr ⟨b',n',cap,0,rfl,by rw [hn']; simp,Nat.zero_le _,fun _=>by simp⟩
    | box e1 cs1 =>
     cases k1 with
     | box _ _ b' cur' c0' _ _ _ _ _=>exact ⟨fun _=>rfl,_,e1,cs1,b',hg,hat,Nat.zero_le _,rfl⟩
    | _=>exact .u _ _ (fun _=>rfl)
end Go.Eng

/- The abstract state as a list; regions, code, loops. -/
namespace Go.Eng
open Go.RowKit (Below)
set_option linter.unusedVariables false
set_option linter.unusedSimpArgs false
variable {X:Ctx}
abbrev St := List (Nat × A)
def St.find:St → Nat → Option A
 | [],_=>none
 | (k,a) :: r,i=>if i = k then some a else St.find r i
def St.put:St → Nat → A → St
 | [],d,a=>[(d,a)]
 | (k,x) :: r,d,a=>if d = k then (k,a) :: r else (k,x) :: St.put r d a
def St.mapA (f:A → A):St → St
 | []=>[]
 | (k,a) :: r=>(k,f a) :: St.mapA f r
def stG (n:Nat) (st:St) (i:Nat):A :=
 match st.find i with
 | some a=>a
 | none=>if i = n then .ghost else .t .u
theorem find_put (st:St) (d:Nat) (a:A) (i:Nat):(st.put d a).find i = if i = d then some a else st.find i := by
 induction st with
 | nil=>simp only [St.put,St.find]
 | cons p r ih =>
  obtain ⟨k,x⟩ := p
  simp only [St.put]
  by_cases h:d = k
  ·subst h
   rw [if_pos rfl]
   simp only [St.find]
   split <;> rfl
  ·rw [if_neg h]
   simp only [St.find,ih]
   by_cases h1:i = k
   ·subst h1; rw [if_pos rfl,if_neg (fun e=>h e.symm),if_pos rfl]
   ·rw [if_neg h1,if_neg h1]
theorem stG_put (n:Nat) (st:St) (d:Nat) (a:A):stG n (st.put d a) = upd (stG n st) d a := by
 funext i
 unfold stG upd
 rw [find_put]
 by_cases h:i = d
 ·rw [if_pos h,if_pos h]
 ·rw [if_neg h,if_neg h]
theorem stG_mapA (n:Nat) (st:St) (f:A → A) (h1:f (.t .u) = .t .u) (h2:f .ghost = .ghost):stG n (st.mapA f) = fun i=>f (stG n st i) := by
 funext i
 unfold stG
 have:(st.mapA f).find i = (st.find i).map f := by
  induction st with
  | nil=>rfl
  | cons p r ih =>
   obtain ⟨k,x⟩ := p
   simp only [St.mapA,St.find]
   split
   ·rfl
   ·exact ih
 rw [this]
 cases st.find i with
 | some a=>rfl
 | none=>simp only [Option.map_none]; split <;> simp [h1,h2]
def dstOk (n:Nat) (Z:List Nat) (st:St) (d:Nat):Prop := d < n ∧ d ∉ Z ∧ (stG n st d).owner = false
def moveSt (st:St) (s d:Nat) (t:T):St := ((st.mapA (redir s d)).put s (aliasT d t)).put d (.t t)
def turnSt (st:St) (r:Nat) (p:Option Nat) (t0 t':T):St := (st.mapA (killA r p)).put r (.t (putT t0 p t'))
theorem stG_moveSt (n:Nat) (st:St) (s d:Nat) (t:T):stG n (moveSt st s d t) = moved (stG n st) s d t := by
 unfold moveSt moved
 rw [stG_put,stG_put,stG_mapA n st _ rfl rfl]
theorem stG_turnSt (n:Nat) (st:St) (r:Nat) (p:Option Nat) (t0 t':T):stG n (turnSt st r p t0 t') = turned (stG n st) r p t0 t' := by
 unfold turnSt turned turnedK
 rw [stG_put,stG_mapA n st _ rfl rfl]
def guardA (g:Nat → A) (all:List Oper) (j:Nat) (want:Bool):Option Bool :=
 match all[j]? with
 | some o'=>match o'.dst with
  | some d=>match g d with
   | .t (.v (.bool b))=>some (b == want)
   | .opt c (.t (.v (.bool b)))=>some (c && (b == want))
   | _=>none
  | none=>none
 | none=>none
def A.plain:A → Bool
 | .t x=>x.flat
 | .ref _ _ _ _ | .eptr _ _ _ _ | .pref _ _ _ | .sptr _=>true
 | _=>false
theorem A.plain_zero {w:World} {F:Nat → Prop} {g:Nat → A} {tmps:Array Value} {a:A} {x:Value} {c:Cnt} (h:ARep w F g tmps a x c) (hp:a.plain = true):∀ b,c b = 0 := by
 cases a with
 | t t=>exact TRep.zero h hp
 | ghost | opt=>cases hp
 | _=>exact h.1
theorem yielded_of {n:Nat} {all:List Oper} {g:Nat → A} {tmps:Array Value} {w:World} {c:Nat → Cnt} {N:Nat} (hf:Frm N w g tmps c) {j:Nat} {want b:Bool} (h:guardA g all j want = some b) :
  (yielded all.toArray tmps j == some want) = b := by
 unfold guardA at h
 split at h
 ·rename_i o' ho'
  split at h
  ·rename_i d hd
   have hr := hf.rep d
   have hy:yielded all.toArray tmps j = match (tmps[d]? : Option Value) with | some (.bool b)=>some b | _=>none := by
    unfold yielded
    rw [List.getElem?_toArray,ho']
    simp only [Option.bind_some,hd]
    cases tmps[d]? with
    | none=>rfl
    | some v=>cases v <;> rfl
   split at h
   ·rename_i b' hg
    cases h
    rw [hg] at hr
    have hv := TRep.of_v hr
    have:tmps[d]? = some (.bool b') := by
     rw [Array.getD_eq_getD_getElem?] at hv
     cases hq:tmps[d]? with
     | none=>rw [hq] at hv; cases hv
     | some v=>rw [hq] at hv; simp at hv; rw [hv]
    rw [hy,this]
    cases b' <;> cases want <;> rfl
   ·rename_i q b' hg
    cases h
    rw [hg] at hr
    cases q with
    | true =>
     have hv := TRep.of_v (hr.2.1 rfl)
     have:tmps[d]? = some (.bool b') := by
      rw [Array.getD_eq_getD_getElem?] at hv
      cases hq:tmps[d]? with
      | none=>rw [hq] at hv; cases hv
      | some v=>rw [hq] at hv; simp at hv; rw [hv]
     rw [hy,this]
     cases b' <;> cases want <;> rfl
    | false =>
     have hv := hr.2.2 rfl
     have:(match (tmps[d]? : Option Value) with | some (.bool b)=>some b | _=>none) = none := by
      rw [Array.getD_eq_getD_getElem?] at hv
      cases hq:tmps[d]? with
      | none=>rfl
      | some v=>rw [hq] at hv; simp at hv; rw [hv]; rfl
     rw [hy,this]; rfl
   ·cases h
  ·cases h
 ·cases h
def GStep' (X:Ctx) (n:Nat) (Z:List Nat) (all:List Oper) (g:Nat → A) (o:Oper) (g':Nat → A):Prop :=
 ∀ (D:Nat → Prop) (gc:Cnt) (v0:Nat → Value) (w0:World) (tmps:Array Value) (ds:List Deferred) (w:World),Inv X n Z D gc v0 w0 g tmps w → ∀ (next:Act → World → Prop) (Q:Exit → Act → World → Prop),
  (∀ tmps' w',Inv X n Z D gc v0 w0 g' tmps' w' → next ⟨tmps',ds⟩ w') → if Region.wanted o (yielded all.toArray tmps) then o.wp X.P ⟨tmps,ds⟩ w next Q else next ((⟨tmps,ds⟩:Act).put o.dst undef) w
def RegP (X:Ctx) (n:Nat) (Z:List Nat) (all:List Oper):List Oper → St → (St → Prop) → Prop
 | [],st,K=>K st
 | o :: rest,st,K => ∃ st',GStep' X n Z all (stG n st) o (stG n st') ∧ RegP X n Z all rest st' K
def PStep (X:Ctx) (n:Nat) (Z:List Nat) (g:Nat → A) (o:Oper) (pv:Value) (g':Nat → A):Prop :=
 ∀ (D:Nat → Prop) (gc:Cnt) (v0:Nat → Value) (w0:World) (tmps:Array Value) (ds:List Deferred) (w:World),Inv X n Z D gc v0 w0 g tmps w → ∀ (next:Act → World → Prop) (Q:Exit → Act → World → Prop),
  (∀ tmps' w',Inv X n Z D gc v0 w0 g' tmps' w' → Q (.panic [{ v := pv,recovered := false }]) ⟨tmps',ds⟩ w') → o.wp X.P ⟨tmps,ds⟩ w next Q
def GPan (X:Ctx) (n:Nat) (Z:List Nat) (all:List Oper) (g:Nat → A) (o:Oper) (pv:Value) (g':Nat → A):Prop :=
 ∀ (D:Nat → Prop) (gc:Cnt) (v0:Nat → Value) (w0:World) (tmps:Array Value) (ds:List Deferred) (w:World),Inv X n Z D gc v0 w0 g tmps w → ∀ (next:Act → World → Prop) (Q:Exit → Act → World → Prop),
  (∀ tmps' w',Inv X n Z D gc v0 w0 g' tmps' w' → Q (.panic [{ v := pv,recovered := false }]) ⟨tmps',ds⟩ w') → Region.wanted o (yielded all.toArray tmps) = true ∧ o.wp X.P ⟨tmps,ds⟩ w next Q
def RegQ (X:Ctx) (n:Nat) (Z:List Nat) (all:List Oper) (Kp:Value → St → Prop):List Oper → St → (St → Prop) → Prop
 | [],st,K=>K st
 | o :: rest,st,K=>(∃ st',GStep' X n Z all (stG n st) o (stG n st') ∧ RegQ X n Z all Kp rest st' K) ∨ ∃ pv st',GPan X n Z all (stG n st) o pv (stG n st') ∧ Kp pv st'
theorem RegQ_mono {n:Nat} {Z:List Nat} {all:List Oper} {Kp Kp':Value → St → Prop} {K K':St → Prop} (hk:∀ s,K s → K' s) (hp:∀ pv s,Kp pv s → Kp' pv s):∀ (rest:List Oper) (st:St),RegQ X n Z all Kp rest st K → RegQ X n Z all Kp' rest st K'
 | [],st,h=>hk st h
 | o :: rest,st,h=>by
  rcases h with ⟨st',h1,h2⟩ | ⟨pv,st',h1,h2⟩
  ·exact .inl ⟨st',h1,RegQ_mono hk hp rest st' h2⟩
  ·exact .inr ⟨pv,st',h1,hp pv st' h2⟩
theorem RegQ_P {n:Nat} {Z:List Nat} {all:List Oper} {Kp:Value → St → Prop} {K:St → Prop} (hp:∀ pv s,¬ Kp pv s):∀ (rest:List Oper) (st:St),RegQ X n Z all Kp rest st K → RegP X n Z all rest st K
 | [],st,h=>h
 | o :: rest,st,h=>by
  rcases h with ⟨st',h1,h2⟩ | ⟨pv,st',h1,h2⟩
  ·exact ⟨st',h1,RegQ_P hp rest st' h2⟩
  ·exact absurd h2 (hp _ _)
theorem RegQ_sound {n:Nat} {Z:List Nat} {all:List Oper} {Kp:Value → St → Prop} {K:St → Prop} {D:Nat → Prop} {gc:Cnt} {v0:Nat → Value} {w0:World} {ds:List Deferred} {Q:Exit → Act → World → Prop} :
  ∀ (rest pre:List Oper) (st:St),all = pre ++ rest → RegQ X n Z all Kp rest st K → (∀ st' tmps' w',K st' → Inv X n Z D gc v0 w0 (stG n st') tmps' w' → Q .normal ⟨tmps',ds⟩ w') →
   (∀ pv st' tmps' w',Kp pv st' → Inv X n Z D gc v0 w0 (stG n st') tmps' w' → Q (.panic [{ v := pv,recovered := false }]) ⟨tmps',ds⟩ w') →
   ∀ (tmps:Array Value) (w:World),Inv X n Z D gc v0 w0 (stG n st) tmps w → wpOps X.P all.toArray Q (List.range' pre.length rest.length) ⟨tmps,ds⟩ w
 | [],pre,st,_,h,hQ,hP,tmps,w,hI=>hQ st tmps w h hI
 | o :: rest,pre,st,hall,h,hQ,hP,tmps,w,hI=>by
  rw [List.length_cons,List.range'_succ]
  have ho:all.toArray[pre.length]? = some o := by
   rw [List.getElem?_toArray,hall,List.getElem?_append_right (Nat.le_refl _)]; simp
  simp only [wpOps,ho]
  rcases h with ⟨st',h1,h2⟩ | ⟨pv,st',h1,h2⟩
  ·have ih := RegQ_sound (K := K) (Kp := Kp) (D := D) (gc := gc) (v0 := v0) (w0 := w0) (ds := ds) (Q := Q) rest (pre ++ [o]) st' (by rw [hall]; simp) h2 hQ hP
   rw [List.length_append,List.length_singleton] at ih
   have := h1 D gc v0 w0 tmps ds w hI (wpOps X.P all.toArray Q (List.range' (pre.length + 1) rest.length)) Q (fun tmps' w' hI'=>ih tmps' w' hI')
   split
   ·rename_i hw; rw [if_pos hw] at this; exact .inl this
   ·rename_i hw; rw [if_neg hw] at this; exact this
  ·obtain ⟨hw,hwp⟩ := h1 D gc v0 w0 tmps ds w hI (wpOps X.P all.toArray Q (List.range' (pre.length + 1) rest.length)) Q (fun tmps' w' hI'=>hP pv st' tmps' w' h2 hI')
   rw [if_pos hw]
   exact .inl hwp
def AW (X:Ctx) (n:Nat) (Z:List Nat) (c:Code) (st:St) (Q:Exit → St → Prop):Prop :=
 ∀ (D:Nat → Prop) (gc:Cnt) (v0:Nat → Value) (w0:World) (tmps:Array Value) (w:World),Inv X n Z D gc v0 w0 (stG n st) tmps w →
  c.wp X.P (fun ex a' w'=>a'.defers = [] ∧ ∃ st',Q ex st' ∧ Inv X n Z D gc v0 w0 (stG n st') a'.tmps w') ⟨tmps,[]⟩ w
variable {n:Nat} {Z:List Nat} {Q:Exit → St → Prop} {st:St}
theorem AW.mono {c:Code} {Q':Exit → St → Prop} (h:AW X n Z c st Q) (hq:∀ ex s,Q ex s → Q' ex s):AW X n Z c st Q' :=
 fun D gc v0 w0 tmps w hI=>wp_mono (h D gc v0 w0 tmps w hI) (fun ex a w' ⟨h1,s,h2,h3⟩=>⟨h1,s,hq _ _ h2,h3⟩)
theorem AW_skip (h:Q .normal st):AW X n Z .skip st Q := fun D gc v0 w0 tmps w hI=>wp_skip ⟨rfl,st,h,hI⟩
theorem AW_exit {id:Nat} (h:Q (.exit id) st):AW X n Z (.exit id) st Q := fun D gc v0 w0 tmps w hI=>wp_exit ⟨rfl,st,h,hI⟩
theorem AW_ret (h:Q .ret st):AW X n Z .ret st Q := fun D gc v0 w0 tmps w hI=>wp_ret ⟨rfl,st,h,hI⟩
theorem AW_regionQ {id:Nat} {ops:Array Oper} (h:RegQ X n Z ops.toList (fun pv=>Q (.panic [{ v := pv,recovered := false }])) ops.toList st (Q .normal)):AW X n Z (.region id ops false) st Q := by
 intro D gc v0 w0 tmps w hI
 refine wp_region ?_
 have := RegQ_sound (D := D) (gc := gc) (v0 := v0) (w0 := w0) (ds := []) (Q := fun ex a' w'=>a'.defers = [] ∧ ∃ st',Q ex st' ∧ Inv X n Z D gc v0 w0 (stG n st') a'.tmps w') ops.toList [] st rfl h (fun st' tmps' w' hK hI'=>⟨rfl,st',hK,hI'⟩) (fun pv st' tmps' w' hK hI'=>⟨rfl,st',hK,hI'⟩) tmps w hI
 simp only [List.length_nil,Array.length_toList,Array.toArray_toList] at this
 rw [List.range_eq_range']
 exact this
def thenC (K:St → Prop) (Q:Exit → St → Prop):Exit → St → Prop
 | .normal,s=>K s
 | e,s=>Q e s
theorem AW_seq {a b:Code} (h:AW X n Z a st (thenC (fun s=>AW X n Z b s Q) Q)):AW X n Z (.seq a b) st Q := by
 intro D gc v0 w0 tmps w hI
 refine wp_seq (wp_mono (h D gc v0 w0 tmps w hI) ?_)
 rintro ex ⟨tm,df⟩ w' ⟨h1,s,h2,h3⟩
 simp only at h1; subst h1
 cases ex with
 | normal=>exact h2 D gc v0 w0 tm w' h3
 | _=>exact ⟨rfl,s,h2,h3⟩
theorem AW_cond {c:Operand} {x y:Code} {t:Bool} (hp:rdp X (stG n st) c) (hc:rd X (stG n st) c = .t (.v (.bool t))) (h1:t = true → AW X n Z x st Q) (h2:t = false → AW X n Z y st Q):AW X n Z (.cond c x y) st Q := by
 intro D gc v0 w0 tmps w hI
 obtain ⟨cc,hf,_⟩ := hI.frm
 have := rd_v (ds := []) hI.glob hf hp hc
 exact wp_cond_split this (fun ht=>h1 ht D gc v0 w0 tmps w hI) (fun ht=>h2 ht D gc v0 w0 tmps w hI)
def blockC (id:Nat) (Q:Exit → St → Prop):Exit → St → Prop
 | .exit j,s=>if j = id then Q .normal s else Q (.exit j) s
 | e,s=>Q e s
theorem AW_block {id:Nat} {c:Code} (h:AW X n Z c st (blockC id Q)):AW X n Z (.block id c) st Q := by
 intro D gc v0 w0 tmps w hI
 refine wp_block (wp_mono (h D gc v0 w0 tmps w hI) ?_)
 rintro ex ⟨tm,df⟩ w' ⟨h1,s,h2,h3⟩
 simp only at h1; subst h1
 cases ex with
 | exit j =>
  simp only [blockC] at h2
  simp only [Exit.inBlock]
  split
  ·rename_i e; rw [if_pos e] at h2; exact ⟨trivial,s,h2,h3⟩
  ·rename_i e; rw [if_neg e] at h2; exact ⟨trivial,s,h2,h3⟩
 | _=>exact ⟨rfl,s,h2,h3⟩
def noGhost (n:Nat):St → Prop
 | []=>True
 | (k,.ghost) :: r=>False
 | (k,_) :: r=>k ≠ n ∧ noGhost n r
def lessGo (n:Nat) (t s:St):St → Prop
 | []=>True
 | (i,a) :: r=>(i ≠ n ∧ stG n s i = a ∧ match a.at with | some q=>stG n t q = stG n s q | none=>True) ∧ lessGo n t s r
def lessC (n:Nat) (t s:St):Prop := noGhost n s ∧ lessGo n t s t
theorem noGhost_find {s:St} (h:noGhost n s):s.find n = none ∧ ∀ i,s.find i ≠ some .ghost := by
 induction s with
 | nil=>exact ⟨rfl,fun i h=>by cases h⟩
 | cons p r ih =>
  obtain ⟨k,x⟩ := p
  have h2:x ≠ .ghost ∧ k ≠ n ∧ noGhost n r := by
   cases x <;> first | exact h.elim | exact ⟨(fun h=>by cases h),h.1,h.2⟩
  obtain ⟨k1,k2⟩ := ih h2.2.2
  refine ⟨?_,fun i=>?_⟩
  ·simp only [St.find]; rw [if_neg (fun e=>h2.2.1 e.symm)]; exact k1
  ·simp only [St.find]
   split
   ·intro e; cases e; exact h2.1 rfl
   ·exact k2 i
theorem lessC_less {t s:St} (h:lessC n t s):Less (stG n t) (stG n s) := by
 obtain ⟨hng,hgo⟩ := h
 obtain ⟨hs,hs2⟩ := noGhost_find hng
 have key:∀ (u:St),lessGo n t s u → ∀ i a,u.find i = some a → i ≠ n ∧ stG n s i = a ∧ (∀ r,a.at = some r → stG n t r = stG n s r) := by
  intro u
  induction u with
  | nil=>intro _ i a h; cases h
  | cons p r ih =>
   obtain ⟨k,x⟩ := p
   intro h i a hi
   simp only [St.find] at hi
   split at hi
   ·rename_i e
    subst e; cases hi
    refine ⟨h.1.1,h.1.2.1,fun r hr=>?_⟩
    have := h.1.2.2
    rw [hr] at this; exact this
   ·exact ih h.2 i a hi
 have hnt:t.find n = none := by
  cases hq:t.find n with
  | none=>rfl
  | some a=>exact absurd rfl (key t hgo n a hq).1
 intro i
 cases hq:t.find i with
 | some a =>
  obtain ⟨k1,k2,k3⟩ := key t hgo i a hq
  have e:stG n t i = a := by unfold stG; rw [hq]
  exact .inl ⟨by rw [e,k2],fun r hr=>k3 r (by rw [← k2]; exact hr)⟩
 | none =>
  by_cases hin:i = n
  ·subst hin
   left
   have e1:stG i t i = .ghost := by unfold stG; rw [hnt]; simp
   have e2:stG i s i = .ghost := by unfold stG; rw [hs]; simp
   exact ⟨by rw [e1,e2],fun r hr=>by rw [e2] at hr; cases hr⟩
  ·right
   refine ⟨by unfold stG; rw [hq]; simp [hin],?_⟩
   unfold stG
   cases hq2:s.find i with
   | none=>simp [hin]
   | some a=>intro e; simp only at e; subst e; exact hs2 i hq2
theorem AW.less {c:Code} {t:St} (hl:lessC n t st) (h:AW X n Z c t Q):AW X n Z c st Q :=
 fun D gc v0 w0 tmps w hI=>h D gc v0 w0 tmps w (hI.less (lessC_less hl))
def shareSt (st:St) (r sz:Nat) (es:List T):St := (st.mapA (shareA r sz es)).put r (.t (.sl sz (es.map T.fz)))
theorem stG_shareSt (n:Nat) (st:St) (r sz:Nat) (es:List T):stG n (shareSt st r sz es) = shared (stG n st) r sz es := by
 unfold shareSt shared
 rw [stG_put,stG_mapA n st _ rfl rfl]
theorem AW.share {c:Code} (r:Nat) {sz:Nat} {e:TypeId} {es:List T} (hg:stG n st r = .t (.own e sz es)) (h:AW X n Z c (shareSt st r sz es) Q):AW X n Z c st Q :=
 fun D gc v0 w0 tmps w hI=>h D gc v0 w0 tmps w (by rw [stG_shareSt]; exact hI.share hg)
end Go.Eng

/- A function's body and its call. -/
namespace Go.Eng
open Go.RowKit (Below)
set_option linter.unusedVariables false
set_option linter.unusedSimpArgs false
variable {X:Ctx} {n:Nat} {Z:List Nat} {Q:Exit → St → Prop} {st:St}
theorem Inv.swap {g:Nat → A} {D:Nat → Prop} {gc:Cnt} {v0:Nat → Value} {w0 w:World} {tmps:Array Value} {s d:Nat} {e:TypeId} {sz:Nat} {es:List T} (hI:Inv X n Z D gc v0 w0 g tmps w) (hd:d < n) (hs:g s = .t (.own e sz es)) (hg:g d = .ref s none 0 es.length) :
  Inv X n Z D gc v0 w0 (moved g s d (.own e sz es)) tmps w := by
 obtain ⟨c,hf,hbd⟩ := hI.frm
 have hds:d ≠ s := by rintro rfl; rw [hs] at hg; cases hg
 have hsd:s ≠ d := fun e=>hds e.symm
 have hno:(g d).owner = false := by rw [hg]; rfl
 have hrs := hf.rep s
 rw [hs] at hrs
 have hrd := hf.rep d
 rw [hg] at hrd
 -- both hold one value
 have hval:tmps.getD d undef = tmps.getD s undef := by
  obtain ⟨_,t0,e',sz',es',x0,h1,h2,h3,h4⟩ := hrd
  rw [hs] at h1; cases h1
  obtain ⟨q1,q2⟩ := h2
  cases q1
  rw [← q2]
  rw [← q2] at hrs
  generalize tmps.getD d undef = x at h4
  generalize c s = cs at hrs
  cases hrs with
  | ownnil =>
   rcases h4 with ⟨_,h,_⟩ | ⟨b,m,cap,o,h,_⟩
   ·exact h
   ·cases h
  | own _ _ _ b m cap cur c0 _ hgb hn =>
   rcases h4 with ⟨h,_⟩ | ⟨b',m',cap',o,h,hx,hoc,ho⟩
   ·cases h
   ·cases h
    have:o = 0 := by have := ho (.inr rfl); omega
    subst this
    rw [hx,hn]; rfl
 have hset:tmps.setIfInBounds d (tmps.getD s undef) = tmps := by
  have hsz:d < tmps.size := by rw [hI.size]; exact hd
  apply Array.ext'
  rw [Array.toList_setIfInBounds]
  refine set_self _ _ _ ?_
  rw [← hval,Array.getElem?_toList,Array.getD_eq_getD_getElem?,Array.getElem?_eq_getElem hsz]; rfl
 have hm := hI.relocate hd (by rw [hset]; exact fun _ _=>rfl) hds hno hs
 rw [hset] at hm
 exact hm
def retGo (n:Nat):List Nat → St → (St → Prop) → Prop
 | [],st,K=>K st
 | r :: rs,st,K=>match stG n st r with
  | .t (.tup _)=>False
  | .t _=>retGo n rs st K
  | .ref s none off len=>match stG n st s with
   | .t (.own e sz es)=>if off = 0 ∧ len = es.length then r < n ∧ retGo n rs (moveSt st s r (.own e sz es)) K else retGo n rs (shareSt st s sz es) K
   | _=>False
  | _=>False
theorem retGo_sound {D:Nat → Prop} {gc:Cnt} {v0:Nat → Value} {w0 w:World} {tmps:Array Value} {K:St → Prop}:∀ (rs:List Nat) (st:St),retGo n rs st K → Inv X n Z D gc v0 w0 (stG n st) tmps w → ∃ st',K st' ∧ Inv X n Z D gc v0 w0 (stG n st') tmps w
 | [],st,h,hI=>⟨st,h,hI⟩
 | r :: rs,st,h,hI=>by
  simp only [retGo] at h
  split at h
  ·exact h.elim
  ·exact retGo_sound rs st h hI
  ·rename_i s off len hr
   split at h
   ·rename_i e sz es hs
    split at h
    ·rename_i hw
     obtain ⟨rfl,rfl⟩ := hw
     exact retGo_sound rs _ h.2 (by rw [stG_moveSt]; exact hI.swap h.1 hs hr)
    ·exact retGo_sound rs _ h (by rw [stG_shareSt]; exact hI.share hs)
   ·exact h.elim
  ·exact h.elim
def lookC:List (Nat × TypeId) → Nat → Option TypeId
 | [],_=>none
 | (k,t) :: r,i=>bif Nat.beq i k then some t else lookC r i
def resVar (cl:List (Nat × TypeId)) (r:Nat):ResultVar := match lookC cl r with
 | some t=>.cell r t
 | none=>.tmp r
def lvC (P:Program) (w:World) (t:TypeId) (x:Value):Value := match tyRow P t,x with
 | some (_,k),.pointer (some a)=>match w.heap[a.block]? with
  | some (.cells cur _ _)=>.agg (cur.toList.take k).toArray
  | _=>undef
 | _,_=>undef
def resV (P:Program) (cl:List (Nat × TypeId)) (w:World) (tm:Array Value) (r:Nat):Value := match lookC cl r with
 | some t=>lvC P w t (tm.getD r undef)
 | none=>tm.getD r undef
def valOk (P:Program) (cl:List (Nat × TypeId)) (n:Nat) (s:St) (r:Nat) (t:T):Prop := match lookC cl r with
 | none=>stG n s r = .t t
 | some ty => ∃ e cs k,stG n s r = .t (.box e cs) ∧ tyRow P ty = some (true,k) ∧ k ≤ cs.length ∧ (cs.take k).all T.flat = true ∧ t = .ag (cs.take k)
theorem valOk.t {P:Program} {cl:List (Nat × TypeId)} {n:Nat} {s:St} {r:Nat} {t:T} (h:valOk P cl n s r t):∃ t',stG n s r = .t t' := by
 unfold valOk at h
 split at h
 ·exact ⟨_,h⟩
 ·obtain ⟨e,cs,k,h,_⟩ := h; exact ⟨_,h⟩
def cutC (cl:List (Nat × TypeId)) (c:Nat → Cnt) (i:Nat):Cnt := match lookC cl i with
 | some _=>fun _=>0
 | none=>c i
theorem cutC_le (cl:List (Nat × TypeId)) (c:Nat → Cnt) (i b:Nat):cutC cl c i b ≤ c i b := by
 unfold cutC
 cases lookC cl i with
 | some _=>exact Nat.zero_le _
 | none=>exact Nat.le_refl _
theorem valOk.rep {X:Ctx} {N:Nat} {w:World} {cl:List (Nat × TypeId)} {n:Nat} {s:St} {tm:Array Value} {c:Nat → Cnt} {r:Nat} {t:T} (hf:Frm N w (stG n s) tm c) (h:valOk X.P cl n s r t) :
  ((match resVar cl r with | .tmp t=>(pure (tm.getD t undef):Sem Value) | .cell a t=>do loadVar t (← asAddr (tm.getD a undef))).run X.P w = .ok (resV X.P cl w tm r) w) ∧ TRep w (fun b => ∀ j,c j b = 0) t (resV X.P cl w tm r) (cutC cl c r) := by
 unfold valOk at h
 unfold resVar resV cutC
 have hr := hf.rep r
 split at h
 ·rename_i hl
  rw [h] at hr
  simp only [hl]
  exact ⟨rfl,hr⟩
 ·rename_i ty hl
  obtain ⟨e,cs,k,h1,h2,h3,h4,rfl⟩ := h
  rw [h1] at hr
  simp only [hl]
  obtain ⟨d,i,hu,hi,hd,hn⟩ := tyRow_spec h2
  generalize tm.getD r undef = x at hr
  generalize c r = cr at hr
  cases hr with
  | box _ _ g cur c0 _ hg hlr hone hc =>
   obtain ⟨d1,k1,_⟩ := hlr.take k
   have hvl:(cur.toList.take k).length = k := by rw [← k1.length,List.length_take]; omega
   have e2:lvC X.P w ty (.pointer (some ⟨g,0,none⟩)) = .agg (cur.toList.take k).toArray := by simp only [lvC,h2,hg]
   rw [e2]
   refine ⟨?_,.ag _ _ _ (k1.count (fun b=>(all_zero h4 k1 b).symm)) (fun y hy=>hone y (List.mem_of_mem_take (by simpa using hy))) (fun _=>rfl)⟩
   simp only [asAddr,Sem.run_bind,Sem.run_pure,Result.andThen_ok]
   refine run_loadVar_mid w g 0 ty (cur.toList.take k) d (fun j v hj=>?_) hu hd (by rw [hi,hvl]; simp [hn])
   rw [List.getElem?_take] at hj
   split at hj
   ·rw [Nat.zero_add,cell_at hg,← Array.getElem?_toList]; exact hj
   ·cases hj
def slotsOk (P:Program) (cl:List (Nat × TypeId)) (n:Nat) (s:St):List Nat → List T → Prop
 | [],[]=>True
 | r :: rs,t :: ts=>valOk P cl n s r t ∧ slotsOk P cl n s rs ts
 | _,_=>False
def resOk (P:Program) (cl:List (Nat × TypeId)) (n:Nat) (s:St) (rs:List Nat) (res:T):Prop :=
 match rs with
 | [r]=>valOk P cl n s r res
 | rs=>match res with
  | .tup ts=>slotsOk P cl n s rs ts
  | _=>False
def outsOk (n:Nat) (s:St) (Z:List Nat):Nat → List T → Prop
 | _,[]=>True
 | i,t :: ts=>(if i ∈ Z then stG n s i = .t t else t = .u) ∧ outsOk n s Z (i + 1) ts
def entry:Nat → List T → St
 | _,[]=>[]
 | k,t :: ts=>(k,.t t) :: entry (k + 1) ts
def endC (P:Program) (cl:List (Nat × TypeId)) (n:Nat) (Z:List Nat) (rs:List Nat) (res:T) (outs:List T):Exit → St → Prop
 | .normal,s | .ret,s=>retGo n rs s fun s=>noGhost n s ∧ resOk P cl n s rs res ∧ outsOk n s Z 0 outs
 | _,_=>False
theorem find_entry:∀ (ts:List T) (k i:Nat),(entry k ts).find i = if k ≤ i then (ts[i - k]?).map .t else none
 | [],k,i=>by simp [entry,St.find]
 | t :: ts,k,i=>by
  simp only [entry,St.find,find_entry ts (k + 1) i]
  by_cases h:i = k
  ·subst h; simp
  ·rw [if_neg h]
   by_cases h2:k ≤ i
   ·rw [if_pos (by omega),if_pos h2,show i - k = (i - (k + 1)) + 1 by omega,List.getElem?_cons_succ]
   ·rw [if_neg (by omega),if_neg h2]
theorem LRep.indexed {w:World} {F:Nat → Prop}:∀ {ts:List T} {xs:List Value} {ca:Cnt},LRep w F ts xs ca →
  ∃ cs:Nat → Cnt,(∀ (i:Nat) (t:T),ts[i]? = some t → ∃ x,xs[i]? = some x ∧ TRep w F t x (cs i)) ∧ (∀ i b,ts.length ≤ i → cs i b = 0) ∧ (∀ i b,cs i b ≤ ca b) ∧ (∀ i j b,ca b ≤ 1 → 0 < cs i b → 0 < cs j b → i = j)
 | [],_,ca,h=>by
  cases h
  exact ⟨fun _ _=>0,fun i t h=>by simp at h,fun _ _ _=>rfl,fun _ _=>Nat.zero_le _,fun i j b _ h=>absurd h (by simp)⟩
 | t :: ts,_,ca,h=>by
  cases h with
  | cons _ _ x xs c1 c2 _ h1 h2 hc =>
   obtain ⟨cs,k1,k2,k3,k4⟩ := LRep.indexed h2
   refine ⟨fun i=>match i with | 0=>c1 | i + 1=>cs i,fun i t' ht=>?_,fun i b hi=>?_,fun i b=>?_,fun i j b hca hi hj=>?_⟩
   ·cases i with
    | zero=>simp at ht; subst ht; exact ⟨x,by simp,h1⟩
    | succ i=>obtain ⟨y,hy,hr⟩ := k1 i t' (by simpa using ht); exact ⟨y,by simpa using hy,hr⟩
   ·cases i with
    | zero=>simp at hi
    | succ i=>exact k2 i b (by simpa using hi)
   ·cases i with
    | zero=>dsimp only; rw [hc]; omega
    | succ i=>dsimp only; rw [hc]; have := k3 i b; omega
   ·rw [hc] at hca
    cases i with
    | zero=>cases j with
     | zero=>rfl
     | succ j=>dsimp only at hi hj; have := k3 j b; omega
    | succ i=>cases j with
     | zero=>dsimp only at hi hj; have := k3 i b; omega
     | succ j=>dsimp only at hi hj; rw [k4 i j b (by omega) hi hj]
def tot (c:Nat → Cnt) (L:List Nat) (b:Nat):Nat := match L with
 | []=>0
 | i :: r=>c i b + tot c r b
theorem tot_spec {c:Nat → Cnt} (hone:∀ i b,c i b ≤ 1) (huniq:∀ i j b,0 < c i b → 0 < c j b → i = j) (b:Nat):∀ (L:List Nat),L.Nodup → tot c L b ≤ 1 ∧ (0 < tot c L b → ∃ i ∈ L,0 < c i b)
 | [],_=>⟨Nat.zero_le _,fun h=>absurd h (by simp [tot])⟩
 | i :: r,h=>by
  obtain ⟨h1,h2⟩ := List.nodup_cons.1 h
  obtain ⟨k1,k2⟩ := tot_spec hone huniq b r h2
  simp only [tot]
  have := hone i b
  refine ⟨?_,fun hp=>?_⟩
  ·by_cases hi:0 < c i b
   ·by_cases hr:0 < tot c r b
    ·obtain ⟨j,hj,hjb⟩ := k2 hr
     exact absurd (huniq i j b hi hjb) (by rintro rfl; exact h1 hj)
    ·omega
   ·omega
  ·by_cases hi:0 < c i b
   ·exact ⟨i,by simp,hi⟩
   ·obtain ⟨j,hj,hjb⟩ := k2 (by omega)
    exact ⟨j,by simp [hj],hjb⟩
theorem slots_rep {N:Nat} {w:World} {tmps:Array Value} {c:Nat → Cnt} {s:St} {cl:List (Nat × TypeId)} (hf:Frm N w (stG n s) tmps c):∀ (rs:List Nat) (ts:List T),slotsOk X.P cl n s rs ts → LRep w (fun b => ∀ j,c j b = 0) ts (rs.map fun r=>resV X.P cl w tmps r) (tot (cutC cl c) rs)
 | [],[],_=>.nil _ (fun _=>rfl)
 | r :: rs,t :: ts,h=>by
  have hr := (valOk.rep (X := X) hf h.1).2
  exact .cons _ _ _ _ _ _ _ hr (slots_rep hf rs ts h.2) (fun _=>rfl)
 | [],_ :: _,h=>h.elim
 | _ :: _,[],h=>h.elim
theorem outs_rep {N:Nat} {w:World} {tmps:Array Value} {c:Nat → Cnt} {s:St} (hf:Frm N w (stG n s) tmps c) (vals:List Value) (hv:∀ i ∈ Z,tmps.getD i undef = vals.getD i undef) :
  ∀ (ts:List T) (k:Nat),k + ts.length = vals.length → outsOk n s Z k ts → ∃ L:List Nat,L.Nodup ∧ (∀ i ∈ L,i ∈ Z ∧ k ≤ i) ∧ LRep w (fun b => ∀ j,c j b = 0) ts (vals.drop k) (tot c L)
 | [],k,hk,_=>⟨[],List.nodup_nil,by simp,by rw [List.drop_eq_nil_of_le (by simp at hk; omega)]; exact .nil _ (fun _=>rfl)⟩
 | t :: ts,k,hk,h=>by
  simp only [List.length_cons] at hk
  obtain ⟨L,h1,h2,h3⟩ := outs_rep hf vals hv ts (k + 1) (by omega) h.2
  have hlt:k < vals.length := by omega
  have hdrop:vals.drop k = vals.getD k undef :: vals.drop (k + 1) := by
   rw [List.drop_eq_getElem_cons hlt,List.getD_eq_getElem?_getD,List.getElem?_eq_getElem hlt]; rfl
  rw [hdrop]
  by_cases hz:k ∈ Z
  ·have ho := h.1
   rw [if_pos hz] at ho
   have hr := hf.rep k
   rw [ho,hv k hz] at hr
   refine ⟨k :: L,List.nodup_cons.2 ⟨fun e=>by have := (h2 k e).2; omega,h1⟩,fun i hi=>?_,.cons _ _ _ _ _ _ _ hr h3 (fun _=>rfl)⟩
   rcases List.mem_cons.1 hi with rfl | hi
   ·exact ⟨hz,Nat.le_refl _⟩
   ·exact ⟨(h2 i hi).1,by have := (h2 i hi).2; omega⟩
  ·have ho := h.1
   rw [if_neg hz] at ho
   subst ho
   exact ⟨L,h1,fun i hi=>⟨(h2 i hi).1,by have := (h2 i hi).2; omega⟩,.cons _ _ _ _ _ _ _ (.u _ (fun _=>0) (fun _=>rfl)) h3 (fun b=>by simp)⟩
theorem tot_append (c:Nat → Cnt) (b:Nat):∀ (L M:List Nat),tot c (L ++ M) b = tot c L b + tot c M b
 | [],M=>by simp [tot]
 | i :: L,M=>by simp only [List.cons_append,tot,tot_append c b L M]; omega
theorem ACall_of_body {f:FuncId} {fn:Func} {body:Code} {args outs:List T} {res:T} {rs:List Nat} {cl:List (Nat × TypeId)} (hf:X.P.funcs[f]? = some fn) (hb:fn.body = some body) (hn:fn.ntmps = n) (hrs:fn.results = (rs.map (resVar cl)).toArray) (hlen:args.length ≤ n)
  (hol:outs.length = args.length) (hnd:rs.Nodup) (hZ:∀ i ∈ Z,i < args.length ∧ i ∉ rs) (hZc:∀ i ∈ Z,lookC cl i = none) (h:AW X n Z body (entry 0 args) (endC X.P cl n Z rs res outs)):ACall X f args res outs := by
 intro w vals ca F hG hFN hl hca1 hcaN
 have hvl := hl.length
 obtain ⟨cs,k1,k2,k3,k4⟩ := hl.indexed
 have hdec:∃ gc:Cnt,(∀ b,gc b ≤ 1) ∧ (∀ b,0 < gc b → b < w.heap.size ∧ ¬ F b ∧ ca b = 0) ∧ (∀ b,b < w.heap.size → ¬ F b → ca b = 0 → 0 < gc b) := by
  classical
  have hx:∀ b,∃ k:Nat,k ≤ 1 ∧ (0 < k → b < w.heap.size ∧ ¬ F b ∧ ca b = 0) ∧ (b < w.heap.size → ¬ F b → ca b = 0 → 0 < k) := fun b=>by
   by_cases hc:b < w.heap.size ∧ ¬ F b ∧ ca b = 0
   ·exact ⟨1,Nat.le_refl _,fun _=>hc,fun _ _ _=>by omega⟩
   ·exact ⟨0,by omega,fun h=>absurd h (by omega),fun h1 h2 h3=>absurd ⟨h1,h2,h3⟩ hc⟩
  exact ⟨fun b=>Classical.choose (hx b),fun b=>(Classical.choose_spec (hx b)).1,fun b=>(Classical.choose_spec (hx b)).2.1,fun b=>(Classical.choose_spec (hx b)).2.2⟩
 obtain ⟨gc,g1,g2,g3⟩ := hdec
 have hNsz:X.N ≤ w.heap.size := X.hN w hG
 generalize htm:vals.toArray ++ Array.replicate (fn.ntmps - vals.toArray.size) undef = tmps
 have htsz:tmps.size = n := by rw [← htm]; simp; omega
 have htget:∀ i,i < args.length → tmps.getD i undef = vals.getD i undef := by
  intro i hi
  rw [← htm,Array.getD_eq_getD_getElem?,Array.getElem?_append_left (by simp; omega)]
  rw [List.getElem?_toArray,List.getD_eq_getElem?_getD]
 have hgi:∀ i,stG n (entry 0 args) i = match args[i]? with | some t=>.t t | none=>if i = n then .ghost else .t .u := by
  intro i
  unfold stG
  rw [find_entry]
  simp only [Nat.zero_le,if_true,Nat.sub_zero]
  cases args[i]? <;> rfl
 let c0:Nat → Cnt := fun i b=>if i = n then gc b else cs i b
 have hc0:∀ i b,c0 i b = if i = n then gc b else cs i b := fun _ _=>rfl
 have hF0:∀ b,b < w.heap.size → F b → ∀ j,c0 j b = 0 := fun b hb hfb j=>by
  rw [hc0]
  have hca0:ca b = 0 := by
   rcases Nat.eq_zero_or_pos (ca b) with e | e
   ·exact e
   ·exact absurd hfb (hcaN b e).2
  split
  ·rcases Nat.eq_zero_or_pos (gc b) with e | e
   ·exact e
   ·exact absurd hfb (g2 b e).2.1
  ·have := k3 j b; omega
 have hfrm:Frm X.N w (stG n (entry 0 args)) tmps c0 := by
  refine ⟨fun i=>?_,fun i b=>?_,fun i j b hi hj=>?_,fun i b hi=>?_⟩
  ·rw [hgi]
   by_cases hlt:i < args.length
   ·obtain ⟨x,hx,hr⟩ := k1 i args[i] (List.getElem?_eq_getElem hlt)
    rw [List.getElem?_eq_getElem hlt]
    have hne:i ≠ n := by omega
    have e1:c0 i = cs i := by funext b; rw [hc0,if_neg hne]
    rw [e1,htget i hlt,List.getD_eq_getElem?_getD,hx]
    exact TRep.mono (fun b hb hfb=>⟨hF0 b hb hfb,rfl⟩) (Nat.le_refl _) hr (fun _ _=>rfl)
   ·rw [List.getElem?_eq_none (by omega)]
    simp only
    split
    ·rename_i e
     intro b hb
     rw [hc0,if_pos e] at hb
     exact (g2 b hb).1
    ·rename_i e
     exact .u _ _ (fun b=>by rw [hc0,if_neg e]; exact k2 i b (by omega))
  ·rw [hc0]; split
   ·exact g1 b
   ·have := k3 i b; have := hca1 b; omega
  ·rw [hc0] at hi hj
   by_cases i1:i = n <;> by_cases j1:j = n
   ·rw [i1,j1]
   ·rw [if_pos i1] at hi; rw [if_neg j1] at hj
    have := (g2 b hi).2.2; have := k3 j b; omega
   ·rw [if_pos j1] at hj; rw [if_neg i1] at hi
    have := (g2 b hj).2.2; have := k3 i b; omega
   ·rw [if_neg i1] at hi; rw [if_neg j1] at hj
    exact k4 i j b (hca1 b) hi hj
  ·rw [hc0] at hi
   split at hi
   ·rcases Nat.lt_or_ge b X.N with e | e
    ·exact absurd (hFN b e) (g2 b hi).2.1
    ·exact e
   ·exact (hcaN b (by have := k3 i b; omega)).1
 have hI:Inv X n Z (fun b=>0 < ca b) gc (fun i=>vals.getD i undef) w (stG n (entry 0 args)) tmps w := by
  refine ⟨htsz,fun i hi=>htget i (hZ i hi).1,rfl,rfl,rfl,fun _ _ _=>rfl,Nat.le_refl _,hG,fun b hb=>(hcaN b hb).1,hNsz,c0,hfrm,fun i b hi hgh=>?_,fun i hi b=>?_⟩
  ·left
   rw [hc0] at hi
   split at hi
   ·rename_i e
    subst e
    exfalso
    apply hgh
    rw [hgi,List.getElem?_eq_none (by omega)]
    simp
   ·have := k3 i b; omega
  ·rw [hgi] at hi
   rw [hc0]
   split at hi
   ·cases hi
   ·split at hi
    ·rename_i e; rw [if_pos e]
    ·cases hi
 refine calls_of_wp hf hb ?_
 rw [htm]
 refine wp_mono (h _ gc _ w tmps w hI) ?_
 rintro ex ⟨tm,df⟩ w' ⟨h1,s,h2,h3⟩
 simp only at h1; subst h1
 have fin:retGo n rs s (fun s=>noGhost n s ∧ resOk X.P cl n s rs res ∧ outsOk n s Z 0 outs) → ([]:List Deferred) = [] ∧ ∃ v,(results fn tm).run X.P w' = .ok v w' ∧ ∃ v' cr,Ending.returned v = .returned v' ∧ w'.os = w.os ∧ w'.tape = w.tape ∧ w'.output = w.output ∧ w.heap.size ≤ w'.heap.size ∧
   (∀ b,b < w.heap.size → ca b = 0 → w'.heap[b]? = w.heap[b]?) ∧ LRep w' (fun b=>(F b ∨ 0 < ca b ∨ w.heap.size ≤ b) ∧ cr b = 0) (res :: outs) (v' :: vals) cr ∧ (∀ b,cr b ≤ 1) ∧ (∀ b,0 < cr b → 0 < ca b ∨ w.heap.size ≤ b) := by
  intro hret
  obtain ⟨s',⟨q1,q2,q3⟩,hI'⟩ := retGo_sound rs s hret h3
  obtain ⟨c,hf',hb',hgc⟩ := hI'.frm
  have hfind := (noGhost_find q1).1
  have hgn:stG n s' n = .ghost := by unfold stG; rw [hfind]; simp
  obtain ⟨L,l1,l2,l3⟩ := outs_rep (Z := Z) hf' vals (fun i hi=>hI'.fix i hi) outs 0 (by omega) q3
  rw [List.drop_zero] at l3
  -- the results
  have hvok:∀ r ∈ rs,∃ t,valOk X.P cl n s' r t := by
   have hs:∀ (rs:List Nat) (ts:List T),slotsOk X.P cl n s' rs ts → ∀ r ∈ rs,∃ t,valOk X.P cl n s' r t := by
    intro rs
    induction rs with
    | nil=>intro ts _ r hr; simp at hr
    | cons q qs ih =>
     intro ts h r hr
     cases ts with
     | nil=>exact h.elim
     | cons t ts =>
      rcases List.mem_cons.1 hr with rfl | hr
      ·exact ⟨t,h.1⟩
      ·exact ih ts h.2 r hr
   unfold resOk at q2
   split at q2
   ·intro r hr; simp at hr; subst hr; exact ⟨_,q2⟩
   ·split at q2
    ·exact hs _ _ q2
    ·exact q2.elim
  have hres:(results fn tm).run X.P w' = .ok (if h:(rs.map fun r=>resV X.P cl w' tm r).toArray.size = 1 then (rs.map fun r=>resV X.P cl w' tm r).toArray[0] else .tuple (rs.map fun r=>resV X.P cl w' tm r).toArray) w' := by
   unfold results
   have hm := amapM_run (P := X.P) (w := w') (fun x:ResultVar=>match x with | .tmp t=>(pure (tm.getD t undef):Sem Value) | .cell a t=>do loadVar t (← asAddr (tm.getD a undef))) (fun x=>match x with | .tmp t=>resV X.P cl w' tm t | .cell a t=>resV X.P cl w' tm a) fn.results (fun x hx=>by
    rw [hrs] at hx
    simp only [List.mem_map] at hx
    obtain ⟨r,hr,rfl⟩ := hx
    obtain ⟨t,ht⟩ := hvok r hr
    have := (valOk.rep (X := X) hf' ht).1
    refine this.trans ?_
    unfold resVar
    cases lookC cl r <;> rfl)
   rw [Sem.run_bind]
   refine (congrArg (fun r=>Result.andThen r _) hm).trans ?_
   simp only [Result.andThen_ok,Sem.run_pure]
   have e:(fn.results.map fun x=>match x with | .tmp t=>resV X.P cl w' tm t | .cell a t=>resV X.P cl w' tm a) = (rs.map fun r=>resV X.P cl w' tm r).toArray := by
    rw [hrs]
    simp only [List.map_toArray,List.map_map,Array.mk.injEq]
    refine List.map_congr_left fun r _=>?_
    simp only [Function.comp,resVar]
    cases lookC cl r <;> rfl
   rw [e]
  have hcutL:∀ b,tot c L b = tot (cutC cl c) L b := by
   intro b
   have:∀ (M:List Nat),(∀ i ∈ M,i ∈ Z) → tot c M b = tot (cutC cl c) M b := by
    intro M
    induction M with
    | nil=>intro _; rfl
    | cons i M ih =>
     intro h
     simp only [tot]
     rw [ih (fun j hj=>h j (by simp [hj]))]
     have:cutC cl c i b = c i b := by simp only [cutC,hZc i (h i (by simp))]
     rw [this]
   exact this L (fun i hi=>(l2 i hi).1)
  have hLR:∃ v,(results fn tm).run X.P w' = .ok v w' ∧ LRep w' (fun b => ∀ j,c j b = 0) (res :: outs) (v :: vals) (tot (cutC cl c) (rs ++ L)) := by
   refine ⟨_,hres,?_⟩
   unfold resOk at q2
   split at q2
   ·rename_i r
    have hr := (valOk.rep (X := X) hf' q2).2
    exact .cons _ _ _ _ _ _ _ hr l3 (fun b=>by rw [hcutL]; rfl)
   ·rename_i hne
    split at q2
    ·rename_i ts
     have hsl := slots_rep (X := X) hf' rs ts q2
     have hlen1:¬ (rs.map fun r=>resV X.P cl w' tm r).toArray.size = 1 := by
      intro e
      simp at e
      obtain ⟨r,rfl⟩ := List.length_eq_one_iff.1 e
      exact hne r rfl
     rw [dif_neg hlen1]
     exact .cons _ _ _ _ _ _ _ (.tup _ _ _ hsl) l3 (fun b=>by rw [tot_append,hcutL])
    ·exact q2.elim
  have hone:∀ i b,cutC cl c i b ≤ 1 := fun i b=>Nat.le_trans (cutC_le _ _ _ _) (hf'.one i b)
  have huniq:∀ i j b,0 < cutC cl c i b → 0 < cutC cl c j b → i = j := fun i j b hi hj=>hf'.uniq i j b (Nat.lt_of_lt_of_le hi (cutC_le _ _ _ _)) (Nat.lt_of_lt_of_le hj (cutC_le _ _ _ _))
  obtain ⟨v,hv,hlr⟩ := hLR
  have hnd2:(rs ++ L).Nodup := List.nodup_append.2 ⟨hnd,l1,fun a ha b hb' e=>by subst e; exact (hZ a (l2 a hb').1).2 ha⟩
  refine ⟨rfl,v,hv,v,_,rfl,hI'.os,hI'.tape,hI'.output,hI'.grow,fun b hb hz=>hI'.kept b hb (by simpa using hz),hlr.mono (fun b hb hz=>⟨⟨?_,?_⟩,rfl⟩) (Nat.le_refl _) (fun _ _=>rfl),fun b=>(tot_spec hone huniq b _ hnd2).1,fun b hb=>?_⟩
  ·obtain ⟨i,hmem,hi⟩ := (tot_spec hone huniq b _ hnd2).2 hb
   refine hb' i b (Nat.lt_of_lt_of_le hi (cutC_le _ _ _ _)) (fun e=>?_)
   have hout:∀ (ts:List T) (k:Nat),outsOk n s' Z k ts → ∀ i ∈ Z,k ≤ i → i < k + ts.length → ∃ t,stG n s' i = .t t := by
    intro ts
    induction ts with
    | nil=>intro k _ i _ h1 h2; simp at h2; omega
    | cons t ts ih =>
     intro k h i hi h1 h2
     by_cases hik:i = k
     ·subst hik; have := h.1; rw [if_pos hi] at this; exact ⟨t,this⟩
     ·exact ih (k + 1) h.2 i hi (by omega) (by simp at h2; omega)
   rcases List.mem_append.1 hmem with hm | hm
   ·obtain ⟨t,ht⟩ := hvok i hm
    obtain ⟨t',ht'⟩ := ht.t
    rw [e] at ht'; cases ht'
   ·obtain ⟨t,ht⟩ := hout outs 0 q3 i (l2 i hm).1 (Nat.zero_le _) (by have := (hZ i (l2 i hm).1).1; omega)
    rw [e] at ht; cases ht
  ·rcases Nat.lt_or_ge b w.heap.size with e | e
   ·by_cases hFb:F b
    ·exact .inl hFb
    ·rcases Nat.eq_zero_or_pos (ca b) with e2 | e2
     ·have := g3 b e hFb e2
      rw [← hgc n hgn b,hz n] at this; omega
     ·exact .inr (.inl e2)
   ·exact .inr (.inr e)
  ·rcases Nat.eq_zero_or_pos (tot (cutC cl c) (rs ++ L) b) with e | e
   ·exact e
   ·obtain ⟨i,_,hi⟩ := (tot_spec hone huniq b _ hnd2).2 e
    have := cutC_le cl c i b
    rw [hz i] at this; omega
 cases ex with
 | normal=>exact fin h2
 | ret=>exact fin h2
 | _=>exact h2.elim
end Go.Eng

/- Regions whose order the language leaves open. -/
namespace Go.Eng
open Go.RowKit (Below)
set_option linter.unusedVariables false
set_option linter.unusedSimpArgs false
variable {X:Ctx} {n:Nat} {Z:List Nat} {Q:Exit → St → Prop} {st:St}
def Hid (n:Nat) (g' g:Nat → A):Prop := g' n = .ghost ∧ g n = .ghost ∧ ∀ i,(g' i = g i ∧ ∀ r t,(g i).at = some r → g r = .t t → g' r = .t t) ∨ g' i = .t .u
theorem Frm.hide {N:Nat} {w:World} {g g':Nat → A} {tmps:Array Value} {c:Nat → Cnt} (hf:Frm N w g tmps c) (h:Hid n g' g):∃ c',Frm N w g' tmps c' ∧ ∀ b,(∀ j,c' j b = 0) ↔ ∀ j,c j b = 0 := by
 obtain ⟨hn',hn,hl⟩ := h
 have:∃ P:Nat → Bool,∀ i,(P i = true → g' i = g i ∧ ∀ r t,(g i).at = some r → g r = .t t → g' r = .t t) ∧ (P i = false → g' i = .t .u) := by
  refine ⟨fun i=>@decide (g' i = g i ∧ ∀ r t,(g i).at = some r → g r = .t t → g' r = .t t) (Classical.propDecidable _),fun i=>⟨fun e=>?_,fun e=>?_⟩⟩
  ·simpa using e
  ·simp only [decide_eq_false_iff_not] at e
   exact (hl i).resolve_left e
 obtain ⟨P,hP⟩ := this
 have hPn:P n = true := by
  cases h:P n with
  | true=>rfl
  | false=>have := (hP n).2 h; rw [hn'] at this; cases this
 have hgh:∃ k:Nat → Nat,∀ b,k b ≤ 1 ∧ (0 < k b ↔ ∃ j,(j = n ∨ P j = false) ∧ 0 < c j b) := by
  have hx:∀ b,∃ k:Nat,k ≤ 1 ∧ (0 < k ↔ ∃ j,(j = n ∨ P j = false) ∧ 0 < c j b) := fun b=>by
   by_cases hc:∃ j,(j = n ∨ P j = false) ∧ 0 < c j b
   ·exact ⟨1,Nat.le_refl _,fun _=>hc,fun _=>by omega⟩
   ·exact ⟨0,by omega,fun h=>absurd h (by omega),fun h=>absurd h hc⟩
  exact ⟨fun b=>Classical.choose (hx b),fun b=>Classical.choose_spec (hx b)⟩
 obtain ⟨k,hk⟩ := hgh
 have hk0:∀ b,(∀ j,c j b = 0) → k b = 0 := fun b hz=>by
  rcases Nat.eq_zero_or_pos (k b) with e | e
  ·exact e
  ·obtain ⟨j,_,hj⟩ := (hk b).2.1 e; rw [hz j] at hj; omega
 have hF:∀ b,(∀ j,c j b = 0) → ∀ j,(if j = n then k b else if P j = true then c j b else 0) = 0 := fun b hz j=>by
  split
  ·exact hk0 b hz
  ·split
   ·exact hz j
   ·rfl
 refine ⟨fun i b=>if i = n then k b else if P i = true then c i b else 0,⟨fun i=>?_,fun i b=>?_,fun i j b hi hj=>?_,fun i b hi=>?_⟩,fun b=>⟨fun h j=>?_,fun h=>hF b h⟩⟩
 ·by_cases hin:i = n
  ·subst hin
   rw [hn']
   intro b hb
   simp only [if_true] at hb
   obtain ⟨j,_,hj⟩ := (hk b).2.1 hb
   exact hf.lt j b hj
  cases hPi:P i with
  | false =>
   rw [(hP i).2 hPi]
   exact .u _ _ (fun b=>by simp [hin])
  | true =>
   obtain ⟨e1,e2⟩ := (hP i).1 hPi
   simp only [if_neg hin,if_true]
   have hr := hf.rep i
   rw [e1]
   clear e1
   generalize g i = a at hr e2
   induction a with
   | opt q a ih=>exact ⟨hr.1,fun hq=>ih (hr.2.1 hq) e2,hr.2.2⟩
   | t t=>exact TRep.mono (fun b _ hz=>⟨hF b hz,rfl⟩) (Nat.le_refl _) hr (fun _ _=>rfl)
   | ref r q off len=>obtain ⟨hc,t0,e,sz,es,x0,k1,k2⟩ := hr; exact ⟨hc,t0,e,sz,es,x0,e2 r t0 rfl k1,k2⟩
   | eptr r q i j=>obtain ⟨hc,t0,e,sz,es,b,n,cap,k1,k2⟩ := hr; exact ⟨hc,t0,e,sz,es,b,n,cap,e2 r t0 rfl k1,k2⟩
   | pref r q off=>obtain ⟨hc,t0,e,cs,b,k1,k2⟩ := hr; exact ⟨hc,t0,e,cs,b,e2 r t0 rfl k1,k2⟩
   | sptr cs =>
    obtain ⟨hc,a,vals,h1,h2,h3,h4,h5,h6,h7⟩ := hr
    exact ⟨hc,a,vals,h1,h2,hF _ h3,h4,h5,h6.mono (fun b _ hz=>⟨hF b hz,rfl⟩) (Nat.le_refl _) (fun b hb=>absurd hb (by simp)),h7⟩
   | ghost=>exact hr
 ·split
  ·exact (hk b).1
  ·split
   ·exact hf.one i b
   ·omega
 ·have key:∀ i,0 < (if i = n then k b else if P i = true then c i b else 0) → (i = n ∧ ∃ j,(j = n ∨ P j = false) ∧ 0 < c j b) ∨ (i ≠ n ∧ P i = true ∧ 0 < c i b) := fun i h=>by
   split at h
   ·rename_i e; exact .inl ⟨e,(hk b).2.1 h⟩
   ·rename_i e
    split at h
    ·rename_i e2; exact .inr ⟨e,e2,h⟩
    ·omega
  rcases key i hi with ⟨i1,i2,i3,i4⟩ | ⟨i1,i2,i3⟩ <;> rcases key j hj with ⟨j1,j2,j3,j4⟩ | ⟨j1,j2,j3⟩
  ·rw [i1,j1]
  ·have := hf.uniq i2 j b i4 j3
   subst this
   rcases i3 with e | e
   ·exact absurd e j1
   ·rw [j2] at e; cases e
  ·have := hf.uniq i j2 b i3 j4
   subst this
   rcases j3 with e | e
   ·exact absurd e i1
   ·rw [i2] at e; cases e
  ·exact hf.uniq i j b i3 j3
 ·split at hi
  ·obtain ⟨j,_,hj⟩ := (hk b).2.1 hi; exact hf.low j b hj
  ·split at hi
   ·exact hf.low i b hi
   ·omega
 ·have hj := h j
  simp only at hj
  split at hj
  ·rename_i e
   rcases Nat.eq_zero_or_pos (c j b) with e2 | e2
   ·exact e2
   ·have := (hk b).2.2 ⟨j,.inl e,e2⟩; omega
  ·rename_i e
   split at hj
   ·exact hj
   ·rename_i e3
    rcases Nat.eq_zero_or_pos (c j b) with e2 | e2
    ·exact e2
    ·have h1 := (hk b).2.2 ⟨j,.inr (by simpa using e3),e2⟩
     have h2 := h n
     simp only [if_true] at h2
     omega
def LG (X:Ctx) (all:List Oper) (g:Nat → A) (o:Oper) (a:A):Prop :=
 ∀ (tmps:Array Value) (ds:List Deferred) (w:World) (c:Nat → Cnt),X.G w → Frm X.N w g tmps c → ∀ (next:Act → World → Prop) (Q:Exit → Act → World → Prop),
  (∀ v w',Below w.heap.size w w' → (∃ cd,ARep w' (fun b=>(∀ j,c j b = 0) ∧ cd b = 0) g tmps a v cd ∧ (∀ b,0 < cd b → w.heap.size ≤ b) ∧ ∀ b,cd b ≤ 1) → next ((⟨tmps,ds⟩:Act).put o.dst v) w') →
  if Region.wanted o (yielded all.toArray tmps) then o.wp X.P ⟨tmps,ds⟩ w next Q else next ((⟨tmps,ds⟩:Act).put o.dst undef) w
theorem LG.hide {all:List Oper} {g g':Nat → A} {o:Oper} {a:A} (h:LG X all g' o a) (hh:Hid n g' g):LG X all g o a := by
 intro tmps ds w c hG hf next Q hn
 obtain ⟨c',hf',hc'⟩ := hf.hide hh
 refine h tmps ds w c' hG hf' next Q (fun v w' hw ⟨cd,h1,h2,h3⟩=>hn v w' hw ⟨cd,?_,h2,h3⟩)
 refine ARep.mono h1 (fun b _ hb=>⟨⟨(hc' b).1 hb.1,hb.2⟩,rfl⟩) (Nat.le_refl _) (fun _ _=>rfl) (fun r t hr ho=>?_)
 have hgr:g r = .t t := by
  rcases hh.2.2 r with e | e
  ·rw [← e.1]; exact hr
  ·rw [hr] at e; cases e; cases ho
 refine ⟨hgr,rfl,fun b => ∀ j,c j b = 0,c r,?_,fun _ _=>rfl⟩
 have := hf.rep r
 rw [hgr] at this
 exact TRep.mono (fun b hb hf=>⟨hf,hw.block b hb⟩) hw.size this (fun b hb=>hw.block b (hf.lt r b hb))
end Go.Eng

/- Regions whose order the language leaves open: the walk. -/
namespace Go.Eng
open Go.RowKit (Below)
set_option linter.unusedVariables false
set_option linter.unusedSimpArgs false
variable {X:Ctx} {n:Nat} {Z:List Nat} {Q:Exit → St → Prop} {st:St}
def atOk (ds:List Nat) (a:A):Bool := match a.at with
 | some r => !ds.contains r
 | none=>true
def St.hide (ds:List Nat):St → St
 | []=>[]
 | (k,a) :: r=>(if ds.contains k = false ∧ atOk ds a = true then (k,a) else (k,.t .u)) :: St.hide ds r
theorem find_hide {ds:List Nat}:∀ (st:St) (i:Nat),St.find (St.hide ds st) i = (St.find st i).map fun a=>if ds.contains i = false ∧ atOk ds a = true then a else .t .u
 | [],i=>rfl
 | (k,a) :: r,i=>by
  simp only [St.hide]
  split
  ·rename_i h
   simp only [St.find]
   split
   ·rename_i e; subst e; simp only [Option.map_some,if_pos h]
   ·exact find_hide r i
  ·rename_i h
   simp only [St.find]
   split
   ·rename_i e; subst e; simp only [Option.map_some,if_neg h]
   ·exact find_hide r i
theorem hid_of {ds:List Nat} {g:Nat → A} (hn:st.find n = none) (hgn:g n = .ghost) (h:∀ i,ds.contains i = false → stG n st i = g i):Hid n (stG n (st.hide ds)) g := by
 have hst:∀ i,stG n (st.hide ds) i = match st.find i with | some a=>if ds.contains i = false ∧ atOk ds a = true then a else .t .u | none=>if i = n then .ghost else .t .u := fun i=>by
  unfold stG
  rw [find_hide]
  cases st.find i <;> rfl
 refine ⟨by rw [hst,hn]; simp,hgn,fun i=>?_⟩
 rw [hst]
 cases hi:st.find i with
 | none =>
  by_cases hin:i = n
  ·left; simp only [if_pos hin]; subst hin; rw [hgn]; exact ⟨rfl,fun r t hr=>by cases hr⟩
  ·right; simp only [if_neg hin]
 | some a =>
  simp only
  split
  ·rename_i hc
   left
   have hga:g i = a := by rw [← h i hc.1]; unfold stG; rw [hi]
   refine ⟨hga.symm,fun r t hr hgr=>?_⟩
   rw [hga] at hr
   have hr2 := hc.2
   unfold atOk at hr2
   rw [hr] at hr2
   have hrd:ds.contains r = false := by simpa using hr2
   have hsr := h r hrd
   rw [hgr] at hsr
   have hex:stG n st r = match st.find r with | some a=>a | none=>if r = n then .ghost else .t .u := rfl
   rw [hex] at hsr
   rw [hst]
   cases hq:st.find r with
   | none=>rw [hq] at hsr; exact hsr
   | some a' =>
    rw [hq] at hsr
    simp only at hsr
    subst hsr
    show (if ds.contains r = false ∧ atOk ds (A.t t) = true then A.t t else A.t T.u) = A.t t
    rw [if_pos ⟨hrd,rfl⟩]
  ·exact .inr rfl
def bindOn (o:Oper):List Nat := (o.after.toList.filter fun e=>Region.binds .any e).map (·.on)
def ancTab:List Oper → List (List Nat) → List (List Nat)
 | [],tab=>tab
 | o :: r,tab=>ancTab r (tab ++ [((bindOn o) ++ (bindOn o).flatMap fun j=>tab.getD j []).eraseDups])
def ancOk (ops:List Oper) (tab:List (List Nat)):Bool :=
 (List.range ops.length).all fun k=>match ops[k]? with
  | some o=>((bindOn o).all fun i=>decide (i < k)) && ((tab.getD k []).all fun j=>(bindOn o).contains j || (bindOn o).any fun i=>(tab.getD i []).contains j)
  | none=>false
def dstsOf (ops:List Oper):List (Option Nat) := ops.map (·.dst)
def which:List Oper → Nat → Option Nat
 | [],_=>none
 | o :: r,i=>if o.dst = some i then some 0 else (which r i).map (· + 1)
theorem which_some:∀ {ops:List Oper} {i k:Nat},which ops i = some k → ∃ o,ops[k]? = some o ∧ o.dst = some i
 | [],_,_,h=>by cases h
 | o :: r,i,k,h=>by
  simp only [which] at h
  split at h
  ·rename_i e; cases h; exact ⟨o,rfl,e⟩
  ·cases hw:which r i with
   | none=>rw [hw] at h; cases h
   | some k'=>rw [hw] at h; cases h; obtain ⟨o',h1,h2⟩ := which_some hw; exact ⟨o',by simpa using h1,h2⟩
theorem which_of:∀ {ops:List Oper} {i k:Nat} {o:Oper},(dstsOf ops).Nodup → ops[k]? = some o → o.dst = some i → which ops i = some k
 | [],_,_,_,_,h,_=>by simp at h
 | o' :: r,i,k,o,hn,h,hd=>by
  obtain ⟨n1,n2⟩ := List.nodup_cons.1 hn
  cases k with
  | zero=>simp at h; subst h; simp [which,hd]
  | succ k =>
   simp only [List.getElem?_cons_succ] at h
   simp only [which]
   rw [if_neg,which_of n2 h hd]; rfl
   intro e
   exact n1 (List.mem_map.2 ⟨o,List.mem_of_getElem? h,by show o.dst = o'.dst; rw [e,hd]⟩)
def mixG (ops:List Oper) (bs:Nat → A) (S:Nat → Prop) [DecidablePred S] (g0:Nat → A) (i:Nat):A :=
 match which ops i with
 | some k=>if S k then bs k else g0 i
 | none=>g0 i
theorem mix_put {ops:List Oper} {bs:Nat → A} {S S':Nat → Prop} [DecidablePred S] [DecidablePred S'] {g0:Nat → A} {k d:Nat} {o:Oper} (hn:(dstsOf ops).Nodup) (hk:ops[k]? = some o) (hd:o.dst = some d) (hS:∀ j,S' j ↔ S j ∨ j = k) :
  mixG ops bs S' g0 = upd (mixG ops bs S g0) d (bs k) := by
 funext i
 unfold mixG upd
 by_cases hi:i = d
 ·subst hi
  rw [which_of hn hk hd,if_pos rfl]
  simp only
  rw [if_pos ((hS k).2 (.inr rfl))]
 ·rw [if_neg hi]
  dsimp only
  cases hw:which ops i with
  | none=>rfl
  | some j =>
   simp only
   have hjk:j ≠ k := by
    rintro rfl
    obtain ⟨o',h1,h2⟩ := which_some hw
    rw [hk] at h1; cases h1
    rw [hd] at h2; cases h2; exact hi rfl
   by_cases hs:S j
   ·rw [if_pos hs,if_pos ((hS j).2 (.inl hs))]
   ·rw [if_neg hs,if_neg (fun e=>((hS j).1 e).elim hs hjk)]
theorem text_mix {ops:List Oper} {bs:Nat → A} {sts:Nat → St} (hn:(dstsOf ops).Nodup) (h:∀ k o,ops[k]? = some o → ∃ d,o.dst = some d ∧ sts (k + 1) = (sts k).put d (bs k)):∀ k,k ≤ ops.length → stG n (sts k) = mixG ops bs (· < k) (stG n (sts 0))
 | 0,_=>by
  funext i
  unfold mixG
  cases which ops i <;> simp
 | k + 1,hk=>by
  have hlt:k < ops.length := hk
  obtain ⟨d,h1,h2⟩ := h k ops[k] (List.getElem?_eq_getElem hlt)
  rw [h2,stG_put,text_mix hn h k (by omega)]
  exact (mix_put hn (List.getElem?_eq_getElem hlt) h1 (fun j=>by omega)).symm
end Go.Eng

/- Regions whose order the language leaves open: the rule. -/
namespace Go.Eng
open Go.RowKit (Below)
set_option linter.unusedVariables false
set_option linter.unusedSimpArgs false
variable {X:Ctx} {n:Nat} {Z:List Nat} {Q:Exit → St → Prop} {st:St}
theorem count_set:∀ (l:List Bool) (i:Nat),l[i]? = some false → (l.set i true).count false + 1 = l.count false
 | [],i,h=>by simp at h
 | b :: l,0,h=>by simp at h; subst h; simp
 | b :: l,i + 1,h=>by
  have := count_set l i (by simpa using h)
  simp only [List.set_cons_succ,List.count_cons]
  omega
def Lst (listed:Array Bool) (k:Nat):Prop := listed.getD k false = true
theorem lst_lt {listed:Array Bool} {k:Nat} (h:Lst listed k):k < listed.size := by
 rcases Nat.lt_or_ge k listed.size with e | e
 ·exact e
 ·simp [Lst,e] at h
theorem not_lst {listed:Array Bool} {k:Nat} (hk:k < listed.size):¬ Lst listed k ↔ listed.getD k true = false := by
 simp [Lst,hk]
theorem lst_set {listed:Array Bool} {i j:Nat} (hi:i < listed.size):Lst (listed.setIfInBounds i true) j ↔ Lst listed j ∨ j = i := by
 by_cases h:i = j
 ·subst h; simp [Lst,hi]
 ·unfold Lst
  rw [getD_set_ne false h]
  constructor
  ·exact .inl
  ·rintro (e | e)
   ·exact e
   ·exact absurd e.symm h
def Closed (ops:List Oper) (listed:Array Bool):Prop := ∀ (j:Nat) (o:Oper),ops[j]? = some o → Lst listed j → ∀ i ∈ bindOn o,Lst listed i
theorem bindOn_mem {o:Oper} {i:Nat}:i ∈ bindOn o ↔ ∃ e ∈ o.after,Region.binds .any e = true ∧ e.on = i := by
 unfold bindOn
 simp only [List.mem_map,List.mem_filter,Array.mem_toList_iff]
 constructor
 ·rintro ⟨e,⟨h1,h2⟩,h3⟩; exact ⟨e,h1,h2,h3⟩
 ·rintro ⟨e,h1,h2,h3⟩; exact ⟨e,⟨h1,h2⟩,h3⟩
theorem ready_iff {ops:List Oper} {listed:Array Bool} {k:Nat} (hs:listed.size = ops.length):k ∈ Region.ready .any ops.toArray listed ↔ ∃ o,ops[k]? = some o ∧ ¬ Lst listed k ∧ ∀ i ∈ bindOn o,Lst listed i := by
 rw [mem_ready]
 constructor
 ·rintro ⟨h1,o,h2,h3⟩
  rw [List.getElem?_toArray] at h2
  have hk:k < listed.size := by rw [hs]; exact (List.getElem?_eq_some_iff.1 h2).1
  refine ⟨o,h2,(not_lst hk).2 h1,fun i hi=>?_⟩
  obtain ⟨e,e1,e2,rfl⟩ := bindOn_mem.1 hi
  exact h3 e e1 e2
 ·rintro ⟨o,h2,h1,h3⟩
  have hk:k < listed.size := by rw [hs]; exact (List.getElem?_eq_some_iff.1 h2).1
  exact ⟨(not_lst hk).1 h1,o,by rw [List.getElem?_toArray]; exact h2,fun e e1 e2=>h3 _ (bindOn_mem.2 ⟨e,e1,e2,rfl⟩)⟩
theorem ancOk_spec {ops:List Oper} {tab:List (List Nat)} (h:ancOk ops tab = true) {k:Nat} {o:Oper} (hk:ops[k]? = some o):(∀ i ∈ bindOn o,i < k) ∧ ∀ j ∈ tab.getD k [],j ∈ bindOn o ∨ ∃ i ∈ bindOn o,j ∈ tab.getD i [] := by
 simp only [ancOk,List.all_eq_true,List.mem_range] at h
 have := h k (List.getElem?_eq_some_iff.1 hk).1
 rw [hk] at this
 simp only [Bool.and_eq_true,List.all_eq_true,decide_eq_true_eq,Bool.or_eq_true,List.contains_iff_mem,List.any_eq_true] at this
 exact this
theorem anc_listed {ops:List Oper} {tab:List (List Nat)} {listed:Array Bool} (h:ancOk ops tab = true) (hc:Closed ops listed):∀ (k:Nat) (o:Oper),ops[k]? = some o → (∀ i ∈ bindOn o,Lst listed i) → ∀ j ∈ tab.getD k [],Lst listed j := by
 intro k
 induction k using Nat.strongRecOn with
 | ind k ih =>
  intro o hk hd j hj
  obtain ⟨h1,h2⟩ := ancOk_spec h hk
  rcases h2 j hj with e | ⟨i,hi,hj'⟩
  ·exact hd j e
  ·have hik := h1 i hi
   have hil:i < ops.length := Nat.lt_trans hik (List.getElem?_eq_some_iff.1 hk).1
   exact ih i hik ops[i] (List.getElem?_eq_getElem hil) (hc i _ (List.getElem?_eq_getElem hil) (hd i hi)) j hj'
theorem ready_ne {ops:List Oper} {tab:List (List Nat)} {listed:Array Bool} (hs:listed.size = ops.length) (h:ancOk ops tab = true) (hr:Region.ready .any ops.toArray listed = []):∀ k,k < ops.length → Lst listed k := by
 intro k
 induction k using Nat.strongRecOn with
 | ind k ih =>
  intro hk
  refine Classical.byContradiction fun hn=>?_
  have:k ∈ Region.ready .any ops.toArray listed := (ready_iff hs).2 ⟨ops[k],List.getElem?_eq_getElem hk,hn,fun i hi=>by
   have := (ancOk_spec h (List.getElem?_eq_getElem hk)).1 i hi
   exact ih i this (by omega)⟩
  rw [hr] at this; cases this
theorem closed_set {ops:List Oper} {listed:Array Bool} (hc:Closed ops listed) {k:Nat} {o:Oper} (hk:ops[k]? = some o) (hlt:k < listed.size) (hd:∀ i ∈ bindOn o,Lst listed i):Closed ops (listed.setIfInBounds k true) := by
 intro j o' hj hl i hi
 rw [lst_set hlt] at hl ⊢
 rcases hl with h | h
 ·exact .inl (hc j o' hj h i hi)
 ·subst h; rw [hk] at hj; cases hj; exact .inl (hd i hi)
theorem count_step {listed:Array Bool} {k:Nat} (hk:k < listed.size) (hn:¬ Lst listed k):(listed.setIfInBounds k true).toList.count false + 1 = listed.toList.count false := by
 rw [Array.toList_setIfInBounds]
 refine count_set _ _ ?_
 rw [Array.getElem?_toList,Array.getElem?_eq_getElem hk]
 simp [Lst,hk] at hn
 rw [hn]
variable {D:Nat → Prop} {gc:Cnt} {v0:Nat → Value} {w0:World} {ds:List Deferred} {Qp:Exit → Act → World → Prop} {K:St → Prop}
theorem tail_sound {all loc:List Oper} {tab:List (List Nat)} (htab:ancOk all tab = true) (htl:∀ k,loc.length ≤ k → k < all.length → ∀ j,j < k → j ∈ tab.getD k []) (hQ:∀ st' tmps' w',K st' → Inv X n Z D gc v0 w0 (stG n st') tmps' w' → Qp .normal ⟨tmps',ds⟩ w') :
  ∀ (rest pre:List Oper) (st:St),all = pre ++ rest → loc.length ≤ pre.length → RegP X n Z all rest st K → ∀ (fuel:Nat) (listed:Array Bool) (tmps:Array Value) (w:World),listed.size = all.length → Closed all listed → (∀ k,Lst listed k ↔ k < pre.length) → listed.toList.count false ≤ fuel →
   Inv X n Z D gc v0 w0 (stG n st) tmps w → wpAny X.P .any all.toArray Qp fuel listed ⟨tmps,ds⟩ w
 | [],pre,st,hall,hle,h,fuel,listed,tmps,w,hs,hc,hl,hf,hI=>by
  refine wpAny_done ?_ (hQ st tmps w h hI) fuel
  cases hr:Region.ready .any all.toArray listed with
  | nil=>rfl
  | cons k r =>
   obtain ⟨o,h1,h2,_⟩ := (ready_iff hs).1 (by rw [hr]; exact List.mem_cons_self:k ∈ Region.ready .any all.toArray listed)
   exact absurd ((hl k).2 (by have := (List.getElem?_eq_some_iff.1 h1).1; rw [hall] at this; simpa using this)) h2
 | o :: rest,pre,st,hall,hle,h,fuel,listed,tmps,w,hs,hc,hl,hf,hI=>by
  have hko:all[pre.length]? = some o := by rw [hall,List.getElem?_append_right (Nat.le_refl _)]; simp
  have hklt:pre.length < all.length := (List.getElem?_eq_some_iff.1 hko).1
  have hnl:¬ Lst listed pre.length := fun e=>by have := (hl _).1 e; omega
  have hcs := count_step (by rw [hs]; exact hklt) hnl
  have hpr:∀ i ∈ bindOn o,Lst listed i := fun i hi=>(hl i).2 ((ancOk_spec htab hko).1 i hi)
  cases fuel with
  | zero=>omega
  | succ f =>
   refine ⟨fun h0=>absurd (ready_ne hs htab h0 _ hklt) hnl,fun i hi=>?_⟩
   obtain ⟨o',h1,h2,h3⟩ := (ready_iff hs).1 hi
   have hik:i = pre.length := by
    rcases Nat.lt_trichotomy i pre.length with e | e | e
    ·exact absurd ((hl i).2 e) h2
    ·exact e
    ·exact absurd (anc_listed htab hc i o' h1 h3 pre.length (htl i (by omega) (List.getElem?_eq_some_iff.1 h1).1 _ e)) hnl
   subst hik
   obtain ⟨st',k1,k2⟩ := h
   have ih := tail_sound htab htl hQ rest (pre ++ [o]) st' (by rw [hall]; simp) (by simp; omega) k2 f (listed.setIfInBounds pre.length true)
   have := k1 D gc v0 w0 tmps ds w hI (wpAny X.P .any all.toArray Qp f (listed.setIfInBounds pre.length true)) Qp (fun tmps' w' hI'=>ih tmps' w' (by simpa using hs) (closed_set hc hko (by rw [hs]; exact hklt) hpr) (fun k=>by
    rw [lst_set (by rw [hs]; exact hklt),hl]; simp; omega) (by omega) hI')
   unfold wpOp
   rw [List.getElem?_toArray,hko]
   simp only
   split
   ·rename_i hw; rw [if_pos hw] at this; exact .inl this
   ·rename_i hw; rw [if_neg hw] at this; exact this
def hideOk2 (all loc:List Oper) (tab hd:List (List Nat)):Bool :=
 decide (dstsOf loc).Nodup && (List.range loc.length).all fun k=>(List.range loc.length).all fun j=>j == k || (tab.getD k []).contains j && decide (j < k) || (tab.getD j []).contains k && decide (k < j) || (match (loc[j]?).bind (·.dst) with | some d=>(hd.getD k []).contains d | none=>false)
instance (listed:Array Bool) (k:Nat):Decidable (Lst listed k) := inferInstanceAs (Decidable (_ = _))
theorem lst_repl (m k:Nat):¬ Lst (Array.replicate m false) k := by
 intro h
 have hk := lst_lt h
 rw [Array.size_replicate] at hk
 simp [Lst,hk] at h
theorem Inv.drawn {g:Nat → A} {tmps:Array Value} {w:World} (h:Inv X n Z D gc v0 w0 g tmps w) (k:Nat):Inv X n Z D gc v0 w0 g tmps { w with drawn := k } := by
 obtain ⟨c,hf,hb⟩ := h.frm
 refine ⟨h.size,h.fix,h.os,h.tape,h.output,h.kept,h.grow,X.hG w _ (fun _ _=>rfl) (Nat.le_refl _) h.glob,h.hD,h.base,c,⟨fun i=>?_,hf.one,hf.uniq,hf.low⟩,hb⟩
 refine ARep.mono (hf.rep i) (fun b _ h=>⟨h,rfl⟩) (Nat.le_refl _) (fun _ _=>rfl) (fun r t hr ho=>⟨hr,rfl,fun b => ∀ j,c j b = 0,c r,?_,fun _ _=>rfl⟩)
 have := hf.rep r
 rw [hr] at this
 exact this
end Go.Eng

/- Regions whose order the language leaves open: what is taken out of a result comes in whatever order. -/
namespace Go.Eng
open Go.RowKit (Below)
set_option linter.unusedVariables false
set_option linter.unusedSimpArgs false
variable {X:Ctx} {n:Nat} {Z:List Nat} {Q:Exit → St → Prop} {st:St}
variable {D:Nat → Prop} {gc:Cnt} {v0:Nat → Value} {w0:World} {ds:List Deferred} {Qp:Exit → Act → World → Prop} {K:St → Prop}
def xi (o:Oper):Nat := match o.op with
 | .extract _ i=>i
 | _=>0
def xd (o:Oper):Nat := match o.dst with
 | some d=>d
 | none=>0
def exStep (r:Nat) (g:Nat → A) (o:Oper):Nat → A := match g r with
 | .t (.tup cs)=>match cs[xi o]? with
  | some t=>upd (upd g r (.t (.tup (cs.set (xi o) .u)))) (xd o) (.t t)
  | none=>g
 | _=>g
theorem exStep_tup {r:Nat} {g:Nat → A} {o:Oper} {cs:List T} {t:T} (hg:g r = .t (.tup cs)) (ht:cs[xi o]? = some t):exStep r g o = upd (upd g r (.t (.tup (cs.set (xi o) .u)))) (xd o) (.t t) := by
 unfold exStep; rw [hg]; simp only [ht]
theorem exStep_no {r:Nat} {g:Nat → A} {o:Oper} (h:∀ cs t,g r = .t (.tup cs) → cs[xi o]? ≠ some t):exStep r g o = g := by
 unfold exStep
 split
 ·rename_i cs hg
  split
  ·rename_i t ht; exact absurd ht (h cs t hg)
  ·rfl
 ·rfl
theorem exStep_comm {r:Nat} {g:Nat → A} {o p:Oper} (hi:xi o ≠ xi p) (hd:xd o ≠ xd p) (ho:xd o ≠ r) (hp:xd p ≠ r):exStep r (exStep r g o) p = exStep r (exStep r g p) o := by
 by_cases htup:∃ cs,g r = .t (.tup cs)
 ·obtain ⟨cs,hg⟩ := htup
  cases h1:cs[xi o]? with
  | none =>
   rw [exStep_no (o := o) (g := g) (fun cs' t h e=>by rw [hg] at h; cases h; rw [h1] at e; cases e)]
   cases h2:cs[xi p]? with
   | none =>
    rw [exStep_no (o := p) (g := g) (fun cs' t h e=>by rw [hg] at h; cases h; rw [h2] at e; cases e),exStep_no (fun cs' t h e=>by rw [hg] at h; cases h; rw [h1] at e; cases e)]
   | some t2 =>
    rw [exStep_tup hg h2]
    rw [exStep_no (o := o) (fun cs' t h e=>by
     rw [upd_ne _ _ (fun e=>hp e.symm),upd_same] at h; cases h
     rw [List.getElem?_set_ne (fun e=>hi e.symm),h1] at e; cases e)]
  | some t =>
   rw [exStep_tup hg h1]
   cases h2:cs[xi p]? with
   | none =>
    rw [exStep_no (o := p) (g := g) (fun cs' t h e=>by rw [hg] at h; cases h; rw [h2] at e; cases e),exStep_tup hg h1]
    rw [exStep_no (o := p) (fun cs' t h e=>by
     rw [upd_ne _ _ (fun e=>ho e.symm),upd_same] at h; cases h
     rw [List.getElem?_set_ne hi,h2] at e; cases e)]
   | some t2 =>
    rw [exStep_tup hg h2]
    rw [exStep_tup (o := p) (cs := cs.set (xi o) .u) (t := t2) (by rw [upd_ne _ _ (fun e=>ho e.symm),upd_same]) (by rw [List.getElem?_set_ne hi,h2])]
    rw [exStep_tup (o := o) (cs := cs.set (xi p) .u) (t := t) (by rw [upd_ne _ _ (fun e=>hp e.symm),upd_same]) (by rw [List.getElem?_set_ne (fun e=>hi e.symm),h1])]
    rw [List.set_comm _ _ hi]
    funext j
    unfold upd
    by_cases e1:j = xd p
    ·have e2:¬ j = xd o := fun e=>hd (e.symm.trans e1)
     rw [if_pos e1,if_neg e2,if_neg (fun e=>hp (e1.symm.trans e)),if_pos e1]
    ·by_cases e2:j = xd o
     ·rw [if_neg e1,if_neg (fun e=>ho (e2.symm.trans e)),if_pos e2,if_pos e2]
     ·by_cases e3:j = r
      ·rw [if_neg e1,if_pos e3,if_neg e2,if_pos e3]
      ·rw [if_neg e1,if_neg e3,if_neg e2,if_neg e3,if_neg e2,if_neg e3,if_neg e1,if_neg e3]
 ·have h:∀ o,exStep r g o = g := fun o=>exStep_no (fun cs t h=>absurd ⟨cs,h⟩ htup)
  rw [h o,h p,h o]
structure ExOk (n:Nat) (Z:List Nat) (r:Nat) (es:List Oper) (g:Nat → A):Prop where
 tup:∃ cs,g r = .t (.tup cs) ∧ ∀ o ∈ es,xi o < cs.length
 idx:(es.map xi).Nodup
 dst:(es.map xd).Nodup
 op:∀ o ∈ es,o.op = .extract (.tmp r) (xi o) ∧ o.dst = some (xd o) ∧ o.guard = none
 ok:∀ o ∈ es,xd o < n ∧ xd o ∉ Z ∧ xd o ≠ r ∧ (g (xd o)).owner = false
theorem foldl_tup {r:Nat}:∀ (L:List Oper) (g:Nat → A) (cs:List T),g r = .t (.tup cs) → (∀ o ∈ L,xd o ≠ r) → (∀ o ∈ L,xi o < cs.length) →
  ∃ cs',(L.foldl (exStep r) g) r = .t (.tup cs') ∧ cs'.length = cs.length ∧ (∀ i,i ∉ L.map xi → cs'[i]? = cs[i]?) ∧ ∀ d,d ≠ r → d ∉ L.map xd → (L.foldl (exStep r) g) d = g d
 | [],g,cs,hg,_,_=>⟨cs,hg,rfl,fun _ _=>rfl,fun _ _ _=>rfl⟩
 | o :: L,g,cs,hg,h1,h2=>by
  have hlt := h2 o (by simp)
  have hs := exStep_tup (o := o) hg (List.getElem?_eq_getElem hlt)
  have hdr := h1 o (by simp)
  obtain ⟨cs',e1,e2,e3,e4⟩ := foldl_tup L (exStep r g o) (cs.set (xi o) .u) (by rw [hs,upd_ne _ _ (fun e=>hdr e.symm),upd_same]) (fun p hp=>h1 p (by simp [hp])) (fun p hp=>by rw [List.length_set]; exact h2 p (by simp [hp]))
  refine ⟨cs',by rw [List.foldl_cons]; exact e1,by rw [e2,List.length_set],fun i hi=>?_,fun d hd hn=>?_⟩
  ·simp only [List.map_cons,List.mem_cons,not_or] at hi
   rw [e3 i hi.2,List.getElem?_set_ne (fun e=>hi.1 e.symm)]
  ·simp only [List.map_cons,List.mem_cons,not_or] at hn
   rw [List.foldl_cons,e4 d hd hn.2,hs,upd_ne _ _ hn.1,upd_ne _ _ hd]
theorem map_mem_inj {α β:Type} {f:α → β}:∀ {l:List α},(l.map f).Nodup → ∀ {a b:α},a ∈ l → b ∈ l → f a = f b → a = b
 | [],_,a,b,ha,_,_=>by cases ha
 | x :: l,h,a,b,ha,hb,e=>by
  rw [List.map_cons,List.nodup_cons] at h
  rcases List.mem_cons.1 ha with ha1 | ha1
  ·rcases List.mem_cons.1 hb with hb1 | hb1
   ·rw [ha1,hb1]
   ·exact absurd (List.mem_map.2 ⟨b,hb1,by rw [← e,ha1]⟩) h.1
  ·rcases List.mem_cons.1 hb with hb1 | hb1
   ·exact absurd (List.mem_map.2 ⟨a,ha1,by rw [e,hb1]⟩) h.1
   ·exact map_mem_inj h.2 ha1 hb1 e
theorem nodup_of_map {α β:Type} {f:α → β}:∀ {l:List α},(l.map f).Nodup → l.Nodup
 | [],_=>List.nodup_nil
 | x :: l,h=>by
  rw [List.map_cons,List.nodup_cons] at h
  exact List.nodup_cons.2 ⟨fun hx=>h.1 (List.mem_map.2 ⟨x,hx,rfl⟩),nodup_of_map h.2⟩
theorem foldl_perm {r:Nat} {es L:List Oper} {g:Nat → A} (hE:ExOk n Z r es g) (hp:L.Perm es):L.foldl (exStep r) g = es.foldl (exStep r) g := by
 refine List.Perm.foldl_eq' hp (fun x hx y hy z=>?_) g
 have hx := hp.mem_iff.1 hx
 have hy := hp.mem_iff.1 hy
 by_cases e:x = y
 ·rw [e]
 ·exact exStep_comm (fun h=>e (map_mem_inj hE.idx hx hy h)) (fun h=>e (map_mem_inj hE.dst hx hy h)) (hE.ok x hx).2.2.1 (hE.ok y hy).2.2.1
theorem ex_step {r:Nat} {es L:List Oper} {g:Nat → A} {o:Oper} {all:List Oper} (hE:ExOk n Z r es g) (hL:∀ p ∈ L,p ∈ es) (ho:o ∈ es) (hn:o ∉ L):GStep' X n Z all (L.foldl (exStep r) g) o ((L ++ [o]).foldl (exStep r) g) := by
 obtain ⟨cs,hg,hlt⟩ := hE.tup
 obtain ⟨cs',e1,e2,e3,e4⟩ := foldl_tup L g cs hg (fun p hp=>(hE.ok p (hL p hp)).2.2.1) (fun p hp=>hlt p (hL p hp))
 obtain ⟨q1,q2,q3⟩ := hE.op o ho
 obtain ⟨k1,k2,k3,k4⟩ := hE.ok o ho
 have hni:xi o ∉ L.map xi := fun h=>by
  obtain ⟨p,hp,he⟩ := List.mem_map.1 h
  exact hn (by rw [← map_mem_inj hE.idx (hL p hp) ho he]; exact hp)
 have hnd:xd o ∉ L.map xd := fun h=>by
  obtain ⟨p,hp,he⟩ := List.mem_map.1 h
  exact hn (by rw [← map_mem_inj hE.dst (hL p hp) ho he]; exact hp)
 obtain ⟨t,ht0⟩:∃ t,cs[xi o]? = some t := ⟨_,List.getElem?_eq_getElem (hlt o ho)⟩
 have ht:cs'[xi o]? = some t := by rw [e3 _ hni]; exact ht0
 have hs := step_extract (X := X) (n := n) (Z := Z) (g := L.foldl (exStep r) g) (cs := cs') (t := t) q1 q2 ⟨k1,k2⟩ k3 (by rw [e4 _ k3 hnd]; exact k4) e1 ht
 rw [List.foldl_append,List.foldl_cons,List.foldl_nil,exStep_tup e1 ht]
 intro D gc v0 w0 tmps ds w hI next Q hnext
 rw [if_pos (by simp [Region.wanted,q3])]
 exact hs D gc v0 w0 tmps ds w hI next Q hnext
def TailR (X:Ctx) (n:Nat) (Z:List Nat) (all:List Oper) (Kp:Value → (Nat → A) → Prop) (Kg:(Nat → A) → Prop):List (List Oper) → (Nat → A) → Prop
 | [],g=>Kg g
 | [] :: bs,g=>TailR X n Z all Kp Kg bs g
 | [o] :: bs,g=>(∃ g',GStep' X n Z all g o g' ∧ TailR X n Z all Kp Kg bs g') ∨ ∃ pv g',GPan X n Z all g o pv g' ∧ Kp pv g'
 | (o :: p :: es) :: bs,g => ∃ r,ExOk n Z r (o :: p :: es) g ∧ TailR X n Z all Kp Kg bs ((o :: p :: es).foldl (exStep r) g)
theorem TailR_mono {all:List Oper} {P1 P2:Value → (Nat → A) → Prop} {K1 K2:(Nat → A) → Prop}:∀ (bs:List (List Oper)) (g:Nat → A),(∀ g,K1 g → K2 g) → (∀ pv g,P1 pv g → P2 pv g) → TailR X n Z all P1 K1 bs g → TailR X n Z all P2 K2 bs g
 | [],g,hk,hp,h=>hk g h
 | [] :: bs,g,hk,hp,h=>TailR_mono bs g hk hp h
 | [o] :: bs,g,hk,hp,h=>by
  rcases h with ⟨g',h1,h2⟩ | ⟨pv,g',h1,h2⟩
  ·exact .inl ⟨g',h1,TailR_mono bs g' hk hp h2⟩
  ·exact .inr ⟨pv,g',h1,hp pv g' h2⟩
 | (o :: p :: es) :: bs,g,hk,hp,h=>by obtain ⟨r,h1,h2⟩ := h; exact ⟨r,h1,TailR_mono bs _ hk hp h2⟩
def tailOkB (tab:List (List Nat)):Nat → List (List Oper) → Bool
 | _,[]=>true
 | p,b :: bs=>((List.range b.length).all fun i=>(List.range p).all fun j=>(tab.getD (p + i) []).contains j) && tailOkB tab (p + b.length) bs
theorem tailOkB_spec {tab:List (List Nat)}:∀ {p:Nat} {bs:List (List Oper)},tailOkB tab p bs = true → ∀ k,p ≤ k → k < p + bs.flatten.length → ∀ j,j < p → j ∈ tab.getD k []
 | p,[],_,k,h1,h2,j,hj=>by simp at h2; omega
 | p,b :: bs,h,k,h1,h2,j,hj=>by
  simp only [tailOkB,Bool.and_eq_true,List.all_eq_true,List.mem_range,List.contains_iff_mem] at h
  rcases Nat.lt_or_ge k (p + b.length) with e | e
  ·have := h.1 (k - p) (by omega) j hj
   rwa [show p + (k - p) = k by omega] at this
  ·refine tailOkB_spec h.2 k e (by rw [List.flatten_cons,List.length_append] at h2; omega) j (by omega)
theorem grp_sound {all:List Oper} {tab:List (List Nat)} (htab:ancOk all tab = true) {pre es rest:List Oper} (hall:all = pre ++ (es ++ rest)) (hrest:∀ k,pre.length + es.length ≤ k → k < all.length → ∀ j,j < pre.length + es.length → j ∈ tab.getD k [])
  (hgrp:∀ k,pre.length ≤ k → k < all.length → ∀ j,j < pre.length → j ∈ tab.getD k []) {r:Nat} {g:Nat → A} (hE:ExOk n Z r es g)
  (hnext:∀ (fuel:Nat) (listed:Array Bool) (tmps:Array Value) (w:World),listed.size = all.length → Closed all listed → (∀ k,Lst listed k ↔ k < pre.length + es.length) → listed.toList.count false ≤ fuel → Inv X n Z D gc v0 w0 (es.foldl (exStep r) g) tmps w → wpAny X.P .any all.toArray Qp fuel listed ⟨tmps,ds⟩ w) :
  ∀ (fuel:Nat) (L:List Oper) (listed:Array Bool) (tmps:Array Value) (w:World),L.Nodup → (∀ p ∈ L,p ∈ es) → listed.size = all.length → Closed all listed → (∀ k,Lst listed k ↔ k < pre.length ∨ ∃ o ∈ L,all[k]? = some o ∧ pre.length ≤ k ∧ k < pre.length + es.length) → listed.toList.count false ≤ fuel →
   Inv X n Z D gc v0 w0 (L.foldl (exStep r) g) tmps w → wpAny X.P .any all.toArray Qp fuel listed ⟨tmps,ds⟩ w := by
 have hnod:es.Nodup := nodup_of_map hE.idx
 have hin:∀ j,j < es.length → all[pre.length + j]? = es[j]? := fun j hj=>by
  rw [hall,List.getElem?_append_right (by omega),List.getElem?_append_left (by omega)]
  congr 1; omega
 have done:∀ (L:List Oper),L.Nodup → (∀ p ∈ L,p ∈ es) → (∀ p ∈ es,p ∈ L) → ∀ (fuel:Nat) (listed:Array Bool) (tmps:Array Value) (w:World),listed.size = all.length → Closed all listed → (∀ k,Lst listed k ↔ k < pre.length ∨ ∃ o ∈ L,all[k]? = some o ∧ pre.length ≤ k ∧ k < pre.length + es.length) → listed.toList.count false ≤ fuel →
   Inv X n Z D gc v0 w0 (L.foldl (exStep r) g) tmps w → wpAny X.P .any all.toArray Qp fuel listed ⟨tmps,ds⟩ w := by
  intro L hnL hL hL2 fuel listed tmps w hs hc hl hf hI
  have hp:L.Perm es := (List.perm_ext_iff_of_nodup hnL hnod).2 (fun a=>⟨hL a,hL2 a⟩)
  rw [foldl_perm hE hp] at hI
  refine hnext fuel listed tmps w hs hc (fun k=>?_) hf hI
  rw [hl]
  constructor
  ·rintro (e | ⟨o,_,_,_,e⟩)
   ·omega
   ·exact e
  ·intro hk
   by_cases e:k < pre.length
   ·exact .inl e
   ·have := hin (k - pre.length) (by omega)
    rw [show pre.length + (k - pre.length) = k by omega] at this
    have hlt:k - pre.length < es.length := by omega
    obtain ⟨o,ho⟩:∃ o,es[k - pre.length]? = some o := ⟨_,List.getElem?_eq_getElem hlt⟩
    exact .inr ⟨o,hL2 _ (List.mem_of_getElem? ho),by rw [this,ho],by omega,hk⟩
 intro fuel
 induction fuel with
 | zero =>
  intro L listed tmps w hnL hL hs hc hl hf hI
  refine done L hnL hL (fun p hp=>?_) 0 listed tmps w hs hc hl hf hI
  obtain ⟨j,hj,rfl⟩ := List.getElem_of_mem hp
  have hk:pre.length + j < all.length := by rw [hall]; simp; omega
  have:Lst listed (pre.length + j) := Classical.byContradiction fun h=>by
   have := count_step (by rw [hs]; exact hk) h
   omega
  rcases (hl _).1 this with e | ⟨o,ho,he,_⟩
  ·omega
  ·rw [hin j hj,List.getElem?_eq_getElem hj] at he
   cases he; exact ho
 | succ f ih =>
  intro L listed tmps w hnL hL hs hc hl hf hI
  by_cases hfull:∀ p ∈ es,p ∈ L
  ·exact done L hnL hL hfull _ listed tmps w hs hc hl hf hI
  ·have hex:∃ j,∃ hj:j < es.length,¬ Lst listed (pre.length + j) := by
    refine Classical.byContradiction fun hno=>hfull fun p hp=>?_
    obtain ⟨j,hj,rfl⟩ := List.getElem_of_mem hp
    have:Lst listed (pre.length + j) := Classical.byContradiction fun h=>hno ⟨j,hj,h⟩
    rcases (hl _).1 this with e | ⟨o,ho,he,_⟩
    ·omega
    ·rw [hin j hj,List.getElem?_eq_getElem hj] at he
     cases he; exact ho
   obtain ⟨j0,hj0,hnl0⟩ := hex
   have hk0:pre.length + j0 < all.length := by rw [hall]; simp; omega
   refine ⟨fun h0=>absurd (ready_ne hs htab h0 _ hk0) hnl0,fun k hk=>?_⟩
   obtain ⟨o,h1,h2,h3⟩ := (ready_iff hs).1 hk
   have hkall := (List.getElem?_eq_some_iff.1 h1).1
   have hge:pre.length ≤ k := Classical.byContradiction fun e=>h2 ((hl k).2 (.inl (by omega)))
   have hlt:k < pre.length + es.length := Classical.byContradiction fun e =>
    hnl0 (anc_listed htab hc k o h1 h3 _ (hrest k (by omega) hkall _ (by omega)))
   have hes:es[k - pre.length]? = some o := by
    rw [← hin (k - pre.length) (by omega),show pre.length + (k - pre.length) = k by omega]; exact h1
   have hoes:o ∈ es := List.mem_of_getElem? hes
   have hoL:o ∉ L := fun h=>h2 ((hl k).2 (.inr ⟨o,h,h1,hge,hlt⟩))
   have hst := ex_step (X := X) (all := all) hE hL hoes hoL D gc v0 w0 tmps ds w hI (wpAny X.P .any all.toArray Qp f (listed.setIfInBounds k true)) Qp (fun tmps' w' hI'=>by
    refine ih (L ++ [o]) (listed.setIfInBounds k true) tmps' w' ?_ ?_ (by simpa using hs) (closed_set hc h1 (by rw [hs]; exact hkall) h3) (fun m=>?_) ?_ hI'
    ·rw [List.nodup_append]
     refine ⟨hnL,by simp,fun a ha b hb=>?_⟩
     rw [List.mem_singleton.1 hb]
     rintro rfl; exact hoL ha
    ·intro p hp
     rcases List.mem_append.1 hp with hp | hp
     ·exact hL p hp
     ·rw [List.mem_singleton.1 hp]; exact hoes
    ·rw [lst_set (by rw [hs]; exact hkall),hl]
     constructor
     ·rintro ((e | ⟨p,hp,e⟩) | rfl)
      ·exact .inl e
      ·exact .inr ⟨p,by simp [hp],e⟩
      ·exact .inr ⟨o,by simp,h1,hge,hlt⟩
     ·rintro (e | ⟨p,hp,e1,e2,e3⟩)
      ·exact .inl (.inl e)
      ·rcases List.mem_append.1 hp with hp | hp
       ·exact .inl (.inr ⟨p,hp,e1,e2,e3⟩)
       ·rw [List.mem_singleton.1 hp] at e1
        refine .inr ?_
        have hm:es[m - pre.length]? = some o := by
         rw [← hin (m - pre.length) (by omega),show pre.length + (m - pre.length) = m by omega]; exact e1
        have := (List.getElem?_inj (i := m - pre.length) (by omega) hnod).1 (by rw [hm,hes]:es[m - pre.length]? = es[k - pre.length]?)
        omega
    ·have := count_step (by rw [hs]; exact hkall) h2; omega)
   unfold wpOp
   rw [List.getElem?_toArray,h1]
   simp only
   split
   ·rename_i hw; rw [if_pos hw] at hst; exact .inl hst
   ·rename_i hw; rw [if_neg hw] at hst; exact hst
theorem tailB_sound {all:List Oper} {tab:List (List Nat)} {Kp:Value → (Nat → A) → Prop} {Kg:(Nat → A) → Prop} (htab:ancOk all tab = true) (hQ:∀ g tmps' w',Kg g → Inv X n Z D gc v0 w0 g tmps' w' → Qp .normal ⟨tmps',ds⟩ w') (hP:∀ pv g tmps' w',Kp pv g → Inv X n Z D gc v0 w0 g tmps' w' → Qp (.panic [{ v := pv,recovered := false }]) ⟨tmps',ds⟩ w') :
  ∀ (bs:List (List Oper)) (pre:List Oper) (g:Nat → A),all = pre ++ bs.flatten → tailOkB tab pre.length bs = true → TailR X n Z all Kp Kg bs g → ∀ (fuel:Nat) (listed:Array Bool) (tmps:Array Value) (w:World),listed.size = all.length → Closed all listed → (∀ k,Lst listed k ↔ k < pre.length) → listed.toList.count false ≤ fuel →
   Inv X n Z D gc v0 w0 g tmps w → wpAny X.P .any all.toArray Qp fuel listed ⟨tmps,ds⟩ w
 | [],pre,g,hall,hok,h,fuel,listed,tmps,w,hs,hc,hl,hf,hI=>by
  refine wpAny_done ?_ (hQ g tmps w h hI) fuel
  cases hr:Region.ready .any all.toArray listed with
  | nil=>rfl
  | cons k r =>
   obtain ⟨o,h1,h2,_⟩ := (ready_iff hs).1 (by rw [hr]; exact List.mem_cons_self:k ∈ Region.ready .any all.toArray listed)
   exact absurd ((hl k).2 (by have := (List.getElem?_eq_some_iff.1 h1).1; rw [hall] at this; simpa using this)) h2
 | [] :: bs,pre,g,hall,hok,h,fuel,listed,tmps,w,hs,hc,hl,hf,hI=>by
  simp only [tailOkB,Bool.and_eq_true] at hok
  exact tailB_sound htab hQ hP bs pre g (by simpa using hall) (by simpa using hok.2) h fuel listed tmps w hs hc hl hf hI
 | [o] :: bs,pre,g,hall,hok,h,fuel,listed,tmps,w,hs,hc,hl,hf,hI=>by
  have hok0 := hok
  simp only [tailOkB,Bool.and_eq_true] at hok
  have hall2:all = pre ++ o :: bs.flatten := by simpa using hall
  have hko:all[pre.length]? = some o := by rw [hall2,List.getElem?_append_right (Nat.le_refl _)]; simp
  have hklt:pre.length < all.length := (List.getElem?_eq_some_iff.1 hko).1
  have hnl:¬ Lst listed pre.length := fun e=>by have := (hl _).1 e; omega
  have hcs := count_step (by rw [hs]; exact hklt) hnl
  have hpr:∀ i ∈ bindOn o,Lst listed i := fun i hi=>(hl i).2 ((ancOk_spec htab hko).1 i hi)
  have hafter:∀ k,pre.length < k → k < all.length → pre.length ∈ tab.getD k [] := fun k h1 h2 =>
   tailOkB_spec hok.2 k (by simp; omega) (by rw [hall2] at h2; simp at h2 ⊢; omega) _ (by simp)
  cases fuel with
  | zero=>omega
  | succ f =>
   refine ⟨fun h0=>absurd (ready_ne hs htab h0 _ hklt) hnl,fun i hi=>?_⟩
   obtain ⟨o',h1,h2,h3⟩ := (ready_iff hs).1 hi
   have hik:i = pre.length := by
    rcases Nat.lt_trichotomy i pre.length with e | e | e
    ·exact absurd ((hl i).2 e) h2
    ·exact e
    ·exact absurd (anc_listed htab hc i o' h1 h3 pre.length (hafter i e (List.getElem?_eq_some_iff.1 h1).1)) hnl
   subst hik
   rcases h with ⟨g',k1,k2⟩ | ⟨pv,g',k1,k2⟩
   ·have ih := tailB_sound htab hQ hP bs (pre ++ [o]) g' (by rw [hall2]; simp) (by simpa using hok.2) k2 f (listed.setIfInBounds pre.length true)
    have := k1 D gc v0 w0 tmps ds w hI (wpAny X.P .any all.toArray Qp f (listed.setIfInBounds pre.length true)) Qp (fun tmps' w' hI'=>ih tmps' w' (by simpa using hs) (closed_set hc hko (by rw [hs]; exact hklt) hpr) (fun k=>by
     rw [lst_set (by rw [hs]; exact hklt),hl]; simp; omega) (by omega) hI')
    unfold wpOp
    rw [List.getElem?_toArray,hko]
    simp only
    split
    ·rename_i hw; rw [if_pos hw] at this; exact .inl this
    ·rename_i hw; rw [if_neg hw] at this; exact this
   ·obtain ⟨hw,hwp⟩ := k1 D gc v0 w0 tmps ds w hI (wpAny X.P .any all.toArray Qp f (listed.setIfInBounds pre.length true)) Qp (fun tmps' w' hI'=>hP pv g' tmps' w' k2 hI')
    unfold wpOp
    rw [List.getElem?_toArray,hko]
    simp only
    rw [if_pos hw]
    exact .inl hwp
 | (o :: p :: es) :: bs,pre,g,hall,hok,h,fuel,listed,tmps,w,hs,hc,hl,hf,hI=>by
  have hok0 := hok
  simp only [tailOkB,Bool.and_eq_true] at hok
  obtain ⟨r,hE,hT⟩ := h
  have hall2:all = pre ++ ((o :: p :: es) ++ bs.flatten) := by rw [hall,List.flatten_cons]
  have hlen:all.length = pre.length + (o :: p :: es).length + bs.flatten.length := by rw [hall2]; simp; omega
  refine grp_sound htab hall2 (fun k h1 h2 j hj=>tailOkB_spec hok.2 k h1 (by omega) j hj) (fun k h1 h2 j hj=>tailOkB_spec hok0 k h1 (by rw [List.flatten_cons,List.length_append]; omega) j hj) hE (fun fuel listed tmps w hs hc hl hf hI=>?_) fuel [] listed tmps w (by simp) (by simp) hs hc (fun k=>by rw [hl]; simp) hf hI
  exact tailB_sound htab hQ hP bs (pre ++ (o :: p :: es)) _ (by rw [hall2,List.append_assoc]) (by rw [List.length_append]; exact hok.2) hT fuel listed tmps w hs hc (fun k=>by rw [hl,List.length_append]) hf hI
theorem loc_sound2 {all loc tail:List Oper} {tab hd:List (List Nat)} (hall:all = loc ++ tail) (htab:ancOk all tab = true) (hhd:hideOk2 all loc tab hd = true) (htl:∀ k,loc.length ≤ k → k < all.length → ∀ j,j < loc.length → j ∈ tab.getD k [])
  {sts:Nat → St} {bs:Nat → A} (hn:(sts 0).find n = none) (htail:∀ (fuel:Nat) (listed:Array Bool) (tmps:Array Value) (w:World),listed.size = all.length → Closed all listed → (∀ k,Lst listed k ↔ k < loc.length) → listed.toList.count false ≤ fuel → Inv X n Z D gc v0 w0 (stG n (sts loc.length)) tmps w → wpAny X.P .any all.toArray Qp fuel listed ⟨tmps,ds⟩ w)
  (hst:∀ k o,loc[k]? = some o → ∃ d,o.dst = some d ∧ dstOk n Z (sts k) d ∧ bs k ≠ .ghost ∧ LG X all (stG n ((sts k).hide (hd.getD k []))) o (bs k) ∧ sts (k + 1) = (sts k).put d (bs k)) :
  ∀ (fuel:Nat) (listed:Array Bool) (tmps:Array Value) (w:World),listed.size = all.length → Closed all listed → (∀ k,Lst listed k → k < loc.length) → listed.toList.count false ≤ fuel →
   Inv X n Z D gc v0 w0 (mixG loc bs (Lst listed) (stG n (sts 0))) tmps w → wpAny X.P .any all.toArray Qp fuel listed ⟨tmps,ds⟩ w := by
 simp only [hideOk2,Bool.and_eq_true,decide_eq_true_eq,List.all_eq_true,List.mem_range,Bool.or_eq_true,beq_iff_eq,List.contains_iff_mem] at hhd
 obtain ⟨hnd,hhd⟩ := hhd
 have htext := text_mix (n := n) (bs := bs) (sts := sts) hnd (fun k o hk=>by obtain ⟨d,h1,_,_,_,h2⟩ := hst k o hk; exact ⟨d,h1,h2⟩)
 have hdn:∀ (k:Nat) (o:Oper) (d:Nat),loc[k]? = some o → o.dst = some d → d < n := fun k o d hk hd'=>by
  obtain ⟨d',h1,h2,_⟩ := hst k o hk
  rw [hd'] at h1; cases h1; exact h2.1
 have hnone:∀ k,k ≤ loc.length → (sts k).find n = none := by
  intro k
  induction k with
  | zero=>exact fun _=>hn
  | succ k ih =>
   intro hk
   obtain ⟨d,h1,h2,_,_,h3⟩ := hst k loc[k] (List.getElem?_eq_getElem hk)
   rw [h3,find_put,if_neg (by have := h2.1; omega)]
   exact ih (by omega)
 have hwn:which loc n = none := by
  cases hw:which loc n with
  | none=>rfl
  | some k=>obtain ⟨o,h1,h2⟩ := which_some hw; exact absurd (hdn k o n h1 h2) (by omega)
 have hg0n:stG n (sts 0) n = .ghost := by unfold stG; rw [hn]; simp
 intro fuel
 induction fuel with
 | zero =>
  intro listed tmps w hs hc hlt hf hI
  have hallL:∀ k,k < all.length → Lst listed k := fun k hk=>Classical.byContradiction fun h=>by
   have := count_step (by rw [hs]; exact hk) h
   omega
  have htn:tail = [] := by
   cases tail with
   | nil=>rfl
   | cons o t=>have := hlt loc.length (hallL _ (by rw [hall]; simp)); omega
  refine htail 0 listed tmps w hs hc (fun k=>⟨hlt k,fun h=>hallL k (by rw [hall]; simp; omega)⟩) hf ?_
  rw [htext loc.length (Nat.le_refl _)]
  have:mixG loc bs (Lst listed) (stG n (sts 0)) = mixG loc bs (· < loc.length) (stG n (sts 0)) := by
   funext i
   unfold mixG
   cases hw:which loc i with
   | none=>rfl
   | some k =>
    obtain ⟨o,h1,_⟩ := which_some hw
    have hk := (List.getElem?_eq_some_iff.1 h1).1
    simp only
    rw [if_pos hk,if_pos (hallL k (by rw [hall]; simp; omega))]
  rw [← this]; exact hI
 | succ f ih =>
  intro listed tmps w hs hc hlt hf hI
  by_cases hfull:∀ k,k < loc.length → Lst listed k
  ·refine htail _ listed tmps w hs hc (fun k=>⟨hlt k,fun h=>hfull k h⟩) hf ?_
   rw [htext loc.length (Nat.le_refl _)]
   have:mixG loc bs (Lst listed) (stG n (sts 0)) = mixG loc bs (· < loc.length) (stG n (sts 0)) := by
    funext i
    unfold mixG
    cases hw:which loc i with
    | none=>rfl
    | some k =>
     obtain ⟨o,h1,_⟩ := which_some hw
     have hk := (List.getElem?_eq_some_iff.1 h1).1
     simp only
     rw [if_pos hk,if_pos (hfull k hk)]
   rw [← this]; exact hI
  ·refine ⟨fun h0=>absurd (fun k hk=>ready_ne hs htab h0 k (by rw [hall]; simp; omega)) hfull,fun k hk=>?_⟩
   obtain ⟨o,h1,h2,h3⟩ := (ready_iff hs).1 hk
   have hkall := (List.getElem?_eq_some_iff.1 h1).1
   have hkl:k < loc.length := by
    refine Classical.byContradiction fun hge=>hfull fun j hj=>?_
    exact anc_listed htab hc k o h1 h3 j (htl k (by omega) hkall j hj)
   have hko:loc[k]? = some o := by rw [hall,List.getElem?_append_left hkl] at h1; exact h1
   obtain ⟨d,e1,e2,e3,e4,e5⟩ := hst k o hko
   have hanc := anc_listed htab hc k o h1 h3
   -- what the operation sees
   have hhid:Hid n (stG n ((sts k).hide (hd.getD k []))) (mixG loc bs (Lst listed) (stG n (sts 0))) := by
    refine hid_of (hnone k (by omega)) (by unfold mixG; rw [hwn]; exact hg0n) (fun i hi=>?_)
    rw [htext k (by omega)]
    unfold mixG
    cases hw:which loc i with
    | none=>rfl
    | some j =>
     simp only
     obtain ⟨oj,q1,q2⟩ := which_some hw
     have hjl := (List.getElem?_eq_some_iff.1 q1).1
     have hcase := hhd k hkl j hjl
     rw [q1] at hcase
     simp only [Option.bind_some,q2] at hcase
     rcases hcase with ((hh | hh) | hh) | hh
     ·subst hh; rw [if_neg (by omega),if_neg h2]
     ·rw [if_pos hh.2,if_pos (hanc j hh.1)]
     ·have hnj:¬ Lst listed j := fun hl=>by
       have hja:all[j]? = some oj := by rw [hall,List.getElem?_append_left hjl]; exact q1
       exact h2 (anc_listed htab hc j oj hja (hc j oj hja hl) k hh.1)
      rw [if_neg (by omega),if_neg hnj]
     ·rw [hh] at hi; cases hi
   have hown:(mixG loc bs (Lst listed) (stG n (sts 0)) d).owner = false := by
    have hw := which_of hnd hko e1
    have e22 := e2.2.2
    rw [htext k (by omega)] at e22
    unfold mixG at e22 ⊢
    rw [hw] at e22 ⊢
    simp only at e22 ⊢
    rw [if_neg h2]
    rw [if_neg (by omega)] at e22
    exact e22
   obtain ⟨c,hfr,hbd⟩ := hI.frm
   have hlg := e4.hide hhid tmps ds w c hI.glob hfr (wpAny X.P .any all.toArray Qp f (listed.setIfInBounds k true)) Qp (fun v w' hw hr=>by
    rw [e1]
    refine ih (listed.setIfInBounds k true) _ w' (by simpa using hs) (closed_set hc h1 (by rw [hs]; exact hkall) h3) (fun j hj=>?_) ?_ ?_
    ·rw [lst_set (by rw [hs]; exact hkall)] at hj
     rcases hj with hj | hj
     ·exact hlt j hj
     ·omega
    ·have := count_step (by rw [hs]; exact hkall) h2; omega
    ·rw [mix_put (S := Lst listed) (k := k) hnd hko e1 (fun j=>lst_set (by rw [hs]; exact hkall))]
     exact hI.put ⟨e2.1,e2.2.1⟩ hown hw hfr hbd e3 hr)
   unfold wpOp
   rw [List.getElem?_toArray,h1]
   simp only
   split
   ·rename_i hw; rw [if_pos hw] at hlg; exact .inl hlg
   ·rename_i hw; rw [if_neg hw] at hlg; exact hlg
def drawOkB (loc:List Oper) (bs:List (List Oper)) (tab hd:List (List Nat)):Bool := ancOk (loc ++ bs.flatten) tab && (hideOk2 (loc ++ bs.flatten) loc tab hd && tailOkB tab loc.length bs)
theorem AW_drawB {id:Nat} {ops:Array Oper} (loc:List Oper) (bls:List (List Oper)) (tab hd:List (List Nat)) (hops:ops.toList = loc ++ bls.flatten) (hm:X.P.follows .mixedOrders = true) (hok:drawOkB loc bls tab hd = true)
  (hn:st.find n = none) {sts:Nat → St} {bs:Nat → A} (q1:sts 0 = st) (q2:TailR X n Z (loc ++ bls.flatten) (fun pv g => ∃ st',g = stG n st' ∧ Q (.panic [{ v := pv,recovered := false }]) st') (fun g => ∃ st',g = stG n st' ∧ Q .normal st') bls (stG n (sts loc.length)))
  (q3:∀ k o,loc[k]? = some o → ∃ d,o.dst = some d ∧ dstOk n Z (sts k) d ∧ bs k ≠ .ghost ∧ LG X (loc ++ bls.flatten) (stG n ((sts k).hide (hd.getD k []))) o (bs k) ∧ sts (k + 1) = (sts k).put d (bs k)):AW X n Z (.region id ops true) st Q := by
 intro D gc v0 w0 tmps w hI
 refine wp_region_any hm ?_
 simp only [drawOkB,Bool.and_eq_true] at hok
 obtain ⟨o1,o2,o3⟩ := hok
 have hI2 := hI.drawn (w.drawn + 1)
 have hoa:ops = (loc ++ bls.flatten).toArray := by rw [← hops]
 subst hoa
 refine loc_sound2 (tail := bls.flatten) rfl o1 o2 (fun k h1 h2 j hj=>tailOkB_spec o3 k h1 (by rw [List.length_append] at h2; omega) j hj) (by rw [q1]; exact hn) (fun fuel listed tmps w hs hc hl hf hI'=>tailB_sound o1 (fun g tmps' w' hK hI''=>by obtain ⟨st',rfl,hK⟩ := hK; exact ⟨rfl,st',hK,hI''⟩) (fun pv g tmps' w' hK hI''=>by obtain ⟨st',rfl,hK⟩ := hK; exact ⟨rfl,st',hK,hI''⟩) bls loc _ rfl o3 q2 fuel listed tmps w hs hc hl hf hI') q3 _ _ tmps _ (by simp) (fun j o hj hl=>?_) (fun k hl=>?_) (by simp) ?_
 ·exact absurd hl (lst_repl _ _)
 ·exact absurd hl (lst_repl _ _)
 ·have:mixG loc bs (Lst (Array.replicate (loc ++ bls.flatten).toArray.size false)) (stG n (sts 0)) = stG n st := by
   funext i
   unfold mixG
   cases which loc i with
   | none=>rw [q1]
   | some k =>
    simp only
    rw [if_neg (lst_repl _ _),q1]
  rw [this]; exact hI2
end Go.Eng

/- Moves that may come late: a slot that holds what a fixed slot holds. -/
namespace Go.Eng
open Go.RowKit (Below)
set_option linter.unusedVariables false
set_option linter.unusedSimpArgs false
variable {X:Ctx} {n:Nat} {Z:List Nat} {D:Nat → Prop} {gc:Cnt} {v0 v1:Nat → Value} {w0 w:World} {g:Nat → A} {tmps:Array Value}
theorem Inv.fixMore (h:Inv X n Z D gc v0 w0 g tmps w) (L:List Nat):Inv X n (L ++ Z) D gc (fun i=>tmps.getD i undef) w0 g tmps w :=
 ⟨h.size,fun i _=>rfl,h.os,h.tape,h.output,h.kept,h.grow,h.glob,h.hD,h.base,h.frm⟩
theorem Inv.fixLess {L:List Nat} (h:Inv X n (L ++ Z) D gc v1 w0 g tmps w) (hv:∀ z ∈ Z,v1 z = v0 z):Inv X n Z D gc v0 w0 g tmps w :=
 ⟨h.size,fun i hi=>by rw [h.fix i (List.mem_append_right _ hi),hv i hi],h.os,h.tape,h.output,h.kept,h.grow,h.glob,h.hD,h.base,h.frm⟩
theorem Inv.alias {d r:Nat} {e:TypeId} {cs:List T} (h:Inv X n Z D gc v0 w0 g tmps w) (hd:g d = .t .u) (hr:g r = .t (.box e cs)) (hv:tmps.getD d undef = tmps.getD r undef):Inv X n Z D gc v0 w0 (upd g d (.pref r none 0)) tmps w := by
 have hne:r ≠ d := by rintro rfl; rw [hd] at hr; cases hr
 obtain ⟨c,hf,hb1,hb2⟩ := h.frm
 refine ⟨h.size,h.fix,h.os,h.tape,h.output,h.kept,h.grow,h.glob,h.hD,h.base,c,⟨fun i=>?_,hf.one,hf.uniq,hf.low⟩,fun i b hi hg=>?_,fun i hi b=>?_⟩
 ·by_cases hid:i = d
  ·subst hid
   rw [upd_same]
   have h1 := hf.rep i
   rw [hd] at h1
   have h2 := hf.rep r
   rw [hr] at h2
   have h0:∀ b,c i b = 0 := by
    cases h1 with
    | u _ _ hc=>exact hc
   rw [hv]
   generalize hx:tmps.getD r undef = x at h2
   generalize hc:c r = cr at h2
   cases h2 with
   | box _ _ b cur c0 _ _ _ _ _=>exact ⟨h0,_,e,cs,b,by rw [upd_ne _ _ hne]; exact hr,by rw [hx]; exact ⟨rfl,rfl⟩,Nat.zero_le _,rfl⟩
  ·rw [upd_ne _ _ hid]
   refine ARep.mono (hf.rep i) (fun b _ h=>⟨h,rfl⟩) (Nat.le_refl _) (fun _ _=>rfl) (fun r2 t hr2 ho=>⟨?_,rfl,fun b => ∀ j,c j b = 0,c r2,?_,fun _ _=>rfl⟩)
   ·have:r2 ≠ d := by rintro rfl; rw [hd] at hr2; cases hr2; cases ho
    rw [upd_ne _ _ this]; exact hr2
   ·have := hf.rep r2
    rw [hr2] at this
    exact this
 ·by_cases hid:i = d
  ·subst hid
   exact hb1 i b hi (by rw [hd]; intro h; cases h)
  ·rw [upd_ne _ _ hid] at hg; exact hb1 i b hi hg
 ·by_cases hid:i = d
  ·subst hid; rw [upd_same] at hi; cases hi
  ·rw [upd_ne _ _ hid] at hi; exact hb2 i hi b
structure LateOk (n:Nat) (Z:List Nat) (all:List Oper) (o0:Oper) (r d:Nat):Prop where
 at0:all[0]? = some o0
 op:o0.op = .move (.tmp r)
 dst:o0.dst = some d
 grd:o0.guard = none
 dn:d < n
 dz:d ∉ Z
 rz:r ∈ Z
def MidP (X:Ctx) (n:Nat) (Z:List Nat) (all:List Oper) (d:Nat):List Oper → St → (St → Prop) → Prop
 | [],st,K=>stG n st d = .t .u ∧ K st
 | o :: rest,st,K=>stG n st d = .t .u ∧ ∃ st',GStep' X n (d :: Z) all (stG n st) o (stG n st') ∧ MidP X n Z all d rest st' K
theorem MidP.at {all:List Oper} {d:Nat} {rest:List Oper} {st:St} {K:St → Prop} (h:MidP X n Z all d rest st K):stG n st d = .t .u := by
 cases rest <;> exact h.1
variable {ds:List Deferred} {Qp:Exit → Act → World → Prop} {K:St → Prop}
theorem late_run {all:List Oper} {o0:Oper} {r d:Nat} (hL:LateOk n Z all o0 r d) {tmps:Array Value} {w:World} {next:Act → World → Prop} (hn:next ⟨tmps.setIfInBounds d (tmps.getD r undef),ds⟩ w):wpOp X.P all.toArray Qp 0 next ⟨tmps,ds⟩ w := by
 unfold wpOp
 rw [List.getElem?_toArray,hL.at0]
 simp only
 rw [if_pos (by simp [Region.wanted,hL.grd])]
 refine .inl (wp_of_run (v := tmps.getD r undef) (w' := w) ?_ (by rw [hL.dst]; exact hn))
 unfold execOp
 simp only [hL.op]; rfl
theorem mid_sound {all tl:List Oper} {o0:Oper} {r d loc m:Nat} {tab:List (List Nat)} (htab:ancOk all tab = true) (hL:LateOk n Z all o0 r d) (hord:∀ k,loc ≤ k → k < all.length → ∀ j,0 < j → j < k → j ∈ tab.getD k [])
  (htl:∀ k,m ≤ k → k < all.length → ∀ j,j < k → j ∈ tab.getD k []) (hloc:0 < loc) (hQ:∀ st' tmps' w',K st' → Inv X n Z D gc v0 w0 (stG n st') tmps' w' → Qp .normal ⟨tmps',ds⟩ w') :
  ∀ (fuel:Nat) (rest pre:List Oper) (st:St),all = pre ++ rest ++ tl → loc ≤ pre.length → (pre ++ rest).length = m → MidP X n Z all d rest st (fun s => ∃ e cs,stG n s r = .t (.box e cs) ∧ RegP X n Z all tl (s.put d (.pref r none 0)) K) →
  ∀ (listed:Array Bool) (tmps:Array Value) (w:World) (v1:Nat → Value),listed.size = all.length → Closed all listed → (∀ k,0 < k → (Lst listed k ↔ k < pre.length)) → (∀ z ∈ Z,v1 z = v0 z) → (Lst listed 0 → v1 d = v1 r) → listed.toList.count false ≤ fuel →
   Inv X n (d :: Z) D gc v1 w0 (stG n st) tmps w → wpAny X.P .any all.toArray Qp fuel listed ⟨tmps,ds⟩ w := by
 intro fuel
 induction fuel with
 | zero=>?_
 | succ f ih=>?_
 all_goals
  intro rest pre st hall hle hm hK listed tmps w v1 hs hc hl hv hl0 hf hI
  have hgd := hK.at
  by_cases hA:rest = [] ∧ Lst listed 0
  ·obtain ⟨rfl,h0⟩ := hA
   obtain ⟨_,e,cs,hg,hR⟩ := hK
   rw [List.append_nil] at hall hm
   refine tail_sound (loc := pre) htab (fun k h1 h2=>htl k (by omega) h2) hQ tl pre _ hall (Nat.le_refl _) hR _ listed tmps w hs hc (fun k=>?_) hf ?_
   ·rcases Nat.eq_zero_or_pos k with rfl | hk
    ·exact ⟨fun _=>by omega,fun _=>h0⟩
    ·exact hl k hk
   ·rw [stG_put]
    refine Inv.alias (hI.fixLess (L := [d]) hv) hgd hg ?_
    rw [hI.fix d (by simp),hI.fix r (List.mem_cons_of_mem _ hL.rz),hl0 h0]
  have hex:∃ j,j < all.length ∧ ¬ Lst listed j := by
   by_cases h0:Lst listed 0
   ·have hr:rest ≠ [] := fun e=>hA ⟨e,h0⟩
    refine ⟨pre.length,?_,fun h=>?_⟩
    ·rw [hall]; cases rest with
     | nil=>exact absurd rfl hr
     | cons o t=>simp
    ·have := (hl pre.length (by omega)).1 h; omega
   ·exact ⟨0,(List.getElem?_eq_some_iff.1 hL.at0).1,h0⟩
 ·obtain ⟨j,h1,h2⟩ := hex
  have := count_step (by rw [hs]; exact h1) h2
  omega
 ·obtain ⟨j,hj1,hj2⟩ := hex
  refine ⟨fun h0=>absurd (ready_ne hs htab h0 j hj1) hj2,fun i hi=>?_⟩
  obtain ⟨o',h1,h2,h3⟩ := (ready_iff hs).1 hi
  have hilt:i < all.length := (List.getElem?_eq_some_iff.1 h1).1
  have hcs := count_step (by rw [hs]; exact hilt) h2
  have hc2 := closed_set hc h1 (by rw [hs]; exact hilt) h3
  have hls:∀ q,Lst (listed.setIfInBounds i true) q ↔ Lst listed q ∨ q = i := fun q=>lst_set (by rw [hs]; exact hilt)
  rcases Nat.eq_zero_or_pos i with rfl | hipos
  ·refine late_run hL ?_
   have hrd:r ≠ d := fun e=>hL.dz (e ▸ hL.rz)
   have hI0 := hI.fixLess (L := [d]) hv
   obtain ⟨c,hfr,hbd⟩ := hI0.frm
   have hI1 := hI0.put (d := d) (v := tmps.getD r undef) (a := .t .u) ⟨hL.dn,hL.dz⟩ (by rw [hgd]; rfl) (Below.refl _ _) hfr hbd (fun e=>by cases e) ⟨fun _=>0,.u _ _ (fun _=>rfl),fun b hb=>absurd hb (by simp),fun b=>by simp⟩
   have hg2:upd (stG n st) d (.t .u) = stG n st := by
    funext q; unfold upd; split
    ·rename_i e; rw [e,hgd]
    ·rfl
   rw [hg2] at hI1
   refine ih rest pre st hall hle hm hK _ _ w (fun q=>(tmps.setIfInBounds d (tmps.getD r undef)).getD q undef) (by simpa using hs) hc2 (fun q hq=>?_) (fun z hz=>hI1.fix z hz) (fun _=>?_) (by omega) (hI1.fixMore [d])
   ·rw [hls,hl q hq]
    constructor
    ·rintro (e | e)
     ·exact e
     ·omega
    ·exact .inl
   ·show (tmps.setIfInBounds d (tmps.getD r undef)).getD d undef = (tmps.setIfInBounds d (tmps.getD r undef)).getD r undef
    rw [getD_set _ _ _ _ (by rw [hI.size]; exact hL.dn),getD_set _ _ _ _ (by rw [hI.size]; exact hL.dn),if_pos rfl,if_neg hrd]
  ·have hge:pre.length ≤ i := by
    rcases Nat.lt_or_ge i pre.length with e | e
    ·exact absurd ((hl i hipos).2 e) h2
    ·exact e
   have hieq:i = pre.length := by
    rcases Nat.lt_or_ge pre.length i with e | e
    ·have := anc_listed htab hc i o' h1 h3 pre.length (hord i (by omega) hilt _ (by omega) e)
     have := (hl pre.length (by omega)).1 this
     omega
    ·omega
   subst hieq
   cases rest with
   | nil =>
    rw [List.append_nil] at hm
    exact absurd ⟨rfl,anc_listed htab hc _ o' h1 h3 0 (htl _ (by omega) hilt 0 hipos)⟩ hA
   | cons o rest' =>
    have hko:all[pre.length]? = some o := by rw [hall,List.append_assoc,List.getElem?_append_right (Nat.le_refl _)]; simp
    rw [h1] at hko; cases hko
    obtain ⟨_,st',k1,k2⟩ := hK
    have := k1 D gc v1 w0 tmps ds w hI (wpAny X.P .any all.toArray Qp f (listed.setIfInBounds pre.length true)) Qp (fun tmps' w' hI'=>ih rest' (pre ++ [o']) st' (by rw [hall]; simp) (by simp; omega) (by rw [← hm]; simp) k2 _ tmps' w' v1 (by simpa using hs) hc2 (fun q hq=>by
     rw [hls,hl q hq]; simp; omega) hv (fun h=>hl0 (by
     rcases (hls 0).1 h with e | e
     ·exact e
     ·omega)) (by omega) hI')
    unfold wpOp
    rw [List.getElem?_toArray,h1]
    simp only
    split
    ·rename_i hw; rw [if_pos hw] at this; exact .inl this
    ·rename_i hw; rw [if_neg hw] at this; exact this
theorem mix_full {loc:List Oper} {bs:Nat → A} {g0:Nat → A} {S:Nat → Prop} [DecidablePred S] {o0:Oper} {d:Nat} (h0:loc[0]? = some o0) (hd:o0.dst = some d) (hb:bs 0 = .t .u) (hg:g0 d = .t .u) (hf:∀ k,0 < k → k < loc.length → S k):mixG loc bs S g0 = mixG loc bs (· < loc.length) g0 := by
 funext i
 unfold mixG
 cases hw:which loc i with
 | none=>rfl
 | some k =>
  obtain ⟨o,h1,h2⟩ := which_some hw
  have hk := (List.getElem?_eq_some_iff.1 h1).1
  simp only
  rw [if_pos hk]
  rcases Nat.eq_zero_or_pos k with rfl | hp
  ·rw [h0] at h1; cases h1
   rw [hd] at h2; cases h2
   split
   ·rfl
   ·rw [hg,hb]
  ·rw [if_pos (hf k hp hk)]
theorem late_sound {all loc mid tl:List Oper} {tab hd:List (List Nat)} {o0:Oper} {r d:Nat} (hall:all = loc ++ mid ++ tl) (htab:ancOk all tab = true) (hhd:hideOk2 all loc tab hd = true) (hL:LateOk n Z all o0 r d) (hlp:0 < loc.length)
  (hord:∀ k,loc.length ≤ k → k < all.length → ∀ j,0 < j → j < k → j ∈ tab.getD k []) (htl:∀ k,(loc ++ mid).length ≤ k → k < all.length → ∀ j,j < k → j ∈ tab.getD k [])
  (hQ:∀ st' tmps' w',K st' → Inv X n Z D gc v0 w0 (stG n st') tmps' w' → Qp .normal ⟨tmps',ds⟩ w') {sts:Nat → St} {bs:Nat → A} (hn:(sts 0).find n = none) (hb0:bs 0 = .t .u) (hg0:stG n (sts 0) d = .t .u)
  (hK:MidP X n Z all d mid (sts loc.length) (fun s => ∃ e cs,stG n s r = .t (.box e cs) ∧ RegP X n Z all tl (s.put d (.pref r none 0)) K))
  (hst:∀ k o,loc[k]? = some o → ∃ d,o.dst = some d ∧ dstOk n Z (sts k) d ∧ bs k ≠ .ghost ∧ LG X all (stG n ((sts k).hide (hd.getD k []))) o (bs k) ∧ sts (k + 1) = (sts k).put d (bs k)) :
  ∀ (fuel:Nat) (listed:Array Bool) (tmps:Array Value) (w:World),listed.size = all.length → Closed all listed → (∀ k,Lst listed k → k < loc.length) → (Lst listed 0 → tmps.getD d undef = tmps.getD r undef) → listed.toList.count false ≤ fuel →
   Inv X n Z D gc v0 w0 (mixG loc bs (Lst listed) (stG n (sts 0))) tmps w → wpAny X.P .any all.toArray Qp fuel listed ⟨tmps,ds⟩ w := by
 have hhd' := hhd
 simp only [hideOk2,Bool.and_eq_true,decide_eq_true_eq,List.all_eq_true,List.mem_range,Bool.or_eq_true,beq_iff_eq,List.contains_iff_mem] at hhd
 obtain ⟨hnd,hhd⟩ := hhd
 have hall2:all = loc ++ (mid ++ tl) := by rw [hall,List.append_assoc]
 have h00:loc[0]? = some o0 := by have := hL.at0; rw [hall2,List.getElem?_append_left hlp] at this; exact this
 have htext := text_mix (n := n) (bs := bs) (sts := sts) hnd (fun k o hk=>by obtain ⟨d,h1,_,_,_,h2⟩ := hst k o hk; exact ⟨d,h1,h2⟩)
 have hdn:∀ (k:Nat) (o:Oper) (d:Nat),loc[k]? = some o → o.dst = some d → d < n := fun k o d hk hd'=>by
  obtain ⟨d',h1,h2,_⟩ := hst k o hk
  rw [hd'] at h1; cases h1; exact h2.1
 have hnone:∀ k,k ≤ loc.length → (sts k).find n = none := by
  intro k
  induction k with
  | zero=>exact fun _=>hn
  | succ k ih =>
   intro hk
   obtain ⟨d,h1,h2,_,_,h3⟩ := hst k loc[k] (List.getElem?_eq_getElem hk)
   rw [h3,find_put,if_neg (by have := h2.1; omega)]
   exact ih (by omega)
 have hwn:which loc n = none := by
  cases hw:which loc n with
  | none=>rfl
  | some k=>obtain ⟨o,h1,h2⟩ := which_some hw; exact absurd (hdn k o n h1 h2) (by omega)
 have hg0n:stG n (sts 0) n = .ghost := by unfold stG; rw [hn]; simp
 have hrd:r ≠ d := fun e=>hL.dz (e ▸ hL.rz)
 have toMid:∀ (fuel:Nat) (listed:Array Bool) (tmps:Array Value) (w:World),listed.size = all.length → Closed all listed → (∀ k,Lst listed k → k < loc.length) → (∀ k,0 < k → k < loc.length → Lst listed k) → (Lst listed 0 → tmps.getD d undef = tmps.getD r undef) → listed.toList.count false ≤ fuel →
   Inv X n Z D gc v0 w0 (mixG loc bs (Lst listed) (stG n (sts 0))) tmps w → wpAny X.P .any all.toArray Qp fuel listed ⟨tmps,ds⟩ w := by
  intro fuel listed tmps w hs hc hlt hfull h0 hf hI
  rw [mix_full h00 hL.dst hb0 hg0 hfull,← htext loc.length (Nat.le_refl _)] at hI
  exact mid_sound htab hL hord htl hlp hQ fuel mid loc (sts loc.length) hall (Nat.le_refl _) rfl hK listed tmps w _ hs hc (fun k hk=>⟨hlt k,fun h=>hfull k hk h⟩) (fun z hz=>hI.fix z hz) h0 hf (hI.fixMore [d])
 intro fuel
 induction fuel with
 | zero =>
  intro listed tmps w hs hc hlt h0 hf hI
  have hallL:∀ k,k < all.length → Lst listed k := fun k hk=>Classical.byContradiction fun h=>by
   have := count_step (by rw [hs]; exact hk) h
   omega
  exact toMid 0 listed tmps w hs hc hlt (fun k _ hk=>hallL k (by rw [hall2]; simp; omega)) h0 hf hI
 | succ f ih =>
  intro listed tmps w hs hc hlt h0 hf hI
  by_cases hfull:∀ k,0 < k → k < loc.length → Lst listed k
  ·exact toMid _ listed tmps w hs hc hlt hfull h0 hf hI
  ·refine ⟨fun h0=>absurd (fun k _ hk=>ready_ne hs htab h0 k (by rw [hall2]; simp; omega)) hfull,fun k hk=>?_⟩
   obtain ⟨o,h1,h2,h3⟩ := (ready_iff hs).1 hk
   have hkall := (List.getElem?_eq_some_iff.1 h1).1
   have hkl:k < loc.length := by
    refine Classical.byContradiction fun hge=>hfull fun j hj0 hj=>?_
    exact anc_listed htab hc k o h1 h3 j (hord k (by omega) hkall j hj0 (by omega))
   have hko:loc[k]? = some o := by rw [hall2,List.getElem?_append_left hkl] at h1; exact h1
   obtain ⟨dk,e1,e2,e3,e4,e5⟩ := hst k o hko
   have hanc := anc_listed htab hc k o h1 h3
   have hown:(mixG loc bs (Lst listed) (stG n (sts 0)) dk).owner = false := by
    have hw := which_of hnd hko e1
    have e22 := e2.2.2
    rw [htext k (by omega)] at e22
    unfold mixG at e22 ⊢
    rw [hw] at e22 ⊢
    simp only at e22 ⊢
    rw [if_neg h2]
    rw [if_neg (by omega)] at e22
    exact e22
   have hcs := count_step (by rw [hs]; exact hkall) h2
   have hc2 := closed_set hc h1 (by rw [hs]; exact hkall) h3
   have hls:∀ q,Lst (listed.setIfInBounds k true) q ↔ Lst listed q ∨ q = k := fun q=>lst_set (by rw [hs]; exact hkall)
   have hlt2:∀ j,Lst (listed.setIfInBounds k true) j → j < loc.length := fun j hj=>by
    rcases (hls j).1 hj with hj | hj
    ·exact hlt j hj
    ·omega
   obtain ⟨c,hfr,hbd⟩ := hI.frm
   rcases Nat.eq_zero_or_pos k with rfl | hkp
   ·rw [h00] at hko; cases hko
    rw [hL.dst] at e1; cases e1
    refine late_run hL (ih _ _ w (by simpa using hs) hc2 hlt2 (fun _=>?_) (by omega) ?_)
    ·rw [getD_set _ _ _ _ (by rw [hI.size]; exact hL.dn),getD_set _ _ _ _ (by rw [hI.size]; exact hL.dn),if_pos rfl,if_neg hrd]
    ·rw [mix_put (S := Lst listed) (k := 0) hnd h00 hL.dst (fun j=>hls j),hb0]
     exact hI.put ⟨hL.dn,hL.dz⟩ hown (Below.refl _ _) hfr hbd (fun e=>by cases e) ⟨fun _=>0,.u _ _ (fun _=>rfl),fun b hb=>absurd hb (by simp),fun b=>by simp⟩
   -- what the operation sees
   have hhid:Hid n (stG n ((sts k).hide (hd.getD k []))) (mixG loc bs (Lst listed) (stG n (sts 0))) := by
    refine hid_of (hnone k (by omega)) (by unfold mixG; rw [hwn]; exact hg0n) (fun i hi=>?_)
    rw [htext k (by omega)]
    unfold mixG
    cases hw:which loc i with
    | none=>rfl
    | some j =>
     simp only
     obtain ⟨oj,q1,q2⟩ := which_some hw
     have hjl := (List.getElem?_eq_some_iff.1 q1).1
     have hcase := hhd k hkl j hjl
     rw [q1] at hcase
     simp only [Option.bind_some,q2] at hcase
     rcases hcase with ((hh | hh) | hh) | hh
     ·subst hh; rw [if_neg (by omega),if_neg h2]
     ·rw [if_pos hh.2,if_pos (hanc j hh.1)]
     ·have hnj:¬ Lst listed j := fun hl=>by
       have hja:all[j]? = some oj := by rw [hall2,List.getElem?_append_left hjl]; exact q1
       exact h2 (anc_listed htab hc j oj hja (hc j oj hja hl) k hh.1)
      rw [if_neg (by omega),if_neg hnj]
     ·rw [hh] at hi; cases hi
   have hdd:dk ≠ d := by
    rintro rfl
    have w1 := which_of hnd hko e1
    have w2 := which_of hnd h00 hL.dst
    rw [w1] at w2; cases w2; omega
   have hdr:dk ≠ r := fun e=>e2.2.1 (e ▸ hL.rz)
   have hlg := e4.hide hhid tmps ds w c hI.glob hfr (wpAny X.P .any all.toArray Qp f (listed.setIfInBounds k true)) Qp (fun v w' hw hr=>by
    rw [e1]
    refine ih (listed.setIfInBounds k true) _ w' (by simpa using hs) hc2 hlt2 (fun hq=>?_) (by omega) ?_
    ·show (tmps.setIfInBounds dk v).getD d undef = (tmps.setIfInBounds dk v).getD r undef
     rw [getD_set _ _ _ _ (by rw [hI.size]; exact e2.1),getD_set _ _ _ _ (by rw [hI.size]; exact e2.1),if_neg (fun e=>hdd e.symm),if_neg (fun e=>hdr e.symm)]
     refine h0 ?_
     rcases (hls 0).1 hq with e | e
     ·exact e
     ·omega
    ·rw [mix_put (S := Lst listed) (k := k) hnd hko e1 (fun j=>hls j)]
     exact hI.put ⟨e2.1,e2.2.1⟩ hown hw hfr hbd e3 hr)
   unfold wpOp
   rw [List.getElem?_toArray,h1]
   simp only
   split
   ·rename_i hw; rw [if_pos hw] at hlg; exact .inl hlg
   ·rename_i hw; rw [if_neg hw] at hlg; exact hlg
end Go.Eng

/- For the walks: a few shapes. -/
namespace Go.Eng
open Go.RowKit (Below)
set_option linter.unusedVariables false
set_option linter.unusedSimpArgs false
variable {X:Ctx} {n:Nat} {Z:List Nat} {Q:Exit → St → Prop} {st:St}
theorem wrap64 {a:Int} (h : -9223372036854775808 ≤ a) (h2:a ≤ 9223372036854775807):IntKind.wrap .i64 a = a := by
 simp only [IntKind.wrap,IntKind.bits,IntKind.signed]
 simp
 omega
theorem wrap8 {a:Int} (h:0 ≤ a) (h2:a ≤ 255):IntKind.wrap .u8 a = a := by
 simp only [IntKind.wrap,IntKind.bits,IntKind.signed]
 simp
 omega
theorem drop_cons {α:Type} {l:List α} {i:Nat} {c d:α} {r:List α} (h:l.drop i = c :: r):l.getD i d = c ∧ l.drop (i + 1) = r ∧ l.length = i + (r.length + 1) := by
 have h1:l[i]? = some c := by
  have:(l.drop i)[0]? = some c := by rw [h]; rfl
  rw [List.getElem?_drop] at this; simpa using this
 refine ⟨by rw [List.getD_eq_getElem?_getD,h1]; rfl,?_,?_⟩
 ·rw [← List.drop_drop,h]; rfl
 ·have:(l.drop i).length = r.length + 1 := by rw [h]; rfl
  rw [List.length_drop] at this; omega
theorem drop_ex {α:Type} {l:List α} {i:Nat} (h:i < l.length):∃ c r,l.drop i = c :: r := ⟨_,_,List.drop_eq_getElem_cons h⟩
theorem cut_zero {α:Type} (l:List α) (i:Nat):cut l 0 i = l.take i := by simp [cut]
theorem cut_all {α:Type} (l:List α) (i:Nat):cut l i l.length = l.drop i := by simp [cut]
end Go.Eng
