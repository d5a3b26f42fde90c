/- A part of the proof: E2. -/
import Derived.Test.YtnjcbogckfiamaaDoorE1
import Derived.Laws.MakeOwn
import Derived.Laws.OwnMore
import Derived.Lib.AppendStr
namespace Go.Eng
open Go.RowKit (Below)
set_option linter.unusedVariables false
set_option linter.unusedSimpArgs false
variable {X:Ctx} {g:Nat → A}
def T.solid:T → Bool
 | .v y=>y.oneCell'
 | .sl _ _ | .ag _=>true
 | _=>false
theorem TRep.solid {w:World} {F:Nat → Prop} {t:T} {x:Value} {c:Cnt} (h:TRep w F t x c) (hs:t.solid = true):LRep w F t.cells x.cells.toList (fun _=>0) ∧ ∀ y ∈ x.cells.toList,y.oneCell' = true := by
 have hz := h.zero (by cases t <;> first | rfl | cases hs)
 cases h with
 | u | ownnil | own | box | tup | opt=>cases hs
 | v =>
  have h1:x.oneCell' = true := hs
  have hx:x.cells = #[x] := by cases x <;> first | rfl | cases h1
  rw [hx]
  exact ⟨.cons _ _ _ _ _ _ _ (.v _ _ (fun _=>rfl)) (.nil _ (fun _=>rfl)) (fun _=>rfl),by simpa using h1⟩
 | slnil=>exact ⟨.cons _ _ _ _ _ _ _ (.slnil _ _ _ _ (fun _=>rfl)) (.nil _ (fun _=>rfl)) (fun _=>rfl),by simp [Value.cells,Value.oneCell']⟩
 | sl sz es b n cap vals c0 c hn hcap hF hb hsp hv hz hl hone hc0 hc =>
  exact ⟨.cons _ _ _ _ _ _ _ (.sl sz es b n cap vals c0 _ hn hcap hF hb hsp hv hz hl hone hc0 (fun _=>rfl)) (.nil _ (fun _=>rfl)) (fun _=>rfl),by simp [Value.cells,Value.oneCell']⟩
 | ag cs vs c hl hone hc=>exact ⟨hl.count (fun b=>(hc b).symm),hone⟩
def placeT {α:Type} (cs:List α) (off:Nat) (ts:List α):List α := cs.take off ++ ts ++ cs.drop (off + ts.length)
theorem placeT_length {α:Type} (cs:List α) (off:Nat) (ts:List α) (h:off + ts.length ≤ cs.length):(placeT cs off ts).length = cs.length := by
 simp [placeT]; omega
theorem set_cut {α:Type} (l xs:List α) (m:Nat) (x:α) (h:m < l.length) :
  (l.set m x).take (m + 1) ++ xs ++ (l.set m x).drop (m + 1 + xs.length) = l.take m ++ (x :: xs) ++ l.drop (m + (xs.length + 1)) := by
 have hm:(l.take m).length = m := by rw [List.length_take]; omega
 have e:l.set m x = l.take m ++ x :: l.drop (m + 1) := by rw [List.set_eq_take_append_cons_drop,if_pos h]
 rw [e]
 have e1:(l.take m ++ x :: l.drop (m + 1)).take (m + 1) = l.take m ++ [x] := by
  rw [List.take_append,hm,show m + 1 - m = 1 by omega,List.take_of_length_le (by omega)]; rfl
 have e2:(l.take m ++ x :: l.drop (m + 1)).drop (m + 1 + xs.length) = l.drop (m + (xs.length + 1)) := by
  rw [List.drop_append,hm,List.drop_eq_nil_of_le (by omega),show m + 1 + xs.length - m = xs.length + 1 by omega,List.drop_succ_cons,List.drop_drop]
  simp; congr 1; omega
 rw [e1,e2]; simp
theorem foldl_set (off:Nat):∀ (l:List Value) (k:Nat) (arr:Array Value),off + k + l.length ≤ arr.size →
  ((l.zipIdx k).foldl (fun cs p=>cs.setIfInBounds (off + p.2) p.1) arr).toList = placeT arr.toList (off + k) l := by
 intro l
 induction l with
 | nil=>intro k arr _; simp [placeT]
 | cons x xs ih =>
  intro k arr h
  simp only [List.length_cons] at h
  rw [List.zipIdx_cons,List.foldl_cons,ih (k + 1) _ (by simp; omega)]
  simp only [placeT,List.length_cons,Array.toList_setIfInBounds]
  rw [show off + (k + 1) = off + k + 1 by omega]
  exact set_cut _ _ _ _ (by rw [Array.length_toList]; omega)
theorem fill_cells (off:Nat) (v:Value) (arr:Array Value) (h:off + v.cells.size ≤ arr.size):(v.cells.zipIdx.foldl (fun cs (c,j)=>cs.setIfInBounds (off + j) c) arr).toList = placeT arr.toList off v.cells.toList := by
 have := foldl_set off v.cells.toList 0 arr (by simpa using h)
 rw [Nat.add_zero] at this
 rw [← this,← Array.foldl_toList,Array.toList_zipIdx]
def fillT (place:Nat → Option (Nat × Nat)) (cs:List T):List (Nat × T) → Option (List T)
 | []=>some cs
 | (i,t) :: rest=>match place i with
  | none=>none
  | some (off,size)=>if t.cells.length = size ∧ off + size ≤ cs.length then fillT place (placeT cs off t.cells) rest else none
theorem LRep.place {w:World} {F:Nat → Prop} {cs ts:List T} {vs xs:List Value} {off:Nat} (h:LRep w F cs vs (fun _=>0)) (k:LRep w F ts xs (fun _=>0)):LRep w F (placeT cs off ts) (placeT vs off xs) (fun _=>0) := by
 obtain ⟨d1,h1,q1⟩ := h.take off
 obtain ⟨d2,h2,q2⟩ := h.drop (off + ts.length)
 unfold placeT
 rw [← k.length]
 exact ((h1.zeros q1 (fun _=>rfl)).append k (fun _=>rfl)).append (h2.zeros q2 (fun _=>rfl)) (fun _=>rfl)
theorem mem_placeT {α:Type} {cs ts:List α} {off:Nat} {y:α} (h:y ∈ placeT cs off ts):y ∈ cs ∨ y ∈ ts := by
 simp only [placeT,List.mem_append] at h
 rcases h with (h | h) | h
 ·exact .inl (List.mem_of_mem_take h)
 ·exact .inr h
 ·exact .inl (List.mem_of_mem_drop h)
theorem fill_rep {w:World} {F:Nat → Prop} {place:Nat → Option (Nat × Nat)}:∀ (ps:List (Nat × T)) (xs:List (Nat × Value)) (cs cs':List T) (arr:Array Value),
  LRep w F cs arr.toList (fun _=>0) → (∀ y ∈ arr.toList,y.oneCell' = true) → ps.map (·.1) = xs.map (·.1) → (∀ (i:Nat) (p:Nat × T) (q:Nat × Value),ps[i]? = some p → xs[i]? = some q → TRep w F p.2 q.2 (fun _=>0) ∧ p.2.solid = true) →
  fillT place cs ps = some cs' → ∃ arr',Instr.fill place arr xs = some arr' ∧ LRep w F cs' arr'.toList (fun _=>0) ∧ ∀ y ∈ arr'.toList,y.oneCell' = true
 | [],[],cs,cs',arr,h,h1,_,_,hf=>by cases hf; exact ⟨arr,rfl,h,h1⟩
 | [],_ :: _,_,_,_,_,_,he,_,_=>by simp at he
 | _ :: _,[],_,_,_,_,_,he,_,_=>by simp at he
 | (i,t) :: ps,(j,x) :: xs,cs,cs',arr,h,h1,he,hr,hf=>by
  simp only [List.map_cons,List.cons.injEq] at he
  obtain ⟨rfl,he⟩ := he
  obtain ⟨k1,k2⟩ := hr 0 (i,t) (i,x) (by simp) (by simp)
  obtain ⟨k3,k4⟩ := k1.solid k2
  simp only [fillT] at hf
  cases hp:place i with
  | none=>rw [hp] at hf; cases hf
  | some q =>
   obtain ⟨off,size⟩ := q
   rw [hp] at hf
   simp only at hf
   split at hf
   ·rename_i hs
    have hlen:t.cells.length = x.cells.size := by have := k3.length; simpa using this
    have harr:cs.length = arr.size := by have := h.length; simpa using this
    have e1 := fill_cells off x arr (by have := hs.1; have := hs.2; dsimp only at *; omega)
    obtain ⟨arr',q1,q2,q3⟩ := fill_rep ps xs (placeT cs off t.cells) cs' (x.cells.zipIdx.foldl (fun cs (c,j)=>cs.setIfInBounds (off + j) c) arr) (by rw [e1]; exact h.place k3)
     (by rw [e1]; intro y hy; rcases mem_placeT hy with hy | hy; exact h1 y hy; exact k4 y hy) he (fun n p q ht hx=>hr (n + 1) p q (by simpa using ht) (by simpa using hx)) hf
    refine ⟨arr',?_,q2,q3⟩
    simp only [Instr.fill,hp]
    have hn:¬ (x.cells.size ≠ size ∨ off + x.cells.size > arr.size) := by have := hs.1; have := hs.2; dsimp only at *; omega
    rw [if_neg (by simp only [Bool.or_eq_true,decide_eq_true_eq]; exact hn)]
    exact q1
   ·cases hf
def partsA (X:Ctx) (g:Nat → A):List (Nat × Operand) → Option (List (Nat × T))
 | []=>some []
 | (i,x) :: rest=>match rd X g x,partsA X g rest with
  | .t t,some ts=>if t.solid then some ((i,t) :: ts) else none
  | _,_=>none
def partsP (X:Ctx) (g:Nat → A):List (Nat × Operand) → Prop
 | []=>True
 | (_,x) :: rest=>rdp X g x ∧ partsP X g rest
theorem parts_rep {tmps:Array Value} {ds:List Deferred} {w:World} {c:Nat → Cnt} (hG:X.G w) (hf:Frm X.N w g tmps c):∀ (ps:List (Nat × Operand)) (ts:List (Nat × T)),partsP X g ps → partsA X g ps = some ts →
  ts.map (·.1) = (ps.map fun (i,x)=>(i,Act.eval ⟨tmps,ds⟩ x)).map (·.1) ∧
  ∀ (i:Nat) (p:Nat × T) (q:Nat × Value),ts[i]? = some p → (ps.map fun (i,x)=>(i,Act.eval ⟨tmps,ds⟩ x))[i]? = some q → TRep w (fun b => ∀ j,c j b = 0) p.2 q.2 (fun _=>0) ∧ p.2.solid = true
 | [],ts,_,h=>by cases h; exact ⟨rfl,by simp⟩
 | (i,x) :: ps,ts,hp,h=>by
  simp only [partsA] at h
  split at h
  ·rename_i t ts' e1 e2
   split at h
   ·rename_i hs
    cases h
    obtain ⟨h1,h2⟩ := parts_rep hG hf ps ts' hp.2 e2
    refine ⟨by simpa using h1,fun j p q ht hx=>?_⟩
    cases j with
    | zero =>
     simp at ht hx; subst ht; subst hx
     have := rd_rep (ds := ds) hG hf x hp.1
     rw [e1] at this
     exact ⟨this,hs⟩
    | succ j=>exact h2 j p q (by simpa using ht) (by simpa using hx)
   ·cases h
  ·cases h
theorem mapM_run {α β:Type} {P:Program} {w:World} (f:α → Sem β) (h:α → β):∀ (xs:List α),(∀ x ∈ xs,(f x).run P w = .ok (h x) w) → (xs.mapM f).run P w = .ok (xs.map h) w
 | [],_=>by simp
 | x :: xs,hx=>by
  rw [List.mapM_cons]
  simp [hx x (by simp),mapM_run f h xs (fun y hy=>hx y (by simp [hy]))]
theorem amapM_run {α β:Type} {P:Program} {w:World} (f:α → Sem β) (h:α → β) (xs:Array α) (hx:∀ x ∈ xs.toList,(f x).run P w = .ok (h x) w):(xs.mapM f).run P w = .ok (xs.map h) w := by
 rw [Array.mapM_eq_mapM_toList,Sem.run_map,mapM_run f h xs.toList hx]
 simp only [Result.andThen_ok]
 congr 1
 exact Array.ext' (by simp)
def layOf (P:Program) (t:TypeId):Option (List Value × List (Nat × Nat)) :=
 match P.info? t with
 | some i=>match i.zero with
  | some z=>match P.underlying t with
   | some (.struct fs)=>if fs.all fun f=>(P.info? f.type).isSome then some (z.cells.toList,fs.toList.map fun f=>(f.offset,P.cellsOf f.type)) else none
   | _=>none
  | none=>none
 | none=>none
theorem zeros_rep {w:World} {F:Nat → Prop}:∀ (zs:List Value),LRep w F (zs.map .v) zs (fun _=>0)
 | []=>.nil _ (fun _=>rfl)
 | z :: zs=>.cons _ _ _ _ _ _ _ (.v _ _ (fun _=>rfl)) (zeros_rep zs) (fun _=>rfl)
theorem good_build {o:Oper} {t:TypeId} {ps:Array (Nat × Operand)} {zs:List Value} {pl:List (Nat × Nat)} {ts:List (Nat × T)} {cs:List T} (ho:o.op = .build t ps) (hp:partsP X g ps.toList) (hts:partsA X g ps.toList = some ts) (hl:layOf X.P t = some (zs,pl)) (hz:zs.all Value.oneCell' = true)
  (hf:fillT (pl[·]?) (zs.map .v) ts = some cs):Good X g o (.t (.ag cs)) :=
 Good.of_run fun tmps ds w c hG hfr=>by
  obtain ⟨k1,k2⟩ := parts_rep (ds := ds) hG hfr ps.toList ts hp hts
  unfold layOf at hl
  split at hl
  ·rename_i i hi
   split at hl
   ·rename_i z hz0
    have hzero:(zeroValue t).run X.P w = .ok z w := by simp [zeroValue,typeInfo,hi,hz0]
    split at hl
    ·rename_i fs hu
     split at hl
     ·rename_i hall
      cases hl
      obtain ⟨arr,q1,q2,q3⟩ := fill_rep (place := fun i=>(fs.toList.map fun f=>(f.offset,X.P.cellsOf f.type))[i]?) ts _ _ cs z.cells (zeros_rep z.cells.toList) (List.all_eq_true.1 hz) k1 k2 hf
      refine ⟨.agg arr,?_,.ag _ _ _ q2 q3 (fun _=>rfl)⟩
      unfold execOp; simp only [ho]
      refine run_val ?_
      have hm:(fs.mapM fun f=>do pure (f.offset,← sizeOf f.type):Sem (Array (Nat × Nat))).run X.P w = .ok (fs.map fun f=>(f.offset,X.P.cellsOf f.type)) w := by
       refine amapM_run _ _ fs (fun f hf=>?_)
       have:(X.P.info? f.type).isSome = true := by
        have := Array.all_eq_true'.1 hall f (by simpa using hf); simpa using this
       obtain ⟨j,hj⟩ := Option.isSome_iff_exists.1 this
       simp [sizeOf,typeInfo,hj,Program.cellsOf]
      simp only [Instr.build,Sem.run_bind,hzero,Result.andThen_ok,run_underlying hu,hm]
      have e1:(fun (i:Nat)=>(fs.map fun f=>(f.offset,X.P.cellsOf f.type))[i]?) = (fun (i:Nat)=>(fs.toList.map fun f=>(f.offset,X.P.cellsOf f.type))[i]?) := by
       funext i; rw [← Array.toList_map,Array.getElem?_toList]
      have e2:(ps.map fun (i,x)=>(i,Act.eval ⟨tmps,ds⟩ x)).toList = ps.toList.map fun (i,x)=>(i,Act.eval ⟨tmps,ds⟩ x) := by simp
      rw [e1,e2,q1]
      rfl
     ·cases hl
    ·cases hl
   ·cases hl
  ·cases hl
theorem Good.of_new {o:Oper} {a:A}
  (h:∀ tmps ds w c,X.G w → Frm X.N w g tmps c → ∃ v ob cd,(execOp (Act.eval ⟨tmps,ds⟩) o).run X.P w = .ok (.value v) (w.alloc ob) ∧ ARep (w.alloc ob) (fun b=>(∀ j,c j b = 0) ∧ cd b = 0) g tmps a v cd ∧ (∀ b,cd b = if b = w.heap.size then 1 else 0)):Good X g o a := by
 intro tmps ds w c hG hf next Q hn
 obtain ⟨v,ob,cd,hv,hr,hc⟩ := h tmps ds w c hG hf
 exact wp_of_run hv (hn v _ ((Below.refl _ _).alloc (Nat.le_refl _) _) ⟨cd,hr,fun b hb=>by rw [hc] at hb; split at hb <;> omega,fun b=>by rw [hc]; split <;> omega⟩)
theorem LRep.new {N:Nat} {w:World} {tmps:Array Value} {c:Nat → Cnt} (hf:Frm N w g tmps c) {cd:Cnt} (hcd:∀ b,cd b = if b = w.heap.size then 1 else 0) {cs:List T} {xs:List Value} {ob:Obj} (h:LRep w (fun b => ∀ j,c j b = 0) cs xs (fun _=>0)) :
  LRep (w.alloc ob) (fun b=>(∀ j,c j b = 0) ∧ cd b = 0) cs xs (fun _=>0) := by
 have := hf.lt
 exact h.mono (fun b hb hfb=>⟨⟨hfb,by rw [hcd,if_neg (by omega)]⟩,heap_alloc_old w ob hb⟩) (by simp) (fun b hb=>absurd hb (by simp))
def zeroT (z:Value):T := match z with
 | .agg cs=>.ag (cs.toList.map .v)
 | v=>.v v
theorem zeroT_cells (z:Value):(zeroT z).cells = z.cells.toList.map .v := by
 cases z <;> simp [zeroT,T.cells,Value.cells]
theorem flatMap_replicate {α β:Type} (f:α → List β) (x:α):∀ n,(List.replicate n x).flatMap f = (List.replicate n (f x)).flatten
 | 0=>rfl
 | n + 1=>by simp [List.replicate_succ,flatMap_replicate f x n]
theorem made_take (z:Array Value) (l c:Nat) (hl:l ≤ c):(madeCells z (c * z.size)).toList.take (l * z.size) = (List.replicate l z.toList).flatten := by
 have hlen:((List.replicate l z.toList).flatten).length = l * z.size := by simp [List.length_flatten,List.map_replicate]
 apply List.ext_getElem?
 intro n
 rw [List.getElem?_take]
 by_cases h:n < l * z.size
 ·rw [if_pos h]
  have h2:n < c * z.size := Nat.lt_of_lt_of_le h (Nat.mul_le_mul_right _ hl)
  have e1:(madeCells z (c * z.size)).toList[n]? = some z[n % z.size]! := by
   simp [madeCells,h2]
  rw [e1]
  clear e1 h2 hlen hl
  induction l generalizing n with
  | zero=>simp at h
  | succ l ih =>
   rw [List.replicate_succ,List.flatten_cons,List.getElem?_append]
   split
   ·rename_i h3
    rw [Array.length_toList] at h3
    rw [Nat.mod_eq_of_lt h3,Array.getElem?_toList,getElem!_pos z n h3,getElem?_pos z n h3]
   ·rename_i h3
    rw [Array.length_toList] at h3 ⊢
    have h4:n - z.size < l * z.size := by rw [Nat.succ_mul] at h; omega
    rw [← ih (n - z.size) h4,Nat.mod_eq_sub_mod (by omega)]
 ·rw [if_neg h,List.getElem?_eq_none (by omega)]
theorem good_makeSlice {o:Oper} {t e:TypeId} {l cp:Operand} {sz by_:Nat} {z:Value} {kl kc:IntKind} {n m:Int} (ho:o.op = .makeSlice t l cp) (hl:rdp X g l) (hc:rdp X g cp) (el:rd X g l = .t (.v (.int kl n))) (ec:rd X g cp = .t (.v (.int kc m)))
  (ht:sliOf X.P t = some (e,sz,by_,z)) (hz:z.cells.size = sz) (hsz:0 < sz) (hone:z.cells.toList.all Value.oneCell' = true) (h0:0 ≤ n) (h1:n ≤ m) (hb:(by_:Int) * m ≤ 281474976710656) (h63:m ≤ 9223372036854775807) :
  Good X g o (.t (.own e sz (List.replicate n.toNat (zeroT z)))) :=
 Good.of_new fun tmps ds w c hG hf=>by
  obtain ⟨hu,i,hi,his,hib,hiz⟩ := sliOf_spec ht
  subst his; subst hib
  have hr := run_make (P := X.P) w t e i z hu hi hiz kl kc n m h0 h1 hb h63
  rw [← hz] at hr
  refine ⟨.slice (some ⟨w.heap.size,0,none⟩) n.toNat m.toNat,.cells (madeCells z.cells (m.toNat * z.cells.size)) e,fun b=>if b = w.heap.size then 1 else 0,?_,?_,fun b=>rfl⟩
  ·unfold execOp; simp only [ho,rd_v (ds := ds) hG hf hl el,rd_v (ds := ds) hG hf hc ec]
   exact run_val hr
  ·refine .own e i.size _ w.heap.size n.toNat m.toNat _ (fun _=>0) _ (heap_alloc_new w _) (by simp) (by omega) (by unfold maxLen; omega) (by rw [size_madeCells,hz]) (fun t ht=>?_) ?_ ?_ (fun b=>by simp)
   ·rw [(List.mem_replicate.1 ht).2,zeroT_cells,List.length_map,Array.length_toList,hz]
   ·rw [flatMap_replicate,zeroT_cells,← hz,made_take _ _ _ (by omega)]
    clear hr
    induction n.toNat with
    | zero=>exact .nil _ (fun _=>rfl)
    | succ k ih=>rw [List.replicate_succ,List.replicate_succ,List.flatten_cons,List.flatten_cons]; exact (zeros_rep _).append ih (fun _=>rfl)
   ·intro y hy
    replace hy := List.mem_of_mem_take hy
    simp only [madeCells,Array.toList_map,List.mem_map] at hy
    obtain ⟨k,_,rfl⟩ := hy
    have hlt:k % z.cells.size < z.cells.size := Nat.mod_lt _ (by omega)
    rw [getElem!_pos z.cells _ hlt]
    exact List.all_eq_true.1 hone _ (by simp)
def zerOf (P:Program) (t:TypeId):Option Value :=
 match P.info? t with
 | some i=>i.zero
 | none=>none
theorem box_new {o:Oper} {e:TypeId} {cs:List T} (h:∀ tmps ds w c,X.G w → Frm X.N w g tmps c → ∃ x:Value,(execOp (Act.eval ⟨tmps,ds⟩) o).run X.P w = .ok (.value (.pointer (some ⟨w.heap.size,0,none⟩))) (w.alloc (.cells x.cells e)) ∧ LRep w (fun b => ∀ j,c j b = 0) cs x.cells.toList (fun _=>0) ∧ ∀ y ∈ x.cells.toList,y.oneCell' = true) :
  Good X g o (.t (.box e cs)) :=
 Good.of_new fun tmps ds w c hG hf=>by
  obtain ⟨x,h1,h2,h3⟩ := h tmps ds w c hG hf
  exact ⟨_,_,fun b=>if b = w.heap.size then 1 else 0,h1,.box e cs w.heap.size x.cells (fun _=>0) _ (heap_alloc_new w _) (LRep.new hf (fun _=>rfl) h2) h3 (fun b=>by simp),fun _=>rfl⟩
theorem good_alloc {o:Oper} {e:TypeId} {z:Value} (ho:o.op = .alloc e) (hz:zerOf X.P e = some z) (hone:z.cells.toList.all Value.oneCell' = true):Good X g o (.t (.box e (z.cells.toList.map .v))) :=
 box_new fun tmps ds w c hG hf=>by
  unfold zerOf at hz
  split at hz
  ·rename_i i hi
   refine ⟨z,?_,zeros_rep _,List.all_eq_true.1 hone⟩
   unfold execOp; simp only [ho]
   refine run_val ?_
   simp [Instr.alloc,zeroValue,typeInfo,hi,hz,newVar,newRow]
  ·cases hz
theorem good_box {o:Oper} {e:TypeId} {x:Operand} {t:T} (ho:o.op = .box e x) (hx:rdp X g x) (ex:rd X g x = .t t) (hs:t.solid = true):Good X g o (.t (.box e t.cells)) :=
 box_new fun tmps ds w c hG hf=>by
  have hr := rd_rep (ds := ds) hG hf x hx
  rw [ex] at hr
  obtain ⟨h1,h2⟩ := TRep.solid hr hs
  refine ⟨Act.eval ⟨tmps,ds⟩ x,?_,h1,h2⟩
  unfold execOp; simp only [ho]
  refine run_val ?_
  simp [Instr.box,newVar,newRow]
theorem fillT_row (sz:Nat):∀ (ts:List T) (k:Nat) (pre suf:List T),pre.length = k * sz → suf.length = ts.length * sz → (∀ t ∈ ts,t.cells.length = sz) →
  fillT (fun i=>some (i * sz,sz)) (pre ++ suf) ((List.range' k ts.length).zip ts) = some (pre ++ ts.flatMap T.cells)
 | [],k,pre,suf,_,h2,_=>by
  simp at h2
  simp [fillT,h2]
 | t :: ts,k,pre,suf,h1,h2,hz=>by
  have h0 := hz t (by simp)
  simp only [List.length_cons,Nat.succ_mul] at h2
  simp only [List.length_cons,List.range'_succ,List.zip_cons_cons,fillT]
  rw [if_pos (by rw [List.length_append,h0]; omega)]
  have e:placeT (pre ++ suf) (k * sz) t.cells = (pre ++ t.cells) ++ suf.drop sz := by
   unfold placeT
   rw [← h1,List.take_left,h0,List.drop_append,List.drop_eq_nil_of_le (by omega)]
   simp
  rw [e,fillT_row sz ts (k + 1) (pre ++ t.cells) (suf.drop sz) (by rw [List.length_append,h1,h0,Nat.succ_mul]) (by rw [List.length_drop]; omega) (fun t ht=>hz t (by simp [ht]))]
  simp
def inOrder (k:Nat):List (Nat × T) → Bool
 | []=>true
 | (i,_) :: rest=>i == k && inOrder (k + 1) rest
theorem inOrder_zip:∀ (ps:List (Nat × T)) (k:Nat),inOrder k ps = true → ps = (List.range' k ps.length).zip (ps.map (·.2))
 | [],_,_=>rfl
 | (i,t) :: ps,k,h=>by
  simp only [inOrder,Bool.and_eq_true,beq_iff_eq] at h
  obtain ⟨rfl,h⟩ := h
  simp only [List.length_cons,List.range'_succ,List.map_cons,List.zip_cons_cons]
  rw [← inOrder_zip ps (i + 1) h]
theorem good_buildSlice {o:Oper} {t e:TypeId} {n:Nat} {ps:Array (Nat × Operand)} {sz by_:Nat} {z:Value} {ts:List (Nat × T)} (ho:o.op = .buildSlice t n ps) (hp:partsP X g ps.toList) (hts:partsA X g ps.toList = some ts) (ht:sliOf X.P t = some (e,sz,by_,z))
  (hn:ts.length = n) (hord:inOrder 0 ts = true) (hsz:0 < sz) (hz:z.cells.size = sz) (hone:z.cells.toList.all Value.oneCell' = true) (hcs:∀ p ∈ ts,p.2.cells.length = sz) (hbig:n * sz ≤ 16777216) (hby:n ≤ maxLen) :
  Good X g o (.t (.own e sz (ts.map (·.2)))) :=
 Good.of_new fun tmps ds w c hG hf=>by
  obtain ⟨hu,i,hi,his,hib,hiz⟩ := sliOf_spec ht
  subst his
  obtain ⟨k1,k2⟩ := parts_rep (ds := ds) hG hf ps.toList ts hp hts
  have hz0:LRep w (fun b => ∀ j,c j b = 0) ((List.replicate n (z.cells.toList.map T.v)).flatten) (madeCells z.cells (n * i.size)).toList (fun _=>0) := by
   have e1:(madeCells z.cells (n * i.size)).toList = (List.replicate n z.cells.toList).flatten := by
    have := made_take z.cells n n (Nat.le_refl _)
    rw [hz,List.take_of_length_le (by rw [Array.length_toList,size_madeCells]; exact Nat.le_refl _)] at this
    exact this
   rw [e1]
   have aux:∀ k,LRep w (fun b => ∀ j,c j b = 0) ((List.replicate k (z.cells.toList.map T.v)).flatten) ((List.replicate k z.cells.toList).flatten) (fun _=>0) := by
    intro k
    induction k with
    | zero=>exact .nil _ (fun _=>rfl)
    | succ k ih=>rw [List.replicate_succ,List.replicate_succ,List.flatten_cons,List.flatten_cons]; exact (zeros_rep _).append ih (fun _=>rfl)
   exact aux n
  have hz1:∀ y ∈ (madeCells z.cells (n * i.size)).toList,y.oneCell' = true := by
   intro y hy
   simp only [madeCells,Array.toList_map,List.mem_map] at hy
   obtain ⟨k,_,rfl⟩ := hy
   have hlt:k % z.cells.size < z.cells.size := Nat.mod_lt _ (by omega)
   rw [getElem!_pos z.cells _ hlt]
   exact List.all_eq_true.1 hone _ (by simp)
  have hfill := fillT_row i.size (ts.map (·.2)) 0 [] ((List.replicate n (z.cells.toList.map T.v)).flatten) (by simp) (by
   rw [List.length_flatten,List.map_replicate,List.length_map,List.length_map,Array.length_toList,hz,hn]; simp) (by
   intro t ht; obtain ⟨p,hp,rfl⟩ := List.mem_map.1 ht; exact hcs p hp)
  rw [List.length_map,List.nil_append,List.nil_append,← inOrder_zip ts 0 hord] at hfill
  obtain ⟨arr,q1,q2,q3⟩ := fill_rep (place := fun j=>some (j * i.size,i.size)) ts _ _ _ _ hz0 hz1 k1 k2 hfill
  have hsize:arr.size = n * i.size := by
   have aux:∀ ts:List (Nat × T),(∀ p ∈ ts,p.2.cells.length = i.size) → ((ts.map (·.2)).flatMap T.cells).length = ts.length * i.size := by
    intro ts
    induction ts with
    | nil=>intro _; simp
    | cons p ps ih=>intro hcs; rw [List.map_cons,List.flatMap_cons,List.length_append,ih (fun q hq=>hcs q (by simp [hq])),hcs p (by simp),List.length_cons,Nat.succ_mul]; omega
   have h1:arr.toList.length = ((ts.map (·.2)).flatMap T.cells).length := q2.length.symm
   rw [aux ts hcs,hn] at h1
   simpa using h1
  refine ⟨.slice (some ⟨w.heap.size,0,none⟩) n n,.cells arr e,fun b=>if b = w.heap.size then 1 else 0,?_,?_,fun _=>rfl⟩
  ·unfold execOp; simp only [ho]
   refine run_val ?_
   have e2:(ps.map fun (i,x)=>(i,Act.eval ⟨tmps,ds⟩ x)).toList = ps.toList.map fun (i,x)=>(i,Act.eval ⟨tmps,ds⟩ x) := by simp
   have hbig':¬ (n * i.size > 2 ^ 24) := by omega
   have e3:((ps.map fun (i,x)=>(i,Act.eval ⟨tmps,ds⟩ x)).toList:List (Nat × Value)) = (ps.toList.map fun x=>(x.1,Act.eval ⟨tmps,ds⟩ x.2)) := e2
   have q1':Instr.fill (fun j=>some (j * i.size,i.size)) (madeCells z.cells (n * i.size)) (ps.toList.map fun x=>(x.1,Act.eval ⟨tmps,ds⟩ x.2)) = some arr := q1
   by_cases h0:n * i.size = 0
   ·have hm:(Array.range (n * i.size)).map ((#[]:Array Value)[· % (#[]:Array Value).size]!) = madeCells z.cells (n * i.size) := by rw [h0]; simp [madeCells]
    simp only [Instr.buildSlice,Sem.run_bind,run_underlying hu,Result.andThen_ok,sizeOf,typeInfo,run_program,hi,Sem.run_pure,if_neg hbig',if_pos h0,hm,e3,q1',newRow,run_newObj]
    rfl
   ·have hm:(Array.range (n * i.size)).map (z.cells[· % z.cells.size]!) = madeCells z.cells (n * i.size) := rfl
    simp only [Instr.buildSlice,Sem.run_bind,run_underlying hu,Result.andThen_ok,sizeOf,typeInfo,run_program,hi,Sem.run_pure,if_neg hbig',if_neg h0,zeroValue,hiz,hm,e3,q1',newRow,run_newObj]
    rfl
  ·refine .own e i.size _ w.heap.size n n arr (fun _=>0) _ (heap_alloc_new w _) (by rw [List.length_map,hn]) (Nat.le_refl _) hby hsize (by intro t ht; obtain ⟨p,hp,rfl⟩ := List.mem_map.1 ht; exact hcs p hp) ?_ (fun y hy=>q3 y (List.mem_of_mem_take hy)) (fun b=>by simp)
   rw [List.take_of_length_le (by rw [Array.length_toList,hsize]; exact Nat.le_refl _)]
   exact LRep.new hf (fun _=>rfl) q2
end Go.Eng

/- Operations that turn what is owned: a part taken or turned in place; one slot's own handed to another. -/
namespace Go.Eng
open Go.RowKit (Below)
set_option linter.unusedVariables false
set_option linter.unusedSimpArgs false
variable {X:Ctx} {g:Nat → A}
def putT (t0:T) (p:Option Nat) (t':T):T :=
 match p,t0 with
 | none,_=>t'
 | some k,.box e cs=>.box e (cs.set k t')
 | some k,.own e sz es=>.own e sz (es.set k t')
 | some _,t=>t
theorem LRep.same {w w':World} {F F':Nat → Prop} {ts:List T} {xs:List Value} {c:Cnt} (h:LRep w F ts xs c) (hF:∀ b,b < w.heap.size → F b → F' b ∧ w'.heap[b]? = w.heap[b]?) (hS:w.heap.size ≤ w'.heap.size) (hK:∀ b,0 < c b → w'.heap[b]? = w.heap[b]?):LRep w' F' ts xs c := h.mono hF hS hK
theorem LRep.turn {w:World} {F:Nat → Prop} {ts:List T} {xs:List Value} {c:Cnt} (h:LRep w F ts xs c) (k:Nat) (t:T) (ht:ts[k]? = some t) :
  ∃ x d,xs[k]? = some x ∧ TRep w F t x d ∧ (∀ b,d b ≤ c b) ∧ ∀ (w':World) (F':Nat → Prop) (t':T) (d':Cnt),(∀ b,b < w.heap.size → F b → F' b ∧ w'.heap[b]? = w.heap[b]?) → w.heap.size ≤ w'.heap.size →
   (∀ b,0 < c b → d b < c b → w'.heap[b]? = w.heap[b]?) → TRep w' F' t' x d' → LRep w' F' (ts.set k t') xs (fun b=>c b - d b + d' b) := by
 induction ts generalizing xs c k with
 | nil=>simp at ht
 | cons t0 ts ih =>
  cases h with
  | cons _ _ x xs c1 c2 _ h1 h2 hc =>
   cases k with
   | zero =>
    simp at ht; subst ht
    exact ⟨x,c1,by simp,h1,fun b=>by rw [hc]; omega,fun w' F' t' d' hF hS hk h'=>.cons _ _ _ _ d' c2 _ h' (h2.mono hF hS (fun b hb=>hk b (by rw [hc]; omega) (by rw [hc]; omega))) (fun b=>by rw [hc]; omega)⟩
   | succ k =>
    obtain ⟨y,d,hy,hd,hle,hset⟩ := ih h2 k (by simpa using ht)
    refine ⟨y,d,by simpa using hy,hd,fun b=>by rw [hc]; have := hle b; omega,fun w' F' t' d' hF hS hk h'=>?_⟩
    exact .cons _ _ _ _ c1 _ _ (h1.mono hF hS (fun b hb=>hk b (by rw [hc]; omega) (by rw [hc]; have := hle b; omega))) (hset w' F' t' d' hF hS (fun b hb hdb=>hk b (by rw [hc]; omega) (by rw [hc]; omega)) h') (fun b=>by rw [hc]; have := hle b; omega)
theorem AtV.put {w:World} {F:Nat → Prop} {t0 t:T} {x0 x:Value} {p:Option Nat} {c0:Cnt} (h:AtV w t0 x0 p t x) (hr:TRep w F t0 x0 c0) (h1:∀ b,c0 b ≤ 1) :
  ∃ c1,TRep w F t x c1 ∧ (∀ b,c1 b ≤ c0 b) ∧ (∀ (w':World) (F':Nat → Prop) (t':T) (d':Cnt),(∀ b,b < w.heap.size → F b → F' b ∧ w'.heap[b]? = w.heap[b]?) → w.heap.size ≤ w'.heap.size →
   (∀ b,0 < c0 b → c1 b = 0 → w'.heap[b]? = w.heap[b]?) → TRep w' F' t' x d' → t'.cells = [t'] → TRep w' F' (putT t0 p t') x0 (fun b=>c0 b - c1 b + d' b)) ∧
   (p ≠ none → ∀ b,(x0 = .pointer (some ⟨b,0,none⟩) ∨ ∃ n cap,x0 = .slice (some ⟨b,0,none⟩) n cap) → c1 b = 0 ∧ 0 < c0 b) := by
 cases p with
 | none =>
  obtain ⟨rfl,rfl⟩ := h
  exact ⟨c0,hr,fun _=>Nat.le_refl _,fun w' F' t' d' _ _ _ h' _=>h'.count (fun b=>by omega),fun h=>absurd rfl h⟩
 | some k =>
  rcases h with ⟨e,cs,b,cur,rfl,rfl,hg,q1,q2⟩ | ⟨e,es,b,n,cap,cur,rfl,rfl,hg,q1,q2,q3,q4,q5⟩
  ·cases hr with
   | box _ _ _ cur' cc _ hg' hl hone hc =>
    rw [hg] at hg'; cases hg'
    obtain ⟨y,d,hy,hd,hle,hset⟩ := hl.turn k t q1
    rw [Array.getElem?_toList,q2] at hy; cases hy
    have hcc:cc b = 0 := by have := h1 b; rw [hc] at this; simp at this; omega
    refine ⟨d,hd,fun b'=>by rw [hc]; have := hle b'; omega,fun w' F' t' d' hF hS hK h' hcell=>?_,fun _ b' hb'=>?_⟩
    rotate_left
    ·rcases hb' with e | ⟨_,_,e⟩
     ·cases e; exact ⟨by have := hle b; omega,by rw [hc]; simp; omega⟩
     ·cases e
    refine .box e _ b cur (fun b'=>cc b' - d b' + d' b') _ ?_ (hset w' F' t' d' hF hS (fun b' hb hdb=>hK b' (by rw [hc]; omega) (by have := h1 b'; rw [hc] at this; omega)) h') hone (fun b'=>by rw [hc]; have := hle b'; omega)
    rw [hK b (by rw [hc]; simp; omega) (by have := hle b; omega)]; exact hg
  ·cases hr with
   | own _ _ _ _ _ _ cur' cc _ hg' hn hcap hm hcur hz hl hone hc =>
    rw [hg] at hg'; cases hg'
    rw [flatMap_cells_one es q3] at hl
    obtain ⟨y,d,hy,hd,hle,hset⟩ := hl.turn k t q1
    rw [List.getElem?_take,if_pos (by omega),Array.getElem?_toList,q5] at hy; cases hy
    have hcc:cc b = 0 := by have := h1 b; rw [hc] at this; simp at this; omega
    refine ⟨d,hd,fun b'=>by rw [hc]; have := hle b'; omega,fun w' F' t' d' hF hS hK h' hcell=>?_,fun _ b' hb'=>?_⟩
    rotate_left
    ·rcases hb' with e | ⟨_,_,e⟩
     ·cases e
     ·cases e; exact ⟨by have := hle b; omega,by rw [hc]; simp; omega⟩
    have hcells:∀ t ∈ es.set k t',t.cells = [t] := fun t ht=>by
     rcases List.mem_or_eq_of_mem_set ht with ht | ht
     ·exact q3 t ht
     ·rw [ht]; exact hcell
    refine .own e 1 _ b n cap cur (fun b'=>cc b' - d b' + d' b') _ ?_ (by rw [List.length_set]; exact hn) hcap hm hcur (fun t ht=>by rw [hcells t ht]; rfl) ?_ hone (fun b'=>by rw [hc]; have := hle b'; omega)
    ·rw [hK b (by rw [hc]; simp; omega) (by have := hle b; omega)]; exact hg
    ·rw [flatMap_cells_one _ hcells]
     exact hset w' F' t' d' hF hS (fun b' hb hdb=>hK b' (by rw [hc]; omega) (by have := h1 b'; rw [hc] at this; omega)) h'
def killA (r:Nat) (p:Option Nat):A → A
 | .ref r' q off len=>if r' = r ∧ (p = none ∨ q = p) then .t .u else .ref r' q off len
 | .eptr r' q i j=>if r' = r ∧ (p = none ∨ q = p) then .t .u else .eptr r' q i j
 | .pref r' q off=>if r' = r ∧ (p = none ∨ q = p) then .t .u else .pref r' q off
 | .opt c a=>.opt c (killA r p a)
 | a=>a
def turnedK (kf:A → A) (g:Nat → A) (r:Nat) (p:Option Nat) (t0 t':T):Nat → A := upd (fun i=>kf (g i)) r (.t (putT t0 p t'))
abbrev turned (g:Nat → A) (r:Nat) (p:Option Nat) (t0 t':T):Nat → A := turnedK (killA r p) g r p t0 t'
theorem killA_ghost {r:Nat} {p:Option Nat} {a:A} (h:killA r p a = .ghost):a = .ghost := by
 cases a with
 | ghost=>rfl
 | t | sptr | opt=>cases h
 | ref | eptr | pref=>unfold killA at h; split at h <;> cases h
theorem killA_owner (r:Nat) (p:Option Nat) (a:A):(killA r p a).owner = a.owner := by
 cases a <;> simp only [killA] <;> first | rfl | (split <;> rfl)
theorem AtV.apart {w w':World} {F:Nat → Prop} {t0 t2 t':T} {x0 x2:Value} {k:Nat} {q:Option Nat} {c0:Cnt} (h:AtV w t0 x0 q t2 x2) (hr:TRep w F t0 x0 c0) (hq:q ≠ some k) (hb:∀ e cs b,t0 = .box e cs → x0 = .pointer (some ⟨b,0,none⟩) → w'.heap[b]? = w.heap[b]?)
  (hb2:∀ e sz es b n cap,t0 = .own e sz es → x0 = .slice (some ⟨b,0,none⟩) n cap → w'.heap[b]? = w.heap[b]?) (hcell:t'.cells = [t']) :
  ∃ t3,AtV w' (putT t0 (some k) t') x0 q t3 x2 ∧ (q ≠ none → t3 = t2) ∧ (q = none → t3 = putT t0 (some k) t') := by
 cases q with
 | none =>
  obtain ⟨rfl,rfl⟩ := h
  exact ⟨_,⟨rfl,rfl⟩,fun h=>absurd rfl h,fun _=>rfl⟩
 | some j =>
  have hjk:j ≠ k := fun e=>hq (by rw [e])
  rcases h with ⟨e,cs,b,cur,rfl,rfl,hg,q1,q2⟩ | ⟨e,es,b,n,cap,cur,rfl,rfl,hg,q1,q2,q3,q4,q5⟩
  ·exact ⟨t2,.inl ⟨e,cs.set k t',b,cur,rfl,rfl,by rw [hb e cs b rfl rfl]; exact hg,by rw [List.getElem?_set_ne (fun e=>hjk e.symm)]; exact q1,q2⟩,fun _=>rfl,fun h=>by cases h⟩
  ·refine ⟨t2,.inr ⟨e,es.set k t',b,n,cap,cur,rfl,rfl,by rw [hb2 e 1 es b n cap rfl rfl]; exact hg,by rw [List.getElem?_set_ne (fun e=>hjk e.symm)]; exact q1,q2,fun t ht=>?_,q4,q5⟩,fun _=>rfl,fun h=>by cases h⟩
   rcases List.mem_or_eq_of_mem_set ht with ht | ht
   ·exact q3 t ht
   ·rw [ht]; exact hcell
theorem ARep.apart {w w':World} {F F' Fr:Nat → Prop} {g g':Nat → A} {tmps tmps':Array Value} {a:A} {x:Value} {c c0:Cnt} {r:Nat} {p:Option Nat} {t0 t':T} (h:ARep w F g tmps a x c)
  (hF:∀ b,b < w.heap.size → F b → F' b ∧ w'.heap[b]? = w.heap[b]?) (hS:w.heap.size ≤ w'.heap.size) (hK:∀ b,0 < c b → w'.heap[b]? = w.heap[b]?)
  (hr:∀ r' t,r' ≠ r → g r' = .t t → A.owner (.t t) = true → g' r' = .t t ∧ tmps'.getD r' undef = tmps.getD r' undef ∧ ∃ F0 c0,TRep w F0 t (tmps.getD r' undef) c0 ∧ ∀ b,0 < c0 b → w'.heap[b]? = w.heap[b]?)
  (h0:g r = .t t0) (h1:g' r = .t (putT t0 p t')) (h2:tmps'.getD r undef = tmps.getD r undef) (h3:TRep w Fr t0 (tmps.getD r undef) c0)
  (h4:p ≠ none → (∀ e cs b,t0 = .box e cs → tmps.getD r undef = .pointer (some ⟨b,0,none⟩) → w'.heap[b]? = w.heap[b]?) ∧ (∀ e sz es b n cap,t0 = .own e sz es → tmps.getD r undef = .slice (some ⟨b,0,none⟩) n cap → w'.heap[b]? = w.heap[b]?)) (hcell:t'.cells = [t']) :
  ARep w' F' g' tmps' (killA r p a) x c := by
 have other:∀ r' q,¬ (r' = r ∧ (p = none ∨ q = p)) → ∀ t1 t x',g r' = .t t1 → AtV w t1 (tmps.getD r' undef) q t x' → A.owner (.t t) = true →
   ∃ t3 t4,g' r' = .t t3 ∧ AtV w' t3 (tmps'.getD r' undef) q t4 x' ∧ (t4 = t ∨ (∃ k,p = some k ∧ t4 = putT t (some k) t')) := by
  intro r' q hn t1 t x' hg ha ho
  by_cases hrr:r' = r
  ·subst hrr
   rw [h0] at hg; cases hg
   cases p with
   | none=>exact absurd ⟨rfl,.inl rfl⟩ hn
   | some k =>
    have hq:q ≠ some k := fun e=>hn ⟨rfl,.inr e⟩
    obtain ⟨t3,k1,k2,k3⟩ := ha.apart (w' := w') h3 hq (h4 (by simp)).1 (h4 (by simp)).2 hcell
    refine ⟨_,t3,h1,by rw [h2]; exact k1,?_⟩
    cases q with
    | none=>obtain ⟨rfl,_⟩ := ha; exact .inr ⟨k,rfl,k3 rfl⟩
    | some j=>exact .inl (k2 (by simp))
  ·obtain ⟨k1,k2,F0,c1,k3,k4⟩ := hr r' t1 hrr hg (ha.owner ho)
   exact ⟨t1,t,k1,by rw [k2]; exact ha.mono k3 k4,.inl rfl⟩
 induction a with
 | opt q a ih=>exact ⟨h.1,fun hq=>ih (h.2.1 hq),h.2.2⟩
 | t t=>exact TRep.mono hF hS h hK
 | sptr cs =>
  obtain ⟨hc,a,vals,h1,h2,h3,h4,h5,h6,h7⟩ := h
  obtain ⟨f1,f2⟩ := hF _ h4 h3
  refine ⟨hc,a,vals,h1,h2,f1,Nat.lt_of_lt_of_le h4 hS,fun k y hk=>?_,h6.mono hF hS (fun b hb=>absurd hb (by simp)),h7⟩
  rw [cell_eq_of_block (w := w) (by rw [block_add]; exact f2)]
  exact h5 k y hk
 | ghost=>exact fun b hb=>Nat.lt_of_lt_of_le (h b hb) hS
 | ref r' q off len =>
  simp only [killA]
  split
  ·exact .u _ _ h.1
  ·rename_i hn
   obtain ⟨hc,t1,e,sz,es,y0,k1,k2,k3,k4⟩ := h
   obtain ⟨t3,t4,q1,q2,q3⟩ := other r' q hn t1 _ y0 k1 k2 rfl
   rcases q3 with rfl | ⟨k,_,rfl⟩
   ·exact ⟨hc,t3,e,sz,es,y0,q1,q2,k3,k4⟩
   ·exact ⟨hc,t3,e,sz,es.set k t',y0,q1,q2,by rw [List.length_set]; exact k3,k4⟩
 | eptr r' q i j =>
  simp only [killA]
  split
  ·exact .u _ _ h.1
  ·rename_i hn
   obtain ⟨hc,t1,e,sz,es,b,n,cap,k1,k2,k3,k4,k5⟩ := h
   obtain ⟨t3,t4,q1,q2,q3⟩ := other r' q hn t1 _ _ k1 k2 rfl
   rcases q3 with rfl | ⟨k,_,rfl⟩
   ·exact ⟨hc,t3,e,sz,es,b,n,cap,q1,q2,k3,k4,k5⟩
   ·exact ⟨hc,t3,e,sz,es.set k t',b,n,cap,q1,q2,by rw [List.length_set]; exact k3,k4,k5⟩
 | pref r' q off =>
  simp only [killA]
  split
  ·exact .u _ _ h.1
  ·rename_i hn
   obtain ⟨hc,t1,e,cs,b,k1,k2,k3,k4⟩ := h
   obtain ⟨t3,t4,q1,q2,q3⟩ := other r' q hn t1 _ _ k1 k2 rfl
   rcases q3 with rfl | ⟨k,_,rfl⟩
   ·exact ⟨hc,t3,e,cs,b,q1,q2,k3,k4⟩
   ·exact ⟨hc,t3,e,cs.set k t',b,q1,q2,by rw [List.length_set]; exact k3,k4⟩
theorem Frm.turnK {N:Nat} {w w':World} {tmps:Array Value} {c:Nat → Cnt} (h:Frm N w g tmps c) {r d:Nat} {p:Option Nat} {t0 t t':T} {x v:Value} {a:A} (kf:A → A) (hkt:∀ t,kf (.t t) = .t t) (hr:g r = .t t0) (ha:AtV w t0 (tmps.getD r undef) p t x)
  (hd:d < tmps.size) (hdr:d ≠ r) (hno:(g d).owner = false) (hS:w.heap.size ≤ w'.heap.size) (hNw:N ≤ w.heap.size) (hcell:t'.cells = [t'])
  (hkf:∀ (F':Nat → Prop) (g':Nat → A) (tmps':Array Value) (a:A) (x:Value) (ca:Cnt),ARep w (fun b => ∀ j,c j b = 0) g tmps a x ca → (∀ b,b < w.heap.size → (∀ j,c j b = 0) → F' b ∧ w'.heap[b]? = w.heap[b]?) → (∀ b,0 < ca b → w'.heap[b]? = w.heap[b]?) →
   (∀ r' t,r' ≠ r → g r' = .t t → A.owner (.t t) = true → g' r' = .t t ∧ tmps'.getD r' undef = tmps.getD r' undef ∧ ∃ F0 c0,TRep w F0 t (tmps.getD r' undef) c0 ∧ ∀ b,0 < c0 b → w'.heap[b]? = w.heap[b]?) →
   g' r = .t (putT t0 p t') → tmps'.getD r undef = tmps.getD r undef → TRep w (fun b => ∀ j,c j b = 0) t0 (tmps.getD r undef) (c r) →
   (p ≠ none → (∀ e cs b,t0 = .box e cs → tmps.getD r undef = .pointer (some ⟨b,0,none⟩) → w'.heap[b]? = w.heap[b]?) ∧ (∀ e sz es b n cap,t0 = .own e sz es → tmps.getD r undef = .slice (some ⟨b,0,none⟩) n cap → w'.heap[b]? = w.heap[b]?)) →
   ARep w' F' g' tmps' (kf a) x ca) :
  ∃ c1,TRep w (fun b => ∀ j,c j b = 0) t x c1 ∧ (∀ b,c1 b ≤ 1) ∧ (∀ b,c1 b ≤ c r b) ∧ ∀ (d' cd:Cnt),(∀ b,b < w.heap.size → c1 b = 0 → w'.heap[b]? = w.heap[b]?) →
   (∀ b,d' b + cd b ≤ 1) → (∀ b,0 < d' b + cd b → 0 < c1 b ∨ w.heap.size ≤ b) →
   (∀ F',(∀ b,(∀ j,c j b = 0) → b < w.heap.size → F' b) → TRep w' F' t' x d') →
   (∀ F' g' tmps',(∀ b,(∀ j,c j b = 0) → b < w.heap.size → F' b) → g' = upd (turnedK kf g r p t0 t') d a → tmps' = tmps.setIfInBounds d v → ARep w' F' g' tmps' a v cd) →
   Frm N w' (upd (turnedK kf g r p t0 t') d a) (tmps.setIfInBounds d v) (upd (upd c r (fun b=>c r b - c1 b + d' b)) d cd) := by
 have hrep := h.rep r
 rw [hr] at hrep
 obtain ⟨c1,k1,k2,k3,k4⟩ := ha.put hrep (h.one r)
 refine ⟨c1,k1,fun b=>Nat.le_trans (k2 b) (h.one r b),k2,fun d' cd hblk h1 hfr ht' ha'=>?_⟩
 have hcv:∀ i b,upd (upd c r (fun b=>c r b - c1 b + d' b)) d cd i b = if i = d then cd b else if i = r then c r b - c1 b + d' b else c i b := by
  intro i b; unfold upd; split
  ·rfl
  ·split <;> rfl
 have hrd:r ≠ d := fun e=>hdr e.symm
 have hzd:∀ b,b < w.heap.size → (∀ j,c j b = 0) → d' b = 0 ∧ cd b = 0 := fun b hb hz=>by
  have := k2 b; have := hz r
  by_cases hpos:0 < d' b + cd b
  ·rcases hfr b hpos with e | e <;> omega
  ·omega
 have hF:∀ b,b < w.heap.size → (∀ j,c j b = 0) → (∀ j,upd (upd c r (fun b=>c r b - c1 b + d' b)) d cd j b = 0) ∧ w'.heap[b]? = w.heap[b]? := fun b hb hz=>by
  refine ⟨fun j=>?_,hblk b hb (by have := k2 b; have := hz r; omega)⟩
  rw [hcv]
  have := hzd b hb hz
  split
  ·exact this.2
  ·split
   ·have := hz r; omega
   ·exact hz j
 have hother:∀ i,i ≠ r → ∀ b,0 < c i b → c1 b = 0 := fun i hi b hb=>by
  have := k2 b
  rcases Nat.eq_zero_or_pos (c1 b) with e | e
  ·exact e
  ·exact absurd (h.uniq i r b hb (by omega)) hi
 have hroot:∀ r' t,r' ≠ r → g r' = .t t → A.owner (.t t) = true → upd (turnedK kf g r p t0 t') d a r' = .t t ∧ (tmps.setIfInBounds d v).getD r' undef = tmps.getD r' undef ∧ ∃ F0 c0,TRep w F0 t (tmps.getD r' undef) c0 ∧ ∀ b,0 < c0 b → w'.heap[b]? = w.heap[b]? := by
  intro r' t1 hne hg ho
  have hnd:r' ≠ d := by rintro rfl; rw [hg] at hno; rw [ho] at hno; cases hno
  have := h.rep r'
  rw [hg] at this
  refine ⟨by rw [upd_ne _ _ hnd]; unfold turnedK; rw [upd_ne _ _ hne,hg]; exact hkt _,by rw [getD_set _ _ _ _ hd,if_neg hnd],_,c r',this,fun b hb=>hblk b (h.lt r' b hb) (hother r' hne b hb)⟩
 have hnewr:upd (turnedK kf g r p t0 t') d a r = .t (putT t0 p t') := by rw [upd_ne _ _ hrd]; exact upd_same _ _ _
 have hroot_r:TRep w' (fun b => ∀ j,upd (upd c r (fun b=>c r b - c1 b + d' b)) d cd j b = 0) (putT t0 p t') (tmps.getD r undef) (fun b=>c r b - c1 b + d' b) :=
  k3 w' _ t' d' hF hS (fun b hb hz=>hblk b (h.lt r b hb) hz) (ht' _ (fun b hz hb=>(hF b hb hz).1)) hcell
 have hpar:p ≠ none → (∀ e cs b,t0 = .box e cs → tmps.getD r undef = .pointer (some ⟨b,0,none⟩) → w'.heap[b]? = w.heap[b]?) ∧ (∀ e sz es b n cap,t0 = .own e sz es → tmps.getD r undef = .slice (some ⟨b,0,none⟩) n cap → w'.heap[b]? = w.heap[b]?) := by
  intro hpn
  refine ⟨fun e cs b _ hx=>?_,fun e sz es b n cap _ hx=>?_⟩
  ·obtain ⟨e1,e2⟩ := k4 hpn b (.inl hx)
   exact hblk b (h.lt r b e2) e1
  ·obtain ⟨e1,e2⟩ := k4 hpn b (.inr ⟨n,cap,hx⟩)
   exact hblk b (h.lt r b e2) e1
 have hle:∀ i b,w.heap.size ≤ b → c i b = 0 := fun i b hb=>by
  rcases Nat.eq_zero_or_pos (c i b) with e' | e'
  ·exact e'
  ·have := h.lt i b e'; omega
 refine ⟨fun i=>?_,fun i b=>?_,fun i j b hi hj=>?_,fun i b hb=>?_⟩
 ·by_cases hi:i = d
  ·subst hi
   rw [upd_same,upd_same,getD_set _ _ _ _ hd,if_pos rfl]
   exact ha' _ _ _ (fun b hz hb=>(hF b hb hz).1) rfl rfl
  ·by_cases hir:i = r
   ·subst hir
    rw [hnewr,getD_set _ _ _ _ hd,if_neg hi]
    rw [upd_ne _ _ hi,upd_same]
    exact hroot_r
   ·rw [upd_ne _ _ hi,upd_ne _ _ hi,upd_ne _ _ hir,getD_set _ _ _ _ hd,if_neg hi]
    have e:turnedK kf g r p t0 t' i = kf (g i) := by unfold turnedK; rw [upd_ne _ _ hir]
    rw [e]
    exact hkf _ _ _ _ _ _ (h.rep i) hF (fun b hb=>hblk b (h.lt i b hb) (hother i hir b hb)) hroot hnewr (by rw [getD_set _ _ _ _ hd,if_neg hrd]) hrep hpar
 ·rw [hcv]
  have := h1 b; have := h.one i b; have := h.one r b; have := k2 b
  split
  ·omega
  ·split
   ·by_cases hpos:0 < d' b
    ·rcases hfr b (by omega) with e | e
     ·omega
     ·have:c r b = 0 := by
       rcases Nat.eq_zero_or_pos (c r b) with e' | e'
       ·exact e'
       ·have := h.lt r b e'; omega
      omega
    ·omega
   ·omega
 ·rw [hcv] at hi hj
  have q1 := h1 b; have q2 := h.one r b; have q3 := k2 b
  have q4:0 < d' b + cd b → c r b = c1 b ∧ ∀ i,i ≠ r → c i b = 0 := fun hpos=>by
   rcases hfr b hpos with e | e
   ·refine ⟨by omega,fun i hi=>?_⟩
    rcases Nat.eq_zero_or_pos (c i b) with e' | e'
    ·exact e'
    ·exact absurd (h.uniq i r b e' (by omega)) hi
   ·exact ⟨by have := hle r b e; omega,fun i _=>hle i b e⟩
  by_cases i1:i = d <;> by_cases j1:j = d
  ·rw [i1,j1]
  ·rw [if_pos i1] at hi; rw [if_neg j1] at hj
   obtain ⟨e1,e2⟩ := q4 (by omega)
   by_cases j2:j = r
   ·rw [if_pos j2] at hj; omega
   ·rw [if_neg j2,e2 j j2] at hj; omega
  ·rw [if_pos j1] at hj; rw [if_neg i1] at hi
   obtain ⟨e1,e2⟩ := q4 (by omega)
   by_cases i2:i = r
   ·rw [if_pos i2] at hi; omega
   ·rw [if_neg i2,e2 i i2] at hi; omega
  ·rw [if_neg i1] at hi; rw [if_neg j1] at hj
   by_cases i2:i = r <;> by_cases j2:j = r
   ·rw [i2,j2]
   ·rw [if_pos i2] at hi; rw [if_neg j2] at hj
    by_cases hpos:0 < d' b
    ·rw [(q4 (by omega)).2 j j2] at hj; omega
    ·have := h.uniq r j b (by omega) hj; omega
   ·rw [if_pos j2] at hj; rw [if_neg i2] at hi
    by_cases hpos:0 < d' b
    ·rw [(q4 (by omega)).2 i i2] at hi; omega
    ·have := h.uniq i r b hi (by omega); omega
   ·rw [if_neg i2] at hi; rw [if_neg j2] at hj
    exact h.uniq i j b hi hj
 ·rw [hcv] at hb
  have q3 := k2 b
  have q5:0 < d' b + cd b → N ≤ b := fun hpos=>by
   rcases hfr b hpos with e | e
   ·exact h.low r b (by omega)
   ·omega
  split at hb
  ·exact q5 (by omega)
  ·split at hb
   ·by_cases hpos:0 < d' b
    ·exact q5 (by omega)
    ·exact h.low r b (by omega)
   ·exact h.low i b hb
theorem Frm.turn {N:Nat} {w w':World} {tmps:Array Value} {c:Nat → Cnt} (h:Frm N w g tmps c) {r d:Nat} {p:Option Nat} {t0 t t':T} {x v:Value} {a:A} (hr:g r = .t t0) (ha:AtV w t0 (tmps.getD r undef) p t x)
  (hd:d < tmps.size) (hdr:d ≠ r) (hno:(g d).owner = false) (hS:w.heap.size ≤ w'.heap.size) (hNw:N ≤ w.heap.size) (hcell:t'.cells = [t']) :
  ∃ c1,TRep w (fun b => ∀ j,c j b = 0) t x c1 ∧ (∀ b,c1 b ≤ 1) ∧ (∀ b,c1 b ≤ c r b) ∧ ∀ (d' cd:Cnt),(∀ b,b < w.heap.size → c1 b = 0 → w'.heap[b]? = w.heap[b]?) →
   (∀ b,d' b + cd b ≤ 1) → (∀ b,0 < d' b + cd b → 0 < c1 b ∨ w.heap.size ≤ b) →
   (∀ F',(∀ b,(∀ j,c j b = 0) → b < w.heap.size → F' b) → TRep w' F' t' x d') →
   (∀ F' g' tmps',(∀ b,(∀ j,c j b = 0) → b < w.heap.size → F' b) → g' = upd (turned g r p t0 t') d a → tmps' = tmps.setIfInBounds d v → ARep w' F' g' tmps' a v cd) →
   Frm N w' (upd (turned g r p t0 t') d a) (tmps.setIfInBounds d v) (upd (upd c r (fun b=>c r b - c1 b + d' b)) d cd) :=
 h.turnK (killA r p) (fun _=>rfl) hr ha hd hdr hno hS hNw hcell (fun F' g' tmps' a x ca h1 h2 h3 h4 h5 h6 h7 h8=>ARep.apart h1 h2 hS h3 h4 hr h5 h6 h7 h8 hcell)
theorem Frm.turn0 {N:Nat} {w w':World} {tmps:Array Value} {c:Nat → Cnt} (h:Frm N w g tmps c) {r:Nat} {p:Option Nat} {t0 t t':T} {x:Value} (hr:g r = .t t0) (ha:AtV w t0 (tmps.getD r undef) p t x)
  (hS:w.heap.size ≤ w'.heap.size) (hNw:N ≤ w.heap.size) (hcell:t'.cells = [t']) :
  ∃ c1,TRep w (fun b => ∀ j,c j b = 0) t x c1 ∧ (∀ b,c1 b ≤ 1) ∧ (∀ b,c1 b ≤ c r b) ∧ ∀ (d':Cnt),(∀ b,b < w.heap.size → c1 b = 0 → w'.heap[b]? = w.heap[b]?) →
   (∀ b,d' b ≤ 1) → (∀ b,0 < d' b → 0 < c1 b ∨ w.heap.size ≤ b) →
   (∀ F',(∀ b,(∀ j,c j b = 0) → b < w.heap.size → F' b) → TRep w' F' t' x d') →
   Frm N w' (turned g r p t0 t') tmps (upd c r (fun b=>c r b - c1 b + d' b)) := by
 have hrep := h.rep r
 rw [hr] at hrep
 obtain ⟨c1,k1,k2,k3,k4⟩ := ha.put hrep (h.one r)
 refine ⟨c1,k1,fun b=>Nat.le_trans (k2 b) (h.one r b),k2,fun d' hblk h1 hfr ht'=>?_⟩
 have hcv:∀ i b,upd c r (fun b=>c r b - c1 b + d' b) i b = if i = r then c r b - c1 b + d' b else c i b := by
  intro i b; unfold upd; split <;> rfl
 have hle:∀ i b,w.heap.size ≤ b → c i b = 0 := fun i b hb=>by
  rcases Nat.eq_zero_or_pos (c i b) with e' | e'
  ·exact e'
  ·have := h.lt i b e'; omega
 have hzd:∀ b,b < w.heap.size → (∀ j,c j b = 0) → d' b = 0 := fun b hb hz=>by
  have := k2 b; have := hz r
  by_cases hpos:0 < d' b
  ·rcases hfr b hpos with e | e <;> omega
  ·omega
 have hF:∀ b,b < w.heap.size → (∀ j,c j b = 0) → (∀ j,upd c r (fun b=>c r b - c1 b + d' b) j b = 0) ∧ w'.heap[b]? = w.heap[b]? := fun b hb hz=>by
  refine ⟨fun j=>?_,hblk b hb (by have := k2 b; have := hz r; omega)⟩
  rw [hcv]
  have := hzd b hb hz
  split
  ·have := hz r; omega
  ·exact hz j
 have hother:∀ i,i ≠ r → ∀ b,0 < c i b → c1 b = 0 := fun i hi b hb=>by
  have := k2 b
  rcases Nat.eq_zero_or_pos (c1 b) with e | e
  ·exact e
  ·exact absurd (h.uniq i r b hb (by omega)) hi
 have hroot:∀ r' t,r' ≠ r → g r' = .t t → A.owner (.t t) = true → turned g r p t0 t' r' = .t t ∧ tmps.getD r' undef = tmps.getD r' undef ∧ ∃ F0 c0,TRep w F0 t (tmps.getD r' undef) c0 ∧ ∀ b,0 < c0 b → w'.heap[b]? = w.heap[b]? := by
  intro r' t1 hne hg ho
  have := h.rep r'
  rw [hg] at this
  refine ⟨by unfold turned turnedK; rw [upd_ne _ _ hne,hg]; rfl,rfl,_,c r',this,fun b hb=>hblk b (h.lt r' b hb) (hother r' hne b hb)⟩
 have hnewr:turned g r p t0 t' r = .t (putT t0 p t') := upd_same _ _ _
 have hroot_r:TRep w' (fun b => ∀ j,upd c r (fun b=>c r b - c1 b + d' b) j b = 0) (putT t0 p t') (tmps.getD r undef) (fun b=>c r b - c1 b + d' b) :=
  k3 w' _ t' d' hF hS (fun b hb hz=>hblk b (h.lt r b hb) hz) (ht' _ (fun b hz hb=>(hF b hb hz).1)) hcell
 have hpar:p ≠ none → (∀ e cs b,t0 = .box e cs → tmps.getD r undef = .pointer (some ⟨b,0,none⟩) → w'.heap[b]? = w.heap[b]?) ∧ (∀ e sz es b n cap,t0 = .own e sz es → tmps.getD r undef = .slice (some ⟨b,0,none⟩) n cap → w'.heap[b]? = w.heap[b]?) := by
  intro hpn
  refine ⟨fun e cs b _ hx=>?_,fun e sz es b n cap _ hx=>?_⟩
  ·obtain ⟨e1,e2⟩ := k4 hpn b (.inl hx)
   exact hblk b (h.lt r b e2) e1
  ·obtain ⟨e1,e2⟩ := k4 hpn b (.inr ⟨n,cap,hx⟩)
   exact hblk b (h.lt r b e2) e1
 refine ⟨fun i=>?_,fun i b=>?_,fun i j b hi hj=>?_,fun i b hb=>?_⟩
 ·by_cases hir:i = r
  ·subst hir
   rw [hnewr,upd_same]
   exact hroot_r
  ·rw [upd_ne _ _ hir]
   have e:turned g r p t0 t' i = killA r p (g i) := by unfold turned turnedK; rw [upd_ne _ _ hir]
   rw [e]
   exact ARep.apart (h.rep i) hF hS (fun b hb=>hblk b (h.lt i b hb) (hother i hir b hb)) hroot hr hnewr rfl hrep hpar hcell
 ·rw [hcv]
  have := h1 b; have := h.one i b; have := h.one r b; have := k2 b
  split
  ·by_cases hpos:0 < d' b
   ·rcases hfr b (by omega) with e | e
    ·omega
    ·have := hle r b e; omega
   ·omega
  ·omega
 ·rw [hcv] at hi hj
  have q1 := h1 b; have q2 := h.one r b; have q3 := k2 b
  have q4:0 < d' b → ∀ i,i ≠ r → c i b = 0 := fun hpos i hi=>by
   rcases hfr b hpos with e | e
   ·rcases Nat.eq_zero_or_pos (c i b) with e' | e'
    ·exact e'
    ·exact absurd (h.uniq i r b e' (by omega)) hi
   ·exact hle i b e
  by_cases i2:i = r <;> by_cases j2:j = r
  ·rw [i2,j2]
  ·rw [if_pos i2] at hi; rw [if_neg j2] at hj
   by_cases hpos:0 < d' b
   ·rw [q4 hpos j j2] at hj; omega
   ·have := h.uniq r j b (by omega) hj; omega
  ·rw [if_pos j2] at hj; rw [if_neg i2] at hi
   by_cases hpos:0 < d' b
   ·rw [q4 hpos i i2] at hi; omega
   ·have := h.uniq i r b hi (by omega); omega
  ·rw [if_neg i2] at hi; rw [if_neg j2] at hj
   exact h.uniq i j b hi hj
 ·rw [hcv] at hb
  have q3 := k2 b
  split at hb
  ·by_cases hpos:0 < d' b
   ·rcases hfr b hpos with e | e
    ·exact h.low r b (by omega)
    ·omega
   ·exact h.low r b (by omega)
  ·exact h.low i b hb
def Step (X:Ctx) (n:Nat) (Z:List Nat) (g:Nat → A) (o:Oper) (g':Nat → A):Prop :=
 ∀ (D:Nat → Prop) (gc:Cnt) (v0:Nat → Value) (w0:World) (tmps:Array Value) (ds:List Deferred) (w:World),Inv X n Z D gc v0 w0 g tmps w → ∀ (next:Act → World → Prop) (Q:Exit → Act → World → Prop),
  (∀ tmps' w',Inv X n Z D gc v0 w0 g' tmps' w' → next ⟨tmps',ds⟩ w') → o.wp X.P ⟨tmps,ds⟩ w next Q
theorem Good.step {n:Nat} {Z:List Nat} {o:Oper} {a:A} {d:Nat} (h:Good X g o a) (hag:a ≠ .ghost) (hd:o.dst = some d) (hn:d < n ∧ d ∉ Z) (ho:(g d).owner = false):Step X n Z g o (upd g d a) := by
 intro D gc v0 w0 tmps ds w hI next Q hnext
 obtain ⟨c,hf,hb⟩ := hI.frm
 refine h tmps ds w c hI.glob hf next Q (fun v w' hw hr=>?_)
 rw [hd]
 exact hnext _ _ (hI.put hn ho hw hf hb hag hr)
theorem Good.step0 {n:Nat} {Z:List Nat} {o:Oper} {a:A} (h:Good X g o a) (hd:o.dst = none):Step X n Z g o g := by
 intro D gc v0 w0 tmps ds w hI next Q hnext
 obtain ⟨c,hf,hb⟩ := hI.frm
 refine h tmps ds w c hI.glob hf next Q (fun v w' hw hr=>?_)
 rw [hd]
 refine hnext _ _ ?_
 refine ⟨hI.size,hI.fix,by rw [hw.os,hI.os],by rw [hw.tape,hI.tape],by rw [hw.output,hI.output],fun b hb hD=>?_,Nat.le_trans hI.grow hw.size,?_,hI.hD,hI.base,c,?_,hb⟩
 ·rw [hw.block b (Nat.lt_of_lt_of_le hb hI.grow)]; exact hI.kept b hb hD
 ·exact X.hG w w' (fun b hb=>hw.block b (Nat.lt_of_lt_of_le hb (X.hN w hI.glob))) hw.size hI.glob
 ·refine ⟨fun i=>?_,hf.one,hf.uniq,hf.low⟩
  refine ARep.mono (hf.rep i) (fun b hb hfb=>⟨hfb,hw.block b hb⟩) hw.size (fun b hb=>hw.block b (hf.lt i b hb)) (fun r t hr ho=>⟨hr,rfl,fun b => ∀ j,c j b = 0,c r,by have := hf.rep r; rw [hr] at this; exact this,fun b hb=>hw.block b (hf.lt r b hb)⟩)
theorem Inv.step {X:Ctx} {n:Nat} {Z:List Nat} {D:Nat → Prop} {gc:Cnt} {v0:Nat → Value} {w0 w w':World} {g g':Nat → A} {tmps tmps':Array Value} {c c':Nat → Cnt} (h:Inv X n Z D gc v0 w0 g tmps w) (hf:Frm X.N w g tmps c) (hb:(∀ i b,0 < c i b → g i ≠ .ghost → D b ∨ w0.heap.size ≤ b) ∧ ∀ i,g i = .ghost → ∀ b,c i b = gc b)
  (hf':Frm X.N w' g' tmps' c') (hs:tmps'.size = tmps.size) (hfix:∀ i ∈ Z,tmps'.getD i undef = tmps.getD i undef) (hos:w'.os = w.os) (htape:w'.tape = w.tape) (hout:w'.output = w.output) (hS:w.heap.size ≤ w'.heap.size)
  (hblk:∀ b,b < w.heap.size → w'.heap[b]? = w.heap[b]? ∨ ∃ i,0 < c i b ∧ g i ≠ .ghost) (hb':∀ i b,0 < c' i b → g' i ≠ .ghost → (∃ j,0 < c j b ∧ g j ≠ .ghost) ∨ w.heap.size ≤ b) (hgh:∀ i,g' i = .ghost → g i = .ghost ∧ ∀ b,c' i b = c i b):Inv X n Z D gc v0 w0 g' tmps' w' := by
 refine ⟨by rw [hs,h.size],fun i hi=>by rw [hfix i hi]; exact h.fix i hi,by rw [hos,h.os],by rw [htape,h.tape],by rw [hout,h.output],fun b hlt hD=>?_,Nat.le_trans h.grow hS,?_,h.hD,h.base,c',hf',fun i b hi hgi=>?_,fun i hi b=>by rw [(hgh i hi).2]; exact hb.2 i (hgh i hi).1 b⟩
 ·rcases hblk b (Nat.lt_of_lt_of_le hlt h.grow) with e | ⟨i,e,eg⟩
  ·rw [e]; exact h.kept b hlt hD
  ·rcases hb.1 i b e eg with e | e
   ·exact absurd e hD
   ·omega
 ·refine X.hG w w' (fun b hlt=>?_) hS h.glob
  rcases hblk b (Nat.lt_of_lt_of_le hlt (X.hN w h.glob)) with e | ⟨i,e,_⟩
  ·exact e
  ·have := hf.low i b e; omega
 ·rcases hb' i b hi hgi with ⟨j,e,eg⟩ | e
  ·exact hb.1 j b e eg
  ·exact .inr (Nat.le_trans h.grow e)
end Go.Eng

/- append; a slot's own handed to another slot; what is owned given to all. -/
namespace Go.Eng
open Go.RowKit (Below)
open Go.Lib (strCells strCells_length run_append_own_string run_append_room_string run_append_grow_string)
set_option linter.unusedVariables false
set_option linter.unusedSimpArgs false
variable {X:Ctx} {g:Nat → A}
def elemsA (g:Nat → A):A → Option (List T)
 | .t (.sl _ es)=>some es
 | .ref r p off len=>match root g r p with
  | some (.own _ _ es)=>some (cut es off (off + len))
  | _=>none
 | _=>none
def sizA (g:Nat → A) (sz:Nat):A → Prop
 | .t (.sl s _)=>s = sz
 | .ref r p _ _ => ∃ e l,root g r p = some (.own e sz l)
 | _=>True
theorem flat_zero {w:World} {F:Nat → Prop} {ts:List T} {xs:List Value} {c:Cnt} (h:LRep w F ts xs c) (hf:ts.all T.flat = true):LRep w F ts xs (fun _=>0) := h.count (fun b=>(all_zero hf h b).symm)
theorem elems_rep {w:World} {tmps:Array Value} {c:Nat → Cnt} {N:Nat} (hf:Frm N w g tmps c) {a:A} {x:Value} (h:ARep w (fun b => ∀ j,c j b = 0) g tmps a x (fun _=>0)) {es:List T} {sz:Nat} (he:elemsA g a = some es) (hsz:∀ t ∈ es,t.cells.length = sz)
  (hsz2:sizA g sz a) (hflat:(es.flatMap T.cells).all T.flat = true) :
  ∃ a0 cap vals,x = .slice a0 es.length cap ∧ LRep w (fun b => ∀ j,c j b = 0) (es.flatMap T.cells) vals (fun _=>0) ∧ (∀ y ∈ vals,y.oneCell' = true) ∧ vals.length = es.length * sz ∧
   ((es = [] ∧ vals = []) ∨ ∃ b,a0 = some b ∧ ∀ k y,vals[k]? = some y → w.cell? (b.add k) = some y) := by
 have hlen:∀ es:List T,(∀ t ∈ es,t.cells.length = sz) → (es.flatMap T.cells).length = es.length * sz := by
  intro es
  induction es with
  | nil=>intro _; simp
  | cons t ts ih=>intro h; rw [List.flatMap_cons,List.length_append,ih (fun t ht=>h t (by simp [ht])),h t (by simp),List.length_cons,Nat.succ_mul]; omega
 cases a with
 | t t =>
  cases t with
  | sl s es' =>
   simp only [elemsA,Option.some.injEq] at he; subst he
   cases h with
   | slnil=>exact ⟨_,_,[],rfl,.nil _ (fun _=>rfl),by simp,by simp,.inl ⟨rfl,rfl⟩⟩
   | sl _ _ b n cap vals c0 _ hn hcap hF hb hs hv hz hl hone hc0 hc =>
    subst hn
    exact ⟨some b,cap,vals,rfl,flat_zero hl hflat,hone,by rw [← hl.length,hlen _ hsz],.inr ⟨b,rfl,hv⟩⟩
  | _=>simp [elemsA] at he
 | ref r p off len =>
  obtain ⟨_,t0,e,s,es0,x0,h1,h2,h3,h4⟩ := h
  have hrt := root_of h1 h2
  simp only [elemsA,hrt,Option.some.injEq] at he
  obtain ⟨e',l',hsz2⟩ := hsz2
  rw [hrt] at hsz2; cases hsz2
  have hcl:es.length = len := by rw [← he,cut_length _ _ _ h3]; omega
  have hr := hf.rep r
  rw [h1] at hr
  obtain ⟨d,hd,_⟩ := h2.rep hr
  rcases h4 with ⟨rfl,hx,hl0,ho0⟩ | ⟨b,n,cap,o,rfl,hx,hoc,ho⟩
  ·have:es = [] := List.eq_nil_of_length_eq_zero (by omega)
   subst this
   exact ⟨none,0,[],hx,.nil _ (fun _=>rfl),by simp,by simp,.inl ⟨rfl,rfl⟩⟩
  ·cases hd with
   | own _ _ _ _ _ _ cur c0 _ hg hn hcap hm hcur hz hl hone hc =>
    obtain ⟨d1,k1,k2⟩ := row_drop hl hz off (off + len) (by omega) h3
    rw [he] at k1
    have k3 := flat_zero k1 hflat
    by_cases hpos:0 < len
    ·have e1:o = off * sz := ho (.inl hpos)
     refine ⟨some ⟨b,o,none⟩,_,_,by rw [hx,hcl],k3,fun y hy=>hone y (List.mem_of_mem_drop (List.mem_of_mem_take hy)),by rw [← k3.length,hlen _ hsz],.inr ⟨_,rfl,fun k y hk=>?_⟩⟩
     rw [List.getElem?_take] at hk
     split at hk
     ·rw [List.getElem?_drop,List.getElem?_take] at hk
      split at hk
      ·rw [addr_add,cell_at hg,← Array.getElem?_toList,e1]; exact hk
      ·cases hk
     ·cases hk
    ·have:es = [] := List.eq_nil_of_length_eq_zero (by omega)
     subst this
     exact ⟨some ⟨b,o,none⟩,_,[],by rw [hx,← hcl],.nil _ (fun _=>rfl),by simp,by simp,.inl ⟨rfl,rfl⟩⟩
 | _=>simp [elemsA] at he
theorem take_cut {α:Type} (es:List α) (k:Nat):cut es 0 k = es.take k := by simp [cut]
theorem owns_take {w:World} {F:Nat → Prop} {e:TypeId} {sz:Nat} {es:List T} {x0 x:Value} {c:Cnt} {k:Nat} (h:TRep w F (.own e sz es) x0 c) (hv:View sz 0 k x0 x) (hk:k ≤ es.length) :
  ∃ xs c0,w.ownsRow 0 e sz x k xs ∧ x.ownBlock = x0.ownBlock ∧ LRep w F ((es.take k).flatMap T.cells) xs c0 ∧ (∀ y ∈ xs,y.oneCell' = true) ∧ (∀ t ∈ es,t.cells.length = sz) ∧ (∀ b,c0 b + (if x0.ownBlock = some b then 1 else 0) ≤ c b) := by
 cases h with
 | ownnil =>
  rename_i hc
  rcases hv with ⟨_,rfl,hk0,_⟩ | ⟨g,n,cap,o,h,_⟩
  ·subst hk0
   exact ⟨[],fun _=>0,World.ownsRow_nil w 0 e sz,rfl,.nil _ (fun _=>rfl),by simp,by simp,fun b=>by simp [Value.ownBlock]⟩
  ·cases h
 | own _ _ _ b n cap cur c0 _ hg hn hcap hm hcur hz hl hone hc =>
  rcases hv with ⟨h,_⟩ | ⟨g',n',cap',o,h,hx,hoc,ho⟩
  ·cases h
  ·cases h
   have e1:o = 0 := by have := ho (.inr rfl); omega
   subst e1
   obtain ⟨d,k1,k2⟩ := row_drop hl hz 0 k (Nat.zero_le _) hk
   rw [take_cut] at k1
   simp only [Nat.zero_mul,List.drop_zero,Nat.sub_zero] at k1
   rw [List.take_take,Nat.min_eq_left (Nat.mul_le_mul_right _ (by omega))] at k1
   refine ⟨_,d,⟨?_,.inr ⟨b,cap,cur,by rw [hx]; rfl,Nat.zero_le _,hg,by omega,hm,hcur,rfl⟩⟩,by rw [hx]; rfl,k1,fun y hy=>hone y ?_,hz,fun b'=>?_⟩
   ·rw [List.length_take,Array.length_toList,hcur]; exact Nat.min_eq_left (Nat.mul_le_mul_right _ (by omega))
   ·have h2:k * sz ≤ n * sz := Nat.mul_le_mul_right _ (by omega)
    rw [show k * sz = min (k * sz) (n * sz) by omega,← List.take_take] at hy
    exact List.mem_of_mem_take hy
   ·rw [hc]
    have := k2 b'
    simp only [Value.ownBlock,Option.some.injEq]
    by_cases hbb:b' = b
    ·subst hbb; simp; omega
    ·rw [if_neg hbb,if_neg (fun e=>hbb e.symm)]; omega
theorem owns_rep {w:World} {F:Nat → Prop} {e:TypeId} {sz:Nat} {es:List T} {x:Value} {n:Nat} {xs:List Value} {c0:Cnt} (h:w.ownsRow 0 e sz x n xs) (hn:n = es.length) (hl:LRep w F (es.flatMap T.cells) xs c0) (hz:∀ t ∈ es,t.cells.length = sz) (hone:∀ y ∈ xs,y.oneCell' = true) (hz0:es = [] → ∀ b,c0 b = 0) :
  TRep w F (.own e sz es) x (fun b=>(if x.ownBlock = some b then 1 else 0) + c0 b) := by
 obtain ⟨h1,h2⟩ := h
 rcases h2 with ⟨rfl,rfl⟩ | ⟨g,cap,cur,rfl,_,hg,hnc,hcm,hcs,ht⟩
 ·have:es = [] := List.eq_nil_of_length_eq_zero hn.symm
  subst this
  exact .ownnil _ _ _ (fun b=>by simp [Value.ownBlock,hz0 rfl])
 ·refine .own e sz es g n cap cur c0 _ hg hn hnc hcm hcs hz (by rw [ht]; exact hl) (by rw [ht]; exact hone) (fun b=>?_)
  simp only [Value.ownBlock,Option.some.injEq]
  by_cases hbb:b = g
  ·subst hbb; simp
  ·rw [if_neg hbb,if_neg (fun e=>hbb e.symm)]
theorem run_append {P:Program} {o:Oper} {a:Act} {w w':World} {s x:Operand} {t u:TypeId} {v:Value} (ho:o.op = .call { callee := .builtin .append,args := #[s,x],argTypes := #[t,u] }) (h:(Builtin.append_ #[t,u] o.type #[a.eval s,a.eval x]).run P w = .ok v w'):(execOp a.eval o).run P w = .ok (.value v) w' := by
 unfold execOp
 simp only [ho,resolve,invoke,builtin,List.map_toArray,List.map_cons,List.map_nil,Sem.run_bind,Sem.run_pure,Result.andThen_ok,h]
theorem append_core {n:Nat} {Z:List Nat} {D:Nat → Prop} {gc:Cnt} {v0:Nat → Value} {w0 w:World} {tmps:Array Value} {c:Nat → Cnt} (hI:Inv X n Z D gc v0 w0 g tmps w) (hf:Frm X.N w g tmps c) (hb:(∀ i b,0 < c i b → g i ≠ .ghost → D b ∨ w0.heap.size ≤ b) ∧ ∀ i,g i = .ghost → ∀ b,c i b = gc b)
  {r d k:Nat} {p:Option Nat} {e:TypeId} {sz:Nat} {es news:List T} {t0:T} {x x0:Value} {vals:List Value} (hd:d < n ∧ d ∉ Z) (hdr:d ≠ r) (hno:(g d).owner = false) (hr:g r = .t t0) (ha:AtV w t0 (tmps.getD r undef) p (.own e sz es) x0) (hv:View sz 0 k x0 x) (hk:k ≤ es.length)
  (hnews:LRep w (fun b => ∀ j,c j b = 0) (news.flatMap T.cells) vals (fun _=>0)) (hnone:∀ y ∈ vals,y.oneCell' = true) (hnz:∀ t ∈ news,t.cells.length = sz)
  {v':Value} {w':World} (hrun:∀ xs,w.ownsRow 0 e sz x k xs → w'.ownsRow 0 e sz v' (k + news.length) (xs ++ vals) ∧ w.grownBy w' x.ownBlock ∧ (∀ b,v'.ownBlock = some b → x.ownBlock = some b ∨ w.heap.size ≤ b)) :
  Inv X n Z D gc v0 w0 (upd (turned g r p t0 .u) d (.t (.own e sz (es.take k ++ news)))) (tmps.setIfInBounds d v') w' := by
 have hrep := hf.rep r
 rw [hr] at hrep
 have hrg:g r ≠ .ghost := by rw [hr]; exact fun h=>by cases h
 have hNw:X.N ≤ w.heap.size := X.hN w hI.glob
 obtain ⟨dd,hdd,hle⟩ := ha.rep hrep
 obtain ⟨xs0,c00,ho0,_⟩ := owns_take hdd hv hk
 obtain ⟨_,hg0,_⟩ := hrun xs0 ho0
 obtain ⟨c1,k1,k2,k2',k3⟩ := hf.turn (w' := w') (t' := .u) (v := v') (a := .t (.own e sz (es.take k ++ news))) hr ha (by rw [hI.size]; exact hd.1) hdr hno hg0.size hNw rfl
 obtain ⟨xs,c0,ho,hob,hl,hone,hz,hc0⟩ := owns_take k1 hv hk
 obtain ⟨q1,hg,q2⟩ := hrun xs ho
 have hlt:∀ b,0 < c1 b → b < w.heap.size := k1.lt
 have hblk:∀ b,b < w.heap.size → (x0.ownBlock = some b → False) → w'.heap[b]? = w.heap[b]? := fun b hb hne=>hg.block b hb (by rw [hob]; exact fun e=>hne e.symm)
 have hc1r:∀ b,c1 b ≤ 1 := k2
 have hfrm := k3 (fun _=>0) (fun b=>(if v'.ownBlock = some b then 1 else 0) + c0 b) (fun b hb hz0=>hblk b hb (fun e=>by have := hc0 b; rw [if_pos e] at this; omega)) (fun b=>by
   have h1 := hc0 b
   have h2 := hc1r b
   by_cases e1:v'.ownBlock = some b
   ·rw [if_pos e1]
    rcases q2 b e1 with e2 | e2
    ·rw [hob] at e2; rw [if_pos e2] at h1; omega
    ·have:c1 b = 0 := by
      rcases Nat.eq_zero_or_pos (c1 b) with e | e
      ·exact e
      ·have := hlt b e; omega
     omega
   ·rw [if_neg e1]; omega) (fun b hb=>by
   have h1 := hc0 b
   by_cases e1:v'.ownBlock = some b
   ·rcases q2 b e1 with e2 | e2
    ·rw [hob] at e2; rw [if_pos e2] at h1; left; omega
    ·exact .inr e2
   ·rw [if_neg e1] at hb; left; omega) (fun F' _=>.u _ _ (fun _=>rfl)) (fun F' g' tmps' hF' _ _=>by
   have m1:LRep w' F' ((es.take k).flatMap T.cells) xs c0 := hl.mono (fun b hb hfb=>⟨hF' b hfb hb,hblk b hb (fun e=>by
     have h1 := hc0 b; rw [if_pos e] at h1
     have := hfb r; have := k2' b; omega)⟩) hg.size (fun b hb=>hblk b (hl.lt b hb) (fun e=>by have h1 := hc0 b; rw [if_pos e] at h1; have := hc1r b; omega))
   have m2:LRep w' F' (news.flatMap T.cells) vals (fun _=>0) := hnews.mono (fun b hb hfb=>⟨hF' b hfb hb,hblk b hb (fun e=>by
     have h1 := hc0 b; rw [if_pos e] at h1
     have := hfb r; have := k2' b; omega)⟩) hg.size (fun b hb=>absurd hb (by simp))
   have m3 := m1.append m2 (e := c0) (fun b=>by simp)
   rw [← List.flatMap_append] at m3
   refine owns_rep q1 (by rw [List.length_append,List.length_take,Nat.min_eq_left hk]) m3 (fun t ht=>?_) (fun y hy=>?_) (fun he b=>?_)
   ·rcases List.mem_append.1 ht with ht | ht
    ·exact hz t (List.mem_of_mem_take ht)
    ·exact hnz t ht
   ·rcases List.mem_append.1 hy with hy | hy
    ·exact hone y hy
    ·exact hnone y hy
   ·have e3:(es.take k).flatMap T.cells = [] := by
     have := List.append_eq_nil_iff.1 he
     rw [this.1]; rfl
    rw [e3] at m1
    cases m1 with | nil _ hc=>exact hc b)
 refine hI.step hf hb hfrm (by simp) (fun i hi=>by rw [getD_set _ _ _ _ (by rw [hI.size]; exact hd.1),if_neg (by rintro rfl; exact hd.2 hi)]) hg.os hg.tape hg.output hg.size (fun b hb=>?_) (fun i b hib hgi=>?_) (fun i hi=>?_)
 ·by_cases e:x0.ownBlock = some b
  ·right
   obtain ⟨_,_,_,_,_,_,_,h7⟩ := owns_take hdd hv hk
   have := h7 b; rw [if_pos e] at this
   have := hle b
   exact ⟨r,by omega,hrg⟩
  ·exact .inl (hblk b hb e)
 ·unfold upd at hib
  split at hib
  ·dsimp only at hib
   have h1 := hc0 b
   by_cases e1:v'.ownBlock = some b
   ·rcases q2 b e1 with e2 | e2
    ·rw [hob] at e2; rw [if_pos e2] at h1; have := k2' b; exact .inl ⟨r,by omega,hrg⟩
    ·exact .inr e2
   ·rw [if_neg e1] at hib; have := k2' b; exact .inl ⟨r,by omega,hrg⟩
  ·split at hib
   ·exact .inl ⟨r,by dsimp only at hib; omega,hrg⟩
   ·rename_i n1 n2
    refine .inl ⟨i,hib,fun e=>hgi ?_⟩
    rw [upd_ne _ _ n1]; unfold turned turnedK; rw [upd_ne _ _ n2,e]; rfl
 ·by_cases hid:i = d
  ·subst hid; rw [upd_same] at hi; cases hi
  ·rw [upd_ne _ _ hid] at hi
   by_cases hir:i = r
   ·subst hir; unfold turned turnedK at hi; rw [upd_same] at hi; cases hi
   ·unfold turned turnedK at hi
    rw [upd_ne _ _ hir] at hi
    refine ⟨?_,fun b=>by rw [upd_ne _ _ hid,upd_ne _ _ hir]⟩
    exact killA_ghost hi
theorem app_new (w:World) (e:TypeId) (sz n m old:Nat) (xs news:List Value) (z:Array Value) (hx:xs.length = n * sz) (hl:news.length = m * sz) (hz:z.size = sz) (hml:n + m ≤ maxLen) (row:Option Nat) :
  (w.drew.alloc (.cells (xs.toArray ++ news.toArray ++ Builtin.zeroCells z (grownCap w (n + m) old e - (n + m))) e)).ownsRow 0 e sz (.slice (some ⟨w.heap.size,0,none⟩) (n + m) (grownCap w (n + m) old e)) (n + m) (xs ++ news) ∧
  w.grownBy (w.drew.alloc (.cells (xs.toArray ++ news.toArray ++ Builtin.zeroCells z (grownCap w (n + m) old e - (n + m))) e)) row := by
 have hge := grownCap_ge w (n + m) old e
 have hlen:(xs ++ news).length = (n + m) * sz := by rw [List.length_append,hx,hl,Nat.add_mul]
 refine ⟨⟨hlen,.inr ⟨w.heap.size,_,_,rfl,Nat.zero_le _,heap_alloc_new w.drew _,hge,grownCap_le_maxLen w _ _ _ hml,?_,?_⟩⟩,⟨rfl,rfl,rfl,by simp,fun k hk _=>heap_alloc_old w.drew _ hk⟩⟩
 ·have h1:(grownCap w (n + m) old e - (n + m)) * sz + (n + m) * sz = grownCap w (n + m) old e * sz := by rw [← Nat.add_mul]; congr 1; omega
  have h2:(Builtin.zeroCells z (grownCap w (n + m) old e - (n + m))).size = (grownCap w (n + m) old e - (n + m)) * sz := by rw [size_zeroCells,hz]
  rw [Array.size_append,Array.size_append,h2,List.size_toArray,List.size_toArray,hx,hl,← Nat.add_mul]
  omega
 ·have:(xs.toArray ++ news.toArray ++ Builtin.zeroCells z (grownCap w (n + m) old e - (n + m))).toList = (xs ++ news) ++ (Builtin.zeroCells z (grownCap w (n + m) old e - (n + m))).toList := by simp
  rw [this,← hlen]
  exact List.take_left
theorem run_app_sl {P:Program} {w:World} {t ty e:TypeId} {i:TypeInfo} {z:Value} (ht:P.underlying t = some (.slice e)) (hi:P.info? e = some i) (hz:i.zero = some z) (hzs:z.cells.size = i.size)
  {x:Value} {n m c:Nat} {xs news:List Value} (hown:w.ownsRow 0 e i.size x n xs) {a0:Option Addr} (hl:news.length = m * i.size) (hsz:0 < i.size)
  (hsrc:(m = 0) ∨ ∃ b,a0 = some b ∧ ∀ k y,news[k]? = some y → w.cell? (b.add k) = some y) (hone:∀ y ∈ news,y.oneCell' = true) (hml:n + m ≤ maxLen) (hb:(n + m) * i.bytes ≤ 140737488355328) :
  ∃ v' w',(Builtin.append_ #[t,t] ty #[x,.slice a0 m c]).run P w = .ok v' w' ∧ w'.ownsRow 0 e i.size v' (n + m) (xs ++ news) ∧ w.grownBy w' x.ownBlock ∧ (∀ b,v'.ownBlock = some b → x.ownBlock = some b ∨ w.heap.size ≤ b) := by
 have hml':n + m ≤ 9223372036854775807 := by unfold maxLen at hml; omega
 have stay:m = 0 → news = [] := fun h=>List.eq_nil_of_length_eq_zero (by rw [hl,h]; omega)
 have same:w.grownBy w x.ownBlock := ⟨rfl,rfl,rfl,Nat.le_refl _,fun _ _ _=>rfl⟩
 by_cases hm:m = 0
 ·have hn := stay hm
  subst hn; subst hm
  simp only [Nat.add_zero,List.append_nil]
  cases a0 with
  | none =>
   rcases hown.2 with ⟨rfl,rfl⟩ | ⟨g,cap,cur,rfl,_,hg,hnc,hcm,hcs,htk⟩
   ·refine ⟨.slice none 0 0,w,?_,hown,same,fun b hb=>.inl hb⟩
    simp [Builtin.append_,run_underlying ht,sizeOf,typeInfo,hi,Builtin.lenOf,Builtin.firstCells,loadCells,loadCellsFrom]
   ·refine ⟨_,w,?_,hown,same,fun b hb=>.inl hb⟩
    simp [Builtin.append_,run_underlying ht,sizeOf,typeInfo,hi,Builtin.lenOf,Builtin.firstCells,loadCells,loadCellsFrom,hnc,storeCells]
  | some b =>
   rcases hown.2 with ⟨rfl,rfl⟩ | ⟨g,cap,cur,rfl,_,hg,hnc,hcm,hcs,htk⟩
   ·refine ⟨.slice none 0 0,w,?_,hown,same,fun b hb=>.inl hb⟩
    simp [Builtin.append_,run_underlying ht,sizeOf,typeInfo,hi,Builtin.lenOf,Builtin.firstCells,loadCells,loadCellsFrom]
   ·refine ⟨_,w,?_,hown,same,fun b hb=>.inl hb⟩
    simp [Builtin.append_,run_underlying ht,sizeOf,typeInfo,hi,Builtin.lenOf,Builtin.firstCells,loadCells,loadCellsFrom,hnc,storeCells]
 ·rcases hsrc with h | ⟨a,rfl,hsrc⟩
  ·exact absurd h hm
  rcases hown.2 with ⟨rfl,rfl⟩ | ⟨g,cap,cur,rfl,_,hg,hnc,hcm,hcs,htk⟩
  ·have hx:xs = [] := List.eq_nil_of_length_eq_zero (by simpa using hown.1)
   subst hx
   have hr := run_append_nil (P := P) w t ty e i z ht hi hz a m c news hl hsrc (by omega) (by omega) (by simp only [Nat.zero_add] at hb; omega)
   have := app_new w e i.size 0 m 0 [] news z.cells (by simp) hl hzs hml (Value.ownBlock (.slice none 0 0))
   simp only [Nat.zero_add,List.nil_append] at this ⊢
   refine ⟨_,_,hr,?_,?_,fun b hb=>?_⟩
   ·simpa using this.1
   ·simpa using this.2
   ·simp [Value.ownBlock] at hb; exact .inr (by omega)
  ·by_cases hroom:n + m ≤ cap
   ·have hfit:n * i.size + news.length ≤ cur.size := by rw [hl,hcs,← Nat.add_mul]; exact Nat.mul_le_mul_right _ hroom
    have hr := run_append_room (P := P) w t ty e i ht hi g n cap cur hg a m c news hl hsrc hone hroom hfit
    have hlen:(xs ++ news).length = (n + m) * i.size := by rw [List.length_append,hown.1,hl,Nat.add_mul]
    refine ⟨_,_,hr,⟨hlen,.inr ⟨g,cap,_,rfl,Nat.zero_le _,setRow_heap w g cur _ e _ hg,hroom,hcm,?_,?_⟩⟩,⟨rfl,rfl,rfl,by simp,fun k hk hne=>setRow_other w g k _ (fun e=>hne (by simp [Value.ownBlock,e]))⟩,fun b hb=>.inl hb⟩
    ·simp only [List.size_toArray,List.length_append,List.length_take,List.length_drop,Array.length_toList]
     omega
    ·rw [htk,← hlen]
     exact List.take_left
   ·have holds:∀ j u,xs[j]? = some u → w.cell? ((⟨g,0,none⟩:Addr).add j) = some u := hown.cells (g := g) rfl
    have hr := run_append_grow (P := P) w t ty e i z ht hi hz ⟨g,0,none⟩ n cap xs hown.1 holds a m c news hl hsrc (by omega) (by omega) (growslice_fits (by omega) hb)
    have := app_new w e i.size n m cap xs news z.cells hown.1 hl hzs hml (Value.ownBlock (.slice (some ⟨g,0,none⟩) n cap))
    exact ⟨_,_,hr,this.1,this.2,fun b hb=>by simp [Value.ownBlock] at hb; exact .inr (by omega)⟩
theorem run_app_str {P:Program} {w:World} {t u ty e:TypeId} {i:TypeInfo} (ht:P.underlying t = some (.slice e)) (hu:P.underlying u = some .string) (hi:P.info? e = some i) (hz:i.zero = some (.int .u8 0)) (hsize:i.size = 1) (hby:i.bytes = 1)
  {x:Value} {n:Nat} {xs:List Value} (hown:w.ownsRow 0 e 1 x n xs) (s:ByteArray) (hb:n + s.size ≤ 140737488355328) :
  ∃ v' w',(Builtin.append_ #[t,u] ty #[x,.string s]).run P w = .ok v' w' ∧ w'.ownsRow 0 e 1 v' (n + s.size) (xs ++ strCells s) ∧ w.grownBy w' x.ownBlock ∧ (∀ b,v'.ownBlock = some b → x.ownBlock = some b ∨ w.heap.size ≤ b) := by
 have hml:n + s.size ≤ maxLen := by unfold maxLen; omega
 have hxl:xs.length = n := by simpa using hown.1
 have hlen:(xs ++ strCells s).length = (n + s.size) * 1 := by rw [List.length_append,hxl,strCells_length]; omega
 rcases hown.2 with ⟨rfl,rfl⟩ | ⟨g,cap,cur,rfl,_,hg,hnc,hcm,hcs,htk⟩
 ·have hx:xs = [] := List.eq_nil_of_length_eq_zero hxl
  subst hx
  obtain ⟨v',w',h1,h2,h3,h4⟩ := run_append_own_string (P := P) w 0 t u ty e i ht hu hi hz hsize hby (.slice none 0 0) 0 [] hown s hml hb (Nat.zero_le _)
  obtain ⟨v2,w2,k1,k2,k3,k4⟩ := run_append_own_string (P := P) w w.heap.size t u ty e i ht hu hi hz hsize hby (.slice none 0 0) 0 [] (World.ownsRow_nil w w.heap.size e 1) s hml hb (Nat.le_refl _)
  rw [h1] at k1; cases k1
  exact ⟨v',w',h1,h2,h3,fun b hb=>.inr (k2.lt b hb).1⟩
 ·by_cases hroom:n + s.size ≤ cap
  ·have hr := run_append_room_string (P := P) w t u ty e i ht hu hi hsize g n cap cur hg s hroom (by rw [hcs]; omega)
   refine ⟨_,_,hr,⟨hlen,.inr ⟨g,cap,_,rfl,Nat.zero_le _,setRow_heap w g cur _ e _ hg,hroom,hcm,?_,?_⟩⟩,⟨rfl,rfl,rfl,by simp,fun k hk hne=>setRow_other w g k _ (fun e=>hne (by simp [Value.ownBlock,e]))⟩,fun b hb=>.inl hb⟩
   ·simp only [List.size_toArray,List.length_append,List.length_take,List.length_drop,Array.length_toList,strCells_length]
    omega
   ·rw [← hlen]
    rw [Nat.mul_one] at htk
    rw [← htk]
    exact List.take_left
  ·have holds:∀ j u,xs[j]? = some u → w.cell? ((⟨g,0,none⟩:Addr).add j) = some u := hown.cells (g := g) rfl
   have hr := run_append_grow_string (P := P) w t u ty e i (.int .u8 0) ht hu hi hz ⟨g,0,none⟩ n cap xs (by rw [hsize]; exact hown.1) holds s (by omega) (by omega) (growslice_fits (by omega) (by rw [hby]; omega))
   have := app_new w e 1 n s.size cap xs (strCells s) #[.int .u8 0] hown.1 (by rw [strCells_length]; omega) rfl hml (Value.ownBlock (.slice (some ⟨g,0,none⟩) n cap))
   exact ⟨_,_,hr,this.1,this.2,fun b hb=>by simp [Value.ownBlock] at hb; exact .inr (by omega)⟩
theorem step_append {n:Nat} {Z:List Nat} {o:Oper} {x y:Operand} {t e:TypeId} {sz by_:Nat} {z:Value} {r d k:Nat} {p:Option Nat} {t0:T} {es news:List T}
  (ho:o.op = .call { callee := .builtin .append,args := #[x,y],argTypes := #[t,t] }) (hdst:o.dst = some d) (hd:d < n ∧ d ∉ Z) (hdr:d ≠ r) (hno:(g d).owner = false)
  (hx:rdp X g x) (hy:rdp X g y) (ex:rd X g x = .ref r p 0 k) (hg:g r = .t t0) (hrt:root g r p = some (.own e sz es)) (ey:elemsA g (rd X g y) = some news) (ht:sliOf X.P t = some (e,sz,by_,z))
  (hz:z.cells.size = sz) (hsz:0 < sz) (hnz:∀ t ∈ news,t.cells.length = sz) (hsz2:sizA g sz (rd X g y))
  (hflat:(news.flatMap T.cells).all T.flat = true) (hml:k + news.length ≤ 9223372036854775807) (hb:(k + news.length) * by_ ≤ 140737488355328) :
  Step X n Z g o (upd (turned g r p t0 .u) d (.t (.own e sz (es.take k ++ news)))) := by
 intro D gc v0 w0 tmps ds w hI next Q hnext
 obtain ⟨c,hf,hbd⟩ := hI.frm
 obtain ⟨hu,i,hi,his,hib,hiz⟩ := sliOf_spec ht
 subst his; subst hib
 have rx := rd_rep (ds := ds) hI.glob hf x hx
 rw [ex] at rx
 obtain ⟨_,t1,e',s,es',x0,h1,h2,h3,h4⟩ := rx
 rw [hg] at h1; cases h1
 have := root_of hg h2
 rw [hrt] at this; cases this
 have ry := rd_rep (ds := ds) hI.glob hf y hy
 obtain ⟨a0,cap,vals,hyv,hl,hone,hlen,hsrc⟩ := elems_rep hf ry ey hnz hsz2 hflat
 have hrun := fun xs (hown:w.ownsRow 0 e i.size (Act.eval ⟨tmps,ds⟩ x) k xs)=>run_app_sl (P := X.P) (ty := o.type) hu hi hiz hz hown (a0 := a0) (m := news.length) (c := cap) (news := vals) hlen hsz
  (by rcases hsrc with ⟨e,_⟩ | h; exact .inl (by rw [e]; rfl); exact .inr h) hone (by unfold maxLen; omega) hb
 have hrep := hf.rep r
 rw [hg] at hrep
 obtain ⟨dd,hdd,hle⟩ := h2.rep hrep
 obtain ⟨xs0,c00,ho0,_⟩ := owns_take hdd h4 (by omega)
 obtain ⟨v',w',q1,q2,q3,q4⟩ := hrun xs0 ho0
 refine wp_of_run (run_append ho (by rw [hyv]; exact q1)) ?_
 rw [hdst]
 refine hnext _ _ (append_core hI hf hbd hd hdr hno hg h2 h4 (by omega) hl hone hnz (fun xs hxs=>?_))
 obtain ⟨v2,w2,p1,p2,p3,p4⟩ := hrun xs hxs
 rw [q1] at p1; cases p1
 exact ⟨p2,p3,p4⟩
def encB (b:UInt8):T := .v (.int .u8 b.toNat)
theorem step_append_str {n:Nat} {Z:List Nat} {o:Oper} {x y:Operand} {t u e:TypeId} {by_:Nat} {z:Value} {r d k:Nat} {p:Option Nat} {t0:T} {es:List T} {s:ByteArray}
  (ho:o.op = .call { callee := .builtin .append,args := #[x,y],argTypes := #[t,u] }) (hdst:o.dst = some d) (hd:d < n ∧ d ∉ Z) (hdr:d ≠ r) (hno:(g d).owner = false)
  (hx:rdp X g x) (hy:rdp X g y) (ex:rd X g x = .ref r p 0 k) (hg:g r = .t t0) (hrt:root g r p = some (.own e 1 es)) (ey:rd X g y = .t (.v (.string s))) (ht:sliOf X.P t = some (e,1,1,.int .u8 0)) (hu:X.P.underlying u = some .string)
  (hb:k + (bl s).length ≤ 140737488355328) :
  Step X n Z g o (upd (turned g r p t0 .u) d (.t (.own e 1 (es.take k ++ (bl s).map encB)))) := by
 intro D gc v0 w0 tmps ds w hI next Q hnext
 obtain ⟨c,hf,hbd⟩ := hI.frm
 obtain ⟨hu',i,hi,his,hib,hiz⟩ := sliOf_spec ht
 have rx := rd_rep (ds := ds) hI.glob hf x hx
 rw [ex] at rx
 obtain ⟨_,t1,e',s',es',x0,h1,h2,h3,h4⟩ := rx
 rw [hg] at h1; cases h1
 have := root_of hg h2
 rw [hrt] at this; cases this
 have ry := rd_v (ds := ds) hI.glob hf hy ey
 have hrun := fun xs (hown:w.ownsRow 0 e 1 (Act.eval ⟨tmps,ds⟩ x) k xs)=>run_app_str (P := X.P) (ty := o.type) hu' hu hi hiz his hib hown s (by rw [length_bl] at hb; exact hb)
 have hrep := hf.rep r
 rw [hg] at hrep
 obtain ⟨dd,hdd,hle⟩ := h2.rep hrep
 obtain ⟨xs0,c00,ho0,_⟩ := owns_take hdd h4 (by omega)
 obtain ⟨v',w',q1,q2,q3,q4⟩ := hrun xs0 ho0
 refine wp_of_run (run_append ho (by rw [ry]; exact q1)) ?_
 rw [hdst]
 have hcells:∀ l:List UInt8,(l.map encB).flatMap T.cells = l.map encB := by
  intro l; induction l with
  | nil=>rfl
  | cons b bs ih=>rw [List.map_cons,List.flatMap_cons,ih]; rfl
 have hl:∀ l:List UInt8,LRep w (fun b => ∀ j,c j b = 0) (l.map encB) (l.map fun b=>Value.int .u8 b.toNat) (fun _=>0) := by
  intro l; induction l with
  | nil=>exact .nil _ (fun _=>rfl)
  | cons b bs ih=>exact .cons _ _ _ _ _ _ _ (.v _ _ (fun _=>rfl)) ih (fun _=>rfl)
 refine hnext _ _ (append_core hI hf hbd hd hdr hno hg h2 h4 (by omega) (vals := strCells s) (by rw [hcells]; exact hl _) (fun y hy=>Go.Lib.strCells_oneCell s y hy) (fun t ht=>by obtain ⟨b,_,rfl⟩ := List.mem_map.1 ht; rfl) (fun xs hxs=>?_))
 obtain ⟨v2,w2,p1,p2,p3,p4⟩ := hrun xs hxs
 rw [q1] at p1; cases p1
 rw [List.length_map,length_bl]
 exact ⟨p2,p3,p4⟩
end Go.Eng

/- An owner's place moved; cells stored; results' parts taken; what is owned given to all. -/
namespace Go.Eng
open Go.RowKit (Below)
set_option linter.unusedVariables false
set_option linter.unusedSimpArgs false
variable {X:Ctx} {g:Nat → A}
def redir (s d:Nat):A → A
 | .ref r q off len=>.ref (if r = s then d else r) q off len
 | .eptr r q i j=>.eptr (if r = s then d else r) q i j
 | .pref r q off=>.pref (if r = s then d else r) q off
 | .opt c a=>.opt c (redir s d a)
 | a=>a
theorem redir_ghost {s d:Nat} {a:A} (h:redir s d a = .ghost):a = .ghost := by
 cases a with
 | ghost=>rfl
 | t | sptr | opt | ref | eptr | pref=>cases h
def aliasT (d:Nat):T → A
 | .own _ _ es=>.ref d none 0 es.length
 | .box _ _=>.pref d none 0
 | _=>.t .u
def moved (g:Nat → A) (s d:Nat) (t:T):Nat → A := upd (upd (fun i=>redir s d (g i)) s (aliasT d t)) d (.t t)
theorem Frm.relocate {N:Nat} {w:World} {tmps:Array Value} {c:Nat → Cnt} (hf:Frm N w g tmps c) {s d:Nat} {t:T} (hsz:d < tmps.size) (hds:d ≠ s) (hno:(g d).owner = false) (hg:g s = .t t) :
  Frm N w (moved g s d t) (tmps.setIfInBounds d (tmps.getD s undef)) (upd (upd c s (fun _=>0)) d (c s)) := by
 have hsd:s ≠ d := fun e=>hds e.symm
 have hcv:∀ i b,upd (upd c s (fun _=>0)) d (c s) i b = if i = d then c s b else if i = s then 0 else c i b := by
  intro i b; unfold upd; split
  ·rfl
  ·split <;> rfl
 have hF:∀ b,(∀ j,c j b = 0) → ∀ j,upd (upd c s (fun _=>0)) d (c s) j b = 0 := fun b hz j=>by
  rw [hcv]; split
  ·exact hz s
  ·split
   ·rfl
   ·exact hz j
 have hrs := hf.rep s
 rw [hg] at hrs
 have hgd:moved g s d t d = .t t := upd_same _ _ _
 have hvd:(tmps.setIfInBounds d (tmps.getD s undef)).getD d undef = tmps.getD s undef := by rw [getD_set _ _ _ _ hsz,if_pos rfl]
 have hroot:∀ r t1,g r = .t t1 → A.owner (.t t1) = true → moved g s d t (if r = s then d else r) = .t t1 ∧ (tmps.setIfInBounds d (tmps.getD s undef)).getD (if r = s then d else r) undef = tmps.getD r undef := by
  intro r t1 hr ho
  by_cases hrs:r = s
  ·subst hrs; rw [if_pos rfl,hgd,hvd]; rw [hg] at hr; cases hr; exact ⟨rfl,rfl⟩
  ·have hrd:r ≠ d := by rintro rfl; rw [hr] at hno; rw [ho] at hno; cases hno
   rw [if_neg hrs,getD_set _ _ _ _ hsz,if_neg hrd]
   refine ⟨?_,rfl⟩
   unfold moved
   rw [upd_ne _ _ hrd,upd_ne _ _ hrs,hr]; rfl
 refine ⟨fun i=>?_,fun i b=>?_,fun i j b hi hj=>?_,fun i b hb=>?_⟩
 ·by_cases hi:i = d
  ·subst hi
   rw [hgd,upd_same,hvd]
   exact TRep.mono (fun b _ hz=>⟨hF b hz,rfl⟩) (Nat.le_refl _) hrs (fun _ _=>rfl)
  ·by_cases his:i = s
   ·subst his
    have e1:moved g i d t i = aliasT d t := by unfold moved; rw [upd_ne _ _ hi,upd_same]
    rw [e1,upd_ne _ _ hi,upd_same,getD_set _ _ _ _ hsz,if_neg hi]
    generalize hx:tmps.getD i undef = x at hrs hvd ⊢
    generalize c i = ci at hrs
    cases t with
    | own e sz es =>
     refine ⟨fun _=>rfl,_,e,sz,es,x,hgd,by rw [hvd]; exact ⟨rfl,rfl⟩,by omega,?_⟩
     cases hrs with
     | ownnil=>exact .inl ⟨rfl,rfl,rfl,rfl⟩
     | own _ _ _ b n cap cur c0 _ _ hn=>exact .inr ⟨b,n,cap,0,rfl,by rw [hn]; simp,Nat.zero_le _,fun _=>by simp⟩
    | box e cs =>
     cases hrs with
     | box _ _ b cur c0 _ _ _ _ _=>exact ⟨fun _=>rfl,_,e,cs,b,hgd,by rw [hvd]; exact ⟨rfl,rfl⟩,Nat.zero_le _,rfl⟩
    | _=>exact .u _ _ (fun _=>rfl)
   ·have e1:moved g s d t i = redir s d (g i) := by unfold moved; rw [upd_ne _ _ hi,upd_ne _ _ his]
    rw [e1,upd_ne _ _ hi,upd_ne _ _ his,getD_set _ _ _ _ hsz,if_neg hi]
    have h := hf.rep i
    generalize g i = a at h ⊢
    induction a with
    | opt q a ih=>exact ⟨h.1,fun hq=>ih (h.2.1 hq),h.2.2⟩
    | t t1=>exact TRep.mono (fun b _ hz=>⟨hF b hz,rfl⟩) (Nat.le_refl _) h (fun _ _=>rfl)
    | ref r q off len =>
     obtain ⟨hc,t1,e,sz,es,y0,k1,k2,k3,k4⟩ := h
     obtain ⟨q1,q2⟩ := hroot r t1 k1 (k2.owner rfl)
     exact ⟨hc,t1,e,sz,es,y0,q1,by rw [q2]; exact k2,k3,k4⟩
    | eptr r q i' j' =>
     obtain ⟨hc,t1,e,sz,es,b,n',cap,k1,k2,k3⟩ := h
     obtain ⟨q1,q2⟩ := hroot r t1 k1 (k2.owner rfl)
     exact ⟨hc,t1,e,sz,es,b,n',cap,q1,by rw [q2]; exact k2,k3⟩
    | pref r q off =>
     obtain ⟨hc,t1,e,cs,b,k1,k2,k3⟩ := h
     obtain ⟨q1,q2⟩ := hroot r t1 k1 (k2.owner rfl)
     exact ⟨hc,t1,e,cs,b,q1,by rw [q2]; exact k2,k3⟩
    | ghost=>exact h
    | sptr cs =>
     obtain ⟨hc,a,vals,h1,h2,h3,h4,h5,h6,h7⟩ := h
     exact ⟨hc,a,vals,h1,h2,hF _ h3,h4,h5,h6.mono (fun b _ hz=>⟨hF b hz,rfl⟩) (Nat.le_refl _) (fun b hb=>absurd hb (by simp)),h7⟩
 ·rw [hcv]
  have := hf.one s b; have := hf.one i b
  split
  ·omega
  ·split <;> omega
 ·rw [hcv] at hi hj
  by_cases i1:i = d <;> by_cases j1:j = d
  ·rw [i1,j1]
  ·rw [if_pos i1] at hi; rw [if_neg j1] at hj
   by_cases j2:j = s
   ·rw [if_pos j2] at hj; omega
   ·rw [if_neg j2] at hj; exact absurd (hf.uniq s j b hi hj).symm j2
  ·rw [if_pos j1] at hj; rw [if_neg i1] at hi
   by_cases i2:i = s
   ·rw [if_pos i2] at hi; omega
   ·rw [if_neg i2] at hi; exact absurd (hf.uniq s i b hj hi).symm i2
  ·rw [if_neg i1] at hi; rw [if_neg j1] at hj
   split at hi
   ·omega
   ·split at hj
    ·omega
    ·exact hf.uniq i j b hi hj
 ·rw [hcv] at hb
  split at hb
  ·exact hf.low s b hb
  ·split at hb
   ·omega
   ·exact hf.low i b hb
theorem Inv.relocate {n:Nat} {Z:List Nat} {D:Nat → Prop} {gc:Cnt} {v0:Nat → Value} {w0 w:World} {tmps:Array Value} (hI:Inv X n Z D gc v0 w0 g tmps w) {s d:Nat} {t:T} (hd:d < n) (hfix:∀ i ∈ Z,(tmps.setIfInBounds d (tmps.getD s undef)).getD i undef = tmps.getD i undef) (hds:d ≠ s) (hno:(g d).owner = false) (hg:g s = .t t) :
  Inv X n Z D gc v0 w0 (moved g s d t) (tmps.setIfInBounds d (tmps.getD s undef)) w := by
 obtain ⟨c,hf,hbd⟩ := hI.frm
 have hsz:d < tmps.size := by rw [hI.size]; exact hd
 have hfrm := hf.relocate hsz hds hno hg
 have hcv:∀ i b,upd (upd c s (fun _=>0)) d (c s) i b = if i = d then c s b else if i = s then 0 else c i b := by
  intro i b; unfold upd; split
  ·rfl
  ·split <;> rfl
 refine hI.step hf hbd hfrm (by simp) hfix rfl rfl rfl (Nat.le_refl _) (fun _ _=>.inl rfl) (fun i b hb hgi=>?_) (fun i hi=>?_)
 rotate_left
 ·by_cases hid:i = d
  ·subst hid; unfold moved at hi; rw [upd_same] at hi; cases hi
  ·by_cases his:i = s
   ·subst his; unfold moved at hi; rw [upd_ne _ _ hid,upd_same] at hi
    cases t <;> cases hi
   ·unfold moved at hi; rw [upd_ne _ _ hid,upd_ne _ _ his] at hi
    refine ⟨?_,fun b=>by rw [hcv,if_neg hid,if_neg his]⟩
    exact redir_ghost hi
 rw [hcv] at hb
 split at hb
 ·exact .inl ⟨s,hb,by rw [hg]; exact fun h=>by cases h⟩
 ·split at hb
  ·omega
  ·rename_i n1 n2
   refine .inl ⟨i,hb,fun e=>hgi ?_⟩
   unfold moved; rw [upd_ne _ _ n1,upd_ne _ _ n2,e]; rfl
theorem step_move {n:Nat} {Z:List Nat} {o:Oper} {s d:Nat} {t:T} (ho:o.op = .assign (.tmp s) ∨ o.op = .move (.tmp s)) (hdst:o.dst = some d) (hd:d < n ∧ d ∉ Z) (hds:d ≠ s) (hno:(g d).owner = false) (hg:g s = .t t):Step X n Z g o (moved g s d t) := by
 intro D gc v0 w0 tmps ds w hI next Q hnext
 refine wp_of_run (v := tmps.getD s undef) (by unfold execOp; rcases ho with ho | ho <;> (simp only [ho]; rfl)) ?_
 rw [hdst]
 exact hnext _ _ (hI.relocate hd.1 (fun i hi=>by rw [getD_set _ _ _ _ (by rw [hI.size]; exact hd.1),if_neg (by rintro rfl; exact hd.2 hi)]) hds hno hg)
theorem run_storeAt {P:Program} {w:World} {t:TypeId} {r:Bool} {m:Nat} (ht:tyRow P t = some (r,m)) {b o:Nat} {cur:Array Value} {e:TypeId} (hg:w.heap[b]? = some (.cells cur e (0,0))) {v:Value} (hv:v.cells.size = m) (hfit:o + m ≤ cur.size) (hone:∀ y ∈ v.cells.toList,y.oneCell' = true) :
  (Instr.storeAt t (.pointer (some ⟨b,o,none⟩)) v).run P w = .ok () (w.setRow b (placeT cur.toList o v.cells.toList).toArray) := by
 obtain ⟨d,i,hu,hi,_,his⟩ := tyRow_spec ht
 have hst := run_storeCells_at P b o e v.cells.toList 0 cur w hg (by rw [Array.length_toList,hv]; omega) hone
 rw [Nat.add_zero] at hst
 have hne:¬ (v.cells.size ≠ i.size) := by omega
 simp only [Instr.storeAt,Instr.sureAddr,Sem.run_bind,Sem.run_pure,Result.andThen_ok,storeVar,sizeOf,typeInfo,run_program,hi,if_neg hne,hst]
 rfl
theorem run_unit {P:Program} {s:Sem Unit} {w w':World} (h:s.run P w = .ok () w'):(do s; pure Next.skip:Sem Next).run P w = .ok .skip w' := by
 simp only [Sem.run_bind,h,Result.andThen_ok,Sem.run_pure]
theorem wp_of_skip {P:Program} {o:Oper} {a:Act} {w w':World} (h:(execOp a.eval o).run P w = .ok .skip w') {next:Act → World → Prop} {Q:Exit → Act → World → Prop} (hn:next (a.put o.dst undef) w'):o.wp P a w next Q := by
 unfold Oper.wp; rw [h]; exact hn
theorem placeT_get {α:Type} (cs ts:List α) (off k:Nat) (h:k < off ∨ off + ts.length ≤ k) (hl:off + ts.length ≤ cs.length):(placeT cs off ts)[k]? = cs[k]? := by
 unfold placeT
 have hm:(cs.take off).length = off := by rw [List.length_take]; omega
 rcases h with h | h
 ·rw [List.append_assoc,List.getElem?_append_left (by omega),List.getElem?_take,if_pos h]
 ·rw [List.getElem?_append_right (by rw [List.length_append,hm]; exact h),List.getElem?_drop,List.length_append,hm]
  congr 1; omega
theorem LRep.placed {w:World} {F:Nat → Prop} {cs ts:List T} {vs xs:List Value} {off:Nat} {c:Cnt} (h:LRep w F cs vs c) (k:LRep w F ts xs (fun _=>0)) (hfit:off + ts.length ≤ cs.length) (hfl:((cs.drop off).take ts.length).all T.flat = true):LRep w F (placeT cs off ts) (placeT vs off xs) c := by
 have e1:cs = cs.take off ++ cs.drop off := (List.take_append_drop off cs).symm
 rw [e1] at h
 obtain ⟨c1,c2,h1,h2,hc⟩ := h.split
 have hm:(cs.take off).length = off := by rw [List.length_take]; omega
 rw [hm] at h1 h2
 have e2:cs.drop off = (cs.drop off).take ts.length ++ (cs.drop off).drop ts.length := (List.take_append_drop _ _).symm
 rw [e2] at h2
 obtain ⟨d1,d2,k1,k2,hd⟩ := h2.split
 have hm2:((cs.drop off).take ts.length).length = ts.length := by rw [List.length_take,List.length_drop]; omega
 rw [hm2] at k1 k2
 have hz := all_zero hfl k1
 unfold placeT
 rw [List.drop_drop,List.drop_drop] at k2
 rw [← k.length]
 refine ((h1.append k (fun _=>rfl)).append (k2.count (c' := d2) (fun _=>rfl)) (fun b=>?_))
 rw [hc,hd,hz]; omega
def alike:T → T → Prop
 | .own e sz es,.own e' sz' es'=>e = e' ∧ sz = sz' ∧ es.length = es'.length
 | .box e cs,.box e' cs'=>e = e' ∧ cs.length = cs'.length
 | _,_=>False
theorem Frm.stored {N:Nat} {w:World} {tmps:Array Value} {c:Nat → Cnt} (h:Frm N w g tmps c) {r b:Nat} {arr:Array Value} {t0 t1:T} (hg:g r = .t t0) (hb:0 < c r b)
  (hrep:TRep (w.setRow b arr) (fun b => ∀ j,c j b = 0) t1 (tmps.getD r undef) (c r))
  (hlook:∀ q t2 x2,AtV w t0 (tmps.getD r undef) q t2 x2 → A.owner (.t t2) = true → ∃ t3,AtV (w.setRow b arr) t1 (tmps.getD r undef) q t3 x2 ∧ alike t2 t3) :
  Frm N (w.setRow b arr) (upd g r (.t t1)) tmps c := by
 have hS:w.heap.size ≤ (w.setRow b arr).heap.size := by simp [World.setRow]
 have hblk:∀ k,k ≠ b → (w.setRow b arr).heap[k]? = w.heap[k]? := fun k hk=>setRow_other w b k arr hk
 have hF:∀ k,k < w.heap.size → (∀ j,c j k = 0) → (∀ j,c j k = 0) ∧ (w.setRow b arr).heap[k]? = w.heap[k]? := fun k _ hz=>⟨hz,hblk k (fun e=>by have := hz r; rw [e] at this; omega)⟩
 have look:∀ r' t2 q t x',g r' = .t t2 → AtV w t2 (tmps.getD r' undef) q t x' → A.owner (.t t) = true → ∃ t3 t4,upd g r (.t t1) r' = .t t3 ∧ AtV (w.setRow b arr) t3 (tmps.getD r' undef) q t4 x' ∧ alike t t4 := by
  intro r' t2 q t x' hgr ha ho
  by_cases hrr:r' = r
  ·subst hrr
   rw [hg] at hgr; cases hgr
   obtain ⟨t3,k1,k2⟩ := hlook q t x' ha ho
   exact ⟨t1,t3,upd_same _ _ _,k1,k2⟩
  ·refine ⟨t2,t,by rw [upd_ne _ _ hrr]; exact hgr,?_,?_⟩
   ·have hr2 := h.rep r'
    rw [hgr] at hr2
    exact ha.mono hr2 (fun k hk=>hblk k (fun e=>hrr (h.uniq r' r k hk (by rw [e]; exact hb))))
   ·cases t <;> first | (exact ⟨rfl,rfl,rfl⟩) | (exact ⟨rfl,rfl⟩) | cases ho
 refine ⟨fun i=>?_,h.one,h.uniq,h.low⟩
 by_cases hir:i = r
 ·subst hir; rw [upd_same]; exact hrep
 ·rw [upd_ne _ _ hir]
  have hK:∀ k,0 < c i k → (w.setRow b arr).heap[k]? = w.heap[k]? := fun k hk=>hblk k (fun e=>hir (h.uniq i r k hk (by rw [e]; exact hb)))
  have hi := h.rep i
  generalize g i = a at hi ⊢
  induction a with
  | opt q a ih=>exact ⟨hi.1,fun hq=>ih (hi.2.1 hq),hi.2.2⟩
  | t t=>exact TRep.mono hF hS hi hK
  | ref r' q off len =>
   obtain ⟨hc,t2,e,sz,es,y0,k1,k2,k3,k4⟩ := hi
   obtain ⟨t3,t4,q1,q2,q3⟩ := look r' t2 q _ y0 k1 k2 rfl
   cases t4 with
   | own e' sz' es'=>obtain ⟨rfl,rfl,q3⟩ := q3; exact ⟨hc,t3,e,sz,es',y0,q1,q2,by rw [← q3]; exact k3,k4⟩
   | _=>exact q3.elim
  | eptr r' q i' j' =>
   obtain ⟨hc,t2,e,sz,es,b',n',cap,k1,k2,k3,k4⟩ := hi
   obtain ⟨t3,t4,q1,q2,q3⟩ := look r' t2 q _ _ k1 k2 rfl
   cases t4 with
   | own e' sz' es'=>obtain ⟨rfl,rfl,q3⟩ := q3; exact ⟨hc,t3,e,sz,es',b',n',cap,q1,q2,by rw [← q3]; exact k3,k4⟩
   | _=>exact q3.elim
  | pref r' q off =>
   obtain ⟨hc,t2,e,cs,b',k1,k2,k3,k4⟩ := hi
   obtain ⟨t3,t4,q1,q2,q3⟩ := look r' t2 q _ _ k1 k2 rfl
   cases t4 with
   | box e' cs'=>obtain ⟨rfl,q3⟩ := q3; exact ⟨hc,t3,e,cs',b',q1,q2,by rw [← q3]; exact k3,k4⟩
   | _=>exact q3.elim
  | ghost=>exact fun k hk=>Nat.lt_of_lt_of_le (hi k hk) hS
  | sptr cs =>
   obtain ⟨hc,a,vals,h1,h2,h3,h4,h5,h6,h7⟩ := hi
   refine ⟨hc,a,vals,h1,h2,h3,Nat.lt_of_lt_of_le h4 hS,fun k y hk=>?_,h6.mono hF hS (fun b hb=>absurd hb (by simp)),h7⟩
   rw [cell_eq_of_block (w := w) (by rw [block_add]; exact (hF _ h4 h3).2)]
   exact h5 k y hk
theorem setRow_world (w:World) (b:Nat) (arr:Array Value):(w.setRow b arr).os = w.os ∧ (w.setRow b arr).tape = w.tape ∧ (w.setRow b arr).output = w.output ∧ (w.setRow b arr).heap.size = w.heap.size := ⟨rfl,rfl,rfl,by simp [World.setRow]⟩
theorem step_stored {n:Nat} {Z:List Nat} {o:Oper} {r b:Nat} {arr:Array Value} {t1:T} {D:Nat → Prop} {gc:Cnt} {v0:Nat → Value} {w0 w:World} {tmps:Array Value} {ds:List Deferred} (hdst:o.dst = none) (hI:Inv X n Z D gc v0 w0 g tmps w) {c:Nat → Cnt} (hf:Frm X.N w g tmps c) (hbd:(∀ i b,0 < c i b → g i ≠ .ghost → D b ∨ w0.heap.size ≤ b) ∧ ∀ i,g i = .ghost → ∀ b,c i b = gc b) (hb:0 < c r b) (hrg:g r ≠ .ghost)
  (hrun:(execOp (Act.eval ⟨tmps,ds⟩) o).run X.P w = .ok .skip (w.setRow b arr)) (hfrm:Frm X.N (w.setRow b arr) (upd g r (.t t1)) tmps c)
  {next:Act → World → Prop} {Q:Exit → Act → World → Prop} (hnext:∀ tmps' w',Inv X n Z D gc v0 w0 (upd g r (.t t1)) tmps' w' → next ⟨tmps',ds⟩ w'):o.wp X.P ⟨tmps,ds⟩ w next Q := by
 refine wp_of_skip hrun ?_
 rw [hdst]
 obtain ⟨e1,e2,e3,e4⟩ := setRow_world w b arr
 refine hnext _ _ (hI.step hf hbd hfrm rfl (fun _ _=>rfl) e1 e2 e3 (by rw [e4]; exact Nat.le_refl _) (fun k hk=>?_) (fun i b hb hgi=>.inl ⟨i,hb,fun e=>?_⟩) (fun i hi=>?_))
 rotate_left
 ·by_cases hir:i = r
  ·subst hir; exact hrg e
  ·rw [upd_ne _ _ hir] at hgi; exact hgi e
 ·by_cases hir:i = r
  ·subst hir; rw [upd_same] at hi; cases hi
  ·rw [upd_ne _ _ hir] at hi; exact ⟨hi,fun _=>rfl⟩
 by_cases e:k = b
 ·subst e; exact .inr ⟨r,hb,hrg⟩
 ·exact .inl (setRow_other w b k arr e)
theorem step_store_box {n:Nat} {Z:List Nat} {o:Oper} {t e:TypeId} {a v:Operand} {r off m:Nat} {rw_:Bool} {cs:List T} {tv:T} (ho:o.op = .store t a v) (hdst:o.dst = none) (ha:rdp X g a) (hv:rdp X g v) (ea:rd X g a = .pref r none off) (hg:g r = .t (.box e cs)) (ev_:rd X g v = .t tv)
  (hs:tv.solid = true) (ht:tyRow X.P t = some (rw_,m)) (hm:tv.cells.length = m) (hfit:off + m ≤ cs.length) (hfl:((cs.drop off).take m).all T.flat = true) :
  Step X n Z g o (upd g r (.t (.box e (placeT cs off tv.cells)))) := by
 intro D gc v0 w0 tmps ds w hI next Q hnext
 obtain ⟨c,hf,hbd⟩ := hI.frm
 have ra := rd_rep (ds := ds) hI.glob hf a ha
 rw [ea] at ra
 obtain ⟨_,t0,e',cs',b,h1,h2,h3,h4⟩ := ra
 rw [hg] at h1; cases h1
 obtain ⟨h5,h6⟩ := h2
 cases h5
 have rv := rd_rep (ds := ds) hI.glob hf v hv
 rw [ev_] at rv
 obtain ⟨k1,k2⟩ := TRep.solid rv hs
 have hr := hf.rep r
 rw [hg,← h6] at hr
 generalize hcr:c r = cr at hr
 cases hr with
 | box _ _ _ cur c0 _ hgb hl hone hc =>
  have hcur:cur.size = cs.length := by have := hl.length; simpa using this.symm
  have hvc:(Act.eval ⟨tmps,ds⟩ v).cells.size = m := by have := k1.length; rw [hm] at this; simpa using this.symm
  have hbp:0 < c r b := by rw [hcr,hc]; simp; omega
  have hgb':(w.setRow b (placeT cur.toList off (Act.eval ⟨tmps,ds⟩ v).cells.toList).toArray).heap[b]? = some (.cells (placeT cur.toList off (Act.eval ⟨tmps,ds⟩ v).cells.toList).toArray e (0,0)) := setRow_heap w b cur _ e _ hgb
  have hF:∀ k,k < w.heap.size → (∀ j,c j k = 0) → (∀ j,c j k = 0) ∧ (w.setRow b (placeT cur.toList off (Act.eval ⟨tmps,ds⟩ v).cells.toList).toArray).heap[k]? = w.heap[k]? := fun k _ hz=>⟨hz,setRow_other w b k _ (fun e=>by have := hz r; rw [e] at this; omega)⟩
  have hS:w.heap.size ≤ (w.setRow b (placeT cur.toList off (Act.eval ⟨tmps,ds⟩ v).cells.toList).toArray).heap.size := by simp [World.setRow]
  refine step_stored (b := b) (arr := (placeT cur.toList off (Act.eval ⟨tmps,ds⟩ v).cells.toList).toArray) hdst hI hf hbd hbp (by rw [hg]; exact fun h=>by cases h) ?_ (hf.stored hg hbp ?_ ?_) hnext
  ·unfold execOp; simp only [ho,h4]
   exact run_unit (run_storeAt (o := off) ht hgb hvc (by omega) k2)
  ·rw [← h6,hcr]
   refine .box e _ b _ c0 _ hgb' ?_ ?_ hc
   ·have hpl := hl.placed (off := off) k1 (by rw [hm]; omega) (by rw [hm]; exact hfl)
    refine hpl.mono hF hS (fun k hk=>setRow_other w b k _ (fun e=>?_))
    have h1 := hf.one r b
    rw [hcr,hc] at h1; simp at h1
    rw [e] at hk; omega
   ·intro y hy
    rcases mem_placeT hy with hy | hy
    ·exact hone y hy
    ·exact k2 y hy
  ·intro q t2 x2 hat ho2
   rw [← h6] at hat ⊢
   cases q with
   | none =>
    obtain ⟨rfl,rfl⟩ := hat
    exact ⟨_,⟨rfl,rfl⟩,rfl,by rw [placeT_length _ _ _ (by omega)]⟩
   | some k =>
    rcases hat with ⟨e',cs',b',cur',hh,hx,hgb2,q1,q2⟩ | ⟨_,_,_,_,_,_,hh,_⟩
    ·cases hh; cases hx
     rw [hgb] at hgb2; cases hgb2
     have hk:k < off ∨ off + m ≤ k := by
      rcases Nat.lt_or_ge k off with h | h
      ·exact .inl h
      ·rcases Nat.lt_or_ge k (off + m) with h' | h'
       ·exfalso
        have:t2.flat = true := List.all_eq_true.1 hfl t2 (by
         apply List.mem_of_getElem? (i := k - off)
         rw [List.getElem?_take,if_pos (by omega),List.getElem?_drop,show off + (k - off) = k by omega]; exact q1)
        exact absurd ho2 (by cases t2 <;> simp_all [A.owner,T.flat])
       ·exact .inr h'
     refine ⟨t2,.inl ⟨e,_,b,_,rfl,rfl,hgb',?_,?_⟩,?_⟩
     ·rw [placeT_get _ _ _ _ (by rw [hm]; exact hk) (by omega)]; exact q1
     ·have hlen:(Act.eval ⟨tmps,ds⟩ v).cells.toList.length = m := by rw [Array.length_toList]; exact hvc
      rw [List.getElem?_toArray,placeT_get _ _ _ _ (by rw [hlen]; exact hk) (by rw [hlen,Array.length_toList]; omega),Array.getElem?_toList]; exact q2
     ·cases t2 <;> first | (exact ⟨rfl,rfl,rfl⟩) | (exact ⟨rfl,rfl⟩) | (exact absurd ho2 (by simp [A.owner]))
    ·cases hh
def elemPut (t:T) (j:Nat) (ts:List T):T :=
 match t with
 | .ag cs=>.ag (placeT cs j ts)
 | _=>ts.headD .u
theorem flatMap_set {sz:Nat}:∀ (es:List T) (i:Nat) (t t':T),(∀ t ∈ es,t.cells.length = sz) → es[i]? = some t → t'.cells.length = sz →
  (es.set i t').flatMap T.cells = placeT (es.flatMap T.cells) (i * sz) t'.cells
 | [],i,t,t',_,h,_=>by simp at h
 | x :: xs,0,t,t',hz,h,ht=>by
  have h0 := hz x (by simp)
  simp only [List.set_cons_zero,List.flatMap_cons,placeT,Nat.zero_mul,List.take_zero,List.nil_append,Nat.zero_add]
  rw [ht,← h0,List.drop_left]
 | x :: xs,i + 1,t,t',hz,h,ht=>by
  have h0 := hz x (by simp)
  have ih := flatMap_set xs i t t' (fun t ht=>hz t (by simp [ht])) (by simpa using h) ht
  simp only [List.set_cons_succ,List.flatMap_cons,ih,placeT]
  rw [show (i + 1) * sz = x.cells.length + i * sz by rw [Nat.succ_mul,h0]; omega,List.take_length_add_append,show x.cells.length + i * sz + t'.cells.length = x.cells.length + (i * sz + t'.cells.length) by omega,List.drop_length_add_append]
  simp
theorem placeT_placeT {α:Type} (cs ds ts:List α) (o j:Nat) (hd:o + ds.length ≤ cs.length) (hds:ds = (cs.drop o).take ds.length) (hj:j + ts.length ≤ ds.length):placeT cs o (placeT ds j ts) = placeT cs (o + j) ts := by
 have hl := placeT_length ds j ts hj
 apply List.ext_getElem?
 intro k
 have hget:∀ m,m < ds.length → ds[m]? = cs[o + m]? := fun m hm=>by
  rw [hds,List.getElem?_take,if_pos hm,List.getElem?_drop]
 by_cases h1:k < o + j ∨ o + j + ts.length ≤ k
 ·rw [placeT_get cs ts (o + j) k h1 (by omega)]
  by_cases h2:k < o ∨ o + (placeT ds j ts).length ≤ k
  ·rw [placeT_get _ _ _ _ h2 (by omega)]
  ·have e:(placeT cs o (placeT ds j ts))[k]? = (placeT ds j ts)[k - o]? := by
    unfold placeT
    rw [List.append_assoc,List.getElem?_append_right (by rw [List.length_take]; omega),List.length_take,Nat.min_eq_left (by omega)]
    rw [List.getElem?_append_left (by have := hl; unfold placeT at this; omega)]
   rw [e,placeT_get ds ts j (k - o) (by omega) hj,hget _ (by omega)]
   congr 1; omega
 ·have e:∀ (cs:List α) (o:Nat) (ts:List α) (k:Nat),o ≤ k → k < o + ts.length → o + ts.length ≤ cs.length → (placeT cs o ts)[k]? = ts[k - o]? := by
   intro cs o ts k h1 h2 h3
   unfold placeT
   rw [List.append_assoc,List.getElem?_append_right (by rw [List.length_take]; omega),List.length_take,Nat.min_eq_left (by omega),List.getElem?_append_left (by omega)]
  rw [e cs (o + j) ts k (by omega) (by omega) (by omega),e cs o _ k (by omega) (by omega) (by omega),e ds j ts (k - o) (by omega) (by omega) hj]
  congr 1; omega
theorem cells_take {sz:Nat}:∀ (es:List T) (i:Nat) (t:T),(∀ t ∈ es,t.cells.length = sz) → es[i]? = some t → t.cells = ((es.flatMap T.cells).drop (i * sz)).take sz ∧ i * sz + sz ≤ (es.flatMap T.cells).length
 | [],i,t,_,h=>by simp at h
 | x :: xs,0,t,hz,h=>by
  have h0 := hz x (by simp)
  simp at h; subst h
  simp [← h0]
 | x :: xs,i + 1,t,hz,h=>by
  have h0 := hz x (by simp)
  obtain ⟨k1,k2⟩ := cells_take xs i t (fun t ht=>hz t (by simp [ht])) (by simpa using h)
  rw [List.flatMap_cons,show (i + 1) * sz = x.cells.length + i * sz by rw [Nat.succ_mul,h0]; omega,List.drop_length_add_append,List.length_append]
  exact ⟨k1,by omega⟩
theorem placeT_take {α:Type} (l ts:List α) (o n:Nat) (h:o + ts.length ≤ n) (hn:n ≤ l.length):(placeT l o ts).take n = placeT (l.take n) o ts := by
 unfold placeT
 have h1:(l.take o ++ ts).length = o + ts.length := by rw [List.length_append,List.length_take,Nat.min_eq_left (by omega)]
 rw [List.take_append,h1,List.take_of_length_le (by rw [h1]; exact h),List.take_take,Nat.min_eq_left (by omega),List.drop_take]
theorem step_store_elem {n:Nat} {Z:List Nat} {o:Oper} {t e:TypeId} {a v:Operand} {r i j m sz:Nat} {rw_:Bool} {es:List T} {tv el:T} (ho:o.op = .store t a v) (hdst:o.dst = none) (ha:rdp X g a) (hv:rdp X g v) (ea:rd X g a = .eptr r none i j) (hg:g r = .t (.own e sz es)) (ev_:rd X g v = .t tv)
  (hs:tv.solid = true) (ht:tyRow X.P t = some (rw_,m)) (hm:tv.cells.length = m) (hel:es[i]? = some el) (hfit:j + m ≤ sz) (hfl:((el.cells.drop j).take m).all T.flat = true) (hput:(elemPut el j tv.cells).cells = placeT el.cells j tv.cells) :
  Step X n Z g o (upd g r (.t (.own e sz (es.set i (elemPut el j tv.cells))))) := by
 intro D gc v0 w0 tmps ds w hI next Q hnext
 obtain ⟨c,hf,hbd⟩ := hI.frm
 have ra := rd_rep (ds := ds) hI.glob hf a ha
 rw [ea] at ra
 obtain ⟨_,t0,e',sz',es',b,nn,cap,h1,h2,h3,h3',h4⟩ := ra
 rw [hg] at h1; cases h1
 obtain ⟨h5,h6⟩ := h2
 cases h5
 have rv := rd_rep (ds := ds) hI.glob hf v hv
 rw [ev_] at rv
 obtain ⟨k1,k2⟩ := TRep.solid rv hs
 have hr := hf.rep r
 rw [hg,← h6] at hr
 generalize hcr:c r = cr at hr
 cases hr with
 | own _ _ _ _ _ _ cur c0 _ hgb hn hcap hmx hcur hz hl hone hc =>
  obtain ⟨q1,q2⟩ := cells_take es i el hz hel
  have helen := hz el (List.mem_of_getElem? hel)
  have hflen:(es.flatMap T.cells).length = nn * sz := by
   have h0 := hl.length
   have h1:cur.toList.length = cap * sz := by rw [Array.length_toList,hcur]
   rw [List.length_take,h1,Nat.min_eq_left (Nat.mul_le_mul_right _ hcap)] at h0; exact h0
  have hle2:nn * sz ≤ cap * sz := Nat.mul_le_mul_right _ hcap
  have hvc:(Act.eval ⟨tmps,ds⟩ v).cells.size = m := by have := k1.length; rw [hm] at this; simpa using this.symm
  have hvl:(Act.eval ⟨tmps,ds⟩ v).cells.toList.length = m := by rw [Array.length_toList]; exact hvc
  have hbp:0 < c r b := by rw [hcr,hc]; simp; omega
  have hfit2:i * sz + j + m ≤ cur.size := by rw [hcur]; omega
  generalize harr:(placeT cur.toList (i * sz + j) (Act.eval ⟨tmps,ds⟩ v).cells.toList).toArray = arr
  have harrl:arr.toList = placeT cur.toList (i * sz + j) (Act.eval ⟨tmps,ds⟩ v).cells.toList := by rw [← harr]
  have hgb':(w.setRow b arr).heap[b]? = some (.cells arr e (0,0)) := setRow_heap w b cur _ e _ hgb
  have hF:∀ k,k < w.heap.size → (∀ j,c j k = 0) → (∀ j,c j k = 0) ∧ (w.setRow b arr).heap[k]? = w.heap[k]? := fun k _ hz=>⟨hz,setRow_other w b k _ (fun e=>by have := hz r; rw [e] at this; omega)⟩
  have hS:w.heap.size ≤ (w.setRow b arr).heap.size := by simp [World.setRow]
  have hz':∀ t ∈ es.set i (elemPut el j tv.cells),t.cells.length = sz := fun t ht=>by
   rcases List.mem_or_eq_of_mem_set ht with ht | ht
   ·exact hz t ht
   ·rw [ht,hput,placeT_length _ _ _ (by omega)]; exact helen
  have hcells:(es.set i (elemPut el j tv.cells)).flatMap T.cells = placeT (es.flatMap T.cells) (i * sz + j) tv.cells := by
   rw [flatMap_set es i el _ hz hel (by rw [hput,placeT_length _ _ _ (by omega)]; exact helen),hput,placeT_placeT _ _ _ _ _ (by omega) (by rw [helen]; exact q1) (by omega)]
  have htake:arr.toList.take (nn * sz) = placeT (cur.toList.take (nn * sz)) (i * sz + j) (Act.eval ⟨tmps,ds⟩ v).cells.toList := by
   rw [harrl]
   exact placeT_take _ _ _ _ (by rw [hvl]; omega) (by rw [Array.length_toList,hcur]; exact hle2)
  have harrs:arr.size = cap * sz := by
   have:arr.toList.length = cur.size := by rw [harrl,placeT_length _ _ _ (by rw [hvl,Array.length_toList]; exact hfit2),Array.length_toList]
   rw [Array.length_toList] at this; rw [this,hcur]
  refine step_stored (b := b) (arr := arr) hdst hI hf hbd hbp (by rw [hg]; exact fun h=>by cases h) ?_ (hf.stored hg hbp ?_ ?_) hnext
  ·unfold execOp; simp only [ho,h4]
   rw [← harr]
   exact run_unit (run_storeAt (o := i * sz + j) ht hgb hvc hfit2 k2)
  ·rw [← h6,hcr]
   refine .own e sz _ b nn cap arr c0 _ hgb' (by rw [List.length_set]; exact hn) hcap hmx harrs hz' ?_ ?_ hc
   ·rw [hcells,htake]
    have hpl := hl.placed (off := i * sz + j) k1 (by rw [hm]; omega) (by
     rw [hm]
     have e1:((es.flatMap T.cells).drop (i * sz + j)).take m = (el.cells.drop j).take m := by
      rw [q1,List.drop_take,List.drop_drop,List.take_take,Nat.min_eq_left (by omega)]
     rw [e1]; exact hfl)
    refine hpl.mono hF hS (fun k hk=>setRow_other w b k _ (fun e=>?_))
    have h1 := hf.one r b
    rw [hcr,hc] at h1; simp at h1
    rw [e] at hk; omega
   ·rw [htake]
    intro y hy
    rcases mem_placeT hy with hy | hy
    ·exact hone y hy
    ·exact k2 y hy
  ·intro q t2 x2 hat ho2
   rw [← h6] at hat ⊢
   cases q with
   | none =>
    obtain ⟨rfl,rfl⟩ := hat
    exact ⟨_,⟨rfl,rfl⟩,rfl,rfl,by rw [List.length_set]⟩
   | some k =>
    rcases hat with ⟨_,_,_,_,hh,_⟩ | ⟨e',es',b',n',cap',cur',hh,hx,hgb2,p1,p2,p3,p4,p5⟩
    ·cases hh
    ·cases hh; cases hx
     rw [hgb] at hgb2; cases hgb2
     have hm1:m ≤ 1 := by omega
     have hel1:el.cells = [el] := p3 el (List.mem_of_getElem? hel)
     have hnag:∀ cs,el ≠ .ag cs := by
      rintro cs rfl
      have h0:cs = [T.ag cs] := hel1
      have := congrArg (SizeOf.sizeOf:List T → Nat) h0
      simp at this
      omega
     have hput2:elemPut el j tv.cells = tv.cells.headD .u := by
      cases el <;> first | rfl | exact absurd rfl (hnag _)
     rw [hput2,hel1] at hput
     have hsel:(tv.cells.headD .u).cells = [tv.cells.headD .u] ∧ (m = 0 → el = .u) := by
      cases htv:tv.cells with
      | nil =>
       refine ⟨rfl,fun _=>?_⟩
       rw [htv] at hput
       have h0:placeT [el] j ([]:List T) = [el] := by unfold placeT; simp
       rw [h0] at hput
       exact (List.cons.inj hput).1.symm
      | cons c0 rest =>
       rw [htv] at hm hput
       simp only [List.length_cons] at hm
       have h1:rest = [] := List.eq_nil_of_length_eq_zero (by omega)
       subst h1
       have hj:j = 0 := by simp at hm; omega
       subst hj
       exact ⟨hput,fun h=>by omega⟩
     have hk:k ≠ i := by
      rintro rfl
      rw [p1] at hel; cases hel
      rcases Nat.eq_zero_or_pos m with h | h
      ·rw [hsel.2 h] at ho2; cases ho2
      ·have hj:j = 0 := by omega
       subst hj
       rw [hel1,show m = 1 by omega] at hfl
       simp at hfl
       exact absurd ho2 (by cases el <;> simp_all [A.owner,T.flat])
     refine ⟨t2,.inr ⟨e,_,b,nn,cap,arr,rfl,rfl,hgb',by rw [List.getElem?_set_ne (fun e=>hk e.symm)]; exact p1,p2,fun t ht=>?_,p4,?_⟩,?_⟩
     ·rcases List.mem_or_eq_of_mem_set ht with ht | ht
      ·exact p3 t ht
      ·rw [ht,hput2]; exact hsel.1
     ·rw [← Array.getElem?_toList,harrl,placeT_get _ _ _ _ (by rw [hvl]; omega) (by rw [hvl,Array.length_toList]; exact hfit2),Array.getElem?_toList]; exact p5
     ·cases t2 <;> first | (exact ⟨rfl,rfl,rfl⟩) | (exact ⟨rfl,rfl⟩) | (exact absurd ho2 (by simp [A.owner]))
end Go.Eng

/- Parts of results, sharing, forgetting; calls. -/
namespace Go.Eng
open Go.RowKit (Below)
set_option linter.unusedVariables false
set_option linter.unusedSimpArgs false
variable {X:Ctx} {g:Nat → A}
def A.at:A → Option Nat
 | .ref r _ _ _ | .eptr r _ _ _ | .pref r _ _=>some r
 | .opt _ a=>a.at
 | _=>none
def Less (g' g:Nat → A):Prop := ∀ i,(g' i = g i ∧ ∀ r,(g i).at = some r → g' r = g r) ∨ (g' i = .t .u ∧ g i ≠ .ghost)
theorem Inv.less {n:Nat} {Z:List Nat} {D:Nat → Prop} {gc:Cnt} {v0:Nat → Value} {w0 w:World} {g':Nat → A} {tmps:Array Value} (h:Inv X n Z D gc v0 w0 g tmps w) (hl:Less g' g):Inv X n Z D gc v0 w0 g' tmps w := by
 obtain ⟨c,hf,hb⟩ := h.frm
 have:∃ P:Nat → Bool,∀ i,(P i = true → g' i = g i ∧ ∀ r,(g i).at = some r → g' r = g r) ∧ (P i = false → g' i = .t .u ∧ g i ≠ .ghost) := by
  refine ⟨fun i=>@decide (g' i = g i ∧ ∀ r,(g i).at = some r → g' r = g r) (Classical.propDecidable _),fun i=>⟨fun e=>?_,fun e=>?_⟩⟩
  ·simpa using e
  ·rcases hl i with h | h
   ·simp [h.1] at e; obtain ⟨r,k1,k2⟩ := e; exact absurd (h.2 r k1) k2
   ·exact h
 obtain ⟨P,hP⟩ := this
 have hF:∀ b,(∀ j,c j b = 0) → ∀ j,(if P j = true then c j b else 0) = 0 := fun b hz j=>by split; exact hz j; rfl
 have hfrm:Frm X.N w g' tmps (fun i b=>if P i = true then c i b else 0) := by
  refine ⟨fun i=>?_,fun i b=>?_,fun i j b hi hj=>?_,fun i b hi=>?_⟩
  ·cases hPi:P i with
   | false =>
    rw [((hP i).2 hPi).1]
    exact .u _ _ (fun _=>rfl)
   | true =>
    obtain ⟨e1,e2⟩ := (hP i).1 hPi
    simp only [if_true]
    have hr := hf.rep i
    rw [e1]
    clear e1
    generalize g i = a at hr e2
    induction a with
    | opt q a ih=>exact ⟨hr.1,fun hq=>ih (hr.2.1 hq) e2,hr.2.2⟩
    | t t=>exact TRep.mono (fun b _ hz=>⟨hF b hz,rfl⟩) (Nat.le_refl _) hr (fun _ _=>rfl)
    | ref r q off len=>obtain ⟨hc,t0,e,sz,es,x0,k1,k2⟩ := hr; exact ⟨hc,t0,e,sz,es,x0,by rw [e2 r rfl]; exact k1,k2⟩
    | eptr r q i j=>obtain ⟨hc,t0,e,sz,es,b,n,cap,k1,k2⟩ := hr; exact ⟨hc,t0,e,sz,es,b,n,cap,by rw [e2 r rfl]; exact k1,k2⟩
    | pref r q off=>obtain ⟨hc,t0,e,cs,b,k1,k2⟩ := hr; exact ⟨hc,t0,e,cs,b,by rw [e2 r rfl]; exact k1,k2⟩
    | sptr cs =>
     obtain ⟨hc,a,vals,h1,h2,h3,h4,h5,h6,h7⟩ := hr
     exact ⟨hc,a,vals,h1,h2,hF _ h3,h4,h5,h6.mono (fun b _ hz=>⟨hF b hz,rfl⟩) (Nat.le_refl _) (fun b hb=>absurd hb (by simp)),h7⟩
    | ghost=>exact hr
  ·split; exact hf.one i b; omega
  ·split at hi
   ·split at hj
    ·exact hf.uniq i j b hi hj
    ·omega
   ·omega
  ·split at hi
   ·exact hf.low i b hi
   ·omega
 refine h.step hf hb hfrm rfl (fun _ _=>rfl) rfl rfl rfl (Nat.le_refl _) (fun _ _=>.inl rfl) (fun i b hi hg=>?_) (fun i hi=>?_)
 rotate_left
 ·cases hPi:P i with
  | false=>rw [((hP i).2 hPi).1] at hi; cases hi
  | true=>exact ⟨by rw [← ((hP i).1 hPi).1]; exact hi,fun b=>by simp⟩
 split at hi
 ·rename_i hPi
  exact .inl ⟨i,hi,by rw [← ((hP i).1 hPi).1]; exact hg⟩
 ·omega
theorem View.sl {w:World} {F:Nat → Prop} {e:TypeId} {sz off len:Nat} {es:List T} {x0 x:Value} {c:Cnt} (h:TRep w F (.own e sz es) x0 c) (hv:View sz off len x0 x) (hle:off + len ≤ es.length) :
  TRep w (fun b=>F b ∨ 0 < c b) (.sl sz (cut (es.map T.fz) off (off + len))) x (fun _=>0) := by
 have hfz := h.fz (F' := fun b=>F b ∨ 0 < c b) (fun b _ h=>.inl h) (fun b h=>.inr h)
 have hcl:(cut (es.map T.fz) off (off + len)).length = len := by rw [cut_length _ _ _ (by rw [List.length_map]; exact hle)]; omega
 rcases hv with ⟨rfl,rfl,rfl,rfl⟩ | ⟨b,n,cap,o,rfl,rfl,hoc,ho⟩
 ·have:cut (es.map T.fz) 0 (0 + 0) = [] := List.eq_nil_of_length_eq_zero hcl
  rw [this]; exact .slnil _ _ _ _ (fun _=>rfl)
 ·by_cases hpos:0 < len
  ·have e1:o = off * sz := ho (.inl hpos)
   simp only [T.fz,fzAll_eq] at hfz
   have hncap:n = es.length ∧ n ≤ cap := by cases h with | own _ _ _ _ _ _ cur c0 _ hg hn hcap=>exact ⟨hn,hcap⟩
   generalize hes:es.map T.fz = es2 at hfz hcl
   have hes2:es2.length = es.length := by rw [← hes,List.length_map]
   cases hfz with
   | slnil=>simp at hes2; omega
   | sl _ _ _ _ _ vals c0 _ hn hcap hF hb hs hv hz hl hone hc0 hc =>
    obtain ⟨d,k1,k2⟩ := row_drop hl hz off (off + len) (by omega) (by omega)
    rw [show off + len - off = len by omega] at k1
    refine .sl sz _ ⟨b,o,none⟩ len (cap - off) _ d _ hcl.symm (by omega) hF hb rfl (fun k y hk=>?_) (fun t ht=>hz t (List.mem_of_mem_take (List.mem_of_mem_drop ht))) k1 (fun y hy=>hone y (List.mem_of_mem_drop (List.mem_of_mem_take hy))) (fun b=>by have := k2 b; rw [hc0] at this; omega) (fun _=>rfl)
    rw [List.getElem?_take] at hk
    split at hk
    ·rw [List.getElem?_drop] at hk
     have := hv _ _ hk
     rw [addr_add,Nat.zero_add] at this
     rw [addr_add,e1]; exact this
    ·cases hk
  ·have h0:len = 0 := by omega
   subst h0
   have:cut (es.map T.fz) off (off + 0) = [] := List.eq_nil_of_length_eq_zero hcl
   rw [this]; exact .slnil _ _ _ _ (fun _=>rfl)
def shareA (r:Nat) (sz:Nat) (es:List T):A → A
 | .ref r' q off len=>if r' = r then (if q = none then .t (.sl sz (cut (es.map T.fz) off (off + len))) else .t .u) else .ref r' q off len
 | .eptr r' q i j=>if r' = r then .t .u else .eptr r' q i j
 | .pref r' q off=>if r' = r then .t .u else .pref r' q off
 | .opt c a=>.opt c (shareA r sz es a)
 | a=>a
theorem shareA_ghost {r sz:Nat} {es:List T} {a:A} (h:shareA r sz es a = .ghost):a = .ghost := by
 cases a with
 | ghost=>rfl
 | t | sptr | opt=>cases h
 | ref=>unfold shareA at h; split at h; (split at h <;> cases h); cases h
 | eptr | pref=>unfold shareA at h; split at h <;> cases h
def shared (g:Nat → A) (r:Nat) (sz:Nat) (es:List T):Nat → A := upd (fun i=>shareA r sz es (g i)) r (.t (.sl sz (es.map T.fz)))
theorem Inv.share {n:Nat} {Z:List Nat} {D:Nat → Prop} {gc:Cnt} {v0:Nat → Value} {w0 w:World} {tmps:Array Value} {r sz:Nat} {e:TypeId} {es:List T} (h:Inv X n Z D gc v0 w0 g tmps w) (hg:g r = .t (.own e sz es)):Inv X n Z D gc v0 w0 (shared g r sz es) tmps w := by
 obtain ⟨c,hf,hb⟩ := h.frm
 have hrr := hf.rep r
 rw [hg] at hrr
 have hcv:∀ i b,upd c r (fun _=>0) i b = if i = r then 0 else c i b := by intro i b; unfold upd; split <;> rfl
 have hF:∀ b,(∀ j,c j b = 0) ∨ 0 < c r b → ∀ j,upd c r (fun _=>0) j b = 0 := fun b hz j=>by
  rw [hcv]; split
  ·rfl
  ·rename_i hj
   rcases hz with hz | hz
   ·exact hz j
   ·rcases Nat.eq_zero_or_pos (c j b) with e | e
    ·exact e
    ·exact absurd (hf.uniq j r b e hz) hj
 have hfrm:Frm X.N w (shared g r sz es) tmps (upd c r (fun _=>0)) := by
  refine ⟨fun i=>?_,fun i b=>?_,fun i j b hi hj=>?_,fun i b hi=>?_⟩
  ·by_cases hir:i = r
   ·subst hir
    rw [upd_same]
    have e1:shared g i sz es i = .t (.sl sz (es.map T.fz)) := upd_same _ _ _
    rw [e1]
    have := TRep.fz hrr (F' := fun b => ∀ j,upd c i (fun _=>0) j b = 0) (fun b _ hz=>hF b (.inl hz)) (fun b hb=>hF b (.inr hb))
    simp only [T.fz,fzAll_eq] at this
    exact this
   ·rw [upd_ne _ _ hir]
    have e1:shared g r sz es i = shareA r sz es (g i) := by unfold shared; rw [upd_ne _ _ hir]
    rw [e1]
    have hi := hf.rep i
    have root_ne:∀ r' t,r' ≠ r → g r' = .t t → shared g r sz es r' = .t t := fun r' t hne hgr=>by unfold shared; rw [upd_ne _ _ hne,hgr]; rfl
    generalize g i = a at hi
    clear e1
    induction a with
    | opt q a ih=>exact ⟨hi.1,fun hq=>ih (hi.2.1 hq),hi.2.2⟩
    | t t=>exact TRep.mono (fun b _ hz=>⟨hF b (.inl hz),rfl⟩) (Nat.le_refl _) hi (fun _ _=>rfl)
    | ref r' q off len =>
     simp only [shareA]
     obtain ⟨hc,t0,e',sz',es',x0,k1,k2,k3,k4⟩ := hi
     split
     ·rename_i hrr'
      subst hrr'
      split
      ·rename_i hq
       subst hq
       rw [hg] at k1; cases k1
       obtain ⟨q1,q2⟩ := k2
       cases q1; subst q2
       exact ((View.sl hrr k4 k3).mono (fun b _ hz=>⟨hF b hz,rfl⟩) (Nat.le_refl _) (fun b hb=>absurd hb (by simp))).count hc
      ·exact .u _ _ hc
     ·rename_i hne
      exact ⟨hc,t0,e',sz',es',x0,root_ne r' t0 hne k1,k2,k3,k4⟩
    | eptr r' q i' j' =>
     simp only [shareA]
     obtain ⟨hc,t0,e',sz',es',b,n',cap,k1,k2⟩ := hi
     split
     ·exact .u _ _ hc
     ·rename_i hne; exact ⟨hc,t0,e',sz',es',b,n',cap,root_ne r' t0 hne k1,k2⟩
    | pref r' q off =>
     simp only [shareA]
     obtain ⟨hc,t0,e',cs,b,k1,k2⟩ := hi
     split
     ·exact .u _ _ hc
     ·rename_i hne; exact ⟨hc,t0,e',cs,b,root_ne r' t0 hne k1,k2⟩
    | sptr cs =>
     obtain ⟨hc,a,vals,h1,h2,h3,h4,h5,h6,h7⟩ := hi
     exact ⟨hc,a,vals,h1,h2,hF _ (.inl h3),h4,h5,h6.mono (fun b _ hz=>⟨hF b (.inl hz),rfl⟩) (Nat.le_refl _) (fun b hb=>absurd hb (by simp)),h7⟩
    | ghost=>exact hi
  ·rw [hcv]; split; omega; exact hf.one i b
  ·rw [hcv] at hi hj
   split at hi
   ·omega
   ·split at hj
    ·omega
    ·exact hf.uniq i j b hi hj
  ·rw [hcv] at hi
   split at hi
   ·omega
   ·exact hf.low i b hi
 refine h.step hf hb hfrm rfl (fun _ _=>rfl) rfl rfl rfl (Nat.le_refl _) (fun _ _=>.inl rfl) (fun i b hi hgi=>?_) (fun i hi=>?_)
 rotate_left
 ·by_cases hir:i = r
  ·subst hir
   have e1:shared g i sz es i = .t (.sl sz (es.map T.fz)) := upd_same _ _ _
   rw [e1] at hi; cases hi
  ·refine ⟨?_,fun b=>by rw [hcv,if_neg hir]⟩
   unfold shared at hi
   rw [upd_ne _ _ hir] at hi
   exact shareA_ghost hi
 rw [hcv] at hi
 split at hi
 ·omega
 ·rename_i hne
  refine .inl ⟨i,hi,fun e=>hgi ?_⟩
  unfold shared; rw [upd_ne _ _ hne,e]; rfl
theorem set_self {α:Type} (l:List α) (i:Nat) (x:α) (h:l[i]? = some x):l.set i x = l := by
 obtain ⟨hlt,rfl⟩ := List.getElem?_eq_some_iff.1 h
 exact List.set_getElem_self hlt
theorem step_extract {n:Nat} {Z:List Nat} {o:Oper} {r d i:Nat} {cs:List T} {t:T} (ho:o.op = .extract (.tmp r) i) (hdst:o.dst = some d) (hd:d < n ∧ d ∉ Z) (hdr:d ≠ r) (hno:(g d).owner = false) (hg:g r = .t (.tup cs)) (ht:cs[i]? = some t) :
  Step X n Z g o (upd (upd g r (.t (.tup (cs.set i .u)))) d (.t t)) := by
 intro D gc v0 w0 tmps ds w hI next Q hnext
 obtain ⟨c,hf,hb⟩ := hI.frm
 have hr := hf.rep r
 rw [hg] at hr
 have hsz:d < tmps.size := by rw [hI.size]; exact hd.1
 cases hxv:tmps.getD r undef with
 | tuple vs =>
  rw [hxv] at hr
  generalize hcr:c r = cr at hr
  cases hr with
  | tup _ _ _ hl =>
   obtain ⟨x,d1,hx,k1,k2,hset⟩ := hl.set i t ht
   rw [Array.getElem?_toList] at hx
   refine wp_of_run (v := x) (w' := w) ?_ ?_
   ·unfold execOp; simp only [ho]
    refine run_val ?_
    show (Instr.extract (tmps.getD r undef) i).run X.P w = _
    rw [hxv]
    simp [Instr.extract,hx]
   ·rw [hdst]
    have hrd:r ≠ d := fun e=>hdr e.symm
    have hcv:∀ j b,upd (upd c r (fun b=>cr b - d1 b)) d d1 j b = if j = d then d1 b else if j = r then cr b - d1 b else c j b := by
     intro j b; unfold upd; split
     ·rfl
     ·split <;> rfl
    have hF:∀ b,(∀ j,c j b = 0) → ∀ j,upd (upd c r (fun b=>cr b - d1 b)) d d1 j b = 0 := fun b hz j=>by
     rw [hcv]
     have := hz r; rw [hcr] at this; have := k2 b
     split
     ·omega
     ·split
      ·omega
      ·exact hz j
    have hroot:∀ r' t',g r' = .t t' → A.owner (.t t') = true → upd (upd g r (.t (.tup (cs.set i .u)))) d (.t t) r' = .t t' ∧ (tmps.setIfInBounds d x).getD r' undef = tmps.getD r' undef := by
     intro r' t' hgr ho'
     have h1:r' ≠ d := by rintro rfl; rw [hgr] at hno; rw [ho'] at hno; cases hno
     have h2:r' ≠ r := by rintro rfl; rw [hg] at hgr; cases hgr; cases ho'
     exact ⟨by rw [upd_ne _ _ h1,upd_ne _ _ h2]; exact hgr,by rw [getD_set _ _ _ _ hsz,if_neg h1]⟩
    have hfrm:Frm X.N w (upd (upd g r (.t (.tup (cs.set i .u)))) d (.t t)) (tmps.setIfInBounds d x) (upd (upd c r (fun b=>cr b - d1 b)) d d1) := by
     refine ⟨fun j=>?_,fun j b=>?_,fun j k b hj hk=>?_,fun j b hj=>?_⟩
     ·by_cases hjd:j = d
      ·subst hjd
       rw [upd_same,upd_same,getD_set _ _ _ _ hsz,if_pos rfl]
       exact TRep.mono (fun b _ hz=>⟨hF b hz,rfl⟩) (Nat.le_refl _) k1 (fun _ _=>rfl)
      ·by_cases hjr:j = r
       ·subst hjr
        rw [upd_ne _ _ hjd,upd_same,upd_ne _ _ hjd,upd_same,getD_set _ _ _ _ hsz,if_neg hjd,hxv]
        have := hset .u x (fun _=>0) (fun b=>cr b - d1 b) (.u _ _ (fun _=>rfl)) (fun b=>by have := k2 b; omega)
        rw [set_self vs.toList i x (by rw [Array.getElem?_toList]; exact hx)] at this
        exact .tup _ _ _ (this.mono (fun b _ hz=>⟨hF b hz,rfl⟩) (Nat.le_refl _) (fun _ _=>rfl))
       ·rw [upd_ne _ _ hjd,upd_ne _ _ hjr,upd_ne _ _ hjd,upd_ne _ _ hjr,getD_set _ _ _ _ hsz,if_neg hjd]
        refine ARep.mono (hf.rep j) (fun b _ hz=>⟨hF b hz,rfl⟩) (Nat.le_refl _) (fun _ _=>rfl) (fun r' t' hgr ho'=>?_)
        obtain ⟨q1,q2⟩ := hroot r' t' hgr ho'
        have := hf.rep r'
        rw [hgr] at this
        exact ⟨q1,q2,_,_,this,fun _ _=>rfl⟩
     ·rw [hcv]; have := hf.one r b; rw [hcr] at this; have := hf.one j b; have := k2 b
      split
      ·omega
      ·split <;> omega
     ·rw [hcv] at hj hk
      have := hf.one r b; rw [hcr] at this; have h2 := k2 b
      have hu:∀ j,j ≠ r → 0 < cr b → c j b = 0 := fun j hj hp=>by
       rcases Nat.eq_zero_or_pos (c j b) with e | e
       ·exact e
       ·exact absurd (hf.uniq j r b e (by rw [hcr]; exact hp)) hj
      by_cases j1:j = d <;> by_cases k1':k = d
      ·rw [j1,k1']
      ·rw [if_pos j1] at hj; rw [if_neg k1'] at hk
       by_cases k2':k = r
       ·rw [if_pos k2'] at hk; omega
       ·rw [if_neg k2',hu k k2' (by omega)] at hk; omega
      ·rw [if_pos k1'] at hk; rw [if_neg j1] at hj
       by_cases j2:j = r
       ·rw [if_pos j2] at hj; omega
       ·rw [if_neg j2,hu j j2 (by omega)] at hj; omega
      ·rw [if_neg j1] at hj; rw [if_neg k1'] at hk
       by_cases j2:j = r <;> by_cases k2':k = r
       ·rw [j2,k2']
       ·rw [if_pos j2] at hj; rw [if_neg k2',hu k k2' (by omega)] at hk; omega
       ·rw [if_pos k2'] at hk; rw [if_neg j2,hu j j2 (by omega)] at hj; omega
       ·rw [if_neg j2] at hj; rw [if_neg k2'] at hk; exact hf.uniq j k b hj hk
     ·rw [hcv] at hj
      have h2 := k2 b
      split at hj
      ·exact hf.low r b (by rw [hcr]; omega)
      ·split at hj
       ·exact hf.low r b (by rw [hcr]; omega)
       ·exact hf.low j b hj
    have hrg:g r ≠ .ghost := by rw [hg]; exact fun h=>by cases h
    refine hnext _ _ (hI.step hf hb hfrm (by simp) (fun j hj=>by rw [getD_set _ _ _ _ hsz,if_neg (by rintro rfl; exact hd.2 hj)]) rfl rfl rfl (Nat.le_refl _) (fun _ _=>.inl rfl) (fun j b hj hgj=>?_) (fun j hj=>?_))
    rotate_left
    ·by_cases hjd:j = d
     ·subst hjd; rw [upd_same] at hj; cases hj
     ·by_cases hjr:j = r
      ·subst hjr; rw [upd_ne _ _ hjd,upd_same] at hj; cases hj
      ·rw [upd_ne _ _ hjd,upd_ne _ _ hjr] at hj
       exact ⟨hj,fun b=>by rw [hcv,if_neg hjd,if_neg hjr]⟩
    rw [hcv] at hj
    have h2 := k2 b
    split at hj
    ·exact .inl ⟨r,by rw [hcr]; omega,hrg⟩
    ·split at hj
     ·exact .inl ⟨r,by rw [hcr]; omega,hrg⟩
     ·rename_i n1 n2
      refine .inl ⟨j,hj,fun e=>hgj ?_⟩
      rw [upd_ne _ _ n1,upd_ne _ _ n2]; exact e
 | _=>rw [hxv] at hr; cases hr
end Go.Eng
