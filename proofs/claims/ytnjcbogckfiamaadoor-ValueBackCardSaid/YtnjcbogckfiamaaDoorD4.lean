/- A part of the proof: D4. -/
import Derived.Test.YtnjcbogckfiamaaDoorD3
import Derived.Lib.LaidTab
import Derived.RowKit
import Derived.ChangeArms
import Derived.Carry
import Derived.ChangeSame
import Derived.WalkKit
import Derived.ProofKit
import Derived.OpenShut
import Derived.Deep.DeepHandedRow
import Derived.Laws.Cover3
namespace Go.Eng
open Go.RowKit
set_option linter.unusedVariables false
set_option linter.unusedSimpArgs false
theorem cell_lt {w:World} {b o:Nat} {x:Value} (h:w.cell? ⟨b,o,none⟩ = some x):b < w.heap.size := by
 by_cases hb:b < w.heap.size
 ·exact hb
 ·have:w.heap[b]? = none := Array.getElem?_eq_none (by omega)
  simp [World.cell?,this] at h
end Go.Eng

/- Rows: what an argument that reads is, as a typed tree; sizes; that arguments read as before. -/
namespace Go.Eng
open Go.RowKit
set_option linter.unusedVariables false
set_option linter.unusedSimpArgs false
def Ty.bytes:Ty → Nat
 | .u8 | .bool=>1
 | .int .i64=>8
 | .int _=>1
 | .str=>16
 | .sl _ _=>24
 | .pair a b=>a.bytes + b.bytes
 | _=>0
def fitT (P:Program):Ty → Option (Nat × List Field) → TypeId → Bool
 | .u8,none,t=>undIs (P.underlying t) .u8
 | .int k,none,t=>undIs (P.underlying t) (.int k)
 | .bool,none,t=>undIs (P.underlying t) .bool
 | .str,none,t=>undIs (P.underlying t) .str
 | .sl sz e,none,t=>match P.underlying t with
  | some (.slice i)=>Nat.beq (P.cellsOf i) sz && (Nat.beq sz e.sz && (Nat.blt 0 sz && (Nat.ble e.bytes (P.bytesOf i) && fitT P e none i)))
  | _=>false
 | .pair a b,none,t=>match P.underlying t with
  | some (.struct F)=>Nat.beq (P.cellsOf t) (a.sz + b.sz) && (match F.toList with
   | f :: fs=>Nat.beq f.offset 0 && (Nat.beq (P.cellsOf f.type) a.sz && (fitT P a none f.type && fitT P b (some (a.sz,fs)) t))
   | []=>false)
  | _=>false
 | .pair a b,some (o,f :: fs),t=>Nat.beq f.offset o && (Nat.beq (P.cellsOf f.type) a.sz && (fitT P a none f.type && fitT P b (some (o + a.sz,fs)) t))
 | .unit,some (_,[]),_=>true
 | _,_,_=>false
def szOk:(t:Ty) → t.I → Prop
 | .int k,x=>(Lit.int k x).wf = true
 | .str,x=>(x:List UInt8).length ≤ 140737488351232
 | .sl _ t,l=>(l:List t.I).length * t.bytes ≤ 140737488351232 ∧ ∀ y ∈ (l:List t.I),szOk t y
 | .pair a b,x=>szOk a x.1 ∧ szOk b x.2
 | _,_=>True
def msz:(t:Ty) → t.I → Nat
 | .str,x=>(x:List UInt8).length + 1
 | .sl _ t,l=>((l:List t.I).map (msz t)).sum + 1
 | .pair a b,x=>msz a x.1 + msz b x.2
 | .unit,_=>0
 | _,_=>1
structure Bulk (H:Type) where
 B:DataW H → Nat
 BA:List (DataW H) → Nat
 str:∀ bs,bs.length + 1 ≤ B (.lit (.string bs))
 lit:∀ x,1 ≤ B (.lit x)
 nil:1 ≤ B .nil
 slice:∀ es rest,BA es + 1 ≤ B (.slice es rest)
 agg:∀ ds,BA ds ≤ B (.agg ds)
 cons:∀ d ds,B d + BA ds ≤ BA (d :: ds)
section
variable {H:Type} {enc:TypeId × Value → H} {P:Program} {w:World} {base:Nat} {sp:Nat → Bool} {held:Bool}
theorem undIs_und {u:Option TypeDesc} {t:Ty} (h:undIs u t = true):u = undOf t := by
 unfold undIs at h
 split at h <;> first | rfl | (simp only [decide_eq_true_eq] at h; subst h; rfl) | cases h
theorem lone_rep {v:Value} {F:Nat → Prop}:LRep w F [.v v] [v] (fun _=>0) :=
 .cons _ _ _ _ (fun _=>0) (fun _=>0) _ (.v _ _ (fun _=>rfl)) (.nil _ (fun _=>rfl)) (fun _=>rfl)
def Rd1 (enc:TypeId × Value → H) (P:Program) (w:World) (base:Nat) (sp:Nat → Bool) (held:Bool) (ty:Ty):Prop :=
 ∀ t,fitT P ty none t = true → ∀ (fuel:Nat) (cs:List Value) (d:DataW H) (ps:List MemPlace),DataW.trod enc P w base sp held fuel t cs = some (d,ps) → (d.weights P t).all (· ≤ reachBytes) = true →
  ∃ x:ty.I,LRep w (fun _=>True) (ty.cells x) cs (fun _=>0) ∧ (∀ y ∈ cs,y.oneCell' = true) ∧ szOk ty x ∧ ∀ bk:Bulk H,msz ty x ≤ bk.B d
def Rd2 (enc:TypeId × Value → H) (P:Program) (w:World) (base:Nat) (sp:Nat → Bool) (held:Bool) (ty:Ty):Prop :=
 ∀ (o:Nat) (fs:List Field) (t:TypeId),fitT P ty (some (o,fs)) t = true → ∀ (fuel:Nat) (cs:List Value) (xs:List (DataW H × List MemPlace)),xs.length = fs.length →
  (∀ (i:Nat) (f:Field),fs[i]? = some f → DataW.trod enc P w base sp held fuel f.type ((cs.drop f.offset).take (P.cellsOf f.type)) = xs[i]?) → (DataW.weightsEach P (fs.map (·.type)) (xs.map (·.1))).all (· ≤ reachBytes) = true → cs.length = o + ty.sz →
  ∃ x:ty.I,LRep w (fun _=>True) (ty.cells x) (cs.drop o) (fun _=>0) ∧ (∀ y ∈ cs.drop o,y.oneCell' = true) ∧ szOk ty x ∧ ∀ bk:Bulk H,msz ty x ≤ bk.BA (xs.map (·.1))
theorem rd_step {a b:Ty} (h1:Rd1 enc P w base sp held a) (h2:Rd2 enc P w base sp held b) {o:Nat} {f:Field} {fs:List Field} {t:TypeId} (ho:f.offset = o) (hc:P.cellsOf f.type = a.sz) (hf:fitT P a none f.type = true) (hg:fitT P b (some (o + a.sz,fs)) t = true)
  {fuel:Nat} {cs:List Value} {xs:List (DataW H × List MemPlace)} (hlen:xs.length = (f :: fs).length)
  (hx:∀ (i:Nat) (f':Field),(f :: fs)[i]? = some f' → DataW.trod enc P w base sp held fuel f'.type ((cs.drop f'.offset).take (P.cellsOf f'.type)) = xs[i]?) (hw:(DataW.weightsEach P ((f :: fs).map (·.type)) (xs.map (·.1))).all (· ≤ reachBytes) = true) (hcs:cs.length = o + (a.sz + b.sz)) :
  ∃ x:(Ty.pair a b).I,LRep w (fun _=>True) ((Ty.pair a b).cells x) (cs.drop o) (fun _=>0) ∧ (∀ y ∈ cs.drop o,y.oneCell' = true) ∧ szOk (.pair a b) x ∧ ∀ bk:Bulk H,msz (.pair a b) x ≤ bk.BA (xs.map (·.1)) := by
 cases xs with
 | nil=>simp at hlen
 | cons x xs =>
  obtain ⟨d,p⟩ := x
  have h0 := hx 0 f rfl
  rw [ho,hc] at h0
  simp only [List.map_cons,DataW.weightsEach,List.all_append,Bool.and_eq_true] at hw
  obtain ⟨x1,q1,q2,q3,q4⟩ := h1 _ hf _ _ _ _ (show _ = some (d,p) from h0) hw.1
  obtain ⟨x2,r1,r2,r3,r4⟩ := h2 (o + a.sz) fs t hg fuel cs xs (by simpa using hlen) (fun i f' hi=>hx (i + 1) f' (by simpa using hi)) hw.2 (by omega)
  have e:cs.drop o = (cs.drop o).take a.sz ++ cs.drop (o + a.sz) := by
   rw [← List.drop_drop]; exact (List.take_append_drop _ _).symm
  refine ⟨(x1,x2),?_,?_,⟨q3,r3⟩,fun bk=>Nat.le_trans (Nat.add_le_add (q4 bk) (r4 bk)) (bk.cons _ _)⟩
  ·rw [e]; exact q1.append r1 (fun _=>rfl)
  ·intro y hy
   rw [e,List.mem_append] at hy
   rcases hy with hy | hy
   ·exact q2 y hy
   ·exact r2 y hy
theorem weightsAll_mem {i:TypeId}:∀ {ds:List (DataW H)},(DataW.weightsAll P i ds).all (· ≤ reachBytes) = true → ∀ d ∈ ds,(d.weights P i).all (· ≤ reachBytes) = true
 | [],_,_,h=>by cases h
 | d :: ds,hw,d',h=>by
  simp only [DataW.weightsAll,List.all_append,Bool.and_eq_true] at hw
  rcases List.mem_cons.1 h with rfl | h
  ·exact hw.1
  ·exact weightsAll_mem hw.2 d' h
theorem rd_elems {e:Ty} (h1:Rd1 enc P w base sp held e) {i:TypeId} (hf:fitT P e none i = true) {a:Addr} {sz:Nat} {fuel:Nat}:∀ (n k:Nat) (elems:List (DataW H × List MemPlace)),elems.length = n →
  (∀ j,j < n → (w.cells? base (a.add ((k + j) * sz)) sz).bind (DataW.trod enc P w base sp held fuel i) = elems[j]?) → (∀ d ∈ elems.map (·.1),(d.weights P i).all (· ≤ reachBytes) = true) →
  ∃ (l:List e.I) (vals:List Value),l.length = n ∧ vals.length = n * sz ∧ LRep w (fun _=>True) ((l.map e.enc).flatMap T.cells) vals (fun _=>0) ∧ (∀ y ∈ vals,y.oneCell' = true) ∧ (∀ y ∈ l,szOk e y) ∧ (∀ bk:Bulk H,(l.map (msz e)).sum ≤ bk.BA (elems.map (·.1))) ∧
   ∀ q x,vals[q]? = some x → w.cell? (a.add (k * sz + q)) = some x
 | 0,k,elems,hl,hx,hw=>⟨[],[],rfl,by simp,.nil _ (fun _=>rfl),by simp,by simp,fun _=>Nat.zero_le _,by simp⟩
 | n + 1,k,elems,hl,hx,hw=>by
  cases elems with
  | nil=>simp at hl
  | cons x elems =>
   obtain ⟨d,p⟩ := x
   have h0 := hx 0 (by omega)
   simp only [Nat.add_zero,List.getElem?_cons_zero,Option.bind_eq_some_iff] at h0
   obtain ⟨cs,hcs,htr⟩ := h0
   obtain ⟨_,hlen,hcell⟩ := World.cells?_some hcs
   obtain ⟨x1,q1,q2,q3,q4⟩ := h1 _ hf _ _ _ _ htr (hw d (by simp))
   obtain ⟨l,vals,e1,e2,e3,e4,e5,e7,e6⟩ := rd_elems h1 hf (a := a) (sz := sz) (fuel := fuel) n (k + 1) elems (by simpa using hl) (fun j hj=>by
    have := hx (j + 1) (by omega)
    rw [List.getElem?_cons_succ] at this
    rw [show k + 1 + j = k + (j + 1) by omega]; exact this) (fun d' hd=>hw d' (by simp at hd ⊢; exact .inr hd))
   refine ⟨x1 :: l,cs ++ vals,by simp [e1],by rw [List.length_append,hlen,e2,Nat.succ_mul]; omega,?_,?_,?_,fun bk=>Nat.le_trans (Nat.add_le_add (q4 bk) (e7 bk)) (bk.cons _ _),?_⟩
   ·rw [List.map_cons,List.flatMap_cons,enc_cells]; exact q1.append e3 (fun _=>rfl)
   ·intro y hy
    rcases List.mem_append.1 hy with hy | hy
    ·exact q2 y hy
    ·exact e4 y hy
   ·intro y hy
    rcases List.mem_cons.1 hy with rfl | hy
    ·exact q3
    ·exact e5 y hy
   ·intro q x hq
    have hadd:∀ u v,a.add (u + v) = (a.add u).add v := fun u v=>by unfold Addr.add; by_cases hu:u = 0 <;> by_cases hv:v = 0 <;> simp [hu,hv,Nat.add_assoc]
    by_cases hlt:q < sz
    ·rw [List.getElem?_append_left (by omega)] at hq
     rw [hadd,hcell q hlt,hq]
    ·rw [List.getElem?_append_right (by omega),hlen] at hq
     have := e6 _ _ hq
     rw [Nat.succ_mul,show k * sz + sz + (q - sz) = k * sz + q by omega] at this
     exact this
theorem rd_all:∀ ty:Ty,Rd1 enc P w base sp held ty ∧ Rd2 enc P w base sp held ty
 | .u8=>by
  refine ⟨fun t hf fuel cs d ps h hw=>?_,?_⟩
  rotate_left
  ·intro o fs t hf; cases hf
  ·skip
   have hu := undIs_und (show undIs (P.underlying t) .u8 = true from hf)
   obtain ⟨m,rfl,he,hwf⟩ := DataW.trod_int hu h
   cases he
   have hb:0 ≤ m ∧ m < 256 := by
    simp only [Lit.wf,Bool.and_eq_true,decide_eq_true_eq] at hwf
    have e1:IntKind.min .u8 = 0 := rfl
    have e2:IntKind.max .u8 = 255 := rfl
    rw [e1,e2] at hwf
    omega
   refine ⟨m.toNat.toUInt8,?_,by simp [Value.oneCell'],trivial,fun bk=>bk.lit _⟩
   show LRep w _ [.v (.int .u8 ((m.toNat.toUInt8.toNat:Int)))] _ _
   rw [u8_back m hb]
   exact lone_rep
 | .int k=>by
  refine ⟨fun t hf fuel cs d ps h hw=>?_,?_⟩
  rotate_left
  ·intro o fs t hf; cases hf
  ·skip
   have hu := undIs_und (show undIs (P.underlying t) (.int k) = true from hf)
   obtain ⟨m,rfl,he,hwf⟩ := DataW.trod_int hu h
   cases he
   exact ⟨m,lone_rep,by simp [Value.oneCell'],hwf,fun bk=>bk.lit _⟩
 | .bool=>by
  refine ⟨fun t hf fuel cs d ps h hw=>?_,?_⟩
  rotate_left
  ·intro o fs t hf; cases hf
  ·skip
   have hu := undIs_und (show undIs (P.underlying t) .bool = true from hf)
   obtain ⟨m,rfl,he⟩ := DataW.trod_bool hu h
   cases he
   exact ⟨m,lone_rep,by simp [Value.oneCell'],trivial,fun bk=>bk.lit _⟩
 | .str=>by
  refine ⟨fun t hf fuel cs d ps h hw=>?_,?_⟩
  rotate_left
  ·intro o fs t hf; cases hf
  ·skip
   have hu := undIs_und (show undIs (P.underlying t) .str = true from hf)
   obtain ⟨s,rfl,he,_⟩ := DataW.trod_string hu h
   cases he
   refine ⟨bl s,?_,by simp [Value.oneCell'],?_,fun bk=>bk.str _⟩
   ·show LRep w _ [.v (.string (mkS (bl s)))] _ _
    exact lone_rep
   ·have k2:s.data.toList.length ≤ reachBytes := by simpa only [DataW.weights,List.all_cons,List.all_nil,Bool.and_true,decide_eq_true_eq] using hw
    exact Nat.le_trans k2 (by decide)
 | .opq=>⟨fun t hf=>(by cases hf),fun o fs t hf=>(by cases hf)⟩
 | .unit=>by
  refine ⟨fun t hf=>(by cases hf),?_⟩
  ·intro o fs t hf fuel cs xs hl hx hw hcs
   cases fs with
   | nil =>
    refine ⟨(),?_,?_,trivial,fun _=>Nat.zero_le _⟩
    ·rw [List.drop_eq_nil_of_le (by rw [hcs]; exact Nat.le_refl _)]; exact .nil _ (fun _=>rfl)
    ·rw [List.drop_eq_nil_of_le (by rw [hcs]; exact Nat.le_refl _)]; simp
   | cons f fs=>cases hf
 | .sl sz e=>by
  refine ⟨fun t hf fuel cs d ps h hw=>?_,?_⟩
  rotate_left
  ·intro o fs t hf; cases hf
  ·skip
   simp only [fitT] at hf
   split at hf
   ·rename_i i hu
    simp only [Bool.and_eq_true,Nat.blt_eq] at hf
    obtain ⟨f1,f2,f3,f4,f5⟩ := hf
    have f1 := Nat.eq_of_beq_eq_true f1
    have f2 := Nat.eq_of_beq_eq_true f2
    have f4 := Nat.le_of_ble_eq_true f4
    rcases DataW.trod_slice hu h with ⟨rfl,he⟩ | ⟨a,len,cap,elems,rest,n,rfl,rfl,he,hb,hlc,hcm,hel,hx,_,_⟩
    ·cases he
     refine ⟨[],?_,by simp [Value.oneCell'],by simp [szOk],fun bk=>bk.nil⟩
     exact .cons _ _ _ _ (fun _=>0) (fun _=>0) _ (.slnil _ _ _ _ (fun _=>rfl)) (.nil _ (fun _=>rfl)) (fun _=>rfl)
    ·cases he
     simp only [DataW.weights,hu,List.all_cons,List.all_append,Bool.and_eq_true,decide_eq_true_eq] at hw
     obtain ⟨w1,w2,_⟩ := hw
     rw [f1] at hx
     obtain ⟨l,vals,e1,e2,e3,e4,e5,e7,e6⟩ := rd_elems (rd_all e).1 f5 (a := a) (sz := sz) (fuel := n) len 0 elems hel (fun j hj=>by rw [Nat.zero_add]; exact hx j hj) (weightsAll_mem w2)
     refine ⟨l,?_,by simp [Value.oneCell'],⟨?_,e5⟩,fun bk=>Nat.le_trans (Nat.succ_le_succ (e7 bk)) (bk.slice _ _)⟩
     ·refine .cons _ _ _ _ (fun _=>0) (fun _=>0) _ ?_ (.nil _ (fun _=>rfl)) (fun _=>rfl)
      cases l with
      | nil =>
       simp only [List.length_nil] at e1
       subst e1
       exact .slnil _ _ _ _ (fun _=>rfl)
      | cons x l =>
       have hv0:0 < vals.length := by rw [e2,← e1,List.length_cons,Nat.succ_mul]; omega
       have hc0 := e6 0 _ (List.getElem?_eq_getElem hv0)
       have ha:a.add (0 * sz + 0) = a := by simp [Addr.add]
       rw [ha] at hc0
       refine .sl sz _ a len cap vals (fun _=>0) _ (by rw [List.length_map]; exact e1.symm) hlc trivial ?_ (World.cell?_spot hc0) (fun q x hq=>by have := e6 q x hq; rwa [Nat.zero_mul,Nat.zero_add] at this) (fun y hy=>by rw [len_list e _ y hy,f2]) e3 e4 (fun _=>rfl) (fun _=>rfl)
       exact cell_lt (o := a.off) (by
        have hs := World.cell?_spot hc0
        obtain ⟨ab,ao,as⟩ := a
        simp only at hs; subst hs
        exact hc0)
     ·have:(elems.map (·.1)).length = len := by rw [List.length_map,hel]
      rw [this] at w1
      show l.length * e.bytes ≤ _
      rw [e1]
      have k1:len * e.bytes ≤ (len + (rest.map (·.1)).length) * P.bytesOf i := Nat.mul_le_mul (by omega) f4
      exact Nat.le_trans (Nat.le_trans k1 w1) (by decide)
   ·cases hf
 | .pair a b=>by
  refine ⟨fun t hf fuel cs d ps h hw=>?_,?_⟩
  rotate_left
  ·intro o fs t hf fuel cs xs hl hx hw hcs
   cases fs with
   | nil=>cases hf
   | cons f fs =>
    simp only [fitT,Bool.and_eq_true] at hf
    obtain ⟨f2,f3,f4,f5⟩ := hf
    exact rd_step (rd_all a).1 (rd_all b).2 (Nat.eq_of_beq_eq_true f2) (Nat.eq_of_beq_eq_true f3) f4 f5 hl hx hw hcs
  ·skip
   simp only [fitT] at hf
   split at hf
   ·rename_i F hu
    simp only [Bool.and_eq_true] at hf
    obtain ⟨f1,hf⟩ := hf
    split at hf
    ·rename_i f fs hF
     simp only [Bool.and_eq_true] at hf
     obtain ⟨f2,f3,f4,f5⟩ := hf
     have f1 := Nat.eq_of_beq_eq_true f1
     have f2 := Nat.eq_of_beq_eq_true f2
     have f3 := Nat.eq_of_beq_eq_true f3
     obtain ⟨xs,n,rfl,he,hlen,hxl,hx⟩ := DataW.trod_struct hu h
     cases he
     simp only [DataW.weights,hu,hF] at hw
     have hxs:xs.length = (f :: fs).length := by rw [hxl,← Array.length_toList,hF]
     have := rd_step (rd_all a).1 (rd_all b).2 (o := 0) f2 f3 f4 (by rw [Nat.zero_add]; exact f5) hxs (fun j f' hj=>hx j f' (by rw [← Array.getElem?_toList,hF]; exact hj)) hw (by rw [hlen,f1]; omega)
     rw [List.drop_zero] at this
     obtain ⟨x,g1,g2,g3,g4⟩ := this
     exact ⟨x,g1,g2,g3,fun bk=>Nat.le_trans (g4 bk) (bk.agg _)⟩
    ·cases hf
   ·cases hf
end
end Go.Eng

/- Rows: from a law's contract to the row: arguments, the call, what is left. -/
namespace Go.Eng
open Go.RowKit Go.WideShapes Go.ChangeShapes
set_option linter.unusedVariables false
set_option linter.unusedSimpArgs false
def dts:(tys:List Ty) → (rowOf tys).I → List DT
 | [],_=>[]
 | t :: ts,x=>.s t x.1 :: dts ts x.2
def fitsL (P:Program):List Ty → List TypeId → Bool
 | [],[]=>true
 | ty :: tys,t :: ts=>fitT P ty none t && fitsL P tys ts
 | _,_=>false
section
variable {H:Type} {enc:TypeId × Value → H} {P:Program} {W:World} {base:Nat} {sp:Nat → Bool} {held:Bool}
theorem noagg {v:Value} (h:∀ vs,v ≠ .agg vs):v.cells.toList = [v] := by cases v <;> first | rfl | exact absurd rfl (h _)
theorem one_tree {F:Nat → Prop} {t:T} {v:Value} (h:LRep W F [t] [v] (fun _=>0)):TRep W F t v (fun _=>0) := by
 cases h with
 | cons _ _ _ _ c1 c2 _ h1 h2 hc=>exact h1.count (fun b=>by have:0 = c1 b + c2 b := hc b; show 0 = c1 b; omega)
theorem arg_tree {ty:Ty} {t:TypeId} {v:Value} {d:DataW H} {p:List MemPlace} (hf:fitT P ty none t = true) (hval:Value.okWide P W .any base t v) (h:DataW.Trod enc P W 0 sp held t v d p) (hw:(d.weights P t).all (· ≤ reachBytes) = true) :
  ∃ x:ty.I,TRep W (fun _=>True) (ty.enc x) v (fun _=>0) ∧ szOk ty x ∧ ∀ bk:Bulk H,msz ty x ≤ bk.B d := by
 obtain ⟨fuel,h⟩ := h
 obtain ⟨x,h1,h2,h3⟩ := (rd_all ty).1 t hf fuel _ d p h hw
 refine ⟨x,?_,h3⟩
 have leaf:(∀ vs,v ≠ .agg vs) → ty.row = false → TRep W (fun _=>True) (ty.enc x) v (fun _=>0) := by
  intro hv hr
  rw [noagg hv,(cells_one ty x hr).1] at h1
  exact one_tree h1
 cases ty with
 | u8 =>
  obtain ⟨n,rfl⟩ := okWide_int (undIs_und (show undIs (P.underlying t) .u8 = true from hf)) hval
  exact leaf (fun _ e=>by cases e) rfl
 | int k =>
  obtain ⟨n,rfl⟩ := okWide_int (undIs_und (show undIs (P.underlying t) (.int k) = true from hf)) hval
  exact leaf (fun _ e=>by cases e) rfl
 | bool =>
  obtain ⟨n,rfl⟩ := okWide_bool (undIs_und (show undIs (P.underlying t) .bool = true from hf)) hval
  exact leaf (fun _ e=>by cases e) rfl
 | str =>
  obtain ⟨n,rfl⟩ := okWide_string (undIs_und (show undIs (P.underlying t) .str = true from hf)) hval
  exact leaf (fun _ e=>by cases e) rfl
 | opq=>cases hf
 | unit=>cases hf
 | sl sz e =>
  simp only [fitT] at hf
  split at hf
  ·rename_i i hu
   obtain ⟨a,l,c,rfl⟩ := okWide_slice hu hval
   exact leaf (fun _ e=>by cases e) rfl
  ·cases hf
 | pair a b =>
  simp only [fitT] at hf
  split at hf
  ·rename_i F hu
   simp only [Value.okWide,hu] at hval
   obtain ⟨cs,rfl,_,_⟩ := hval
   exact .ag _ cs _ h1 h2 (fun _=>rfl)
  ·cases hf
theorem args_tree:∀ (tys:List Ty) {ts:List TypeId} {vs:List Value} {ds:List (DataW H)} {p:List MemPlace},fitsL P tys ts = true → (∀ (j:Nat) t v,ts[j]? = some t → vs[j]? = some v → Value.okWide P W .any base t v) → DataW.TrodAll enc P W 0 sp held ts vs ds p →
  (DataW.weightsEach P ts ds).all (· ≤ reachBytes) = true → ∃ l:(rowOf tys).I,LRep W (fun _=>True) ((dts tys l).map DT.toT) vs (fun _=>0) ∧ szOk (rowOf tys) l ∧ ∀ bk:Bulk H,msz (rowOf tys) l ≤ bk.BA ds
 | [],[],vs,ds,p,_,_,h,_=>by
  obtain ⟨rfl,rfl,rfl⟩ := trodAll_nil h
  exact ⟨(),.nil _ (fun _=>rfl),trivial,fun _=>Nat.zero_le _⟩
 | [],_ :: _,_,_,_,h,_,_,_=>by cases h
 | _ :: _,[],_,_,_,h,_,_,_=>by cases h
 | ty :: tys,t :: ts,vs,ds,p,hf,hval,h,hw=>by
  obtain ⟨v,vs',d,ds',p1,q1,rfl,rfl,rfl,h1,h2⟩ := trodAll_cons h
  simp only [fitsL,Bool.and_eq_true] at hf
  simp only [DataW.weightsEach,List.all_append,Bool.and_eq_true] at hw
  obtain ⟨x,k1,k2,k5⟩ := arg_tree hf.1 (hval 0 t v rfl rfl) h1 hw.1
  obtain ⟨l,k3,k4,k6⟩ := args_tree tys hf.2 (fun j t' v' ht hv=>hval (j + 1) t' v' (by simpa using ht) (by simpa using hv)) h2 hw.2
  exact ⟨(x,l),.cons _ _ _ _ (fun _=>0) (fun _=>0) _ k1 k3 (fun _=>rfl),⟨k2,k4⟩,fun bk=>Nat.le_trans (Nat.add_le_add (k5 bk) (k6 bk)) (bk.cons _ _)⟩
theorem args_stay (hl:laidOutB P = true) {W':World} (hb:Below W.heap.size W W'):∀ {ts:List TypeId} {vs:List Value} {ds:List (DataW H)} {ps:List MemPlace},(∀ t ∈ ts,P.readableRec t = true ∧ t < P.types.size) → (∀ x ∈ ps,x.block < W.heap.size) →
  DataW.TrodAll enc P W 0 (fun _=>true) true ts vs ds ps → DataW.TrodAll enc P W' 0 (fun b=>decide (b < W.heap.size)) true ts vs ds ps
 | [],vs,ds,ps,_,_,h=>by
  obtain ⟨rfl,rfl,rfl⟩ := trodAll_nil h
  rfl
 | t :: ts,vs,ds,ps,ht,hlt,h=>by
  obtain ⟨v,vs',d,ds',p1,q1,rfl,rfl,rfl,h1,h2⟩ := trodAll_cons h
  exact ⟨p1,q1,Below.trod hl (ht t (by simp)).1 (ht t (by simp)).2 h1 hb (fun x hx=>hlt x (List.mem_append_left _ hx)),args_stay hl hb (fun t' h'=>ht t' (by simp [h'])) (fun x hx=>hlt x (List.mem_append_right _ hx)) h2,rfl⟩
theorem walk_of {X:Ctx} {k:FuncId} {ts:List T} {vs:List Value} {w:World} {r:Bool} (h:APure X k ts (resT ([DT.s .bool r].map DT.toT))) (hg:X.G w) (hl:LRep w (fun _=>True) ts vs (fun _=>0)) :
  Calls X.P k vs.toArray w fun e w'=>e = .returned (.bool r) ∧ Below w.heap.size w w' := by
 refine (h w vs (fun _=>0) (fun _=>True) hg (fun _ _=>trivial) hl (fun _=>Nat.zero_le _) (fun b hb=>absurd hb (by simp))).mono ?_
 rintro e w' ⟨v,cr,rfl,e1,e2,e3,e4,e5,h1,_,_⟩
 cases h1 with
 | cons _ _ _ _ _ _ _ q1 _ _ =>
  have := TRep.of_v q1
  subst this
  exact ⟨rfl,⟨e1,e2,e3,e4,fun b hb=>e5 b hb rfl⟩⟩
def paramsOk (P:Program) (ts:List TypeId):Bool := ts.all fun t=>P.readableRec t && decide (t < P.types.size)
theorem law_post {f:Func} {s:ChangeSpec} {tb:TypeId} (hl:laidOutB P = true) (hp:paramsOk P f.params.toList = true) (hr:f.resultTypes = #[tb]) (htb:P.underlying tb = some .bool) (hv:s.vars = []) {W':World} (hb:Below W.heap.size W W') {args:Array Value}
  {ds gs:List (DataW H)} {before:List MemPlace} (hW:DataW.Whole enc P f.params.toList s.vars false W args.toList ds gs before) (hfn:s.fn H (ds ++ gs) = { results := [.lit (.bool true)],args := ds }) :
  s.post enc P f false true false false W args (.bool true) W' := by
 have hW' := hW
 have hlt:∀ x ∈ before,x.block < W.heap.size := fun x hx=>hW.lt x hx
 obtain ⟨p,q,hA,hV,rfl,hfz,hnd⟩ := hW
 rw [hv] at hV
 obtain ⟨rfl,rfl⟩ := trodVars_none hV
 refine ⟨ds,[],p ++ [],[],p,[],hW',?_,?_,?_,hb.frame _,fun h=>by cases h⟩
 ·rw [hfn,hr]; exact trodAll_mk1 (shut_bool htb _)
 ·rw [hfn]
  refine args_stay hl hb (fun t ht=>?_) (fun x hx=>hlt x (List.mem_append_left _ hx)) hA
  have := List.all_eq_true.1 hp t ht
  simpa using this
 ·rw [hfn,hv]; rfl
end
end Go.Eng

/- Rows: what the listed tables give, several of them. -/
namespace Go.Eng
open Go.RowKit
set_option linter.unusedVariables false
set_option linter.unusedSimpArgs false
theorem trodAll_len {H:Type} {enc:TypeId × Value → H} {P:Program} {w:World} {base:Nat} {sp:Nat → Bool} {held:Bool}:∀ {ts:List TypeId} {vs:List Value} {ds:List (DataW H)} {ps:List MemPlace},DataW.TrodAll enc P w base sp held ts vs ds ps → ds.length = ts.length
 | [],vs,ds,ps,h=>by
  obtain ⟨_,rfl,_⟩ := ChangeShapes.trodAll_nil h; rfl
 | t :: ts,vs,ds,ps,h=>by
  obtain ⟨v,vs',d,ds',p1,q1,rfl,rfl,rfl,h1,h2⟩ := ChangeShapes.trodAll_cons h
  rw [List.length_cons,List.length_cons,trodAll_len h2]
theorem laid_at {P:Program} {W:World}:∀ {l:List (String × DataW Unit)} {ps:List MemPlace},DataW.LaidVars P W l ps → ∀ x ∈ l,∃ g t cs fuel p,P.globalNamed x.1 = some g ∧ (P.globals[g]?).map (·.type) = some t ∧ W.var? P x.1 = some cs ∧ DataW.trod (fun _=>()) P W 0 (fun _=>true) false fuel t cs.toList = some (x.2,p)
 | [],_,_,x,hx=>by cases hx
 | (n,d) :: r,ps,⟨g,t,cs,fuel,p,q,h1,h2,h3,h4,h5,_⟩,x,hx=>by
  rcases List.mem_cons.1 hx with rfl | hx
  ·exact ⟨g,t,cs,fuel,p,h1,h2,h3,h4⟩
  ·exact laid_at h5 x hx
theorem laid_ints {P:Program} {W:World} {l:List (String × DataW Unit)} {name:String} {kk:IntKind} {zs:List Int} {g:Nat} {t e:TypeId} {n:Nat} (h:laidMet P l W) (hm:(name,Lib.tabData kk zs) ∈ l)
  (hg:P.globalNamed name = some g) (hty:(P.globals[g]?).map (·.type) = some t) (ht:P.underlying t = some (.array n e)) (he:P.underlying e = some (.int kk)) (hce:P.cellsOf e = 1) (hct:P.cellsOf t = n) (k:Nat) (x:Value) (hx:(Glob.arr (.int kk) zs).vals[k]? = some x):W.cell? ⟨g,k,none⟩ = some x := by
 obtain ⟨ps,h,_⟩ := h
 obtain ⟨g',t',cs,fuel,p,hg',ht',hvar,hd⟩ := laid_at h _ hm
 obtain rfl := Option.some.inj (hg.symm.trans hg')
 obtain rfl := Option.some.inj (hty.symm.trans ht')
 have hc := Lib.cells_of_tab ht he hce hct hd
 have e:∀ zs:List Int,(Glob.arr (.int kk) zs).vals = zs.map fun z=>Value.int kk z := by
  intro zs
  simp only [Glob.vals]
  induction zs with
  | nil=>rfl
  | cons s ss ih=>rw [List.flatMap_cons,List.map_cons,ih]; rfl
 rw [World.var?_cell hg hvar,← hx,e,← hc]
 simp
end Go.Eng

/- What a function leaves that writes over all the room of a slice that it is lent. -/
namespace Go.Eng
open Go.RowKit
set_option linter.unusedVariables false
set_option linter.unusedSimpArgs false
structure But (g:Nat) (w w':World):Prop where
 os:w'.os = w.os
 tape:w'.tape = w.tape
 output:w'.output = w.output
 size:w'.heap.size = w.heap.size
 block:∀ b,b ≠ g → w'.heap[b]? = w.heap[b]?
theorem But.refl (g:Nat) (w:World):But g w w := ⟨rfl,rfl,rfl,rfl,fun _ _=>rfl⟩
theorem But.set {g:Nat} {w w':World} (h:But g w w') (cs:Array Value):But g w (w'.setRow g cs) := by
 obtain ⟨e1,e2,e3,e4⟩ := setRow_world w' g cs
 exact ⟨by rw [e1,h.os],by rw [e2,h.tape],by rw [e3,h.output],by rw [e4,h.size],fun b hb=>by rw [setRow_other w' g b cs hb]; exact h.block b hb⟩
theorem wl_run {P:Program} {ops:Array Oper} {Q:Exit → Act → World → Prop} {rest:List Oper} {o:Oper} {a:Act} {w:World} {v:Value} (hg:o.guard = none) (hrun:(execOp a.eval o).run P w = .ok (.value v) w) (h:wpList P ops Q rest (a.put o.dst v) w):wpList P ops Q (o :: rest) a w :=
 wpList_plain hg fun K hK=>wp_of_run hrun (hK _ _ h)
theorem put_get (a:Act) (d j:Nat) (v:Value) (hd:d < a.tmps.size):(a.put (some d) v).tmps.getD j undef = if j = d then v else a.tmps.getD j undef := getD_set _ _ _ _ hd
theorem ev_tmp (a:Act) (j:Nat):a.eval (.tmp j) = a.tmps.getD j undef := rfl
end Go.Eng

/- A slice held against nil; the copy that the library makes. -/
namespace Go.Eng
open Go.RowKit
set_option linter.unusedVariables false
set_option linter.unusedSimpArgs false
variable {X:Ctx} {n:Nat} {Z:List Nat} {st:St} {Q:Exit → St → Prop}
theorem nil_test {P:Program} {t e:TypeId} {a:Option Addr} {l c:Nat} (h:P.underlying t = some (.slice e)) (w:World) (x y:Operand) :
  (do eqGuard .eql t x y (.slice a l c) (.slice none 0 0); binOp .eql t (.slice a l c) (.slice none 0 0):Sem Value).run P w = .ok (.bool a.isNone) w := by
 simp [eqGuard,binOp,run_equal_slice_nil w t e a l c h]
theorem AW_nil {id s0 d1 d2:Nat} {o1 o2:Oper} {t t' e:TypeId} {sz:Nat} {es:List T} (h1:o1.op = .move (.tmp s0)) (h2:o2.op = .binOp .eql t (.tmp d1) (.const (.slice none 0 0)) t') (k1:o1.dst = some d1) (k2:o2.dst = some d2) (g1:o1.guard = none) (g2:o2.guard = none)
  (hu:X.P.underlying t = some (.slice e)) (hs:stG n st s0 = .t (.sl sz es)) (hd:d1 < n ∧ d1 ∉ Z) (hd2:d2 < n ∧ d2 ∉ Z) (n1:(stG n st d1).owner = false) (n2:(stG n (st.put d1 (.t (.sl sz es))) d2).owner = false)
  (hQ:∀ b:Bool,(b = true → es = []) → Q .normal ((st.put d1 (.t (.sl sz es))).put d2 (.t (.v (.bool b))))):AW X n Z (.region id #[o1,o2] false) st Q := by
 intro D gc v0 w0 tmps w hI
 refine wp_region_list ?_
 obtain ⟨c,hf,hbd⟩ := hI.frm
 have hr := hf.rep s0
 rw [hs] at hr
 have hsl:∃ a l cp,tmps.getD s0 undef = .slice a l cp ∧ (a.isNone = true → es = []) := by
  generalize tmps.getD s0 undef = v at hr
  generalize c s0 = c0 at hr
  cases hr with
  | slnil=>exact ⟨_,_,_,rfl,fun _=>rfl⟩
  | sl=>exact ⟨_,_,_,rfl,fun h=>by cases h⟩
 obtain ⟨a,l,cp,hv,hnone⟩ := hsl
 have hz0:∀ b,c s0 b = 0 := TRep.zero (show TRep w _ (.sl sz es) _ _ from hr) rfl
 have hI1:Inv X n Z D gc v0 w0 (upd (stG n st) d1 (.t (.sl sz es))) (tmps.setIfInBounds d1 (.slice a l cp)) w :=
  hI.put hd n1 (Below.refl _ _) hf hbd (fun h=>by cases h) ⟨fun _=>0,by
   rw [hv] at hr
   exact TRep.mono (fun b _ hb=>⟨⟨hb,rfl⟩,rfl⟩) (Nat.le_refl _) (TRep.zeroed hr rfl) (fun _ h=>absurd h (by simp)),fun b hb=>absurd hb (by simp),fun _=>Nat.zero_le _⟩
 rw [← stG_put] at hI1
 obtain ⟨c',hf',hbd'⟩ := hI1.frm
 have hI2 := hI1.put hd2 n2 (Below.refl _ _) hf' hbd' (v := .bool a.isNone) (a := .t (.v (.bool a.isNone))) (fun h=>by cases h) ⟨fun _=>0,.v _ _ (fun _=>rfl),fun b hb=>absurd hb (by simp),fun _=>Nat.zero_le _⟩
 rw [← stG_put] at hI2
 refine wl_run (v := .slice a l cp) g1 (by unfold execOp; simp only [h1]; rw [ev_tmp,hv]; rfl) ?_
 rw [k1]
 refine wl_run (v := .bool a.isNone) g2 ?_ ?_
 ·unfold execOp; simp only [h2]
  have e1:Act.eval ((⟨tmps,[]⟩:Act).put (some d1) (.slice a l cp)) (.tmp d1) = .slice a l cp := by
   rw [ev_tmp,put_get _ _ _ _ (by show d1 < tmps.size; rw [hI.size]; exact hd.1),if_pos rfl]
  rw [e1]
  exact run_val (nil_test hu w _ _)
 rw [k2]
 exact wpList_nil ⟨rfl,_,hQ a.isNone hnone,hI2⟩
theorem APure_of_nil {Y:DX} {E:Env} {F:FnD} (hY:DXOk Y X) (hE:EnvOk X E) (hm:X.P.follows .mixedOrders = true) {f:FuncId} {fn:Func} {body:Code} (hf:X.P.funcs[f]? = some fn) (hb:fn.body = some body) (hn:fn.ntmps = F.n) (hrs:fn.results = (F.rs.map (resVar F.cl)).toArray) (hndr:F.rs.Nodup)
  {args:List DT} (hlen:args.length ≤ F.n) (hnd:nodupN ((subsC body []).map (·.1)) = true) {fuel id s0 d1 d2:Nat} {o1 o2:Oper} {fs:List Fr} {st1:DSt} {t t' e:TypeId} {ty:Ty} {l:List ty.I} {xs:List DT}
  (hp:look (subsC body []) id = some (fs,#[o1,o2],false)) (h1:o1.op = .move (.tmp s0)) (h2:o2.op = .binOp .eql t (.tmp d1) (.const (.slice none 0 0)) t') (k1:o1.dst = some d1) (k2:o2.dst = some d2) (g1:o1.guard = none) (g2:o2.guard = none)
  (hu:X.P.underlying t = some (.slice e)) (hs:st1.find s0 = some (.t (.s (.sl ty.sz ty) l))) (hd:dstD F.n F.Z st1 d1 = true) (hd2:dstD F.n F.Z (st1.put d1 (.t (.s (.sl ty.sz ty) l))) d2 = true) (hw1:WF st1)
  (hent:∀ (goto:Nat → DSt → Option Unit) (ret:List DT → Option Unit),runD Y E F goto ret fuel (.code body []) (entryD 0 args) = goto id st1)
  (hrun:∀ b:Bool,(b = true → l = []) → ∀ (goto:Nat → DSt → Option Unit) (ret:List DT → Option Unit),ret xs = some () → runD Y E F goto ret fuel (.norm fs) ((st1.put d1 (.t (.s (.sl ty.sz ty) l))).put d2 (.t (.s .bool b))) = some ()) (hZ:F.Z = [] := by rfl) :
  APure X f (args.map DT.toT) (resT (xs.map DT.toT)) := by
 classical
 let S := subsC body []
 let ret:List DT → Option Unit := fun ys=>if ys = xs then some () else none
 have hcovS:CovC S body [] := fun p hp=>hp
 have hcov:∀ id fs ops op,(id,fs,ops,op) ∈ subsC body [] → CovF (subsC body []) fs := covF_of S body [] hcovS trivial
 have hQ:∀ ex s,EndQ X F (fun ys=>ret ys = some ()) ex s → EndQ X F (fun ys=>ys = xs) ex s := by
  rintro ex s ⟨hex,s',ys,h1,h2,h3,h5,h4⟩
  refine ⟨hex,s',ys,h1,h2,h3,h5,?_⟩
  by_cases e:ys = xs
  ·exact e
  ·simp only [ret,if_neg e] at h4; cases h4
 have hret:ret xs = some () := by simp only [ret,if_true]
 refine APure_of_AW hZ hf hb hn hrs hndr hlen ?_
 rw [← entryD_toSt]
 let goto:Nat → DSt → Option Unit := fun i st=>if i = id ∧ st = st1 then some () else none
 refine runD_sound (r := ()) (goto := goto) (ret := ret) (S := S) hY hE hm hQ (fun _ _ hp=>by cases hp) (fun i st' gs ops op hw hg hpp=>?_) fuel (.code body []) _ (entryD_wf 0 args) ⟨hcovS,trivial⟩ (by rw [hent]; simp only [goto,and_self,if_true])
 by_cases hx:i = id ∧ st' = st1
 ·obtain ⟨rfl,rfl⟩ := hx
  have hlk := look_of hnd hpp
  have e1:(fs,#[o1,o2],false) = (gs,ops,op) := Option.some.inj (hp.symm.trans hlk)
  cases e1
  obtain ⟨q1,q2,q3⟩ := dstD_spec hd
  obtain ⟨r1,r2,r3⟩ := dstD_spec hd2
  have hsT:stG F.n st'.toSt s0 = .t (.sl ty.sz (l.map ty.enc)) := by rw [stG_toSt,hs]; rfl
  refine AW_nil (e := e) (sz := ty.sz) (es := l.map ty.enc) h1 h2 k1 k2 g1 g2 hu hsT ⟨q1.1,q1.2.1⟩ ⟨r1.1,r1.2.1⟩ q1.2.2 (by have := r1.2.2; rw [put_toSt] at this; exact this) (fun b hb0=>?_)
  have hb1:b = true → l = [] := fun h=>List.map_eq_nil_iff.1 (hb0 h)
  have hw2:WF ((st'.put d1 (.t (.s (.sl ty.sz ty) l))).put d2 (.t (.s .bool b))) := WF.put (a := .t (.s .bool b)) (WF.put (a := .t (.s (.sl ty.sz ty) l)) hw q2 q3 trivial rfl) r2 r3 trivial rfl
  have := runD_sound (X := X) (r := ()) (goto := fun _ _=>none) (ret := ret) (S := S) hY hE hm hQ (fun _ _ hp=>by cases hp) (fun _ _ _ _ _ _ hg _=>by cases hg) fuel (.norm fs) _ hw2 (hcov _ _ _ _ hpp) (hrun b hb1 _ _ hret)
  show Qf X F.n F.Z _ fs .normal _
  have e2:((st'.put d1 (.t (.s (.sl ty.sz ty) l))).put d2 (.t (.s .bool b))).toSt = ((st'.toSt).put d1 (.t (.sl ty.sz (l.map ty.enc)))).put d2 (.t (.v (.bool b))) := by
   rw [put_toSt,put_toSt]; rfl
  rw [← e2]
  exact this
 ·simp only [goto,if_neg hx] at hg; cases hg
theorem castSl_some {t b:Ty} {l:List t.I} {l':List b.I} (h:castT (a := .sl 1 t) (b := .sl 1 b) l = some l'):∃ e:t = b,(e ▸ l:List b.I) = l' := by
 obtain ⟨e,h⟩ := castT_some h
 have e2:t = b := by injection e
 subst e2
 exact ⟨rfl,h⟩
def beqO (a b:Nat):Option Unit := match Nat.beq a b with
 | true=>some ()
 | false=>none
theorem beqO_some {a b:Nat} {u:Unit} (h:beqO a b = some u):a = b := by
 unfold beqO at h
 cases hb:Nat.beq a b with
 | true=>exact Nat.eq_of_beq_eq_true hb
 | false=>rw [hb] at h; cases h
end Go.Eng
