/- A part of the proof: D3. -/
import Derived.Test.YtnjcbogckfiamaaDoorD2
import Derived.Test.YtnjcbogckfiamaaDoorE3
import Derived.Test.YtnjcbogckfiamaaDoorE4
import Derived.Control
import Derived.Scope
namespace Go.Eng
open Go.RowKit (Below)
set_option linter.unusedVariables false
set_option linter.unusedSimpArgs false
set_option linter.unusedSectionVars false
variable {X:Ctx} {Y:DX} {n:Nat} {Z:List Nat} {st:DSt} {E:Env} {ρ:Type} {r:ρ} {Q:Exit → St → Prop}
def lateOkB (loc mid tl:List Oper) (tab hd:List (List Nat)):Bool :=
 ancOk (loc ++ mid ++ tl) tab && (hideOk2 (loc ++ mid ++ tl) loc tab hd && ((List.range (loc ++ mid ++ tl).length).all fun k=>decide (k < loc.length) || (List.range k).all fun j=>(j == 0 && decide (k < (loc ++ mid).length)) || (tab.getD k []).contains j))
theorem AW_late {id:Nat} {ops:Array Oper} {st:St} (o0:Oper) (loc mid tl:List Oper) (tab hd:List (List Nat)) {rr d:Nat} (hops:ops.toList = loc ++ mid ++ tl) (hm:X.P.follows .mixedOrders = true) (hok:lateOkB loc mid tl tab hd = true) (hL:LateOk n Z (loc ++ mid ++ tl) o0 rr d) (hlp:0 < loc.length)
  (hn:st.find n = none) (hg0:stG n st d = .t .u) {sts:Nat → St} {bs:Nat → A} (q1:sts 0 = st) (hb0:bs 0 = .t .u)
  (hK:MidP X n Z (loc ++ mid ++ tl) d mid (sts loc.length) (fun s => ∃ e cs,stG n s rr = .t (.box e cs) ∧ RegP X n Z (loc ++ mid ++ tl) tl (s.put d (.pref rr none 0)) (Q .normal)))
  (q3:∀ k o,loc[k]? = some o → ∃ d,o.dst = some d ∧ dstOk n Z (sts k) d ∧ bs k ≠ .ghost ∧ LG X (loc ++ mid ++ tl) (stG n ((sts k).hide (hd.getD k []))) o (bs k) ∧ sts (k + 1) = (sts k).put d (bs k)):AW X n Z (.region id ops true) st Q := by
 intro D gc v0 w0 tmps w hI
 refine wp_region_any hm ?_
 simp only [lateOkB,Bool.and_eq_true] at hok
 obtain ⟨o1,o2,o3⟩ := hok
 have hI2 := hI.drawn (w.drawn + 1)
 have hoa:ops = (loc ++ mid ++ tl).toArray := by rw [← hops]
 subst hoa
 simp only [List.all_eq_true,List.mem_range,Bool.or_eq_true,Bool.and_eq_true,decide_eq_true_eq,List.contains_iff_mem,beq_iff_eq] at o3
 refine late_sound (K := Q .normal) rfl o1 o2 hL hlp (fun k h1 h2 j hj0 hj=>?_) (fun k h1 h2 j hj=>?_) (fun st' tmps' w' hK hI'=>⟨rfl,st',hK,hI'⟩) (by rw [q1]; exact hn) hb0 (by rw [q1]; exact hg0) hK q3 _ _ tmps _ (by simp) (fun j o hj hl=>?_) (fun k hl=>?_) (fun hl=>?_) (by simp) ?_
 ·rcases o3 k h2 with e | e
  ·omega
  ·rcases e j hj with e | e
   ·omega
   ·exact e
 ·have hle:loc.length ≤ (loc ++ mid).length := by simp
  rcases o3 k h2 with e | e
  ·omega
  ·rcases e j hj with e | e
   ·omega
   ·exact e
 ·exact absurd hl (lst_repl _ _)
 ·exact absurd hl (lst_repl _ _)
 ·exact absurd hl (lst_repl _ _)
 ·have:mixG loc bs (Lst (Array.replicate (loc ++ mid ++ tl).toArray.size false)) (stG n (sts 0)) = stG n st := by
   funext i
   unfold mixG
   cases which loc i with
   | none=>rw [q1]
   | some k =>
    simp only
    rw [if_neg (lst_repl _ _),q1]
  rw [this]; exact hI2
theorem late_LG {all:List Oper} {o0:Oper} {rr d:Nat} {g:Nat → A} (hL:LateOk n Z all o0 rr d):LG X all g o0 (.t .u) := by
 intro tmps ds w c hG hf next Q hn
 rw [if_pos (by simp [Region.wanted,hL.grd])]
 refine wp_of_run (v := tmps.getD rr undef) (w' := w) ?_ (hn _ w (Below.refl _ _) ⟨fun _=>0,.u _ _ (fun _=>rfl),fun b hb=>absurd hb (by simp),fun b=>by simp⟩)
 unfold execOp
 simp only [hL.op]; rfl
def isU (st:DSt) (d:Nat):Bool := match st.find d with
 | some (.t .u)=>true
 | _=>false
def isBox (st:DSt) (d:Nat):Bool := match st.find d with
 | some (.t (.box _ _))=>true
 | _=>false
def midD (Y:DX) (n:Nat) (Z:List Nat) (E:Env) (all:List Oper) (d:Nat):List Oper → DSt → (DSt → Option ρ) → Option ρ
 | [],st,K=>tst (isU st d) (K st)
 | o :: rest,st,K=>tst (isU st d) (@gopD ρ noPan Y n (d :: Z) E all st o fun st'=>midD Y n Z E all d rest st' K)
theorem isU_spec {d:Nat} (h:isU st d = true):stG n st.toSt d = .t .u := by
 unfold isU at h
 rw [stG_toSt]
 split at h
 ·rename_i e; rw [e]; rfl
 ·cases h
theorem midD_sound (hY:DXOk Y X) (hE:EnvOk X E) {all:List Oper} {d:Nat} {K:DSt → Option ρ}:∀ (rest:List Oper) (st:DSt),WF st → midD Y n Z E all d rest st K = some r →
  MidP X n Z all d rest st.toSt (fun s => ∃ st',s = st'.toSt ∧ WF st' ∧ K st' = some r)
 | [],st,hw,h=>by
  obtain ⟨h0,h⟩ := tst_some h
  exact ⟨isU_spec h0,st,rfl,hw,h⟩
 | o :: rest,st,hw,h=>by
  obtain ⟨h0,h⟩ := tst_some h
  rcases @gopD_sound X Y n (d :: Z) st E ρ noPan r hY hE hw _ _ _ h with ⟨st',h1,h2,h3⟩ | ⟨pv,st',h1,h2⟩
  case inr=>cases h2
  exact ⟨isU_spec h0,st'.toSt,h1,midD_sound hY hE rest st' h2 h3⟩
theorem MidP_mono {all:List Oper} {d:Nat} {K K':St → Prop} (hk:∀ s,K s → K' s):∀ (rest:List Oper) (s:St),MidP X n Z all d rest s K → MidP X n Z all d rest s K'
 | [],s,h=>⟨h.1,hk s h.2⟩
 | o :: rest,s,h=>by
  obtain ⟨h1,st',h2,h3⟩ := h
  exact ⟨h1,st',h2,MidP_mono hk rest st' h3⟩
def lateO (ops:List Oper):Option (Nat × Nat) := match ops with
 | o :: _=>match o.guard,o.op,o.dst with
  | none,.move (.tmp rr),some d=>some (rr,d)
  | _,_,_=>none
 | []=>none
def cutLL (tab:List (List Nat)):Nat → Nat
 | 0=>1
 | k + 1=>match (List.range k).all fun j=>j == 0 || (tab.getD k []).contains j with
  | true=>cutLL tab k
  | false=>k + 1
def cutN (tab:List (List Nat)):Nat → Nat
 | 0=>0
 | k + 1=>match (List.range k).all fun j=>(tab.getD k []).contains j with
  | true=>cutN tab k
  | false=>k + 1
def lateA (ops:List Oper):List Oper := ops.take (cutLL (ancTab ops []) ops.length)
def lateR (ops:List Oper):List Oper := ops.drop (cutLL (ancTab ops []) ops.length)
def lateM (ops:List Oper):List Oper := (lateR ops).take (cutN (ancTab ops []) ops.length - cutLL (ancTab ops []) ops.length)
def lateT (ops:List Oper):List Oper := (lateR ops).drop (cutN (ancTab ops []) ops.length - cutLL (ancTab ops []) ops.length)
theorem late_split (ops:List Oper):lateA ops ++ lateM ops ++ lateT ops = ops := by
 unfold lateA lateM lateT
 rw [List.append_assoc,List.take_append_drop]
 unfold lateR
 exact List.take_append_drop _ _
def isApp (o:Oper):Bool := match o.op with
 | .call { callee := .builtin .append,.. }=>true
 | _=>false
def freshD (st:DSt) (d:Nat):Bool := match st.find d with
 | none=>true
 | some (.t .u)=>true
 | _=>false
def lateD (Y:DX) (n:Nat) (Z:List Nat) (E:Env) (ops:List Oper) (st:DSt) (K:DSt → Option ρ):Option ρ := match lateO ops with
 | some (rr,d) =>
  tst (memN Z rr && (lateOkB (lateA ops) (lateM ops) (lateT ops) (ancTab ops []) (hideT (lateA ops) (ancTab ops [])) && ((st.find n).isNone && (freshD st d && (dstD n Z st d && Nat.blt 0 (lateA ops).length)))))
   (drawD Y n Z E ops ((hideT (lateA ops) (ancTab ops [])).drop 1) ((lateA ops).drop 1) (st.put d (.t .u)) fun s=>midD Y n Z E ops d (lateM ops) s fun s1=>tst (isBox s1 rr && dstD n Z s1 d) (@regD ρ noPan Y n Z E ops (lateT ops) (s1.put d (.pref rr none 0)) K))
 | none=>none
theorem late_D_sound (hY:DXOk Y X) (hE:EnvOk X E) (hm:X.P.follows .mixedOrders = true) (hw:WF st) {id:Nat} {ops:Array Oper} {K:DSt → Option ρ} (h:lateD Y n Z E ops.toList st K = some r)
  (hQ:∀ st',WF st' → K st' = some r → Q .normal st'.toSt):AW X n Z (.region id ops true) st.toSt Q := by
 unfold lateD at h
 split at h
 ·rename_i rr d hlo
  obtain ⟨h0,h⟩ := tst_some h
  simp only [Bool.and_eq_true,Option.isNone_iff_eq_none,Nat.blt_eq] at h0
  obtain ⟨hrz,hok,hn,hfr,hds,hlp⟩ := h0
  obtain ⟨k1,k2,k3⟩ := dstD_spec hds
  have hw1:WF (st.put d (.t .u)) := hw.put k2 k3 trivial rfl
  obtain ⟨sts,bs,q1,q2,q3,q4⟩ := drawD_sound (n := n) (Z := Z) hY hE _ _ _ hw1 h
  have hmid := midD_sound (n := n) (Z := Z) hY hE _ _ q2 q3
  obtain ⟨o0,hat,hop,hgd,hdst⟩:∃ o0,ops.toList[0]? = some o0 ∧ o0.op = .move (.tmp rr) ∧ o0.guard = none ∧ o0.dst = some d := by
   unfold lateO at hlo
   split at hlo
   ·rename_i o rest ho
    split at hlo
    ·rename_i r2 d2 g1 g2 g3
     cases hlo
     exact ⟨o,by rw [ho]; rfl,g2,g1,g3⟩
    ·cases hlo
   ·cases hlo
  have hsp := late_split ops.toList
  have hL:LateOk n Z (lateA ops.toList ++ lateM ops.toList ++ lateT ops.toList) o0 rr d := ⟨by rw [hsp]; exact hat,hop,hdst,hgd,k1.1,k1.2.1,memN_spec.1 hrz⟩
  have hA0:(lateA ops.toList)[0]? = some o0 := by
   have := hL.at0
   rw [List.append_assoc,List.getElem?_append_left hlp] at this; exact this
  refine AW_late o0 (lateA ops.toList) (lateM ops.toList) (lateT ops.toList) _ _ hsp.symm hm hok hL hlp ?_ ?_ (sts := fun k=>match k with | 0=>st.toSt | k + 1=>(sts k).toSt) (bs := fun k=>match k with | 0=>.t .u | k + 1=>bs k) rfl rfl ?_ ?_
  ·rw [find_toSt,hn]; rfl
  ·rw [stG_toSt]
   unfold freshD at hfr
   have:¬ d = n := by have := k1.1; omega
   cases hf:st.find d with
   | none=>simp only [if_neg this]
   | some a =>
    rw [hf] at hfr
    split at hfr
    ·rename_i e; cases e
    ·rename_i e; cases e; rfl
    ·cases hfr
  ·obtain ⟨m,hm2⟩:∃ m,(lateA ops.toList).length = m + 1 := ⟨(lateA ops.toList).length - 1,by omega⟩
   rw [List.length_drop,hm2,Nat.add_sub_cancel] at hmid
   rw [hm2,hsp]
   refine MidP_mono (fun s hs=>?_) _ _ hmid
   obtain ⟨s1,rfl,w1,hs⟩ := hs
   obtain ⟨h5,hs⟩ := tst_some hs
   simp only [Bool.and_eq_true] at h5
   obtain ⟨c1,c2,c3⟩ := dstD_spec h5.2
   have hb := h5.1
   unfold isBox at hb
   split at hb
   ·rename_i e cs hf
    refine ⟨e,cs.map DT.toT,by rw [stG_toSt,hf]; simp only [DA.toA,DT.toT,all_eq],?_⟩
    have := RegQ_P (fun pv s hp=>by cases hp.1) _ _ (@regD_sound X Y n Z E ρ noPan r hY hE _ _ _ _ (w1.put (a := .pref rr none 0) c2 c3 trivial rfl) hs)
    rw [put_toSt] at this
    exact RegP_mono _ _ (fun s hs=>by obtain ⟨st',rfl,h1,h2⟩ := hs; exact hQ st' h1 h2) this
   ·cases hb
  ·rw [hsp]
   intro k o hk
   cases k with
   | zero =>
    rw [hA0] at hk; cases hk
    refine ⟨d,hdst,k1,(fun e=>by cases e),late_LG (n := n) (Z := Z) (rr := rr) (d := d) (show LateOk n Z ops.toList o0 rr d by rw [hsp] at hL; exact hL),?_⟩
    show (sts 0).toSt = _
    rw [q1,put_toSt]; rfl
   | succ k =>
    obtain ⟨d',e1,e2,e3,e4,e5⟩ := q4 k o (by rw [List.getElem?_drop,Nat.add_comm]; exact hk)
    refine ⟨d',e1,e2,e3,?_,e5⟩
    have:((hideT (lateA ops.toList) (ancTab ops.toList [])).drop 1).getD k [] = (hideT (lateA ops.toList) (ancTab ops.toList [])).getD (k + 1) [] := by
     rw [List.getD_eq_getElem?_getD,List.getD_eq_getElem?_getD,List.getElem?_drop,Nat.add_comm]
    rw [this] at e4
    exact e4
 ·cases h
def useLate (ops:List Oper):Bool := (lateO ops).isSome && (lateM ops).any isApp
variable [Pan ρ]
def regionL (Y:DX) (n:Nat) (Z:List Nat) (E:Env) (ops:Array Oper) (op:Bool) (st:DSt) (K:DSt → Option ρ):Option ρ := match op && useLate ops.toList with
 | true=>lateD Y n Z E ops.toList st K
 | false=>regionD Y n Z E ops op st K
theorem regionL_sound (hY:DXOk Y X) (hE:EnvOk X E) (hm:X.P.follows .mixedOrders = true) (hw:WF st) {id:Nat} {ops:Array Oper} {op:Bool} {K:DSt → Option ρ} (h:regionL Y n Z E ops op st K = some r)
  (hP:∀ pv (st':DSt),(Pan.pan pv:Option ρ) = some r → Q (.panic [{ v := pv,recovered := false }]) st'.toSt) (hQ:∀ st',WF st' → K st' = some r → Q .normal st'.toSt):AW X n Z (.region id ops op) st.toSt Q := by
 unfold regionL at h
 split at h
 ·rename_i hb
  simp only [Bool.and_eq_true] at hb
  rw [hb.1]
  exact late_D_sound hY hE hm hw h hQ
 ·exact region_sound hY hE hm hw h hP hQ
end Go.Eng

/- Operations on slots alone that may come late: their values are known ahead. -/
namespace Go.Eng
open Go.RowKit (Below)
set_option linter.unusedVariables false
set_option linter.unusedSimpArgs false
variable {X:Ctx} {n:Nat} {Z R:List Nat} {D:Nat → Prop} {gc:Cnt} {v0 v1:Nat → Value} {w0 w:World} {g:Nat → A} {tmps:Array Value}
abbrev Fl := Nat × Nat × Value
def flD (F:List Fl):List Nat := F.map fun f=>f.2.1
def FlRun (X:Ctx) (R:List Nat) (v:Nat → Value) (all:List Oper) (tab:List (List Nat)) (F:List Fl) (f:Fl):Prop :=
 ∀ (tmps:Array Value) (ds:List Deferred) (w:World) (Qp:Exit → Act → World → Prop) (next:Act → World → Prop),(∀ z ∈ R,tmps.getD z undef = v z) → (∀ f' ∈ F,f'.1 ∈ tab.getD f.1 [] → tmps.getD f'.2.1 undef = f'.2.2) →
  next ⟨tmps.setIfInBounds f.2.1 f.2.2,ds⟩ w → wpOp X.P all.toArray Qp f.1 next ⟨tmps,ds⟩ w
structure FlOk (X:Ctx) (n:Nat) (R:List Nat) (v:Nat → Value) (all:List Oper) (tab:List (List Nat)) (F:List Fl):Prop where
 fl:∀ f ∈ F,(∃ o,all[f.1]? = some o ∧ o.dst = some f.2.1) ∧ f.2.1 < n ∧ f.2.1 ∉ R ∧ FlRun X R v all tab F f
 nod:∀ f ∈ F,∀ f' ∈ F,f.2.1 = f'.2.1 → f = f'
 inj:∀ f ∈ F,∀ f' ∈ F,f.1 = f'.1 → f = f'
def isFl (F:List Fl) (k:Nat):Prop := ∃ f ∈ F,f.1 = k
def midOff (n:Nat) (L:List Nat) (st:St):Prop := ∀ d ∈ L,stG n st d = .t .u
def MidF (X:Ctx) (n:Nat) (Z:List Nat) (all:List Oper) (L:List Nat):List Oper → St → (St → Prop) → Prop
 | [],st,K=>midOff n L st ∧ K st
 | o :: rest,st,K=>midOff n L st ∧ ∃ st',GStep' X n (L ++ Z) all (stG n st) o (stG n st') ∧ MidF X n Z all L rest st' K
theorem MidF.at {all:List Oper} {L:List Nat} {rest:List Oper} {st:St} {K:St → Prop} (h:MidF X n Z all L rest st K):midOff n L st := by
 cases rest <;> exact h.1
theorem MidF_mono {all:List Oper} {L:List Nat} {K K':St → Prop} (hk:∀ s,K s → K' s):∀ (rest:List Oper) (s:St),MidF X n Z all L rest s K → MidF X n Z all L rest s K'
 | [],s,h=>⟨h.1,hk s h.2⟩
 | o :: rest,s,h=>by
  obtain ⟨h1,st',h2,h3⟩ := h
  exact ⟨h1,st',h2,MidF_mono hk rest st' h3⟩
variable {ds:List Deferred} {Qp:Exit → Act → World → Prop} {K:St → Prop}
def FinF (X:Ctx) (n:Nat) (Z R:List Nat) (D:Nat → Prop) (gc:Cnt) (v0:Nat → Value) (w0:World) (F:List Fl) (s s2:St):Prop :=
 ∀ (tmps:Array Value) (w:World),Inv X n Z D gc v0 w0 (stG n s) tmps w → (∀ z ∈ R,tmps.getD z undef = v0 z) → (∀ f ∈ F,tmps.getD f.2.1 undef = f.2.2) → Inv X n Z D gc v0 w0 (stG n s2) tmps w
theorem midF_sound {all tl:List Oper} {F:List Fl} {loc m:Nat} {tab:List (List Nat)} (htab:ancOk all tab = true) (hF:FlOk X n (R ++ Z) v0 all tab F) (hFl:∀ f ∈ F,f.1 < loc)
  (hord:∀ k,loc ≤ k → k < all.length → ∀ j,j < k → ¬ isFl F j → j ∈ tab.getD k [])
  (htl:∀ k,m ≤ k → k < all.length → ∀ j,j < k → j ∈ tab.getD k []) (hQ:∀ st' tmps' w',K st' → Inv X n Z D gc v0 w0 (stG n st') tmps' w' → Qp .normal ⟨tmps',ds⟩ w') :
  ∀ (fuel:Nat) (rest pre:List Oper) (st:St),all = pre ++ rest ++ tl → loc ≤ pre.length → (pre ++ rest).length = m → MidF X n (R ++ Z) all (flD F) rest st (fun s => ∃ s2,FinF X n Z R D gc v0 w0 F s s2 ∧ RegP X n Z all tl s2 K) →
  ∀ (listed:Array Bool) (tmps:Array Value) (w:World) (v1:Nat → Value),listed.size = all.length → Closed all listed → (∀ k,¬ isFl F k → (Lst listed k ↔ k < pre.length)) → (∀ z ∈ R ++ Z,v1 z = v0 z) → (∀ f ∈ F,Lst listed f.1 → v1 f.2.1 = f.2.2) → listed.toList.count false ≤ fuel →
   Inv X n (flD F ++ (R ++ Z)) D gc v1 w0 (stG n st) tmps w → wpAny X.P .any all.toArray Qp fuel listed ⟨tmps,ds⟩ w := by
 intro fuel
 induction fuel with
 | zero=>?_
 | succ f ih=>?_
 all_goals
  intro rest pre st hall hle hm hK listed tmps w v1 hs hc hl hv hl0 hf hI
  have hgd := hK.at
  have hfx:∀ f ∈ F,tmps.getD f.2.1 undef = v1 f.2.1 := fun f hf=>hI.fix _ (List.mem_append_left _ (List.mem_map.2 ⟨f,hf,rfl⟩))
  have hzx:∀ z ∈ R ++ Z,tmps.getD z undef = v0 z := fun z hz=>by rw [hI.fix z (List.mem_append_right _ hz),hv z hz]
  by_cases hA:rest = [] ∧ ∀ f ∈ F,Lst listed f.1
  ·obtain ⟨rfl,h0⟩ := hA
   obtain ⟨_,s2,hfin,hR⟩ := hK
   rw [List.append_nil] at hall hm
   refine tail_sound (loc := pre) htab (fun k h1 h2=>htl k (by omega) h2) hQ tl pre _ hall (Nat.le_refl _) hR _ listed tmps w hs hc (fun k=>?_) hf ?_
   ·by_cases hk:isFl F k
    ·obtain ⟨f,h1,rfl⟩ := hk
     exact ⟨fun _=>by have := hFl f h1; omega,fun _=>h0 f h1⟩
    ·exact hl k hk
   ·refine hfin tmps w ?_ (fun z hz=>hzx z (List.mem_append_left _ hz)) (fun f h1=>by rw [hfx f h1,hl0 f h1 (h0 f h1)])
    rw [← List.append_assoc] at hI
    exact hI.fixLess (L := flD F ++ R) fun z hz=>hv z (List.mem_append_right _ hz)
  have hex:∃ j,j < all.length ∧ ¬ Lst listed j := by
   by_cases h0:∀ f ∈ F,Lst listed f.1
   ·have hr:rest ≠ [] := fun e=>hA ⟨e,h0⟩
    refine ⟨pre.length,?_,fun h=>?_⟩
    ·rw [hall]; cases rest with
     | nil=>exact absurd rfl hr
     | cons o t=>simp
    ·have := (hl pre.length (fun ⟨f,h1,h2⟩=>by have := hFl f h1; omega)).1 h; omega
   ·obtain ⟨f,h1⟩ := Classical.not_forall.1 h0
    obtain ⟨h1,h2⟩ := Classical.not_imp.1 h1
    obtain ⟨⟨o,h3,_⟩,_⟩ := hF.fl f h1
    exact ⟨f.1,(List.getElem?_eq_some_iff.1 h3).1,h2⟩
 ·obtain ⟨j,h1,h2⟩ := hex
  have := count_step (by rw [hs]; exact h1) h2
  omega
 ·obtain ⟨j,hj1,hj2⟩ := hex
  refine ⟨fun h0=>absurd (ready_ne hs htab h0 j hj1) hj2,fun i hi=>?_⟩
  obtain ⟨o',h1,h2,h3⟩ := (ready_iff hs).1 hi
  have hilt:i < all.length := (List.getElem?_eq_some_iff.1 h1).1
  have hcs := count_step (by rw [hs]; exact hilt) h2
  have hc2 := closed_set hc h1 (by rw [hs]; exact hilt) h3
  have hls:∀ q,Lst (listed.setIfInBounds i true) q ↔ Lst listed q ∨ q = i := fun q=>lst_set (by rw [hs]; exact hilt)
  by_cases hfi:isFl F i
  ·obtain ⟨f0,hf0,rfl⟩ := hfi
   obtain ⟨⟨o,_⟩,hdn,hdr,hrun⟩ := hF.fl f0 hf0
   refine hrun tmps ds w Qp _ hzx (fun f' hf' ha=>by rw [hfx f' hf',hl0 f' hf' (anc_listed htab hc _ _ h1 h3 _ ha)]) ?_
   have hI0 := hI.fixLess (L := flD F) (v0 := v0) hv
   obtain ⟨c,hfr,hbd⟩ := hI0.frm
   have hgd0 := hgd f0.2.1 (List.mem_map.2 ⟨f0,hf0,rfl⟩)
   have hI1 := hI0.put (d := f0.2.1) (v := f0.2.2) (a := .t .u) ⟨hdn,hdr⟩ (by rw [hgd0]; rfl) (Below.refl _ _) hfr hbd (fun e=>by cases e) ⟨fun _=>0,.u _ _ (fun _=>rfl),fun b hb=>absurd hb (by simp),fun b=>by simp⟩
   have hg2:upd (stG n st) f0.2.1 (.t .u) = stG n st := by
    funext q; unfold upd; split
    ·rename_i e; rw [e,hgd0]
    ·rfl
   rw [hg2] at hI1
   refine ih rest pre st hall hle hm hK _ _ w (fun q=>(tmps.setIfInBounds f0.2.1 f0.2.2).getD q undef) (by simpa using hs) hc2 (fun q hq=>?_) (fun z hz=>hI1.fix z hz) (fun f' hf' hl'=>?_) (by omega) (hI1.fixMore (flD F))
   ·rw [hls,hl q hq]
    constructor
    ·rintro (e | e)
     ·exact e
     ·exact absurd ⟨f0,hf0,e.symm⟩ hq
    ·exact .inl
   ·show (tmps.setIfInBounds f0.2.1 f0.2.2).getD f'.2.1 undef = f'.2.2
    rw [getD_set _ _ _ _ (by rw [hI.size]; exact hdn)]
    split
    ·rename_i e
     rw [hF.nod f' hf' f0 hf0 e]
    ·rename_i e
     rw [hfx f' hf']
     refine hl0 f' hf' ?_
     rcases (hls f'.1).1 hl' with e2 | e2
     ·exact e2
     ·exact absurd (by rw [hF.inj f' hf' f0 hf0 e2]) e
  ·have hge:pre.length ≤ i := by
    rcases Nat.lt_or_ge i pre.length with e | e
    ·exact absurd ((hl i hfi).2 e) h2
    ·exact e
   have hpn:¬ isFl F pre.length := fun ⟨f,q1,q2⟩=>by have := hFl f q1; omega
   have hieq:i = pre.length := by
    rcases Nat.lt_or_ge pre.length i with e | e
    ·have := anc_listed htab hc i o' h1 h3 pre.length (hord i (by omega) hilt _ e hpn)
     have := (hl pre.length hpn).1 this
     omega
    ·omega
   subst hieq
   cases rest with
   | nil =>
    rw [List.append_nil] at hm
    exact absurd ⟨rfl,fun f hf=>anc_listed htab hc _ o' h1 h3 f.1 (htl _ (by omega) hilt f.1 (by have := hFl f hf; omega))⟩ hA
   | cons o rest' =>
    have hko:all[pre.length]? = some o := by rw [hall,List.append_assoc,List.getElem?_append_right (Nat.le_refl _)]; simp
    rw [h1] at hko; cases hko
    obtain ⟨_,st',k1,k2⟩ := hK
    have := k1 D gc v1 w0 tmps ds w hI (wpAny X.P .any all.toArray Qp f (listed.setIfInBounds pre.length true)) Qp (fun tmps' w' hI'=>ih rest' (pre ++ [o']) st' (by rw [hall]; simp) (by simp; omega) (by rw [← hm]; simp) k2 _ tmps' w' v1 (by simpa using hs) hc2 (fun q hq=>by
     rw [hls,hl q hq]; simp; omega) hv (fun f hf h=>hl0 f hf (by
     rcases (hls f.1).1 h with e | e
     ·exact e
     ·exact absurd ⟨f,hf,e⟩ hfi)) (by omega) hI')
    unfold wpOp
    rw [List.getElem?_toArray,h1]
    simp only
    split
    ·rename_i hw; rw [if_pos hw] at this; exact .inl this
    ·rename_i hw; rw [if_neg hw] at this; exact this
theorem mixF_full {loc:List Oper} {bs:Nat → A} {g0:Nat → A} {S:Nat → Prop} [DecidablePred S] {F:List Fl} (hF:∀ f ∈ F,∃ o,loc[f.1]? = some o ∧ o.dst = some f.2.1) (hb:∀ f ∈ F,bs f.1 = .t .u) (hg:∀ f ∈ F,g0 f.2.1 = .t .u) (hf:∀ k,¬ isFl F k → k < loc.length → S k):mixG loc bs S g0 = mixG loc bs (· < loc.length) g0 := by
 funext i
 unfold mixG
 cases hw:which loc i with
 | none=>rfl
 | some k =>
  obtain ⟨o,h1,h2⟩ := which_some hw
  have hk := (List.getElem?_eq_some_iff.1 h1).1
  simp only
  rw [if_pos hk]
  by_cases hfk:isFl F k
  ·obtain ⟨f,q1,rfl⟩ := hfk
   obtain ⟨o2,q2,q3⟩ := hF f q1
   rw [h1] at q2; cases q2
   rw [h2] at q3; cases q3
   split
   ·rfl
   ·rw [hg f q1,hb f q1]
  ·rw [if_pos (hf k hfk hk)]
theorem lateF_sound {all loc mid tl:List Oper} {tab hd:List (List Nat)} {F:List Fl} (hall:all = loc ++ mid ++ tl) (htab:ancOk all tab = true) (hhd:hideOk2 all loc tab hd = true) (hF:FlOk X n (R ++ Z) v0 all tab F) (hFl:∀ f ∈ F,f.1 < loc.length)
  (hord:∀ k,loc.length ≤ k → k < all.length → ∀ j,j < k → ¬ isFl F j → j ∈ tab.getD k []) (htl:∀ k,(loc ++ mid).length ≤ k → k < all.length → ∀ j,j < k → j ∈ tab.getD k [])
  (hQ:∀ st' tmps' w',K st' → Inv X n Z D gc v0 w0 (stG n st') tmps' w' → Qp .normal ⟨tmps',ds⟩ w') {sts:Nat → St} {bs:Nat → A} (hn:(sts 0).find n = none) (hb0:∀ f ∈ F,bs f.1 = .t .u) (hg0:∀ f ∈ F,stG n (sts 0) f.2.1 = .t .u)
  (hK:MidF X n (R ++ Z) all (flD F) mid (sts loc.length) (fun s => ∃ s2,FinF X n Z R D gc v0 w0 F s s2 ∧ RegP X n Z all tl s2 K))
  (hst:∀ k o,loc[k]? = some o → ∃ d,o.dst = some d ∧ dstOk n (R ++ Z) (sts k) d ∧ bs k ≠ .ghost ∧ (isFl F k ∨ LG X all (stG n ((sts k).hide (hd.getD k []))) o (bs k)) ∧ sts (k + 1) = (sts k).put d (bs k)) :
  ∀ (fuel:Nat) (listed:Array Bool) (tmps:Array Value) (w:World),listed.size = all.length → Closed all listed → (∀ k,Lst listed k → k < loc.length) → (∀ f ∈ F,Lst listed f.1 → tmps.getD f.2.1 undef = f.2.2) → listed.toList.count false ≤ fuel →
   Inv X n (R ++ Z) D gc v0 w0 (mixG loc bs (Lst listed) (stG n (sts 0))) tmps w → wpAny X.P .any all.toArray Qp fuel listed ⟨tmps,ds⟩ w := by
 have hhd' := hhd
 simp only [hideOk2,Bool.and_eq_true,decide_eq_true_eq,List.all_eq_true,List.mem_range,Bool.or_eq_true,beq_iff_eq,List.contains_iff_mem] at hhd
 obtain ⟨hnd,hhd⟩ := hhd
 have hall2:all = loc ++ (mid ++ tl) := by rw [hall,List.append_assoc]
 have h00:∀ f ∈ F,∃ o,loc[f.1]? = some o ∧ o.dst = some f.2.1 := fun f hf=>by
  obtain ⟨⟨o,h1,h2⟩,_⟩ := hF.fl f hf
  rw [hall2,List.getElem?_append_left (hFl f hf)] at h1
  exact ⟨o,h1,h2⟩
 have htext := text_mix (n := n) (bs := bs) (sts := sts) hnd (fun k o hk=>by obtain ⟨d,h1,_,_,_,h2⟩ := hst k o hk; exact ⟨d,h1,h2⟩)
 have hdn:∀ (k:Nat) (o:Oper) (d:Nat),loc[k]? = some o → o.dst = some d → d < n := fun k o d hk hd'=>by
  obtain ⟨d',h1,h2,_⟩ := hst k o hk
  rw [hd'] at h1; cases h1; exact h2.1
 have hnone:∀ k,k ≤ loc.length → (sts k).find n = none := by
  intro k
  induction k with
  | zero=>exact fun _=>hn
  | succ k ih =>
   intro hk
   obtain ⟨d,h1,h2,_,_,h3⟩ := hst k loc[k] (List.getElem?_eq_getElem hk)
   rw [h3,find_put,if_neg (by have := h2.1; omega)]
   exact ih (by omega)
 have hwn:which loc n = none := by
  cases hw:which loc n with
  | none=>rfl
  | some k=>obtain ⟨o,h1,h2⟩ := which_some hw; exact absurd (hdn k o n h1 h2) (by omega)
 have hg0n:stG n (sts 0) n = .ghost := by unfold stG; rw [hn]; simp
 have toMid:∀ (fuel:Nat) (listed:Array Bool) (tmps:Array Value) (w:World),listed.size = all.length → Closed all listed → (∀ k,Lst listed k → k < loc.length) → (∀ k,¬ isFl F k → k < loc.length → Lst listed k) → (∀ f ∈ F,Lst listed f.1 → tmps.getD f.2.1 undef = f.2.2) → listed.toList.count false ≤ fuel →
   Inv X n (R ++ Z) D gc v0 w0 (mixG loc bs (Lst listed) (stG n (sts 0))) tmps w → wpAny X.P .any all.toArray Qp fuel listed ⟨tmps,ds⟩ w := by
  intro fuel listed tmps w hs hc hlt hfull h0 hf hI
  rw [mixF_full h00 hb0 hg0 hfull,← htext loc.length (Nat.le_refl _)] at hI
  exact midF_sound htab hF hFl hord htl hQ fuel mid loc (sts loc.length) hall (Nat.le_refl _) rfl hK listed tmps w _ hs hc (fun k hk=>⟨hlt k,fun h=>hfull k hk h⟩) (fun z hz=>hI.fix z hz) h0 hf (hI.fixMore (flD F))
 intro fuel
 induction fuel with
 | zero =>
  intro listed tmps w hs hc hlt h0 hf hI
  have hallL:∀ k,k < all.length → Lst listed k := fun k hk=>Classical.byContradiction fun h=>by
   have := count_step (by rw [hs]; exact hk) h
   omega
  exact toMid 0 listed tmps w hs hc hlt (fun k _ hk=>hallL k (by rw [hall2]; simp; omega)) h0 hf hI
 | succ f ih =>
  intro listed tmps w hs hc hlt h0 hf hI
  by_cases hfull:∀ k,¬ isFl F k → k < loc.length → Lst listed k
  ·exact toMid _ listed tmps w hs hc hlt hfull h0 hf hI
  ·refine ⟨fun h0=>absurd (fun k _ hk=>ready_ne hs htab h0 k (by rw [hall2]; simp; omega)) hfull,fun k hk=>?_⟩
   obtain ⟨o,h1,h2,h3⟩ := (ready_iff hs).1 hk
   have hkall := (List.getElem?_eq_some_iff.1 h1).1
   have hkl:k < loc.length := by
    refine Classical.byContradiction fun hge=>hfull fun j hj0 hj=>?_
    exact anc_listed htab hc k o h1 h3 j (hord k (by omega) hkall j (by omega) hj0)
   have hko:loc[k]? = some o := by rw [hall2,List.getElem?_append_left hkl] at h1; exact h1
   obtain ⟨dk,e1,e2,e3,e4,e5⟩ := hst k o hko
   have hanc := anc_listed htab hc k o h1 h3
   have hown:(mixG loc bs (Lst listed) (stG n (sts 0)) dk).owner = false := by
    have hw := which_of hnd hko e1
    have e22 := e2.2.2
    rw [htext k (by omega)] at e22
    unfold mixG at e22 ⊢
    rw [hw] at e22 ⊢
    simp only at e22 ⊢
    rw [if_neg h2]
    rw [if_neg (by omega)] at e22
    exact e22
   have hcs := count_step (by rw [hs]; exact hkall) h2
   have hc2 := closed_set hc h1 (by rw [hs]; exact hkall) h3
   have hls:∀ q,Lst (listed.setIfInBounds k true) q ↔ Lst listed q ∨ q = k := fun q=>lst_set (by rw [hs]; exact hkall)
   have hlt2:∀ j,Lst (listed.setIfInBounds k true) j → j < loc.length := fun j hj=>by
    rcases (hls j).1 hj with hj | hj
    ·exact hlt j hj
    ·omega
   obtain ⟨c,hfr,hbd⟩ := hI.frm
   by_cases hfk:isFl F k
   ·obtain ⟨f0,hf0,rfl⟩ := hfk
    obtain ⟨⟨o2,g1,g2⟩,hdn0,hdr0,hrun⟩ := hF.fl f0 hf0
    rw [h1] at g1; cases g1
    rw [g2] at e1; cases e1
    refine hrun tmps ds w Qp _ (fun z hz=>hI.fix z hz) (fun f' hf' ha=>h0 f' hf' (hanc _ ha)) (ih _ _ w (by simpa using hs) hc2 hlt2 (fun f' hf' hl'=>?_) (by omega) ?_)
    ·rw [getD_set _ _ _ _ (by rw [hI.size]; exact hdn0)]
     split
     ·rename_i e; rw [hF.nod f' hf' f0 hf0 e]
     ·rename_i e
      refine h0 f' hf' ?_
      rcases (hls f'.1).1 hl' with e2 | e2
      ·exact e2
      ·exact absurd (by rw [hF.inj f' hf' f0 hf0 e2]) e
    ·rw [mix_put (S := Lst listed) (k := f0.1) hnd hko g2 (fun j=>hls j),hb0 f0 hf0]
     exact hI.put ⟨hdn0,hdr0⟩ hown (Below.refl _ _) hfr hbd (fun e=>by cases e) ⟨fun _=>0,.u _ _ (fun _=>rfl),fun b hb=>absurd hb (by simp),fun b=>by simp⟩
   -- what the operation sees
   have hhid:Hid n (stG n ((sts k).hide (hd.getD k []))) (mixG loc bs (Lst listed) (stG n (sts 0))) := by
    refine hid_of (hnone k (by omega)) (by unfold mixG; rw [hwn]; exact hg0n) (fun i hi=>?_)
    rw [htext k (by omega)]
    unfold mixG
    cases hw:which loc i with
    | none=>rfl
    | some j =>
     simp only
     obtain ⟨oj,q1,q2⟩ := which_some hw
     have hjl := (List.getElem?_eq_some_iff.1 q1).1
     have hcase := hhd k hkl j hjl
     rw [q1] at hcase
     simp only [Option.bind_some,q2] at hcase
     rcases hcase with ((hh | hh) | hh) | hh
     ·subst hh; rw [if_neg (by omega),if_neg h2]
     ·rw [if_pos hh.2,if_pos (hanc j hh.1)]
     ·have hnj:¬ Lst listed j := fun hl=>by
       have hja:all[j]? = some oj := by rw [hall2,List.getElem?_append_left hjl]; exact q1
       exact h2 (anc_listed htab hc j oj hja (hc j oj hja hl) k hh.1)
      rw [if_neg (by omega),if_neg hnj]
     ·rw [hh] at hi; cases hi
   have hdd:∀ f ∈ F,f.2.1 ≠ dk := fun f hf e=>by
    obtain ⟨of,q1,q2⟩ := h00 f hf
    have w1 := which_of hnd hko e1
    have w2 := which_of hnd q1 q2
    rw [e,w1] at w2; cases w2
    exact hfk ⟨f,hf,rfl⟩
   have hlg := (e4.resolve_left hfk).hide hhid tmps ds w c hI.glob hfr (wpAny X.P .any all.toArray Qp f (listed.setIfInBounds k true)) Qp (fun v w' hw hr=>by
    rw [e1]
    refine ih (listed.setIfInBounds k true) _ w' (by simpa using hs) hc2 hlt2 (fun f' hf' hq=>?_) (by omega) ?_
    ·show (tmps.setIfInBounds dk v).getD f'.2.1 undef = f'.2.2
     rw [getD_set _ _ _ _ (by rw [hI.size]; exact e2.1),if_neg (hdd f' hf')]
     refine h0 f' hf' ?_
     rcases (hls f'.1).1 hq with e | e
     ·exact e
     ·exact absurd ⟨f',hf',e⟩ hfk
    ·rw [mix_put (S := Lst listed) (k := k) hnd hko e1 (fun j=>hls j)]
     exact hI.put ⟨e2.1,e2.2.1⟩ hown hw hfr hbd e3 hr)
   unfold wpOp
   rw [List.getElem?_toArray,h1]
   simp only
   split
   ·rename_i hw; rw [if_pos hw] at hlg; exact .inl hlg
   ·rename_i hw; rw [if_neg hw] at hlg; exact hlg
end Go.Eng

/- A member is taken out of an owned slice of owned slices by the slot that looks at it. -/
namespace Go.Eng
set_option linter.unusedVariables false
set_option linter.unusedSimpArgs false
variable {X:Ctx} {n:Nat} {Z:List Nat} {D:Nat → Prop} {gc:Cnt} {v0:Nat → Value} {w0 w:World} {g:Nat → A} {tmps:Array Value}
theorem AtV.took {w:World} {x x':Value} {q:Option Nat} {t':T} {e:TypeId} {es:List T} {p:Nat} (hone:∀ t ∈ es,t.cells = [t]) (h:AtV w (.own e 1 es) x q t' x') (hq:q ≠ some p) :
  ∃ t2,AtV w (.own e 1 (es.set p .u)) x q t2 x' ∧ (q = none → t' = .own e 1 es ∧ t2 = .own e 1 (es.set p .u)) ∧ (q ≠ none → t2 = t') := by
 cases q with
 | none =>
  obtain ⟨rfl,rfl⟩ := h
  exact ⟨_,⟨rfl,rfl⟩,fun _=>⟨rfl,rfl⟩,fun h=>absurd rfl h⟩
 | some k =>
  rcases h with ⟨_,_,_,_,hh,_⟩ | ⟨e',es',b',n',cap',cur',hh,hx,hgb,q1,q2,q3,q4,q5⟩
  ·cases hh
  ·cases hh
   have hk:p ≠ k := fun e=>hq (by rw [e])
   refine ⟨t',.inr ⟨e,_,b',n',cap',cur',rfl,hx,hgb,by rw [List.getElem?_set_ne hk]; exact q1,q2,fun y hy=>?_,q4,q5⟩,(fun h=>by cases h),fun _=>rfl⟩
   rcases List.mem_or_eq_of_mem_set hy with hy | hy
   ·exact hone y hy
   ·rw [hy]; rfl
theorem ARep.took {F F':Nat → Prop} {g':Nat → A} {r p:Nat} {e:TypeId} {es:List T} (hr:g r = .t (.own e 1 es)) (hone:∀ t ∈ es,t.cells = [t]) (hr':g' r = .t (.own e 1 (es.set p .u))) (ho:∀ r',r' ≠ r → ∀ t,g r' = .t t → g' r' = .t t) (hF:∀ b,F b → F' b) :
  ∀ {a:A} {x:Value} {c:Cnt},killA r (some p) a = a → ARep w F g tmps a x c → ARep w F' g' tmps a x c := by
 intro a
 induction a with
 | t t=>exact fun _ h=>TRep.mono (fun b _ hz=>⟨hF b hz,rfl⟩) (Nat.le_refl _) h (fun _ _=>rfl)
 | sptr cs =>
  intro x c _ h
  obtain ⟨hc,a,vals,h1,h2,h3,h4,h5,h6,h7⟩ := h
  exact ⟨hc,a,vals,h1,h2,hF _ h3,h4,h5,h6.mono (fun b _ hz=>⟨hF b hz,rfl⟩) (Nat.le_refl _) (fun b hb=>absurd hb (by simp)),h7⟩
 | ghost=>exact fun _ h=>h
 | opt q a ih=>exact fun hk h=>⟨h.1,fun hq=>ih (by injection hk) (h.2.1 hq),h.2.2⟩
 | ref r2 q off len =>
  intro x c hk h
  obtain ⟨h0,t0,e',sz,es',x0,h1,h2,h3,h4⟩ := h
  by_cases hrr:r2 = r
  ·subst hrr
   have hq:q ≠ some p := fun e=>by unfold killA at hk; rw [if_pos ⟨rfl,.inr e⟩] at hk; cases hk
   rw [hr] at h1; cases h1
   obtain ⟨t2,k1,k2,k3⟩ := h2.took hone hq
   by_cases hn:q = none
   ·obtain ⟨k4,k5⟩ := k2 hn
    cases k4
    subst k5
    exact ⟨h0,_,_,_,_,x0,hr',k1,by rw [List.length_set]; exact h3,h4⟩
   ·rw [k3 hn] at k1
    exact ⟨h0,_,_,_,_,x0,hr',k1,h3,h4⟩
  ·exact ⟨h0,t0,e',sz,es',x0,ho r2 hrr _ h1,h2,h3,h4⟩
 | eptr r2 q i j =>
  intro x c hk h
  obtain ⟨h0,t0,e',sz,es',b,n,cap,h1,h2,h3,h4⟩ := h
  by_cases hrr:r2 = r
  ·subst hrr
   have hq:q ≠ some p := fun e=>by unfold killA at hk; rw [if_pos ⟨rfl,.inr e⟩] at hk; cases hk
   rw [hr] at h1; cases h1
   obtain ⟨t2,k1,k2,k3⟩ := h2.took hone hq
   by_cases hn:q = none
   ·obtain ⟨k4,k5⟩ := k2 hn
    cases k4
    subst k5
    exact ⟨h0,_,_,_,_,b,n,cap,hr',k1,by rw [List.length_set]; exact h3,h4⟩
   ·rw [k3 hn] at k1
    exact ⟨h0,_,_,_,_,b,n,cap,hr',k1,h3,h4⟩
  ·exact ⟨h0,t0,e',sz,es',b,n,cap,ho r2 hrr _ h1,h2,h3,h4⟩
 | pref r2 q off =>
  intro x c hk h
  obtain ⟨h0,t0,e',cs,b,h1,h2,h3⟩ := h
  by_cases hrr:r2 = r
  ·subst hrr
   have hq:q ≠ some p := fun e=>by unfold killA at hk; rw [if_pos ⟨rfl,.inr e⟩] at hk; cases hk
   rw [hr] at h1; cases h1
   obtain ⟨t2,k1,k2,k3⟩ := h2.took hone hq
   by_cases hn:q = none
   ·obtain ⟨k4,k5⟩ := k2 hn
    cases k4
   ·rw [k3 hn] at k1
    exact ⟨h0,_,_,_,b,hr',k1,h3⟩
  ·exact ⟨h0,t0,e',cs,b,ho r2 hrr _ h1,h2,h3⟩
theorem Inv.takeOut (h:Inv X n Z D gc v0 w0 g tmps w) {r d p sz2:Nat} {e e2:TypeId} {es es2:List T} (hr:g r = .t (.own e 1 es)) (hd:g d = .ref r (some p) 0 es2.length) (hp:es[p]? = some (.own e2 sz2 es2)) (hone:∀ t ∈ es,t.cells = [t]) (hno:∀ i,i ≠ d → killA r (some p) (g i) = g i) :
  Inv X n Z D gc v0 w0 (upd (upd g r (.t (.own e 1 (es.set p .u)))) d (.t (.own e2 sz2 es2))) tmps w := by
 have hne:r ≠ d := by rintro rfl; rw [hr] at hd; cases hd
 obtain ⟨c,hf,hbd⟩ := h.frm
 have hrd := hf.rep d
 rw [hd] at hrd
 obtain ⟨hcd,t0,e',s',es',x0,h1,h2,h3,h4⟩ := hrd
 rw [hr] at h1; cases h1
 have hat := h2
 rcases h2 with ⟨_,_,_,_,hh,_⟩ | ⟨e3,es3,b,m,cap,cur,hh,hx,hgb,q1,q2,q3,q4,q5⟩
 ·cases hh
 ·cases hh
  rw [hp] at q1
  cases q1
  have hrr := hf.rep r
  rw [hr] at hrr
  obtain ⟨c1,k1,k2,k3,k4⟩ := hat.put hrr (hf.one r)
  have hxd:tmps.getD d undef = x0 := view_all k1 h4
  have hroot := k3 w (fun b => ∀ j,c j b = 0) .u (fun _=>0) (fun b _ hf=>⟨hf,rfl⟩) (Nat.le_refl _) (fun _ _ _=>rfl) (.u _ _ (fun _=>rfl)) rfl
  have hcv:∀ i b,upd (upd c r (fun b=>c r b - c1 b)) d c1 i b = if i = d then c1 b else if i = r then c r b - c1 b else c i b := by
   intro i b; unfold upd; split
   ·rfl
   ·split <;> rfl
  have hF:∀ b,(∀ j,c j b = 0) → ∀ j,upd (upd c r (fun b=>c r b - c1 b)) d c1 j b = 0 := fun b hz j=>by
   have h1 := hz r; have h2 := k2 b; have h3 := hz j
   rw [hcv]; split
   ·omega
   ·split <;> omega
  have hg':∀ r',r' ≠ r → ∀ t,g r' = .t t → upd (upd g r (.t (.own e 1 (es.set p .u)))) d (.t (.own e2 sz2 es2)) r' = .t t := fun r' h1 t ht=>by
   have h2:r' ≠ d := by rintro rfl; rw [hd] at ht; cases ht
   rw [upd_ne _ _ h2,upd_ne _ _ h1]; exact ht
  have hgr:upd (upd g r (.t (.own e 1 (es.set p .u)))) d (.t (.own e2 sz2 es2)) r = .t (.own e 1 (es.set p .u)) := by rw [upd_ne _ _ hne,upd_same]
  have hfr:Frm X.N w (upd (upd g r (.t (.own e 1 (es.set p .u)))) d (.t (.own e2 sz2 es2))) tmps (upd (upd c r (fun b=>c r b - c1 b)) d c1) := by
   refine ⟨fun i=>?_,fun i b=>?_,fun i j b hi hj=>?_,fun i b hb=>?_⟩
   ·by_cases hid:i = d
    ·subst hid
     rw [upd_same,upd_same,hxd]
     exact TRep.mono (fun b _ hz=>⟨hF b hz,rfl⟩) (Nat.le_refl _) k1 (fun _ _=>rfl)
    ·by_cases hir:i = r
     ·subst hir
      rw [hgr,upd_ne _ _ hid,upd_same]
      exact TRep.mono (fun b _ hz=>⟨hF b hz,rfl⟩) (Nat.le_refl _) (hroot.count fun b=>by omega) (fun _ _=>rfl)
     ·rw [upd_ne _ _ hid,upd_ne _ _ hir,upd_ne _ _ hid,upd_ne _ _ hir]
      exact ARep.took hr hone hgr hg' hF (hno i hid) (hf.rep i)
   ·rw [hcv]
    have h1 := hf.one r b; have h2 := k2 b; have h3 := hf.one i b
    split
    ·omega
    ·split <;> omega
   ·rw [hcv] at hi hj
    have key:∀ k,0 < (if k = d then c1 b else if k = r then c r b - c1 b else c k b) → (0 < c r b ∧ (k = d ∨ k = r)) ∨ (0 < c k b ∧ k ≠ d ∧ k ≠ r) := fun k hk=>by
     split at hk
     ·rename_i e; exact .inl ⟨by have := k2 b; omega,.inl e⟩
     ·split at hk
      ·rename_i e; exact .inl ⟨by omega,.inr e⟩
      ·rename_i e1 e2; exact .inr ⟨hk,e1,e2⟩
    have h1 := hf.one r b; have h2 := k2 b
    rcases key i hi with ⟨a1,a2⟩ | ⟨a1,a2,a3⟩
    ·rcases key j hj with ⟨b1,b2⟩ | ⟨b1,b2,b3⟩
     ·by_cases hid:i = d <;> by_cases hjd:j = d
      ·rw [hid,hjd]
      ·rw [if_pos hid] at hi; rw [if_neg hjd,if_pos (b2.resolve_left hjd)] at hj; omega
      ·rw [if_pos hjd] at hj; rw [if_neg hid,if_pos (a2.resolve_left hid)] at hi; omega
      ·rw [a2.resolve_left hid,b2.resolve_left hjd]
     ·exact absurd (hf.uniq j r b b1 a1) b3
    ·rcases key j hj with ⟨b1,b2⟩ | ⟨b1,b2,b3⟩
     ·exact absurd (hf.uniq i r b a1 b1) a3
     ·exact hf.uniq i j b a1 b1
   ·rw [hcv] at hb
    split at hb
    ·exact hf.low r b (by have := k2 b; omega)
    ·split at hb
     ·exact hf.low r b (by omega)
     ·exact hf.low i b hb
  have hrg:g r ≠ .ghost := by rw [hr]; exact fun h=>by cases h
  refine h.step hf hbd hfr rfl (fun _ _=>rfl) rfl rfl rfl (Nat.le_refl _) (fun _ _=>.inl rfl) (fun i b hi hgi=>?_) (fun i hi=>?_)
  ·rw [hcv] at hi
   split at hi
   ·exact .inl ⟨r,by have := k2 b; omega,hrg⟩
   ·split at hi
    ·exact .inl ⟨r,by omega,hrg⟩
    ·rename_i e1 e2
     rw [upd_ne _ _ e1,upd_ne _ _ e2] at hgi
     exact .inl ⟨i,hi,hgi⟩
  ·by_cases hid:i = d
   ·subst hid; rw [upd_same] at hi; cases hi
   ·rw [upd_ne _ _ hid] at hi
    by_cases hir:i = r
    ·subst hir; rw [upd_same] at hi; cases hi
    ·rw [upd_ne _ _ hir] at hi
     exact ⟨hi,fun b=>by rw [upd_ne _ _ hid,upd_ne _ _ hir]⟩
theorem Inv.knownV (h:Inv X n Z D gc v0 w0 g tmps w) {d:Nat} {x:Value} (hd:g d = .t .u) (hv:tmps.getD d undef = x):Inv X n Z D gc v0 w0 (upd g d (.t (.v x))) tmps w := by
 obtain ⟨c,hf,hb1,hb2⟩ := h.frm
 have h0:∀ b,c d b = 0 := by
  have h1 := hf.rep d
  rw [hd] at h1
  cases h1 with
  | u _ _ hc=>exact hc
 refine ⟨h.size,h.fix,h.os,h.tape,h.output,h.kept,h.grow,h.glob,h.hD,h.base,c,⟨fun i=>?_,hf.one,hf.uniq,hf.low⟩,fun i b hi hg=>?_,fun i hi b=>?_⟩
 ·by_cases hid:i = d
  ·subst hid
   rw [upd_same,hv]
   exact .v _ _ h0
  ·rw [upd_ne _ _ hid]
   refine ARep.mono (hf.rep i) (fun b _ h=>⟨h,rfl⟩) (Nat.le_refl _) (fun _ _=>rfl) (fun r2 t hr2 ho=>⟨?_,rfl,fun b => ∀ j,c j b = 0,c r2,?_,fun _ _=>rfl⟩)
   ·have:r2 ≠ d := by rintro rfl; rw [hd] at hr2; cases hr2; cases ho
    rw [upd_ne _ _ this]; exact hr2
   ·have := hf.rep r2
    rw [hr2] at this
    exact this
 ·by_cases hid:i = d
  ·subst hid
   exact hb1 i b hi (by rw [hd]; intro h; cases h)
  ·rw [upd_ne _ _ hid] at hg; exact hb1 i b hi hg
 ·by_cases hid:i = d
  ·subst hid; rw [upd_same] at hi; cases hi
  ·rw [upd_ne _ _ hid] at hi; exact hb2 i hi b
theorem Inv.aliasS {d r:Nat} {e:TypeId} {sz:Nat} {es:List T} (h:Inv X n Z D gc v0 w0 g tmps w) (hd:g d = .t .u) (hr:g r = .t (.own e sz es)) (hv:tmps.getD d undef = tmps.getD r undef):Inv X n Z D gc v0 w0 (upd g d (.ref r none 0 es.length)) tmps w := by
 have hne:r ≠ d := by rintro rfl; rw [hd] at hr; cases hr
 obtain ⟨c,hf,hb1,hb2⟩ := h.frm
 refine ⟨h.size,h.fix,h.os,h.tape,h.output,h.kept,h.grow,h.glob,h.hD,h.base,c,⟨fun i=>?_,hf.one,hf.uniq,hf.low⟩,fun i b hi hg=>?_,fun i hi b=>?_⟩
 ·by_cases hid:i = d
  ·subst hid
   rw [upd_same]
   have h1 := hf.rep i
   rw [hd] at h1
   have h2 := hf.rep r
   rw [hr] at h2
   have h0:∀ b,c i b = 0 := by
    cases h1 with
    | u _ _ hc=>exact hc
   rw [hv]
   refine ⟨h0,_,e,sz,es,_,by rw [upd_ne _ _ hne]; exact hr,⟨rfl,rfl⟩,by omega,?_⟩
   generalize tmps.getD r undef = x at h2
   generalize c r = cr at h2
   cases h2 with
   | ownnil=>exact .inl ⟨rfl,rfl,rfl,rfl⟩
   | own _ _ _ b m cap cur c0 _ hg hn hcap hm hcur hz hl hone hc =>
    exact .inr ⟨b,m,cap,0,rfl,by rw [hn,Nat.sub_zero],Nat.zero_le _,fun _=>by omega⟩
  ·rw [upd_ne _ _ hid]
   refine ARep.mono (hf.rep i) (fun b _ h=>⟨h,rfl⟩) (Nat.le_refl _) (fun _ _=>rfl) (fun r2 t hr2 ho=>⟨?_,rfl,fun b => ∀ j,c j b = 0,c r2,?_,fun _ _=>rfl⟩)
   ·have:r2 ≠ d := by rintro rfl; rw [hd] at hr2; cases hr2; cases ho
    rw [upd_ne _ _ this]; exact hr2
   ·have := hf.rep r2
    rw [hr2] at this
    exact this
 ·by_cases hid:i = d
  ·subst hid
   exact hb1 i b hi (by rw [hd]; intro h; cases h)
  ·rw [upd_ne _ _ hid] at hg; exact hb1 i b hi hg
 ·by_cases hid:i = d
  ·subst hid; rw [upd_same] at hi; cases hi
  ·rw [upd_ne _ _ hid] at hi; exact hb2 i hi b
end Go.Eng

/- Two members of an owned slice of owned slices change places: the operations behind. -/
namespace Go.Eng
set_option linter.unusedVariables false
set_option linter.unusedSimpArgs false
variable {X:Ctx} {n:Nat} {Z R:List Nat} {D:Nat → Prop} {gc:Cnt} {v0:Nat → Value} {w0 w:World} {g g':Nat → A} {tmps:Array Value}
inductive ALe:A → A → Prop
 | refl (a:A):ALe a a
 | ref (r:Nat) (p:Option Nat) (i k:Nat):ALe (.t .u) (.ref r p i k)
 | eptr (r:Nat) (p:Option Nat) (i k:Nat):ALe (.t .u) (.eptr r p i k)
 | pref (r:Nat) (p:Option Nat) (i:Nat):ALe (.t .u) (.pref r p i)
 | v (x:Value):ALe (.t .u) (.t (.v x))
 | opt (q:Bool) {a b:A} (h:ALe a b):ALe (.opt q a) (.opt q b)
theorem ARep.le {F:Nat → Prop} {a':A}:∀ {a:A} {x:Value} {c:Cnt},ALe a' a → ARep w F g tmps a x c → ARep w F g tmps a' x c := by
 intro a x c h
 induction h generalizing c with
 | refl=>exact fun h=>h
 | ref | eptr | pref=>exact fun h=>.u _ _ h.1
 | v x=>intro h; cases h with | v _ _ hc=>exact .u _ _ hc
 | opt q _ ih=>exact fun h=>⟨h.1,fun hq=>ih (h.2.1 hq),h.2.2⟩
theorem ALe.owner_t {a':A} {t:T} (h:ALe a' (.t t)) (ho:A.owner (.t t) = true):a' = .t t := by
 cases h with
 | refl=>rfl
 | v x=>cases ho
theorem ALe.ghost {a:A} (h:ALe .ghost a):a = .ghost := by cases h; rfl
theorem ALe.of_ghost {a:A} (h:ALe a .ghost):a = .ghost := by cases h; rfl
theorem Inv.le (h:Inv X n Z D gc v0 w0 g tmps w) (hl:∀ i,ALe (g' i) (g i)):Inv X n Z D gc v0 w0 g' tmps w := by
 obtain ⟨c,hf,hb1,hb2⟩ := h.frm
 refine ⟨h.size,h.fix,h.os,h.tape,h.output,h.kept,h.grow,h.glob,h.hD,h.base,c,⟨fun i=>?_,hf.one,hf.uniq,hf.low⟩,fun i b hi hg=>hb1 i b hi fun e=>hg ?_,fun i hi b=>hb2 i ?_ b⟩
 ·refine ARep.le (hl i) (ARep.mono (hf.rep i) (fun b _ h=>⟨h,rfl⟩) (Nat.le_refl _) (fun _ _=>rfl) (fun r2 t hr2 ho=>⟨?_,rfl,fun b => ∀ j,c j b = 0,c r2,?_,fun _ _=>rfl⟩))
  ·have := hl r2
   rw [hr2] at this
   exact this.owner_t ho
  ·have := hf.rep r2
   rw [hr2] at this
   exact this
 ·have := hl i
  rw [e] at this
  exact this.of_ghost
 ·have := hl i
  rw [hi] at this
  exact this.ghost
theorem GStep'.pre {all:List Oper} {o:Oper} {g1 g2:Nat → A} (h:GStep' X n Z all g1 o g2) (k:∀ (D:Nat → Prop) (gc:Cnt) (v0:Nat → Value) (w0:World) (tmps:Array Value) (w:World),Inv X n Z D gc v0 w0 g tmps w → Inv X n Z D gc v0 w0 g1 tmps w):GStep' X n Z all g o g2 :=
 fun D gc v0 w0 tmps ds w hI next Q hn=>h D gc v0 w0 tmps ds w (k D gc v0 w0 tmps w hI) next Q hn
theorem GStep'.of {all:List Oper} {o:Oper} {g1 g2:Nat → A} (hg:o.guard = none) (h:Step X n Z g o g1) (hl:∀ i,ALe (g2 i) (g1 i)):GStep' X n Z all g o g2 :=
 fun D gc v0 w0 tmps ds w hI next Q hn=>by
  rw [if_pos (by simp [Region.wanted,hg])]
  exact h D gc v0 w0 tmps ds w hI next Q (fun tmps' w' hI'=>hn _ _ (hI'.le hl))
def killM (r:Nat):A → A
 | .ref r' q off len=>if r' = r ∧ q ≠ none then .t .u else .ref r' q off len
 | .eptr r' q i j=>if r' = r ∧ q ≠ none then .t .u else .eptr r' q i j
 | .pref r' q off=>if r' = r ∧ q ≠ none then .t .u else .pref r' q off
 | .opt c a=>.opt c (killM r a)
 | a=>a
theorem killM_le (r:Nat):∀ a,ALe (killM r a) a
 | .ref r' q off len=>by unfold killM; split <;> constructor
 | .eptr r' q i j=>by unfold killM; split <;> constructor
 | .pref r' q off=>by unfold killM; split <;> constructor
 | .opt c a=>.opt c (killM_le r a)
 | .t _ | .sptr _ | .ghost=>.refl _
theorem killM_none (r p:Nat):∀ a,killA r (some p) (killM r a) = killM r a
 | .ref r' q off len=>by
  unfold killM; split
  ·rfl
  ·rename_i h; unfold killA; rw [if_neg]; rintro ⟨h1,h2 | h2⟩
   ·cases h2
   ·exact h ⟨h1,by rw [h2]; simp⟩
 | .eptr r' q i j=>by
  unfold killM; split
  ·rfl
  ·rename_i h; unfold killA; rw [if_neg]; rintro ⟨h1,h2 | h2⟩
   ·cases h2
   ·exact h ⟨h1,by rw [h2]; simp⟩
 | .pref r' q off=>by
  unfold killM; split
  ·rfl
  ·rename_i h; unfold killA; rw [if_neg]; rintro ⟨h1,h2 | h2⟩
   ·cases h2
   ·exact h ⟨h1,by rw [h2]; simp⟩
 | .opt c a=>by unfold killM killA; rw [killM_none r p a]
 | .t _ | .sptr _ | .ghost=>rfl
def knG (g:Nat → A) (d:Nat):Nat → A := upd (fun i=>killA d none (g i)) d (.t .u)
def knS (s:St) (d:Nat):St := (s.mapA (killA d none)).put d (.t .u)
theorem stG_kn (s:St) (d:Nat):stG n (knS s d) = knG (stG n s) d := by
 unfold knS knG
 rw [stG_put,stG_mapA n s _ rfl rfl]
theorem kills_le (r v1 v2 d1 d2:Nat):∀ a,ALe (killA d2 none (killA d1 none (killA v2 none (killA v1 none (killA r none a))))) (killA v2 none (killA r none (killA v1 none (killA r none (killM r a)))))
 | .ref r' q off len=>by
  by_cases h1:r' = r
  ·subst h1
   have e:killA r' none (killM r' (.ref r' q off len)) = .t .u := by unfold killM; split <;> simp [killA]
   rw [e]; simp [killA]; exact .refl _
  ·by_cases h2:r' = v1
   ·subst h2; simp [killA,killM,h1]; exact .refl _
   ·by_cases h3:r' = v2
    ·subst h3; simp [killA,killM,h1,h2]; exact .refl _
    ·by_cases h4:r' = d1
     ·subst h4; simp [killA,killM,h1,h2,h3]; exact .ref _ _ _ _
     ·by_cases h5:r' = d2
      ·subst h5; simp [killA,killM,h1,h2,h3,h4]; exact .ref _ _ _ _
      ·simp [killA,killM,h1,h2,h3,h4,h5]; exact .refl _
 | .eptr r' q off len=>by
  by_cases h1:r' = r
  ·subst h1
   have e:killA r' none (killM r' (.eptr r' q off len)) = .t .u := by unfold killM; split <;> simp [killA]
   rw [e]; simp [killA]; exact .refl _
  ·by_cases h2:r' = v1
   ·subst h2; simp [killA,killM,h1]; exact .refl _
   ·by_cases h3:r' = v2
    ·subst h3; simp [killA,killM,h1,h2]; exact .refl _
    ·by_cases h4:r' = d1
     ·subst h4; simp [killA,killM,h1,h2,h3]; exact .eptr _ _ _ _
     ·by_cases h5:r' = d2
      ·subst h5; simp [killA,killM,h1,h2,h3,h4]; exact .eptr _ _ _ _
      ·simp [killA,killM,h1,h2,h3,h4,h5]; exact .refl _
 | .pref r' q off=>by
  by_cases h1:r' = r
  ·subst h1
   have e:killA r' none (killM r' (.pref r' q off)) = .t .u := by unfold killM; split <;> simp [killA]
   rw [e]; simp [killA]; exact .refl _
  ·by_cases h2:r' = v1
   ·subst h2; simp [killA,killM,h1]; exact .refl _
   ·by_cases h3:r' = v2
    ·subst h3; simp [killA,killM,h1,h2]; exact .refl _
    ·by_cases h4:r' = d1
     ·subst h4; simp [killA,killM,h1,h2,h3]; exact .pref _ _ _
     ·by_cases h5:r' = d2
      ·subst h5; simp [killA,killM,h1,h2,h3,h4]; exact .pref _ _ _
      ·simp [killA,killM,h1,h2,h3,h4,h5]; exact .refl _
 | .opt c a=>.opt c (kills_le r v1 v2 d1 d2 a)
 | .t _ | .sptr _ | .ghost=>.refl _
end Go.Eng

/- Two members change places: the region. -/
namespace Go.Eng
open Go.RowKit (Below)
set_option linter.unusedVariables false
set_option linter.unusedSimpArgs false
variable {X:Ctx} {n:Nat} {Z R:List Nat} {D:Nat → Prop} {gc:Cnt} {v0:Nat → Value} {w0 w:World} {g g':Nat → A} {tmps:Array Value} {Q:Exit → St → Prop}
theorem AW_lateF {id:Nat} {ops:Array Oper} {st:St} (loc mid tl:List Oper) (tab hd:List (List Nat)) (fi:List Nat) (fs:(Nat → Value) → List Fl) (hops:ops.toList = loc ++ mid ++ tl) (hm:X.P.follows .mixedOrders = true) (o1:ancOk (loc ++ mid ++ tl) tab = true) (o2:hideOk2 (loc ++ mid ++ tl) loc tab hd = true)
  (o3:∀ k,loc.length ≤ k → k < (loc ++ mid ++ tl).length → ∀ j,j < k → j ∉ fi → j ∈ tab.getD k []) (o4:∀ k,(loc ++ mid).length ≤ k → k < (loc ++ mid ++ tl).length → ∀ j,j < k → j ∈ tab.getD k [])
  (hn:st.find n = none) {sts:Nat → St} {bs:Nat → A} (q1:sts 0 = st)
  (hfs:∀ (D:Nat → Prop) (gc:Cnt) (v0:Nat → Value) (w0:World) (tmps:Array Value) (w:World),Inv X n (R ++ Z) D gc v0 w0 (stG n st) tmps w → FlOk X n (R ++ Z) v0 (loc ++ mid ++ tl) tab (fs v0) ∧ (∀ f ∈ fs v0,f.1 < loc.length) ∧ (∀ j,isFl (fs v0) j ↔ j ∈ fi) ∧ (∀ f ∈ fs v0,bs f.1 = .t .u) ∧ (∀ f ∈ fs v0,stG n st f.2.1 = .t .u) ∧
   MidF X n (R ++ Z) (loc ++ mid ++ tl) (flD (fs v0)) mid (sts loc.length) (fun s => ∃ s2,FinF X n Z R D gc v0 w0 (fs v0) s s2 ∧ RegP X n Z (loc ++ mid ++ tl) tl s2 (Q .normal)))
  (q3:∀ k o,loc[k]? = some o → ∃ d,o.dst = some d ∧ dstOk n (R ++ Z) (sts k) d ∧ bs k ≠ .ghost ∧ (k ∈ fi ∨ LG X (loc ++ mid ++ tl) (stG n ((sts k).hide (hd.getD k []))) o (bs k)) ∧ sts (k + 1) = (sts k).put d (bs k)):AW X n Z (.region id ops true) st Q := by
 intro D gc v0 w0 tmps w hI
 refine wp_region_any hm ?_
 have hI2 := (hI.drawn (w.drawn + 1)).fixMore R
 have hoa:ops = (loc ++ mid ++ tl).toArray := by rw [← hops]
 subst hoa
 obtain ⟨h1,h2,h3,h4,h5,h6⟩ := hfs D gc _ w0 tmps _ hI2
 refine lateF_sound (K := Q .normal) rfl o1 o2 h1 h2 (fun k h1 h2 j hj hf=>o3 k h1 h2 j hj fun e=>hf ((h3 j).2 e)) o4 (fun st' tmps' w' hK hI'=>⟨rfl,st',hK,Inv.fixLess (L := []) hI' fun z hz=>hI.fix z hz⟩) (by rw [q1]; exact hn) h4 (by rw [q1]; exact h5) h6 (fun k o hk=>?_) _ _ tmps _ (by simp) (fun j o hj hl=>?_) (fun k hl=>?_) (fun f hf hl=>?_) (by simp) ?_
 ·obtain ⟨d,e1,e2,e3,e4,e5⟩ := q3 k o hk
  exact ⟨d,e1,e2,e3,e4.imp (fun h=>(h3 k).2 h) (fun h=>h),e5⟩
 ·exact absurd hl (lst_repl _ _)
 ·exact absurd hl (lst_repl _ _)
 ·exact absurd hl (lst_repl _ _)
 ·have:mixG loc bs (Lst (Array.replicate (loc ++ mid ++ tl).toArray.size false)) (stG n (sts 0)) = stG n st := by
   funext i
   unfold mixG
   cases which loc i with
   | none=>rw [q1]
   | some k =>
    simp only
    rw [if_neg (lst_repl _ _),q1]
  rw [this]; exact hI2
theorem putT_none (t t':T):putT t none t' = t' := by cases t <;> rfl
theorem turned_kn {r:Nat} {t0:T}:turned g r none t0 .u = knG g r := by
 unfold turned turnedK knG; rw [putT_none]
theorem knG_ne {d i:Nat} (h:i ≠ d):knG g d i = killA d none (g i) := upd_ne _ _ h
theorem knG_same {d:Nat}:knG g d d = .t .u := upd_same _ _ _
theorem rd_ref {a r k i:Nat} {p:Option Nat} (h:g a = .ref r p i k):rd X g (.tmp a) = .ref r p i k ∧ rdp X g (.tmp a) := by
 unfold rd rdp ev; simp only [h]; exact ⟨rfl,trivial⟩
theorem rd_eptr {a r k i:Nat} {p:Option Nat} (h:g a = .eptr r p i k):rd X g (.tmp a) = .eptr r p i k ∧ rdp X g (.tmp a) := by
 unfold rd rdp ev; simp only [h]; exact ⟨rfl,trivial⟩
theorem rd_vv {a:Nat} {x:Value} (h:g a = .t (.v x)):rd X g (.tmp a) = .t (.v x) ∧ rdp X g (.tmp a) := by
 unfold rd rdp ev; simp only [h]; exact ⟨rfl,trivial⟩
theorem rd_own {a sz:Nat} {e:TypeId} {es:List T} (h:g a = .t (.own e sz es)):rd X g (.tmp a) = .ref a none 0 es.length ∧ rdp X g (.tmp a) := by
 unfold rd rdp ev; simp only [h]; exact ⟨rfl,trivial⟩
theorem swap_chain {all:List Oper} {s0 sF:St} {r v1 v2 d1 d2 dx dy a1 c1 p q sz2 b':Nat} {e e2 e' ti ts:TypeId} {es ep eq:List T} {i1 s1 i2 s2:Oper} {F:List Fl} {k1 k2:IntKind} {p' q':Int} {z:Value} {kx ky:Nat}
  (hr:stG n s0 r = .t (.own e 1 es)) (hone:∀ t ∈ es,t.cells = [t]) (hp:es[p]? = some (.own e2 sz2 ep)) (hq:es[q]? = some (.own e2 sz2 eq)) (hpq:p ≠ q)
  (hv1:stG n s0 v1 = .ref r (some q) 0 eq.length) (hv2:stG n s0 v2 = .ref r (some p) 0 ep.length)
  (i1o:i1.op = .indexAddr ti (.tmp a1) (.tmp c1)) (i1d:i1.dst = some d1) (i1g:i1.guard = none) (s1o:s1.op = .store ts (.tmp d1) (.tmp v1)) (s1d:s1.dst = none) (s1g:s1.guard = none)
  (i2o:i2.op = .indexAddr ti (.tmp dx) (.tmp dy)) (i2d:i2.dst = some d2) (i2g:i2.guard = none) (s2o:s2.op = .store ts (.tmp d2) (.tmp v2)) (s2d:s2.dst = none) (s2g:s2.guard = none)
  (hti:sliOf X.P ti = some (e',1,b',z)) (hts:tyRow X.P ts = some (false,1))
  (ha1:stG n s0 a1 = .ref r none 0 es.length) (hc1:stG n s0 c1 = .t (.v (.int k1 p'))) (hpp:p = p'.toNat) (hp0:0 ≤ p') (hp1:p' < (es.length:Int)) (hqq:q = q'.toNat) (hq0:0 ≤ q') (hq1:q' < (es.length:Int))
  (hdx:(kx,dx,v0 r) ∈ F) (hrR:r ∈ R ++ Z) (hdy:(ky,dy,.int k2 q') ∈ F)
  (hnd:[r,v1,v2,d1,d2,dx,dy,a1,c1].Nodup) (hd1:d1 < n ∧ d1 ∉ flD F ++ (R ++ Z)) (hd2:d2 < n ∧ d2 ∉ Z) (ho1:(stG n s0 d1).owner = false) (ho2:(stG n s0 d2).owner = false)
  (hfl:∀ d ∈ flD F,stG n s0 d = .t .u)
  (hsF:stG n sF = upd (knG (knG (knG (knG (knG (stG n s0) r) v1) v2) d1) d2) r (.t (.own e 1 ((es.set p (.own e2 sz2 eq)).set q (.own e2 sz2 ep))))) :
  MidF X n (R ++ Z) all (flD F) [i1,s1] s0 (fun s => ∃ s2',FinF X n Z R D gc v0 w0 F s s2' ∧ RegP X n Z all [i2,s2] s2' (fun s=>s = sF)) := by
 simp only [List.nodup_cons,List.mem_cons,List.not_mem_nil,or_false,not_or,not_false_eq_true,List.nodup_nil,and_true] at hnd
 obtain ⟨⟨r1,r2,r3,r4,r5,r6,r7,r8⟩,⟨v12,v13,v14,v15,v16,v17,v18⟩,⟨w3,w4,w5,w6,w7,w8⟩,⟨e4,e5,e6,e7,e8⟩,⟨f5,f6,f7,f8⟩,⟨x6,x7,x8⟩,⟨y7,y8⟩,c8⟩ := hnd
 have hone':∀ {l:List T} {k:Nat} {t:T},(∀ y ∈ l,y.cells = [y]) → t.cells = [t] → ∀ y ∈ l.set k t,y.cells = [y] := fun {l k t} h1 h2 y hy=>by
  rcases List.mem_or_eq_of_mem_set hy with hy | hy
  ·exact h1 y hy
  ·rw [hy]; exact h2
 have hpl:p < es.length := (List.getElem?_eq_some_iff.1 hp).1
 have hql:q < es.length := (List.getElem?_eq_some_iff.1 hq).1
 -- both taken out
 let es1 := (es.set q .u).set p .u
 let t1:St := (((s0.mapA (killM r)).put r (.t (.own e 1 es1))).put v1 (.t (.own e2 sz2 eq))).put v2 (.t (.own e2 sz2 ep))
 have g1:stG n t1 = upd (upd (upd (fun i=>killM r (stG n s0 i)) r (.t (.own e 1 es1))) v1 (.t (.own e2 sz2 eq))) v2 (.t (.own e2 sz2 ep)) := by
  show stG n ((((s0.mapA (killM r)).put r _).put v1 _).put v2 _) = _
  rw [stG_put,stG_put,stG_put,stG_mapA n s0 _ rfl rfl]
 have take:∀ (Z':List Nat) (D:Nat → Prop) (gc:Cnt) (v0:Nat → Value) (w0:World) (tmps:Array Value) (w:World),Inv X n Z' D gc v0 w0 (stG n s0) tmps w → Inv X n Z' D gc v0 w0 (stG n t1) tmps w := by
  intro Z' D gc v0 w0 tmps w hI
  have hA := Inv.le (g' := upd (upd (fun i=>killM r (stG n s0 i)) v1 (.ref r (some q) 0 eq.length)) v2 (.ref r (some p) 0 ep.length)) hI (fun i=>by
   unfold upd
   split
   ·rename_i h; rw [h,hv2]; exact .refl _
   ·split
    ·rename_i h; rw [h,hv1]; exact .refl _
    ·exact killM_le _ _)
  have e1:(upd (upd (fun i=>killM r (stG n s0 i)) v1 (.ref r (some q) 0 eq.length)) v2 (.ref r (some p) 0 ep.length)) r = .t (.own e 1 es) := by
   rw [upd_ne _ _ r2,upd_ne _ _ r1,hr]; rfl
  have hB := hA.takeOut (r := r) (d := v1) (p := q) e1 (by rw [upd_ne _ _ v12,upd_same]) hq hone (fun i hi=>by
   by_cases i3:i = v2
   ·rw [i3,upd_same]
    unfold killA; rw [if_neg]; rintro ⟨_,h | h⟩
    ·cases h
    ·cases h; exact hpq rfl
   ·rw [upd_ne _ _ i3,upd_ne _ _ hi]; exact killM_none _ _ _)
  have hC := hB.takeOut (r := r) (d := v2) (p := p) (es := es.set q .u) (es2 := ep) (sz2 := sz2) (e2 := e2) (e := e) (by rw [upd_ne _ _ r1,upd_same]) (by rw [upd_ne _ _ (fun e=>v12 e.symm),upd_ne _ _ (fun e=>r2 e.symm),upd_same]) (by rw [List.getElem?_set_ne (fun e=>hpq e.symm)]; exact hp) (hone' hone rfl) (fun i hi=>by
   by_cases i1:i = v1
   ·rw [i1,upd_same]; rfl
   ·rw [upd_ne _ _ i1]
    by_cases i2:i = r
    ·rw [i2,upd_same]; rfl
    ·rw [upd_ne _ _ i2,upd_ne _ _ hi,upd_ne _ _ i1]; exact killM_none _ _ _)
  refine hC.le fun i=>?_
  rw [g1]
  by_cases i3:i = v2
  ·rw [i3,upd_same,upd_same]; exact .refl _
  ·rw [upd_ne _ _ i3,upd_ne _ _ i3]
   by_cases i1:i = v1
   ·rw [i1,upd_same,upd_ne _ _ (fun e=>r1 e.symm),upd_same]; exact .refl _
   ·rw [upd_ne _ _ i1]
    by_cases i2:i = r
    ·rw [i2,upd_same,upd_same]; exact .refl _
    ·simp only [upd,if_neg i1,if_neg i2,if_neg i3]; exact .refl _
 have gr:stG n t1 r = .t (.own e 1 es1) := by rw [g1,upd_ne _ _ r2,upd_ne _ _ r1,upd_same]
 have gen:∀ i,i ≠ r → i ≠ v1 → i ≠ v2 → stG n t1 i = killM r (stG n s0 i) := fun i h1 h2 h3=>by rw [g1,upd_ne _ _ h3,upd_ne _ _ h2,upd_ne _ _ h1]
 have l1:es1.length = es.length := by show ((es.set q .u).set p .u).length = _; simp
 -- the first place
 let t2:St := t1.put d1 (.eptr r none p 0)
 have g2:stG n t2 = upd (stG n t1) d1 (.eptr r none p 0) := stG_put _ _ _ _
 have od1:(stG n t1 d1).owner = false := by
  rw [gen d1 (fun e=>r3 e.symm) (fun e=>v13 e.symm) (fun e=>w3 e.symm)]
  cases h:stG n s0 d1 with
  | t t=>rw [h] at ho1; exact ho1
  | ref=>unfold killM; split <;> rfl
  | eptr=>unfold killM; split <;> rfl
  | pref=>unfold killM; split <;> rfl
  | sptr=>rfl
  | ghost=>rfl
  | opt=>rfl
 have S1:∀ Z',d1 ∉ Z' → Step X n Z' (stG n t1) i1 (stG n t2) := fun Z' hz=>by
  rw [g2]
  obtain ⟨ea,pa⟩ := rd_ref (X := X) (g := stG n t1) (a := a1) (r := r) (p := none) (i := 0) (k := es.length) (by
   rw [gen a1 (fun e=>r7 e.symm) (fun e=>v17 e.symm) (fun e=>w7 e.symm),ha1]
   unfold killM; rw [if_neg (fun h=>h.2 rfl)])
  obtain ⟨ec,pc⟩ := rd_vv (X := X) (g := stG n t1) (a := c1) (x := .int k1 p') (by
   rw [gen c1 (fun e=>r8 e.symm) (fun e=>v18 e.symm) (fun e=>w8 e.symm),hc1]; rfl)
  have := good_indexAddr_ref (X := X) (g := stG n t1) i1o pa pc ea ec (e0 := e) (es0 := es1) (by simp only [root,gr]) hti (by decide) hp0 hp1
  rw [Nat.zero_add,← hpp] at this
  exact this.step (fun e=>by cases e) i1d ⟨hd1.1,hz⟩ od1
 -- the first store
 let t3:St := (knS (knS t2 r) v1).put r (.t (.own e 1 (es1.set p (.own e2 sz2 eq))))
 have g3:stG n t3 = upd (knG (knG (stG n t2) r) v1) r (.t (.own e 1 (es1.set p (.own e2 sz2 eq)))) := by
  show stG n ((knS (knS t2 r) v1).put r _) = _
  rw [stG_put,stG_kn,stG_kn]
 have g2r:stG n t2 r = .t (.own e 1 es1) := by rw [g2,upd_ne _ _ r3,gr]
 have hone1:∀ y ∈ es1,y.cells = [y] := hone' (hone' hone rfl) rfl
 have g2v1:stG n t2 v1 = .t (.own e2 sz2 eq) := by rw [g2,upd_ne _ _ v13,g1,upd_ne _ _ v12,upd_same]
 have S2:∀ Z',Step X n Z' (stG n t2) s1 (stG n t3) := fun Z'=>by
  rw [g3]
  obtain ⟨ea,pa⟩ := rd_eptr (X := X) (g := stG n t2) (a := d1) (r := r) (p := none) (i := p) (k := 0) (by rw [g2,upd_same])
  obtain ⟨ev,pv⟩ := rd_own (X := X) g2v1
  have := step_store_own (X := X) (n := n) (Z := Z') (g := stG n t2) s1o s1d pa pv ea ev (fun e=>r1 e.symm) g2r g2v1 hts hone1 (told := .u) (by show ((es.set q .u).set p .u)[p]? = _; rw [List.getElem?_set_self (by simpa using hpl)]) rfl
  rw [turned_kn,turned_kn] at this
  exact this
 have ir:∀ {i},i ∈ [d1,d2,dx,dy] → i ≠ r ∧ i ≠ v1 ∧ i ≠ v2 := fun {i} h=>by
  simp only [List.mem_cons,List.not_mem_nil,or_false] at h
  rcases h with rfl | rfl | rfl | rfl
  ·exact ⟨fun e=>r3 e.symm,fun e=>v13 e.symm,fun e=>w3 e.symm⟩
  ·exact ⟨fun e=>r4 e.symm,fun e=>v14 e.symm,fun e=>w4 e.symm⟩
  ·exact ⟨fun e=>r5 e.symm,fun e=>v15 e.symm,fun e=>w5 e.symm⟩
  ·exact ⟨fun e=>r6 e.symm,fun e=>v16 e.symm,fun e=>w6 e.symm⟩
 have gen3:∀ i,i ≠ r → i ≠ v1 → i ≠ v2 → i ≠ d1 → stG n t3 i = killA v1 none (killA r none (killM r (stG n s0 i))) := fun i h1 h2 h3 h4=>by
  rw [g3,upd_ne _ _ h1,knG_ne h2,knG_ne h1,g2,upd_ne _ _ h4,gen i h1 h2 h3]
 -- the late ones are known
 let t4:St := (t3.put dx (.ref r none 0 es.length)).put dy (.t (.v (.int k2 q')))
 have g4:stG n t4 = upd (upd (stG n t3) dx (.ref r none 0 es.length)) dy (.t (.v (.int k2 q'))) := by
  show stG n ((t3.put dx _).put dy _) = _
  rw [stG_put,stG_put]
 have fdx := hfl dx (List.mem_map.2 ⟨_,hdx,rfl⟩)
 have fdy := hfl dy (List.mem_map.2 ⟨_,hdy,rfl⟩)
 have e3x:stG n t3 dx = .t .u := by
  obtain ⟨h1,h2,h3⟩ := ir (i := dx) (by simp)
  rw [gen3 dx h1 h2 h3 (fun e=>e5 e.symm),fdx]; rfl
 have e3y:stG n t3 dy = .t .u := by
  obtain ⟨h1,h2,h3⟩ := ir (i := dy) (by simp)
  rw [gen3 dy h1 h2 h3 (fun e=>e6 e.symm),fdy]; rfl
 have g3r:stG n t3 r = .t (.own e 1 (es1.set p (.own e2 sz2 eq))) := by rw [g3,upd_same]
 have hfin:FinF X n Z R D gc v0 w0 F t3 t4 := fun tmps w hI hz hf=>by
  rw [g4]
  have h1 := hI.aliasS (d := dx) (r := r) e3x g3r (by
   have e1:tmps.getD dx undef = v0 r := hf _ hdx
   rw [e1]
   rcases List.mem_append.1 hrR with h | h
   ·exact (hz r h).symm
   ·exact (hI.fix r h).symm)
  rw [List.length_set,l1] at h1
  exact h1.knownV (d := dy) (by rw [upd_ne _ _ (fun e=>x6 e.symm)]; exact e3y) (hf _ hdy)
 have g4r:stG n t4 r = .t (.own e 1 (es1.set p (.own e2 sz2 eq))) := by rw [g4,upd_ne _ _ r6,upd_ne _ _ r5,g3r]
 -- the second place
 let t5:St := t4.put d2 (.eptr r none q 0)
 have g5:stG n t5 = upd (stG n t4) d2 (.eptr r none q 0) := stG_put _ _ _ _
 have kM:∀ a:A,a.owner = false → (killM r a).owner = false := fun a h=>by
  cases a with
  | t t=>exact h
  | ref=>unfold killM; split <;> rfl
  | eptr=>unfold killM; split <;> rfl
  | pref=>unfold killM; split <;> rfl
  | sptr=>rfl
  | ghost=>rfl
  | opt=>rfl
 have od2:(stG n t4 d2).owner = false := by
  obtain ⟨h1,h2,h3⟩ := ir (i := d2) (by simp)
  rw [g4,upd_ne _ _ f6,upd_ne _ _ f5,gen3 d2 h1 h2 h3 (fun e=>e4 e.symm),killA_owner,killA_owner]
  exact kM _ ho2
 have S3:Step X n Z (stG n t4) i2 (stG n t5) := by
  rw [g5]
  obtain ⟨ea,pa⟩ := rd_ref (X := X) (g := stG n t4) (a := dx) (r := r) (p := none) (i := 0) (k := es.length) (by rw [g4,upd_ne _ _ x6,upd_same])
  obtain ⟨ec,pc⟩ := rd_vv (X := X) (g := stG n t4) (a := dy) (x := .int k2 q') (by rw [g4,upd_same])
  have := good_indexAddr_ref (X := X) (g := stG n t4) i2o pa pc ea ec (e0 := e) (es0 := es1.set p (.own e2 sz2 eq)) (by simp only [root,g4r]) hti (by decide) hq0 hq1
  rw [Nat.zero_add,← hqq] at this
  exact this.step (fun e=>by cases e) i2d hd2 od2
 have g5r:stG n t5 r = .t (.own e 1 (es1.set p (.own e2 sz2 eq))) := by rw [g5,upd_ne _ _ r4,g4r]
 have g5v2:stG n t5 v2 = .t (.own e2 sz2 ep) := by
  rw [g5,upd_ne _ _ w4,g4,upd_ne _ _ w6,upd_ne _ _ w5,g3,upd_ne _ _ (fun e=>r2 e.symm),knG_ne (fun e=>v12 e.symm),knG_ne (fun e=>r2 e.symm),g2,upd_ne _ _ w3,g1,upd_same]; rfl
 have S4:Step X n Z (stG n t5) s2 (upd (knG (knG (stG n t5) r) v2) r (.t (.own e 1 ((es1.set p (.own e2 sz2 eq)).set q (.own e2 sz2 ep))))) := by
  obtain ⟨ea,pa⟩ := rd_eptr (X := X) (g := stG n t5) (a := d2) (r := r) (p := none) (i := q) (k := 0) (by rw [g5,upd_same])
  obtain ⟨ev,pv⟩ := rd_own (X := X) g5v2
  have := step_store_own (X := X) (n := n) (Z := Z) (g := stG n t5) s2o s2d pa pv ea ev (fun e=>r2 e.symm) g5r g5v2 hts (hone' hone1 rfl) (told := .u) (by
   rw [List.getElem?_set_ne hpq]
   show ((es.set q .u).set p .u)[q]? = _
   rw [List.getElem?_set_ne hpq,List.getElem?_set_self hql]) rfl
  rw [turned_kn,turned_kn] at this
  exact this
 have efin:(es1.set p (.own e2 sz2 eq)).set q (.own e2 sz2 ep) = (es.set p (.own e2 sz2 eq)).set q (.own e2 sz2 ep) := by
  show ((((es.set q .u).set p .u).set p (.own e2 sz2 eq)).set q (.own e2 sz2 ep)) = _
  rw [List.set_set,List.set_comm _ _ (fun e=>hpq e.symm),List.set_set]
 have last:∀ i,ALe (stG n sF i) ((upd (knG (knG (stG n t5) r) v2) r (.t (.own e 1 ((es1.set p (.own e2 sz2 eq)).set q (.own e2 sz2 ep))))) i) := fun i=>by
  rw [hsF,efin]
  by_cases hir:i = r
  ·rw [hir,upd_same,upd_same]; exact .refl _
  ·rw [upd_ne _ _ hir,upd_ne _ _ hir]
   by_cases h2:i = v2
   ·subst h2
    rw [knG_same,knG_ne w4,knG_ne w3,knG_same]; exact .refl _
   ·rw [knG_ne h2,knG_ne hir,g5]
    by_cases h4:i = d2
    ·subst h4
     rw [knG_same,upd_same]; simp [killA]; exact .refl _
    ·rw [knG_ne h4,upd_ne _ _ h4,g4]
     by_cases h3:i = d1
     ·subst h3
      rw [knG_same,upd_ne _ _ e6,upd_ne _ _ e5,g3,upd_ne _ _ hir,knG_ne (fun e=>v13 e.symm),knG_ne hir,g2,upd_same]
      simp [killA]; exact .refl _
     ·rw [knG_ne h3,knG_ne h2]
      by_cases h1:i = v1
      ·subst h1
       rw [knG_same,upd_ne _ _ v16,upd_ne _ _ v15,g3,upd_ne _ _ hir,knG_same]; exact .refl _
      ·rw [knG_ne h1,knG_ne hir]
       by_cases hy:i = dy
       ·subst hy; rw [upd_same,fdy]; exact .v _
       ·rw [upd_ne _ _ hy]
        by_cases hx:i = dx
        ·subst hx; rw [upd_same,fdx]; simp [killA]; exact .refl _
        ·rw [upd_ne _ _ hx,gen3 i hir h1 h2 h3]
         exact kills_le _ _ _ _ _ _
 have off:∀ d ∈ flD F,d ≠ r ∧ d ≠ v1 ∧ d ≠ v2 ∧ d ≠ d1 := fun d hd=>by
  have h0 := hfl d hd
  refine ⟨?_,?_,?_,fun e=>hd1.2 (List.mem_append_left _ (e ▸ hd))⟩
  ·rintro rfl; rw [hr] at h0; cases h0
  ·rintro rfl; rw [hv1] at h0; cases h0
  ·rintro rfl; rw [hv2] at h0; cases h0
 refine ⟨hfl,t2,GStep'.pre (GStep'.of i1g (S1 _ hd1.2) (fun i=>.refl _)) (take _),fun d hd=>?_,t3,GStep'.of s1g (S2 _) (fun i=>.refl _),fun d hd=>?_,t4,hfin,t5,GStep'.of i2g S3 (fun i=>.refl _),sF,GStep'.of s2g S4 last,rfl⟩
 ·obtain ⟨h1,h2,h3,h4⟩ := off d hd
  rw [g2,upd_ne _ _ h4,gen d h1 h2 h3,hfl d hd]; rfl
 ·obtain ⟨h1,h2,h3,h4⟩ := off d hd
  rw [gen3 d h1 h2 h3 h4,hfl d hd]; rfl
end Go.Eng

/- Two members change places, in typed trees. -/
namespace Go.Eng
open Go.RowKit (Below)
set_option linter.unusedVariables false
set_option linter.unusedSimpArgs false
set_option linter.unusedSectionVars false
variable {X:Ctx} {Y:DX} {n:Nat} {Z:List Nat} {st:DSt} {E:Env} {ρ:Type} {r:ρ} {Q:Exit → St → Prop}
inductive FV where
 | root (r:Nat)
 | int (k:IntKind) (a:Int)
abbrev FD := Nat × Nat × FV
def fvV (v0:Nat → Value):FV → Value
 | .root r=>v0 r
 | .int k a=>.int k a
def fdFl (v0:Nat → Value) (f:FD):Fl := (f.1,f.2.1,fvV v0 f.2.2)
def opF (anc:List Nat) (acc:List FD):Operand → Option (IntKind × Int)
 | .const (.int k b)=>some (k,b)
 | .tmp d=>match acc.find? fun f=>Nat.beq f.2.1 d with
  | some (k',_,.int k a)=>match anc.contains k' with
   | true=>some (k,a)
   | false=>none
  | _=>none
 | _=>none
def flOne (st:DSt) (anc:List Nat) (acc:List FD) (k:Nat) (o:Oper):Option FD := match o.guard,o.dst,o.op with
 | none,some d,.move (.tmp r)=>match st.find r with
  | some (.t (.own2 _ _ _ _))=>some (k,d,.root r)
  | some (.t y)=>match asI y with
   | some (kk,a)=>some (k,d,.int kk a)
   | none=>none
  | _=>none
 | none,some d,.binOp .add _ x y _=>match opF anc acc x,opF anc acc y with
  | some (k1,a),some (k2,b)=>match decide (k1 = k2) with
   | true=>some (k,d,.int k1 (k1.wrap (a + b)))
   | false=>none
  | _,_=>none
 | none,some d,.binOp .sub _ x y _=>match opF anc acc x,opF anc acc y with
  | some (k1,a),some (k2,b)=>match decide (k1 = k2) with
   | true=>some (k,d,.int k1 (k1.wrap (a - b)))
   | false=>none
  | _,_=>none
 | _,_,_=>none
def flE (st:DSt) (tab:List (List Nat)) (ops:List Oper):List Nat → List FD → Option (List FD)
 | [],acc=>some acc
 | k :: fi,acc=>match ops[k]? with
  | some o=>match flOne st (tab.getD k []) acc k o with
   | some f=>flE st tab ops fi (acc ++ [f])
   | none=>none
  | none=>none
def srcs (ops:List Oper) (fi:List Nat):List Nat := fi.filterMap fun k=>match ops[k]? with
 | some o=>match o.op with
  | .move (.tmp r)=>some r
  | _=>none
 | none=>none
theorem srcs_mem {ops:List Oper} {fi:List Nat} {k r:Nat} {o:Oper} (hk:k ∈ fi) (ho:ops[k]? = some o) (hm:o.op = .move (.tmp r)):r ∈ srcs ops fi := by
 unfold srcs
 rw [List.mem_filterMap]
 exact ⟨k,hk,by simp only [ho,hm]⟩
theorem opF_run {anc:List Nat} {acc F:List FD} {v0:Nat → Value} {x:Operand} {k:IntKind} {a:Int} (h:opF anc acc x = some (k,a)) (hsub:∀ f ∈ acc,f ∈ F) {tmps:Array Value} {ds:List Deferred} (hd:∀ f' ∈ F.map (fdFl v0),f'.1 ∈ anc → tmps.getD f'.2.1 undef = f'.2.2):Act.eval ⟨tmps,ds⟩ x = .int k a := by
 unfold opF at h
 split at h
 ·cases h; rfl
 ·rename_i d
  split at h
  ·rename_i k' d' kk aa hf
   split at h
   ·rename_i hc
    cases h
    have hm := List.mem_of_find?_eq_some hf
    have hb := List.find?_some hf
    have hb := Nat.eq_of_beq_eq_true hb
    have := hd (fdFl v0 (k',d',.int k a)) (List.mem_map.2 ⟨_,hsub _ hm,rfl⟩) (show k' ∈ anc by simpa using hc)
    show tmps.getD d undef = _
    rw [← hb]; exact this
   ·cases h
  ·cases h
 ·cases h
theorem flOne_run {tab:List (List Nat)} {acc F:List FD} {k:Nat} {ops:List Oper} {o:Oper} {f:FD} {R:List Nat} {v0:Nat → Value} (ho:ops[k]? = some o) (h:flOne st (tab.getD k []) acc k o = some f) (hsub:∀ f ∈ acc,f ∈ F) (hR:∀ r,o.op = .move (.tmp r) → r ∈ R)
  (hv:∀ r y kk a,r ∈ R → st.find r = some (.t y) → asI y = some (kk,a) → v0 r = .int kk a):f.1 = k ∧ o.dst = some f.2.1 ∧ FlRun X R v0 ops tab (F.map (fdFl v0)) (fdFl v0 f) := by
 have mk:∀ {d:Nat} {fv:FV},f = (k,d,fv) → o.guard = none → o.dst = some d → (∀ (tmps:Array Value) (ds:List Deferred) (w:World),(∀ z ∈ R,tmps.getD z undef = v0 z) → (∀ f' ∈ F.map (fdFl v0),f'.1 ∈ tab.getD k [] → tmps.getD f'.2.1 undef = f'.2.2) → (execOp (Act.eval ⟨tmps,ds⟩) o).run X.P w = .ok (.value (fvV v0 fv)) w) →
   f.1 = k ∧ o.dst = some f.2.1 ∧ FlRun X R v0 ops tab (F.map (fdFl v0)) (fdFl v0 f) := by
  intro d fv hf hg hd hrun
  subst hf
  refine ⟨rfl,hd,fun tmps ds w Qp next hz hfd hn=>?_⟩
  unfold wpOp
  rw [List.getElem?_toArray,show ops[(fdFl v0 (k,d,fv)).1]? = some o from ho]
  simp only
  rw [if_pos (by simp [Region.wanted,hg])]
  exact .inl (wp_of_run (v := fvV v0 fv) (w' := w) (hrun tmps ds w hz hfd) (by rw [hd]; exact hn))
 unfold flOne at h
 split at h
 ·rename_i d r hg hd hop
  have hr := hR r hop
  have mv:∀ {fv:FV},v0 r = fvV v0 fv → ∀ (tmps:Array Value) (ds:List Deferred) (w:World),(∀ z ∈ R,tmps.getD z undef = v0 z) → (execOp (Act.eval ⟨tmps,ds⟩) o).run X.P w = .ok (.value (fvV v0 fv)) w := fun e tmps ds w hz=>by
   unfold execOp
   simp only [hop]
   rw [← e,← hz r hr]; rfl
  split at h
  ·cases h
   exact mk rfl hg hd fun tmps ds w hz _=>mv (fv := .root r) rfl tmps ds w hz
  ·rename_i y _ hy
   split at h
   ·rename_i kk a hA
    cases h
    exact mk rfl hg hd fun tmps ds w hz _=>mv (fv := .int kk a) (hv r _ kk a hr hy hA) tmps ds w hz
   ·cases h
  ·cases h
 ·rename_i d t x y t' hg hd hop
  split at h
  ·rename_i k1 a k2 b hx hy
   split at h
   ·rename_i hk
    have hk := of_decide_eq_true hk
    subst hk
    cases h
    refine mk rfl hg hd fun tmps ds w hz hfd=>?_
    unfold execOp
    simp only [hop]
    rw [opF_run hx hsub hfd,opF_run hy hsub hfd]
    exact run_val (run_bin (op := .add) (a := .int k1 a) (b := .int k1 b) rfl w x y)
   ·cases h
  ·cases h
 ·rename_i d t x y t' hg hd hop
  split at h
  ·rename_i k1 a k2 b hx hy
   split at h
   ·rename_i hk
    have hk := of_decide_eq_true hk
    subst hk
    cases h
    refine mk rfl hg hd fun tmps ds w hz hfd=>?_
    unfold execOp
    simp only [hop]
    rw [opF_run hx hsub hfd,opF_run hy hsub hfd]
    exact run_val (run_bin (op := .sub) (a := .int k1 a) (b := .int k1 b) rfl w x y)
   ·cases h
  ·cases h
 ·cases h
theorem flE_run {tab:List (List Nat)} {ops:List Oper} {R:List Nat} {v0:Nat → Value}:∀ {fi:List Nat} {acc F:List FD},flE st tab ops fi acc = some F → (∀ k o r,k ∈ fi → ops[k]? = some o → o.op = .move (.tmp r) → r ∈ R) →
  (∀ r y kk a,r ∈ R → st.find r = some (.t y) → asI y = some (kk,a) → v0 r = .int kk a) →
  (∀ f ∈ acc,f ∈ F) ∧ F.map (·.1) = acc.map (·.1) ++ fi ∧ ∀ f ∈ F,f ∈ acc ∨ (f.1 ∈ fi ∧ (∃ o,ops[f.1]? = some o ∧ o.dst = some f.2.1) ∧ FlRun X R v0 ops tab (F.map (fdFl v0)) (fdFl v0 f))
 | [],acc,F,h,_,_=>by cases h; exact ⟨fun _ h=>h,by simp,fun _ h=>.inl h⟩
 | k :: fi,acc,F,h,hR,hv=>by
  unfold flE at h
  split at h
  ·rename_i o ho
   split at h
   ·rename_i f hf
    obtain ⟨h1,h2,h3⟩ := flE_run h (fun k' o' r hk=>hR k' o' r (List.mem_cons_of_mem _ hk)) hv
    obtain ⟨k1,k2,k3⟩ := flOne_run (X := X) (F := F) ho hf (fun f hf=>h1 f (List.mem_append_left _ hf)) (fun r hr=>hR k o r List.mem_cons_self ho hr) hv
    refine ⟨fun f hf=>h1 f (List.mem_append_left _ hf),by rw [h2]; simp [k1],fun f' hf'=>?_⟩
    rcases h3 f' hf' with e | e
    ·rcases List.mem_append.1 e with e | e
     ·exact .inl e
     ·rw [List.mem_singleton.1 e]
      exact .inr ⟨by rw [k1]; exact List.mem_cons_self,⟨o,by rw [k1]; exact ho,k2⟩,k3⟩
    ·exact .inr ⟨List.mem_cons_of_mem _ e.1,e.2⟩
   ·cases h
  ·cases h
def drawFD (Y:DX) (n:Nat) (Z:List Nat) (E:Env) (all:List Oper):List Bool → List (List Nat) → List Oper → DSt → (DSt → Option ρ) → Option ρ
 | _,_,[],st,K=>K st
 | true :: bs,_ :: dss,o :: rest,st,K=>match o.dst with
  | some d=>tst (dstD n Z st d) (drawFD Y n Z E all bs dss rest (st.put d (.t .u)) K)
  | none=>none
 | false :: bs,ds :: dss,o :: rest,st,K=>match o.dst with
  | some d=>g1D Y E all (hideDS ds st) o fun a=>tst (dstD n Z st d && !refOf a d) (drawFD Y n Z E all bs dss rest (st.put d a) K)
  | none=>none
 | _,_,_ :: _,_,_=>none
theorem drawFD_sound (hY:DXOk Y X) (hE:EnvOk X E) {all:List Oper} {K:DSt → Option ρ}:∀ (bs0:List Bool) (dss:List (List Nat)) (rest:List Oper) (st:DSt),WF st → drawFD Y n Z E all bs0 dss rest st K = some r →
  ∃ (sts:Nat → DSt) (bs:Nat → A),sts 0 = st ∧ WF (sts rest.length) ∧ K (sts rest.length) = some r ∧ ∀ k o,rest[k]? = some o → ∃ d,o.dst = some d ∧ dstOk n Z (sts k).toSt d ∧ bs k ≠ .ghost ∧ ((bs0[k]? = some true ∧ bs k = .t .u) ∨ (bs0[k]? = some false ∧ LG X all (stG n ((sts k).toSt.hide (dss.getD k []))) o (bs k))) ∧ (sts (k + 1)).toSt = (sts k).toSt.put d (bs k)
 | bs0,dss,[],st,hw,h=>⟨fun _=>st,fun _=>.ghost,rfl,hw,(by unfold drawFD at h; cases bs0 <;> cases dss <;> first | exact h | (rename_i b _ _ _; cases b <;> exact h) | (rename_i b _; cases b <;> exact h)),fun k o hk=>by simp at hk⟩
 | [],_,_ :: _,_,_,h=>by cases h
 | true :: _,[],_ :: _,_,_,h=>by cases h
 | false :: _,[],_ :: _,_,_,h=>by cases h
 | true :: bs0,ds :: dss,o :: rest,st,hw,h=>by
  simp only [drawFD] at h
  split at h
  ·rename_i d hd
   obtain ⟨h0,h3⟩ := tst_some h
   obtain ⟨k1,k2,k3⟩ := dstD_spec h0
   obtain ⟨sts,bs,q1,q2,q2',q3⟩ := drawFD_sound hY hE bs0 dss rest _ (hw.put (a := .t .u) k2 k3 trivial rfl) h3
   refine ⟨fun k=>match k with | 0=>st | k + 1=>sts k,fun k=>match k with | 0=>.t .u | k + 1=>bs k,rfl,q2,q2',fun k o' hk=>?_⟩
   cases k with
   | zero =>
    simp at hk; subst hk
    refine ⟨d,hd,k1,(fun e=>by cases e),.inl ⟨rfl,rfl⟩,?_⟩
    show (sts 0).toSt = _
    rw [q1,put_toSt]; rfl
   | succ k =>
    simp only [List.getElem?_cons_succ] at hk
    obtain ⟨d',e1,e2,e3,e4,e5⟩ := q3 k o' hk
    exact ⟨d',e1,e2,e3,by simpa using e4,e5⟩
  ·cases h
 | false :: bs0,ds :: dss,o :: rest,st,hw,h=>by
  simp only [drawFD] at h
  split at h
  ·rename_i d hd
   obtain ⟨a,h1,h2,h3,h4⟩ := g1D_sound (n := n) hY hE (hw.hide ds) h
   obtain ⟨h0,h3⟩ := tst_some h3
   simp only [Bool.and_eq_true,Bool.not_eq_true'] at h0
   obtain ⟨k1,k2,k3⟩ := dstD_spec h0.1
   obtain ⟨sts,bs,q1,q2,q2',q3⟩ := drawFD_sound hY hE bs0 dss rest _ (hw.put k2 k3 (slotWF_hide hw h2 h4) h0.2) h3
   refine ⟨fun k=>match k with | 0=>st | k + 1=>sts k,fun k=>match k with | 0=>a.toA | k + 1=>bs k,rfl,q2,q2',fun k o' hk=>?_⟩
   cases k with
   | zero =>
    simp at hk; subst hk
    refine ⟨d,hd,k1,toA_ne_ghost a,.inr ⟨rfl,?_⟩,?_⟩
    ·rw [hideDS_toSt] at h1; simpa using h1
    ·show (sts 0).toSt = _
     rw [q1,put_toSt]
   | succ k =>
    simp only [List.getElem?_cons_succ] at hk
    obtain ⟨d',e1,e2,e3,e4,e5⟩ := q3 k o' hk
    exact ⟨d',e1,e2,e3,by simpa using e4,e5⟩
  ·cases h
end Go.Eng

/- Two members change places: the region, in typed trees. -/
namespace Go.Eng
open Go.RowKit (Below)
set_option linter.unusedVariables false
set_option linter.unusedSimpArgs false
set_option linter.unusedSectionVars false
variable {X:Ctx} {Y:DX} {n:Nat} {Z:List Nat} {st:DSt} {E:Env} {ρ:Type} {r:ρ} {Q:Exit → St → Prop}
def knD (st:DSt) (d:Nat):DSt := (st.mapA (killD d none)).put d (.t .u)
def swS (st:DSt) (r v1 v2 d1 d2:Nat):DSt := knD (knD (knD (knD (knD st r) v1) v2) d1) d2
def swWF (st:DSt) (r v1 v2 d1 d2:Nat):Bool := noRef st r && (noRef (knD st r) v1 && (noRef (knD (knD st r) v1) v2 && (noRef (knD (knD (knD st r) v1) v2) d1 && (noRef (knD (knD (knD (knD st r) v1) v2) d1) d2 && noRef (swS st r v1 v2 d1 d2) r))))
def fiOf (tab:List (List Nat)) (m:Nat):List Nat := (List.range m).filter fun j => !((tab.getD m []).contains j && (tab.getD (m + 1) []).contains j)
abbrev swC {α:Type} (L:List (Bool × List α)) (p q:Nat) (p' q':Int) (k k1 k2:Nat):Prop :=
 ((p = p'.toNat ∧ q = q'.toNat) ∧ p ≠ q ∧ k = L.length ∧ k1 = (el2D L q).2.length ∧ k2 = (el2D L p).2.length) ∧ ((0 ≤ p' ∧ p' < (L.length:Int)) ∧ 0 ≤ q' ∧ q' < (L.length:Int)) ∧ (el2D L p).1 = true ∧ (el2D L q).1 = true
def swEnd (Y:DX) (n:Nat) (Z:List Nat) (F:List FD) (ti ts:TypeId) (r v1 v2 d1 d2 a1 c1:Nat) (q':Int) (K:DSt → Option ρ) (s0:DSt):Option ρ := match s0.find r,s0.find v1,s0.find v2,s0.find a1,s0.find c1 with
 | some (.t (.own2 e e2 t L)),some (.ref r1 (some q) 0 k1 _),some (.ref r2 (some p) 0 k2 _),some (.ref r3 none 0 k _),some (.t y1)=>match asI y1,own2T Y ti,tyT Y ts with
  | some (_,p'),some _,some (.sl sz t3)=>tst (Nat.beq r1 r && (Nat.beq r2 r && (Nat.beq r3 r && ((Ty.sl sz t3).fine && (F.all (fun f=>isU s0 f.2.1) && (dstD n Z s0 d1 && (dstD n Z s0 d2 && swWF s0 r v1 v2 d1 d2)))))))
   (G (swC L p q p' q' k k1 k2) (K ((swS s0 r v1 v2 d1 d2).put r (.t (.own2 e e2 t ((L.set p (el2D L q)).set q (el2D L p)))))))
  | _,_,_=>none
 | _,_,_,_,_=>none
def swTab (ops:List Oper):List (List Nat) := ancTab ops []
def swM (ops:List Oper):Nat := ops.length - 4
def swFi (ops:List Oper):List Nat := fiOf (swTab ops) (swM ops)
def swR (ops:List Oper):List Nat := srcs ops (swFi ops)
def swLoc (ops:List Oper):List Oper := ops.take (swM ops)
def swOk (n:Nat) (Z:List Nat) (st:DSt) (ops:List Oper) (i1 s1 i2 s2:Oper) (F:List FD) (r v1 v2 d1 d2 dx dy a1 c1:Nat):Bool :=
 (i1.guard.isNone && (s1.guard.isNone && (i2.guard.isNone && (s2.guard.isNone && (s1.dst.isNone && s2.dst.isNone))))) && ((ancOk ops (swTab ops) && (hideOk2 ops (swLoc ops) (swTab ops) (hideT (swLoc ops) (swTab ops)) && ((st.find n).isNone &&
  (List.range ops.length).all fun k=>decide (k < swM ops) || (List.range k).all fun j=>((swTab ops).getD k []).contains j || (decide (k < swM ops + 2) && (swFi ops).contains j)))) &&
 ((F.all (fun f=>freshD st f.2.1 && (Nat.blt f.2.1 n && !memN (swR ops ++ Z) f.2.1)) && decide (F.map fun f=>f.2.1).Nodup) && (memN (swR ops ++ Z) r && (decide ([r,v1,v2,d1,d2,dx,dy,a1,c1]:List Nat).Nodup && !memN ((F.map fun f=>f.2.1) ++ (swR ops ++ Z)) d1))))
def swapD (Y:DX) (n:Nat) (Z:List Nat) (E:Env) (ops:List Oper) (st:DSt) (K:DSt → Option ρ):Option ρ := match ops.drop (swM ops) with
 | [i1,s1,i2,s2]=>match i1.op,i1.dst,s1.op,i2.op,i2.dst,s2.op with
  | .indexAddr ti (.tmp a1) (.tmp c1),some d1,.store ts (.tmp d1') (.tmp v1),.indexAddr ti2 (.tmp dx) (.tmp dy),some d2,.store ts2 (.tmp d2') (.tmp v2)=>match flE st (swTab ops) ops (swFi ops) [] with
   | some F=>match F.find? (fun f=>Nat.beq f.2.1 dx),F.find? (fun f=>Nat.beq f.2.1 dy) with
    | some (_,_,.root r),some (_,_,.int _ q')=>tst ((Nat.beq d1' d1 && (Nat.beq d2' d2 && (Nat.beq ti2 ti && Nat.beq ts2 ts))) && swOk n Z st ops i1 s1 i2 s2 F r v1 v2 d1 d2 dx dy a1 c1)
     (drawFD Y n (swR ops ++ Z) E ops ((List.range (swM ops)).map fun k=>(swFi ops).contains k) (hideT (swLoc ops) (swTab ops)) (swLoc ops) st (swEnd Y n Z F ti ts r v1 v2 d1 d2 a1 c1 q' K))
    | _,_=>none
   | none=>none
  | _,_,_,_,_,_=>none
 | _=>none
theorem knD_toSt (s:DSt) (d:Nat):stG n (knD s d).toSt = knG (stG n s.toSt) d := by
 unfold knD
 rw [kill_toSt d none .u .u .u rfl,turned_kn]
theorem knD_find {s:DSt} {d i:Nat} (h:s.find i = some (.t .u)):(knD s d).find i = some (.t .u) := by
 unfold knD
 rw [find_dput]
 split
 ·rfl
 ·rw [find_dmap,h]; rfl
theorem swap_sound (hY:DXOk Y X) (hE:EnvOk X E) (hm:X.P.follows .mixedOrders = true) (hw:WF st) {id:Nat} {ops:Array Oper} {K:DSt → Option ρ} (h:swapD Y n Z E ops.toList st K = some r)
  (hQ:∀ st',WF st' → K st' = some r → Q .normal st'.toSt):AW X n Z (.region id ops true) st.toSt Q := by
 unfold swapD at h
 split at h
 case h_2=>cases h
 rename_i i1 s1 i2 s2 hdrop
 split at h
 case h_2=>cases h
 rename_i ti a1 c1 d1 ts d1' v1 ti2 dx dy d2 ts2 d2' v2 i1o i1d s1o i2o i2d s2o
 split at h
 case h_2=>cases h
 rename_i F hF
 split at h
 case h_2=>cases h
 rename_i kx dx' rr ky dy' k2 q' hfx hfy
 obtain ⟨h0,hdr⟩ := tst_some h
 clear h
 simp only [swOk,Bool.and_eq_true,Option.isNone_iff_eq_none,List.all_eq_true,List.mem_range,Bool.or_eq_true,decide_eq_true_eq,Bool.not_eq_true',Nat.blt_eq,List.contains_iff_mem] at h0
 obtain ⟨⟨b1,b2,b3,b4⟩,⟨i1g,s1g,i2g,s2g,s1d,s2d⟩,⟨hanc,hhide,hn,hord⟩,⟨hFl,hFn⟩,hrR,hnd,hd1F⟩ := h0
 have b1 := Nat.eq_of_beq_eq_true b1; have b2 := Nat.eq_of_beq_eq_true b2; have b3 := Nat.eq_of_beq_eq_true b3; have b4 := Nat.eq_of_beq_eq_true b4
 subst b1 b2 b3 b4
 have hx1 := List.mem_of_find?_eq_some hfx
 have hx2 := List.find?_some (p := fun f:FD=>Nat.beq f.2.1 dx) hfx
 have hx2 := Nat.eq_of_beq_eq_true hx2
 have hy1 := List.mem_of_find?_eq_some hfy
 have hy2 := List.find?_some (p := fun f:FD=>Nat.beq f.2.1 dy) hfy
 have hy2 := Nat.eq_of_beq_eq_true hy2
 simp only at hx2 hy2
 subst hx2 hy2
 have notmem:∀ {l:List Nat} {i:Nat},memN l i = false → i ∉ l := fun h hm=>by rw [memN_spec.2 hm] at h; cases h
 have hops:ops.toList = swLoc ops.toList ++ [i1,s1] ++ [i2,s2] := by
  have := List.take_append_drop (swM ops.toList) ops.toList
  rw [hdrop] at this
  rw [List.append_assoc]
  exact this.symm
 have hlen:swM ops.toList + 4 = ops.toList.length := by
  have := congrArg List.length hdrop
  rw [List.length_drop] at this
  simp only [List.length_cons,List.length_nil] at this
  unfold swM at this ⊢
  omega
 have hll:(swLoc ops.toList).length = swM ops.toList := by unfold swLoc; rw [List.length_take]; omega
 obtain ⟨sts,bs,q1,q2,q3,q4⟩ := drawFD_sound (n := n) (Z := swR ops.toList ++ Z) hY hE _ _ _ _ hw hdr
 rw [hll] at q2 q3
 have hsrc:∀ k o r,k ∈ swFi ops.toList → ops.toList[k]? = some o → o.op = .move (.tmp r) → r ∈ swR ops.toList ++ Z := fun k o r hk ho hop=>List.mem_append_left _ (srcs_mem hk ho hop)
 have hFst:F.map (·.1) = swFi ops.toList := by
  have := (flE_run (X := X) (R := swR ops.toList ++ Z) (v0 := fun i=>match st.find i with | some (.t y)=>(match asI y with | some (kk,a)=>.int kk a | none=>undef) | _=>undef) hF hsrc (fun r y kk a _ h1 h2=>by simp only [h1,h2])).2.1
  simpa using this
 have hfi:∀ f ∈ F,f.1 ∈ swFi ops.toList := fun f hf=>by rw [← hFst]; exact List.mem_map.2 ⟨f,hf,rfl⟩
 have hfilt:∀ j ∈ swFi ops.toList,j < swM ops.toList := fun j hj=>by
  unfold swFi fiOf at hj
  exact List.mem_range.1 (List.mem_filter.1 hj).1
 have hfin:(swFi ops.toList).Nodup := by unfold swFi fiOf; exact List.nodup_range.filter _
 -- the end
 unfold swEnd at q3
 split at q3
 case h_2=>cases q3
 rename_i e e2 t L r1 q k1 vw1 r2 p kk2 vw2 r3 k vw3 y1 fr fv1 fv2 fa1 fc1
 split at q3
 case h_2=>cases q3
 rename_i ik p' own2q sz t3 hasI hown hts
 obtain ⟨h5,q3⟩ := tst_some q3
 obtain ⟨hC,q3⟩ := G_some q3
 simp only [Bool.and_eq_true,List.all_eq_true] at h5
 obtain ⟨c1',c2',c3',hfine,hU,hds1,hds2,hwf⟩ := h5
 have c1' := Nat.eq_of_beq_eq_true c1'; have c2' := Nat.eq_of_beq_eq_true c2'; have c3' := Nat.eq_of_beq_eq_true c3'
 subst c1' c2'
 have c3':r3 = r2 := c3'
 subst c3'
 obtain ⟨⟨⟨hp,hq⟩,hpq,hk,hk1,hk2⟩,⟨⟨hp0,hp1⟩,hq0,hq1⟩,ht1,ht2⟩ := hC
 simp only [swWF,Bool.and_eq_true] at hwf
 obtain ⟨f1,f2,f3,f4,f5,f6⟩ := hwf
 have w1:WF (knD (sts (swM ops.toList)) r3) := killn_wf q2 f1
 have w2:WF (knD (knD (sts (swM ops.toList)) r3) v1) := killn_wf w1 f2
 have w3:WF (knD (knD (knD (sts (swM ops.toList)) r3) v1) v2) := killn_wf w2 f3
 have w4:WF (knD (knD (knD (knD (sts (swM ops.toList)) r3) v1) v2) d1') := killn_wf w3 f4
 have w5:WF (swS (sts (swM ops.toList)) r3 v1 v2 d1' d2') := killn_wf w4 f5
 have fu:(swS (sts (swM ops.toList)) r3 v1 v2 d1' d2').find r3 = some (.t .u) := by
  unfold swS
  refine knD_find (knD_find (knD_find (knD_find ?_)))
  unfold knD
  rw [find_dput,if_pos rfl]
 have wF := root_wf w5 f6 (fun p e0 t0 l0 hq=>by cases p <;> simp only [rootD,fu] at hq <;> cases hq) (.own2 e e2 t ((L.set p (el2D L q)).set q (el2D L p)))
 obtain ⟨z,_,hsli,_,_⟩:∃ z,sliT Y ti2 = some (own2q.1,.sl own2q.2.2.1.sz own2q.2.2.1,own2q.2.2.2) ∧ sliOf X.P ti2 = some (own2q.1,1,own2q.2.2.2,z) ∧ 1 ≤ own2q.2.2.2 ∧ z.cells.size = 1 := by
  obtain ⟨x1,x2,x3,x4⟩ := own2q
  exact own2T_spec (X := X) hY hown
 have hrow := tyT_row (X := X) hY hts hfine
 have htrue:∀ b:Bool,b = true → ∀ l:List t.I,el2 e2 t (b,l) = .own e2 t.sz (l.map t.enc) := fun b hb l=>by rw [hb]; rfl
 have hget:∀ i:Nat,i < L.length → L[i]? = some (el2D L i) := fun i hi=>by unfold el2D; rw [List.getD_eq_getElem?_getD,List.getElem?_eq_getElem hi]; rfl
 have hpl:p < L.length := by omega
 have hql:q < L.length := by omega
 refine AW_lateF (R := swR ops.toList) (swLoc ops.toList) [i1,s1] [i2,s2] (swTab ops.toList) (hideT (swLoc ops.toList) (swTab ops.toList)) (swFi ops.toList) (fun v0=>F.map (fdFl v0)) hops hm (by rw [← hops]; exact hanc) (by rw [← hops]; exact hhide) (fun k h1 h2 j hj hf=>?_) (fun k h1 h2 j hj=>?_)
  (by rw [find_toSt,hn]; rfl) (sts := fun k=>(sts k).toSt) (bs := bs) (by rw [q1]) ?_ ?_
 ·rw [← hops] at h2
  rcases hord k h2 with e | e
  ·omega
  ·rcases e j hj with e | e
   ·exact e
   ·exact absurd e.2 hf
 ·rw [← hops] at h2
  rw [List.length_append,hll] at h1
  simp only [List.length_cons,List.length_nil] at h1
  rcases hord k h2 with e | e
  ·omega
  ·rcases e j hj with e | e
   ·exact e
   ·omega
 ·intro D gc v0 w0 tmps w hI
  have hv:∀ r y kk a,r ∈ swR ops.toList ++ Z → st.find r = some (.t y) → asI y = some (kk,a) → v0 r = .int kk a := fun r y kk a hr h1 h2=>by
   obtain ⟨c,hf,_⟩ := hI.frm
   have := hf.rep r
   rw [stG_toSt,h1,hI.fix r hr] at this
   simp only [DA.toA] at this
   rw [(asI_spec h2).1] at this
   exact TRep.of_v this
  obtain ⟨_,_,hrun⟩ := flE_run (X := X) (R := swR ops.toList ++ Z) (v0 := v0) hF hsrc hv
  have hfd:flD (F.map (fdFl v0)) = F.map fun f=>f.2.1 := by unfold flD; rw [List.map_map]; rfl
  refine ⟨⟨fun f hf=>?_,fun f hf f' hf' e=>?_,fun f hf f' hf' e=>?_⟩,fun f hf=>?_,fun j=>?_,fun f hf=>?_,fun f hf=>?_,?_⟩
  ·obtain ⟨f0,g1,rfl⟩ := List.mem_map.1 hf
   rcases hrun f0 g1 with e | ⟨_,e,e'⟩
   ·cases e
   ·obtain ⟨g2,g3,g4⟩ := hFl f0 g1
    exact ⟨by rw [← hops]; exact e,g3,notmem g4,by rw [← hops]; exact e'⟩
  ·obtain ⟨f0,g1,rfl⟩ := List.mem_map.1 hf
   obtain ⟨f1,g2,rfl⟩ := List.mem_map.1 hf'
   rw [map_mem_inj hFn g1 g2 e]
  ·obtain ⟨f0,g1,rfl⟩ := List.mem_map.1 hf
   obtain ⟨f1,g2,rfl⟩ := List.mem_map.1 hf'
   rw [map_mem_inj (f := fun f:FD=>f.1) (by show (F.map (·.1)).Nodup; rw [hFst]; exact hfin) g1 g2 e]
  ·obtain ⟨f0,g1,rfl⟩ := List.mem_map.1 hf
   rw [hll]; exact hfilt _ (hfi f0 g1)
  ·constructor
   ·rintro ⟨f,hf,rfl⟩
    obtain ⟨f0,g1,rfl⟩ := List.mem_map.1 hf
    exact hfi f0 g1
   ·intro hj
    rw [← hFst] at hj
    obtain ⟨f0,g1,rfl⟩ := List.mem_map.1 hj
    exact ⟨_,List.mem_map.2 ⟨f0,g1,rfl⟩,rfl⟩
  ·obtain ⟨f0,g1,rfl⟩ := List.mem_map.1 hf
   have hlt := hfilt _ (hfi f0 g1)
   have hke:(swLoc ops.toList)[f0.1]? = some ((swLoc ops.toList)[f0.1]'(by rw [hll]; exact hlt)) := List.getElem?_eq_getElem _
   obtain ⟨d,_,_,_,g5,_⟩ := q4 f0.1 _ hke
   rcases g5 with ⟨_,g5⟩ | ⟨g5,_⟩
   ·exact g5
   ·rw [List.getElem?_map,List.getElem?_range hlt] at g5
    simp only [Option.map_some,Option.some.injEq] at g5
    have:(swFi ops.toList).contains f0.1 = true := by simpa using hfi f0 g1
    rw [this] at g5; cases g5
  ·obtain ⟨f0,g1,rfl⟩ := List.mem_map.1 hf
   have g2 := (hFl f0 g1).1
   show stG n st.toSt f0.2.1 = _
   have hlt := (hFl f0 g1).2.1
   have:¬ f0.2.1 = n := by omega
   unfold freshD at g2
   rw [stG_toSt]
   cases hf:st.find f0.2.1 with
   | none=>simp only [if_neg this]
   | some a =>
    rw [hf] at g2
    split at g2
    ·rename_i e; cases e
    ·rename_i e; cases e; rfl
    ·cases g2
  ·have hch := swap_chain (X := X) (n := n) (Z := Z) (R := swR ops.toList) (D := D) (gc := gc) (v0 := v0) (w0 := w0) (all := swLoc ops.toList ++ [i1,s1] ++ [i2,s2]) (s0 := (sts (swM ops.toList)).toSt) (sF := ((swS (sts (swM ops.toList)) r3 v1 v2 d1' d2').put r3 (.t (.own2 e e2 t ((L.set p (el2D L q)).set q (el2D L p))))).toSt)
    (r := r3) (v1 := v1) (v2 := v2) (d1 := d1') (d2 := d2') (dx := dx') (dy := dy') (a1 := a1) (c1 := c1) (p := p) (q := q) (e := e) (e2 := e2) (sz2 := t.sz) (es := L.map (el2 e2 t)) (ep := (el2D L p).2.map t.enc) (eq := (el2D L q).2.map t.enc) (F := F.map (fdFl v0)) (k2 := k2) (p' := p') (q' := q') (kx := kx) (ky := ky)
    (own2_root fr) (el2_cells e2 t L) (by rw [List.getElem?_map,hget p hpl]; simp only [Option.map_some]; rw [← htrue _ ht1]) (by rw [List.getElem?_map,hget q hql]; simp only [Option.map_some]; rw [← htrue _ ht2]) hpq
    (by rw [stG_toSt,fv1,List.length_map,← hk1]; rfl) (by rw [stG_toSt,fv2,List.length_map,← hk2]; rfl) i1o i1d i1g s1o s1d s1g i2o i2d i2g s2o s2d s2g hsli hrow
    (by rw [stG_toSt,fa1,List.length_map,← hk]; rfl) (by rw [stG_toSt,fc1]; simp only [DA.toA]; rw [(asI_spec hasI).1]) hp hp0 (by rw [List.length_map]; exact hp1) hq hq0 (by rw [List.length_map]; exact hq1)
    (List.mem_map.2 ⟨_,hx1,rfl⟩) (memN_spec.1 hrR) (List.mem_map.2 ⟨_,hy1,rfl⟩) hnd ⟨(dstD_spec hds1).1.1,by rw [hfd]; exact notmem hd1F⟩ ⟨(dstD_spec hds2).1.1,(dstD_spec hds2).1.2.1⟩ (dstD_spec hds1).1.2.2 (dstD_spec hds2).1.2.2
    (fun d hd=>by
     rw [hfd] at hd
     obtain ⟨f0,g1,rfl⟩ := List.mem_map.1 hd
     exact isU_spec (hU f0 g1)) (by
     rw [put_toSt,stG_put]
     unfold swS
     rw [knD_toSt,knD_toSt,knD_toSt,knD_toSt,knD_toSt]
     have e3:(DA.t (.own2 e e2 t ((L.set p (el2D L q)).set q (el2D L p)))).toA = A.t (.own e 1 (((L.set p (el2D L q)).set q (el2D L p)).map (el2 e2 t))) := rfl
     rw [e3,List.map_set,List.map_set,show el2 e2 t (el2D L q) = .own e2 t.sz ((el2D L q).2.map t.enc) from htrue _ ht2 _,show el2 e2 t (el2D L p) = .own e2 t.sz ((el2D L p).2.map t.enc) from htrue _ ht1 _])
   rw [hll]
   refine MidF_mono (fun s hs=>?_) _ _ hch
   obtain ⟨s2',g1,g2⟩ := hs
   exact ⟨s2',g1,RegP_mono _ _ (fun s hs=>by rw [hs]; exact hQ _ wF q3) g2⟩
 ·intro k o hk
  obtain ⟨d,g1,g2,g3,g4,g5⟩ := q4 k o hk
  refine ⟨d,g1,g2,g3,?_,g5⟩
  have hlt:k < swM ops.toList := by rw [← hll]; exact (List.getElem?_eq_some_iff.1 hk).1
  rcases g4 with ⟨g4,_⟩ | ⟨_,g4⟩
  ·rw [List.getElem?_map,List.getElem?_range hlt] at g4
   simp only [Option.map_some,Option.some.injEq] at g4
   exact .inl (by simpa using g4)
  ·exact .inr (by rw [← hops]; exact g4)
def isSw (ops:List Oper):Bool := match ops.drop (swM ops) with
 | [i1,s1,i2,s2]=>match i1.op,s1.op,i2.op,s2.op with
  | .indexAddr _ _ _,.store _ _ _,.indexAddr _ _ _,.store _ _ _ => !(swFi ops).isEmpty
  | _,_,_,_=>false
 | _=>false
variable [Pan ρ]
def regionM (Y:DX) (n:Nat) (Z:List Nat) (E:Env) (ops:Array Oper) (op:Bool) (st:DSt) (K:DSt → Option ρ):Option ρ := match op && isSw ops.toList with
 | true=>swapD Y n Z E ops.toList st K
 | false=>regionL Y n Z E ops op st K
theorem regionM_sound (hY:DXOk Y X) (hE:EnvOk X E) (hm:X.P.follows .mixedOrders = true) (hw:WF st) {id:Nat} {ops:Array Oper} {op:Bool} {K:DSt → Option ρ} (h:regionM Y n Z E ops op st K = some r)
  (hP:∀ pv (st':DSt),(Pan.pan pv:Option ρ) = some r → Q (.panic [{ v := pv,recovered := false }]) st'.toSt) (hQ:∀ st',WF st' → K st' = some r → Q .normal st'.toSt):AW X n Z (.region id ops op) st.toSt Q := by
 unfold regionM at h
 split at h
 ·rename_i hb
  simp only [Bool.and_eq_true] at hb
  rw [hb.1]
  exact swap_sound hY hE hm hw h hQ
 ·exact regionL_sound hY hE hm hw h hP hQ
end Go.Eng

/- Code, results, loops, in typed trees. -/
namespace Go.Eng
open Go.RowKit (Below)
set_option linter.unusedVariables false
set_option linter.unusedSimpArgs false
section
variable {L R:Type}
def iterN (step:L → Option (L ⊕ R)):Nat → L → Option R
 | 0,_=>none
 | k + 1,l=>match step l with
  | some (.inl l')=>iterN step k l'
  | some (.inr r)=>some r
  | none=>none
theorem iterN_mono {step:L → Option (L ⊕ R)}:∀ {k:Nat} {l:L} {r:R},iterN step k l = some r → ∀ {j:Nat},k ≤ j → iterN step j l = some r
 | 0,_,_,h,_,_=>by cases h
 | k + 1,l,r,h,j,hj=>by
  obtain ⟨j,rfl⟩:∃ m,j = m + 1 := ⟨j - 1,by omega⟩
  simp only [iterN] at h ⊢
  split at h
  ·exact iterN_mono h (by omega)
  ·exact h
  ·cases h
open Classical in
noncomputable def iter (step:L → Option (L ⊕ R)) (l:L):Option R := if h:∃ k r,iterN step k l = some r then some (Classical.choose (Classical.choose_spec h)) else none
theorem iter_of {step:L → Option (L ⊕ R)} {k:Nat} {l:L} {r:R} (h:iterN step k l = some r):iter step l = some r := by
 have hx:∃ k r,iterN step k l = some r := ⟨k,r,h⟩
 unfold iter
 rw [dif_pos hx]
 have h2 := Classical.choose_spec (Classical.choose_spec hx)
 have h3 := iterN_mono h2 (Nat.le_max_left _ k)
 have h4 := iterN_mono h (Nat.le_max_right (Classical.choose hx) k)
 rw [h3] at h4; exact h4
theorem iter_some {step:L → Option (L ⊕ R)} {l:L} {r:R} (h:iter step l = some r):∃ k,iterN step k l = some r := by
 unfold iter at h
 split at h
 ·rename_i hx
  cases h
  exact ⟨_,Classical.choose_spec (Classical.choose_spec hx)⟩
 ·cases h
def again (step:L → Option (L ⊕ R)) (k:L → Option R) (l:L):Option R := match step l with
 | some (.inl l')=>k l'
 | some (.inr r)=>some r
 | none=>none
theorem iter_eq (step:L → Option (L ⊕ R)) (l:L):iter step l = again step (iter step) l := by
 unfold again
 cases h:step l with
 | none =>
  simp only
  cases hi:iter step l with
  | none=>rfl
  | some r =>
   obtain ⟨k,hk⟩ := iter_some hi
   cases k with
   | zero=>cases hk
   | succ k=>simp only [iterN,h] at hk; cases hk
 | some x =>
  cases x with
  | inr r=>exact iter_of (k := 1) (by simp only [iterN,h])
  | inl l' =>
   simp only
   cases hi:iter step l' with
   | some r =>
    obtain ⟨k,hk⟩ := iter_some hi
    exact iter_of (k := k + 1) (by simp only [iterN,h]; exact hk)
   | none =>
    cases hi2:iter step l with
    | none=>rfl
    | some r =>
     obtain ⟨k,hk⟩ := iter_some hi2
     cases k with
     | zero=>cases hk
     | succ k =>
      simp only [iterN,h] at hk
      rw [iter_of hk] at hi; cases hi
noncomputable def runL (step:L → Option (L ⊕ R)) (e:Option (L ⊕ R)):Option R := match e with
 | some (.inl l)=>iter step l
 | some (.inr r)=>some r
 | none=>none
theorem runL_some {step:L → Option (L ⊕ R)} {e:Option (L ⊕ R)} {r:R} (h:runL step e = some r):∃ x,e = some x ∧ ((∃ l,x = .inl l ∧ iter step l = some r) ∨ x = .inr r) := by
 unfold runL at h
 split at h
 ·exact ⟨_,rfl,.inl ⟨_,rfl,h⟩⟩
 ·cases h; exact ⟨_,rfl,.inr rfl⟩
 ·cases h
theorem iter_eq' (step:L → Option (L ⊕ R)) (l:L):iter step l = runL step (step l) := by
 rw [iter_eq]; unfold again runL
 cases step l with
 | none=>rfl
 | some x=>cases x <;> rfl
end
def Code.wpL (P:Program) (c:Code) (Q:Exit → Act → World → Prop) (a:Act) (w:World):Prop :=
 ∀ (b:Frame) (k:List Item) (cs:List Frame),∃ e a' w',Q e a' w' ∧ Arrives P (lone (b.at a (.code c :: .inLoop c :: k)) cs w) b k cs e a' w'
theorem wpL_of {P:Program} {c:Code} {Q:Exit → Act → World → Prop} {a:Act} {w:World} (h:c.wp P (Exit.then (Code.wpL P c Q) Q) a w):Code.wpL P c Q a w := by
 intro b k cs
 obtain ⟨e,a₁,w₁,hq,harr⟩ := h b (.inLoop c :: k) cs
 cases e with
 | normal =>
  obtain ⟨e₂,a₂,w₂,hq₂,harr₂⟩ := hq b k cs
  exact ⟨e₂,a₂,w₂,hq₂,.of_steps (Steps.trans harr (.one step_inLoop)) harr₂⟩
 | exit id=>exact ⟨_,a₁,w₁,hq,.pass (x := .inLoop c) rfl (fun _ _=>.inl (by simp)) harr⟩
 | goto l=>exact ⟨_,a₁,w₁,hq,.pass (x := .inLoop c) rfl (fun _ _=>.inl (by simp)) harr⟩
 | ret=>exact ⟨_,a₁,w₁,hq,.pass (x := .inLoop c) rfl (fun _ _=>.inl (by simp)) harr⟩
 | panic ch=>exact ⟨_,a₁,w₁,hq,.pass (x := .inLoop c) rfl (fun _ _=>.inl (by simp)) harr⟩
 | outgrown=>exact ⟨_,a₁,w₁,hq,.pass (x := .inLoop c) rfl (fun _ _=>.inl (by simp)) harr⟩
theorem wp_loop_of {P:Program} {c:Code} {Q:Exit → Act → World → Prop} {a:Act} {w:World} (h:Code.wpL P c Q a w):(Code.loop c).wp P Q a w := by
 intro b k cs
 obtain ⟨e,a',w',hq,harr⟩ := h b k cs
 exact ⟨e,a',w',hq,.of_steps (.one step_loop) harr⟩
section
variable {X:Ctx} {n:Nat} {Z:List Nat} {Q:Exit → St → Prop} {st:St}
def AWL (X:Ctx) (n:Nat) (Z:List Nat) (c:Code) (st:St) (Q:Exit → St → Prop):Prop :=
 ∀ (D:Nat → Prop) (gc:Cnt) (v0:Nat → Value) (w0:World) (tmps:Array Value) (w:World),Inv X n Z D gc v0 w0 (stG n st) tmps w →
  Code.wpL X.P c (fun ex a' w'=>a'.defers = [] ∧ ∃ st',Q ex st' ∧ Inv X n Z D gc v0 w0 (stG n st') a'.tmps w') ⟨tmps,[]⟩ w
def loopQ (X:Ctx) (n:Nat) (Z:List Nat) (c:Code) (Q:Exit → St → Prop):Exit → St → Prop
 | .normal,s=>AWL X n Z c s Q
 | e,s=>Q e s
theorem AWL_of {c:Code} (h:AW X n Z c st (loopQ X n Z c Q)):AWL X n Z c st Q := by
 intro D gc v0 w0 tmps w hI
 refine wpL_of (wp_mono (h D gc v0 w0 tmps w hI) ?_)
 rintro ex ⟨tm,df⟩ w' ⟨h1,s,h2,h3⟩
 simp only at h1; subst h1
 cases ex with
 | normal=>exact h2 D gc v0 w0 tm w' h3
 | _=>exact ⟨rfl,s,h2,h3⟩
theorem AW_loopL {c:Code} (h:AWL X n Z c st Q):AW X n Z (.loop c) st Q := fun D gc v0 w0 tmps w hI=>wp_loop_of (h D gc v0 w0 tmps w hI)
def Code.wpS (P:Program) (c r:Code) (Q:Exit → Act → World → Prop) (a:Act) (w:World):Prop :=
 ∀ (b:Frame) (k:List Item) (cs:List Frame),∃ e a' w',Q e a' w' ∧ Arrives P (lone (b.at a (.code r :: .inScope c :: k)) cs w) b k cs e a' w'
def scopeE (P:Program) (c:Code) (Q:Exit → Act → World → Prop):Exit → Act → World → Prop
 | .goto l,a,w=>match findLabel c l with
  | some r=>Code.wpS P c r Q a w
  | none=>Q (.goto l) a w
 | e,a,w=>Q e a w
theorem wpS_of {P:Program} {c r:Code} {Q:Exit → Act → World → Prop} {a:Act} {w:World} (h:r.wp P (scopeE P c Q) a w):Code.wpS P c r Q a w := by
 intro b k cs
 obtain ⟨e,a₁,w₁,hq,harr⟩ := h b (.inScope c :: k) cs
 cases e with
 | normal=>exact ⟨.normal,a₁,w₁,hq,Steps.trans harr (.one step_inScope)⟩
 | exit id=>exact ⟨.exit id,a₁,w₁,hq,fun k' hk=>harr k' (by simp [exitTo,hk])⟩
 | goto l =>
  simp only [scopeE] at hq
  cases hf:findLabel c l with
  | some r2 =>
   rw [hf] at hq
   obtain ⟨e₂,a₂,w₂,hq₂,harr₂⟩ := hq b k cs
   exact ⟨e₂,a₂,w₂,hq₂,.of_steps (harr _ (by simp [gotoIn,hf])) harr₂⟩
  | none =>
   rw [hf] at hq
   exact ⟨.goto l,a₁,w₁,hq,fun k' hk=>harr k' (by simp [gotoIn,hf,hk])⟩
 | ret=>exact ⟨_,a₁,w₁,hq,harr⟩
 | panic ch=>exact ⟨_,a₁,w₁,hq,harr⟩
 | outgrown=>exact ⟨_,a₁,w₁,hq,harr⟩
theorem wp_scope_of {P:Program} {c:Code} {Q:Exit → Act → World → Prop} {a:Act} {w:World} (h:Code.wpS P c c Q a w):(Code.scope c).wp P Q a w := by
 intro b k cs
 obtain ⟨e,a',w',hq,harr⟩ := h b k cs
 exact ⟨e,a',w',hq,.of_steps (.one step_scope) harr⟩
def AWS (X:Ctx) (n:Nat) (Z:List Nat) (c r:Code) (st:St) (Q:Exit → St → Prop):Prop :=
 ∀ (D:Nat → Prop) (gc:Cnt) (v0:Nat → Value) (w0:World) (tmps:Array Value) (w:World),Inv X n Z D gc v0 w0 (stG n st) tmps w →
  Code.wpS X.P c r (fun ex a' w'=>a'.defers = [] ∧ ∃ st',Q ex st' ∧ Inv X n Z D gc v0 w0 (stG n st') a'.tmps w') ⟨tmps,[]⟩ w
def scopeQ (X:Ctx) (n:Nat) (Z:List Nat) (c:Code) (Q:Exit → St → Prop):Exit → St → Prop
 | .goto l,s=>match findLabel c l with
  | some r=>AWS X n Z c r s Q
  | none=>Q (.goto l) s
 | e,s=>Q e s
theorem AWS_of {c r:Code} (h:AW X n Z r st (scopeQ X n Z c Q)):AWS X n Z c r st Q := by
 intro D gc v0 w0 tmps w hI
 refine wpS_of (wp_mono (h D gc v0 w0 tmps w hI) ?_)
 rintro ex ⟨tm,df⟩ w' ⟨h1,s,h2,h3⟩
 simp only at h1; subst h1
 cases ex with
 | goto l =>
  simp only [scopeQ] at h2
  simp only [scopeE]
  cases hf:findLabel c l with
  | some r2=>rw [hf] at h2; exact h2 D gc v0 w0 tm w' h3
  | none=>rw [hf] at h2; exact ⟨trivial,s,h2,h3⟩
 | _=>exact ⟨rfl,s,h2,h3⟩
theorem AW_scopeS {c:Code} (h:AWS X n Z c c st Q):AW X n Z (.scope c) st Q := fun D gc v0 w0 tmps w hI=>wp_scope_of (h D gc v0 w0 tmps w hI)
theorem AW_label {l:Nat} (h:Q .normal st):AW X n Z (.label l) st Q := fun D gc v0 w0 tmps w hI=>wp_label ⟨rfl,st,h,hI⟩
theorem AW_goto {l:Nat} (h:Q (.goto l) st):AW X n Z (.goto l) st Q := fun D gc v0 w0 tmps w hI=>wp_goto ⟨rfl,st,h,hI⟩
theorem AW.from {c:Code} {t:St} (hg:GhostTo X n Z st t) (h:AW X n Z c t Q):AW X n Z c st Q := fun D gc v0 w0 tmps w hI=>h D gc v0 w0 tmps w (hg D gc v0 w0 tmps w hI)
theorem AW.to {c:Code} (h:AW X n Z c st (fun ex s => ∃ s',GhostTo X n Z s s' ∧ Q ex s')):AW X n Z c st Q := fun D gc v0 w0 tmps w hI =>
 wp_mono (h D gc v0 w0 tmps w hI) (fun ex a w ⟨h1,s,⟨s',h2,h3⟩,h4⟩=>⟨h1,s',h3,h2 D gc v0 w0 _ w h4⟩)
end
def keepD (n:Nat) (sl:List Nat) (st:DSt):List Nat → Option DSt
 | []=>some []
 | k :: ks=>match st.find k with
  | some a=>match Nat.blt k n && !a.isOpt && (match a with
   | .ref r _ _ _ _=>memN sl r
   | .eptr r _ _ _=>memN sl r
   | .pref r _ _=>memN sl r
   | _=>true) with
   | true=>match keepD n sl st ks with
    | some st'=>some ((k,a) :: st')
    | none=>none
   | false=>none
  | none=>none
def wv:DA → DA
 | .ref r p off len v=>.ref r p off len (match v with
  | .all=>.all
  | _=>.mid)
 | a=>a
def pruneD (n:Nat) (sl:List Nat) (st:DSt):Option DSt := match st.find n with
 | none=>match keepD n sl st sl with
  | some st'=>some (st'.mapA wv)
  | none=>none
 | some _=>none
def retDS (n:Nat) (Z:List Nat):List Nat → List Bool → DSt → Option DSt
 | [],_,st=>some st
 | r :: rs,fz,st=>match st.find r,fz.headD false with
  | some (.t (.own _ _ _)),true=>match shareDS st r with
   | some st'=>retDS n Z rs fz.tail st'
   | none=>none
  | some (.t (.tup _)),_=>none
  | some (.t _),_=>retDS n Z rs fz.tail st
  | some (.ref s none _ _ _),true=>match shareDS st s with
   | some st'=>retDS n Z rs fz.tail st'
   | none=>none
  | some (.ref s none _ _ .all),false=>match st.find s with
   | some (.t (.own e t l))=>match dstD n Z st r && !Nat.beq r s with
    | true=>retDS n Z rs fz.tail (moveDS st s r (.own e t l))
    | false=>none
   | _=>none
  | _,_=>none
def cellD (Y:DX) (t:TypeId):DT → Option DT
 | .box _ cs=>match tyT Y t with
  | some w=>match w.row && w.fine && flatsD (cs.take w.sz) with
   | true=>match gatherD w cs with
    | some x=>some (.s w x)
    | none=>none
   | false=>none
  | none=>none
 | _=>none
def resultsD (Y:DX) (cl:List (Nat × TypeId)) (st:DSt):List Nat → Option (List DT)
 | []=>some []
 | r :: rs=>match lookC cl r with
  | some t=>match st.find r,resultsD Y cl st rs with
   | some (.t y),some xs=>match cellD Y t y with
    | some x=>some (x :: xs)
    | none=>none
   | _,_=>none
  | none=>match st.find r,resultsD Y cl st rs with
   | some (.t (.tup _)),_=>none
   | some (.t x),some xs=>some (x :: xs)
   | _,_=>none
def keysOk (n:Nat):DSt → Bool
 | []=>true
 | (k,_) :: r=>Nat.blt k n && keysOk n r
inductive Fr where
 | seq (b:Code)
 | block (id:Nat)
 | loop (c:Code)
 | scope (c:Code)
inductive Tk where
 | code (c:Code) (fs:List Fr)
 | norm (fs:List Fr)
 | exit (id:Nat) (fs:List Fr)
 | goto (l:Nat) (fs:List Fr)
structure FnD where
 n:Nat
 rs:List Nat
 fz:List Bool := []
 labels:List (Nat × List Nat) := []
 shares:List (Nat × List Nat) := []
 cl:List (Nat × TypeId) := []
 Z:List Nat := []
section
variable {ρ:Type} [Pan ρ]
def retD (Y:DX) (F:FnD) (ret:List DT → Option ρ) (st:DSt):Option ρ := match noOpt (cleanD st) && keysOk F.n (cleanD st) with
 | true=>match retDS F.n F.Z F.rs F.fz (cleanD st) with
  | some st'=>match resultsD Y F.cl st' (F.rs ++ F.Z) with
   | some xs=>ret xs
   | none=>none
  | none=>none
 | false=>none
def regionF (Y:DX) (E:Env) (F:FnD) (id:Nat) (ops:Array Oper) (op:Bool) (st:DSt) (K:DSt → Option ρ):Option ρ := match look F.shares id with
 | none=>regionM Y F.n F.Z E ops op st K
 | some sl=>match sharesD sl (cleanD st) with
  | some st'=>regionM Y F.n F.Z E ops op st' K
  | none=>none
def runD (Y:DX) (E:Env) (F:FnD) (goto:Nat → DSt → Option ρ) (ret:List DT → Option ρ):Nat → Tk → DSt → Option ρ
 | 0,_,_=>none
 | fuel + 1,.code c fs,st=>match c with
  | .skip=>runD Y E F goto ret fuel (.norm fs) st
  | .exit id=>runD Y E F goto ret fuel (.exit id fs) st
  | .ret=>retD Y F ret st
  | .region id ops op=>match look F.labels id with
   | some sl=>match pruneD F.n sl st with
    | some st'=>goto id st'
    | none=>none
   | none=>regionF Y E F id ops op st fun st'=>runD Y E F goto ret fuel (.norm fs) st'
  | .seq a b=>runD Y E F goto ret fuel (.code a (.seq b :: fs)) st
  | .block id c=>runD Y E F goto ret fuel (.code c (.block id :: fs)) st
  | .loop c=>runD Y E F goto ret fuel (.code c (.loop c :: fs)) st
  | .scope c=>runD Y E F goto ret fuel (.code c (.scope c :: fs)) st
  | .label _=>runD Y E F goto ret fuel (.norm fs) st
  | .goto l=>runD Y E F goto ret fuel (.goto l fs) st
  | .cond x a b=>match rdD Y none st x with
   | some (.t (.s .bool t))=>if t = true then runD Y E F goto ret fuel (.code a fs) st else runD Y E F goto ret fuel (.code b fs) st
   | _=>none
  | _=>none
 | fuel + 1,.norm fs,st=>match fs with
  | []=>retD Y F ret st
  | .seq b :: fs=>runD Y E F goto ret fuel (.code b fs) st
  | .block _ :: fs=>runD Y E F goto ret fuel (.norm fs) st
  | .loop c :: fs=>runD Y E F goto ret fuel (.code c (.loop c :: fs)) st
  | .scope _ :: fs=>runD Y E F goto ret fuel (.norm fs) st
 | fuel + 1,.exit id fs,st=>match fs with
  | []=>none
  | .block j :: fs=>match Nat.beq id j with
   | true=>runD Y E F goto ret fuel (.norm fs) st
   | false=>runD Y E F goto ret fuel (.exit id fs) st
  | _ :: fs=>runD Y E F goto ret fuel (.exit id fs) st
 | fuel + 1,.goto l fs,st=>match fs with
  | []=>none
  | .scope c :: fs=>match findLabel c l with
   | some r=>runD Y E F goto ret fuel (.code r (.scope c :: fs)) st
   | none=>runD Y E F goto ret fuel (.goto l fs) st
  | _ :: fs=>runD Y E F goto ret fuel (.goto l fs) st
def subsC:Code → List Fr → List (Nat × List Fr × Array Oper × Bool)
 | .region id ops op,fs=>[(id,fs,ops,op)]
 | .seq a b,fs=>subsC a (.seq b :: fs) ++ subsC b fs
 | .block id c,fs=>subsC c (.block id :: fs)
 | .loop c,fs=>subsC c (.loop c :: fs)
 | .scope c,fs=>subsC c (.scope c :: fs)
 | .cond _ a b,fs=>subsC a fs ++ subsC b fs
 | _,_=>[]
def segD (Y:DX) (E:Env) (F:FnD) (body:Code) (fuel:Nat) (id:Nat) (st:DSt) (goto:Nat → DSt → Option ρ) (ret:List DT → Option ρ):Option ρ := match look (subsC body []) id with
 | some (fs,ops,op)=>regionF Y E F id ops op st fun st'=>runD Y E F goto ret fuel (.norm fs) st'
 | none=>none
end
def entryD:Nat → List DT → DSt
 | _,[]=>[]
 | k,x :: xs=>(k,.t x) :: entryD (k + 1) xs
end Go.Eng

/- Sharing, forgetting, results: that it is so. -/
namespace Go.Eng
open Go.RowKit (Below)
set_option linter.unusedVariables false
set_option linter.unusedSimpArgs false
variable {X:Ctx} {Y:DX} {n:Nat} {Z:List Nat} {st:DSt} {E:Env}
theorem keepD_spec {sl:List Nat}:∀ {ks:List Nat} {st':DSt},keepD n sl st ks = some st' →
  (∀ i,st'.find i = if i ∈ ks then st.find i else none) ∧ (∀ k ∈ ks,k < n ∧ ∃ a,st.find k = some a ∧ a.isOpt = false ∧ ∀ r,a.toA.at = some r → r ∈ sl)
 | [],st',h=>by cases h; exact ⟨fun i=>by simp [DSt.find],fun k hk=>by cases hk⟩
 | k :: ks,st',h=>by
  simp only [keepD] at h
  split at h
  ·rename_i a ha
   split at h
   ·rename_i hb
    split at h
    ·rename_i s1 hs
     cases h
     obtain ⟨h1,h2⟩ := keepD_spec hs
     simp only [Bool.and_eq_true,Nat.blt_eq,Bool.not_eq_true'] at hb
     refine ⟨fun i=>?_,fun k' hk'=>?_⟩
     ·simp only [DSt.find,h1,List.mem_cons]
      by_cases hi:i = k
      ·subst hi; simp [ha]
      ·rw [beq_ne hi]; simp [hi]
     ·rcases List.mem_cons.1 hk' with e | hk'
      ·subst e
       refine ⟨hb.1.1,a,ha,hb.1.2,fun r hr=>?_⟩
       have hb2 := hb.2
       cases a with
       | ref r' q off len v=>simp only [DA.toA,A.at,Option.some.injEq] at hr; subst hr; exact memN_spec.1 hb2
       | eptr r' q i j=>simp only [DA.toA,A.at,Option.some.injEq] at hr; subst hr; exact memN_spec.1 hb2
       | pref r' q off=>simp only [DA.toA,A.at,Option.some.injEq] at hr; subst hr; exact memN_spec.1 hb2
       | opt=>cases hb.1.2
       | _=>cases hr
      ·exact h2 k' hk'
    ·cases h
   ·cases h
  ·cases h
theorem pruneK_sound (hw:WF st) {sl:List Nat} {st':DSt} (hn:st.find n = none) (h:keepD n sl st sl = some st'):GhostTo X n Z st.toSt st'.toSt ∧ WF st' ∧ ∀ k a,st'.find k = some a → a.isOpt = false := by
 obtain ⟨h1,h2⟩ := keepD_spec h
 refine ⟨fun D gc v0 w0 tmps w hI=>hI.less ?_,?_,fun k x hx=>?_⟩
 ·intro i
  rw [stG_toSt,stG_toSt,h1]
  by_cases hi:i ∈ sl
  ·obtain ⟨_,a,ha,_,hat⟩ := h2 i hi
   left
   rw [if_pos hi]
   refine ⟨rfl,fun r hr=>?_⟩
   rw [ha] at hr
   have hrs := hat r hr
   rw [stG_toSt,stG_toSt,h1,if_pos hrs]
  ·rw [if_neg hi]
   by_cases hin:i = n
   ·subst hin
    left
    rw [hn]
    exact ⟨rfl,fun r hr=>by simp only [if_true] at hr; cases hr⟩
   ·right
    simp only [if_neg hin,true_and]
    cases st.find i with
    | none=>simp only; intro h; cases h
    | some a=>exact toA_ne_ghost a
 ·intro k x hx
  rw [h1] at hx
  split at hx
  ·rename_i hk
   obtain ⟨_,a,ha,hopt,hat⟩ := h2 k hk
   rw [ha] at hx
   simp only [Option.some.injEq] at hx
   subst hx
   have hwf := hw k a ha
   refine slotWF_of hopt ?_
   cases a with
   | ref r' q off len v =>
    rcases (show viewOk st (.ref r' q off len v) from hwf) with h3 | ⟨e2,t2,l2,q1,q2⟩
    ·exact .inl h3
    ·refine .inr ⟨e2,t2,l2,?_,q2⟩
     have hm := hat r' rfl
     cases q <;> simp only [rootD,h1,if_pos hm] at q1 ⊢ <;> exact q1
   | opt=>cases hopt
   | _=>trivial
  ·cases hx
 ·rw [h1] at hx
  split at hx
  ·rename_i hk
   obtain ⟨_,a,ha,hopt,hat⟩ := h2 k hk
   rw [ha] at hx; cases hx; exact hopt
  ·cases hx
theorem wv_toA (a:DA):(wv a).toA = a.toA := by cases a <;> rfl
theorem wv_toSt:∀ st:DSt,(st.mapA wv).toSt = st.toSt
 | []=>rfl
 | (k,a) :: r=>by
  show (k,(wv a).toA) :: DSt.toSt (DSt.mapA wv r) = (k,a.toA) :: DSt.toSt r
  rw [wv_toA,show DSt.toSt (DSt.mapA wv r) = DSt.toSt r from wv_toSt r]
theorem wv_wf (hw:WF st) (hno:∀ k a,st.find k = some a → a.isOpt = false):WF (st.mapA wv) := by
 intro k x hx
 rw [find_dmap] at hx
 cases hq:st.find k with
 | none=>rw [hq] at hx; cases hx
 | some a =>
  rw [hq] at hx
  simp only [Option.map_some,Option.some.injEq] at hx
  subst hx
  have hwf := hw k a hq
  have ho := hno k a hq
  cases a with
  | opt=>cases ho
  | ref r' q off len v =>
   refine slotWF_of rfl ?_
   rcases (show viewOk st (.ref r' q off len v) from hwf) with h3 | ⟨e2,t2,l2,q1,q2⟩
   ·subst h3; exact .inl rfl
   ·cases v with
    | all =>
     refine .inr ⟨e2,t2,l2,?_,q2⟩
     cases q with
     | none =>
      simp only [rootD,find_dmap] at q1 ⊢
      split at q1
      ·rename_i y hy; rw [hy]; exact q1
      ·cases q1
     | some j =>
      simp only [rootD,find_dmap] at q1 ⊢
      split at q1
      ·rename_i e3 cs hy; rw [hy]; exact q1
      ·cases q1
    | _=>exact .inl rfl
  | _=>trivial
theorem pruneD_sound (hw:WF st) {sl:List Nat} {st':DSt} (h:pruneD n sl st = some st'):GhostTo X n Z st.toSt st'.toSt ∧ WF st' := by
 unfold pruneD at h
 split at h
 ·rename_i hn
  split at h
  ·rename_i stk hkeep
   cases h
   obtain ⟨p1,p2,p3⟩ := pruneK_sound (X := X) (n := n) (Z := Z) hw hn hkeep
   exact ⟨by rw [wv_toSt]; exact p1,wv_wf p2 p3⟩
  ·cases h
 ·cases h
theorem retDS_sound:∀ {rs:List Nat} {fz:List Bool} {st st':DSt},WF st → noOpt st = true → retDS n Z rs fz st = some st' → GhostTo X n Z st.toSt st'.toSt
 | [],fz,st,st',hw,hno,h=>by cases h; exact GhostTo.refl
 | r :: rs,fz,st,st',hw,hno,h=>by
  simp only [retDS] at h
  split at h
  ·split at h
   ·rename_i s1 hs
    obtain ⟨h1,h2,h3⟩ := shareDS_sound (X := X) (n := n) (Z := Z) hw hno hs
    exact h1.trans (retDS_sound h2 h3 h)
   ·cases h
  ·cases h
  ·exact retDS_sound hw hno h
  ·split at h
   ·rename_i s1 hs
    obtain ⟨h1,h2,h3⟩ := shareDS_sound (X := X) (n := n) (Z := Z) hw hno hs
    exact h1.trans (retDS_sound h2 h3 h)
   ·cases h
  ·rename_i s off len hr hfz
   split at h
   ·rename_i e t l hs
    split at h
    ·rename_i hb0
     have hb := hb0
     simp only [Bool.and_eq_true,Bool.not_eq_true'] at hb
     obtain ⟨k1,k2,k3⟩ := dstD_spec hb.1
     have hds:r ≠ s := by rintro rfl; rw [Nat.beq_refl] at hb; cases hb.2
     have hview := viewOk_vw (show viewOk st (.ref s none off len .all) from hw r _ hr) (e := e) (t := t) (l := l) (by simp only [rootD,hs])
     obtain ⟨rfl,rfl⟩ := hview
     have hfind:∀ k,(moveDS st s r (.own e t l)).find k = if k = r then some (.t (.own e t l)) else if k = s then some (aliasD r (.own e t l)) else (st.find k).map (redirD s r) := fun k=>by
      unfold moveDS; rw [find_dput,find_dput,find_dmap]
     have hno':noOpt (moveDS st s r (.own e t l)) = true := by
      unfold moveDS
      refine noOpt_put rfl r (noOpt_put rfl s (noOpt_map (fun a ha=>?_) hno))
      cases a <;> first | rfl | cases ha
     refine GhostTo.trans ?_ (retDS_sound (st := moveDS st s r (.own e t l)) ?_ hno' h)
     ·intro D gc v0 w0 tmps w hI
      have := hI.swap (d := r) (s := s) (e := e) (sz := t.sz) (es := l.map t.enc) k1.1 (by rw [stG_toSt,hs]; rfl) (by rw [stG_toSt,hr]; simp only [DA.toA,List.length_map])
      rw [moveDS_toSt,stG_moveSt]
      exact this
     ·obtain ⟨st2,_,hw2,hk⟩ := moveD_sound (X := X) (n := n) (Z := Z) (K := fun s'=>some s') hw (o := { dst := some r,op := .assign (.tmp s),type := 0,pos := default,after := #[],guard := none }) (s := s) (x := .own e t l) (.inl rfl) hs (by
       show tst (dstD n Z st r && !Nat.beq r s) (some (moveDS st s r (.own e t l))) = some (moveDS st s r (.own e t l))
       rw [hb0]; rfl)
      cases hk; exact hw2
    ·cases h
   ·cases h
  ·cases h
theorem toT_ne_tup {x:DT} (h:∀ cs,x ≠ .tup cs) (cs:List T):x.toT ≠ .tup cs := by
 cases x with
 | s t y=>intro e; have := enc_flat t y; simp only [DT.toT] at e; rw [e] at this; cases this
 | tup cs=>exact absurd rfl (h cs)
 | _=>intro e; cases e
theorem flatsD_take:∀ {cs:List DT},flatsD cs = true → (cs.map DT.toT).all T.flat = true
 | [],_=>rfl
 | c :: cs,h=>by
  have h2:flatD c = true ∧ flatsD cs = true := by
   simp only [flatsD] at h
   cases hc:flatD c with
   | true=>rw [hc] at h; exact ⟨rfl,h⟩
   | false=>rw [hc] at h; cases h
  have hc:c.toT.flat = true := by
   cases c with
   | s t y=>exact enc_flat t y
   | u=>rfl
   | _=>cases h2.1
  simp only [List.map_cons,List.all_cons,hc,flatsD_take h2.2,Bool.and_self]
theorem resultsD_spec (hY:DXOk Y X) {cl:List (Nat × TypeId)}:∀ {rs:List Nat} {xs:List DT},resultsD Y cl st rs = some xs → slotsOk X.P cl n st.toSt rs (xs.map DT.toT) ∧ ∀ t ∈ xs.map DT.toT,∀ cs,t ≠ .tup cs
 | [],xs,h=>by cases h; exact ⟨trivial,by simp⟩
 | r :: rs,xs,h=>by
  simp only [resultsD] at h
  split at h
  ·rename_i ty hl
   split at h
   ·rename_i y xs' hx hxs
    split at h
    ·rename_i x hcx
     cases h
     obtain ⟨h1,h2⟩ := resultsD_spec hY hxs
     unfold cellD at hcx
     split at hcx
     ·rename_i e cs
      split at hcx
      ·rename_i w hw
       split at hcx
       ·rename_i hb
        simp only [Bool.and_eq_true] at hb
        obtain ⟨⟨b1,b2⟩,b3⟩ := hb
        split at hcx
        ·rename_i z hz
         cases hcx
         obtain ⟨g1,g2⟩ := gatherD_spec w cs z hz
         have henc:(DT.s w z).toT = .ag (w.cells z) := enc_row w z b1
         refine ⟨⟨?_,h1⟩,fun t ht=>?_⟩
         ·unfold valOk
          simp only [hl]
          refine ⟨e,cs.map DT.toT,w.sz,?_,?_,by rw [List.length_map]; exact g2,?_,?_⟩
          ·rw [stG_toSt,hx]; simp only [DA.toA,DT.toT,all_eq]
          ·have := tyT_row hY hw b2
           rw [b1] at this; exact this
          ·rw [← List.map_take]; exact flatsD_take b3
          ·rw [henc,g1]
         ·rw [List.map_cons,List.mem_cons] at ht
          rcases ht with rfl | ht
          ·rw [henc]; intro cs e; cases e
          ·exact h2 t ht
        ·cases hcx
       ·cases hcx
      ·cases hcx
     ·cases hcx
    ·cases h
   ·cases h
  ·rename_i hl
   split at h
   ·cases h
   ·rename_i x xs' hnt hx hxs
    cases h
    obtain ⟨h1,h2⟩ := resultsD_spec hY hxs
    refine ⟨⟨by unfold valOk; simp only [hl]; rw [stG_toSt,hx]; rfl,h1⟩,fun t ht=>?_⟩
    rw [List.map_cons,List.mem_cons] at ht
    rcases ht with rfl | ht
    ·exact toT_ne_tup (fun cs e=>by subst e; exact hnt cs rfl)
    ·exact h2 t ht
   ·cases h
theorem keysOk_spec:∀ {st:DSt},keysOk n st = true → noGhost n st.toSt
 | [],_=>trivial
 | (k,a) :: r,h=>by
  simp only [keysOk,Bool.and_eq_true,Nat.blt_eq] at h
  have := keysOk_spec h.2
  simp only [DSt.toSt]
  have hne := toA_ne_ghost a
  cases hq:a.toA with
  | ghost=>exact absurd hq hne
  | _=>exact ⟨by omega,this⟩
end Go.Eng

/- From the machine's answers to the call. -/
namespace Go.Eng
open Go.RowKit (Below)
set_option linter.unusedVariables false
set_option linter.unusedSimpArgs false
set_option linter.unusedSectionVars false
variable {X:Ctx} {Y:DX} {E:Env} {F:FnD} {ρ:Type} [Pan ρ] {r:ρ}
def Qf (X:Ctx) (n:Nat) (Z:List Nat) (Q:Exit → St → Prop):List Fr → Exit → St → Prop
 | []=>Q
 | .seq b :: fs=>thenC (fun s=>AW X n Z b s (Qf X n Z Q fs)) (Qf X n Z Q fs)
 | .block id :: fs=>blockC id (Qf X n Z Q fs)
 | .loop c :: fs=>loopQ X n Z c (Qf X n Z Q fs)
 | .scope c :: fs=>scopeQ X n Z c (Qf X n Z Q fs)
theorem Qf_ret {n:Nat} {Z:List Nat} {Q:Exit → St → Prop} {s:St} (h:Q .ret s):∀ fs,Qf X n Z Q fs .ret s
 | []=>h
 | .seq b :: fs=>Qf_ret h fs
 | .block id :: fs=>Qf_ret h fs
 | .loop c :: fs=>Qf_ret h fs
 | .scope c :: fs=>Qf_ret h fs
theorem Qf_panic {n:Nat} {Z:List Nat} {Q:Exit → St → Prop} {s:St} {ch:List PanicEntry} (h:Q (.panic ch) s):∀ fs,Qf X n Z Q fs (.panic ch) s
 | []=>h
 | .seq b :: fs=>Qf_panic h fs
 | .block id :: fs=>Qf_panic h fs
 | .loop c :: fs=>Qf_panic h fs
 | .scope c :: fs=>Qf_panic h fs
def Claim (X:Ctx) (n:Nat) (Z:List Nat) (Q:Exit → St → Prop):Tk → DSt → Prop
 | .code c fs,st=>AW X n Z c st.toSt (Qf X n Z Q fs)
 | .norm fs,st=>Qf X n Z Q fs .normal st.toSt
 | .exit id fs,st=>Qf X n Z Q fs (.exit id) st.toSt
 | .goto l fs,st=>Qf X n Z Q fs (.goto l) st.toSt
abbrev Pos := List (Nat × List Fr × Array Oper × Bool)
def CovC (S:Pos) (c:Code) (fs:List Fr):Prop := ∀ p ∈ subsC c fs,p ∈ S
def CovF (S:Pos):List Fr → Prop
 | []=>True
 | .seq b :: fs=>CovC S b fs ∧ CovF S fs
 | .block _ :: fs=>CovF S fs
 | .loop c :: fs=>CovC S c (.loop c :: fs) ∧ CovF S fs
 | .scope c :: fs=>CovC S c (.scope c :: fs) ∧ CovF S fs
def CovT (S:Pos):Tk → Prop
 | .code c fs=>CovC S c fs ∧ CovF S fs
 | .norm fs=>CovF S fs
 | .exit _ fs=>CovF S fs
 | .goto _ fs=>CovF S fs
theorem findLabel_subs:∀ {c:Code} {l:Nat} {r:Code} (fs:List Fr),findLabel c l = some r → ∀ p ∈ subsC r fs,p ∈ subsC c fs := by
 intro c
 induction c with
 | seq a b iha ihb =>
  intro l r fs h p hp
  simp only [findLabel] at h
  split at h
  ·rename_i r' hr
   cases h
   simp only [subsC,List.mem_append] at hp ⊢
   rcases hp with hp | hp
   ·exact .inl (iha _ hr p hp)
   ·exact .inr hp
  ·simp only [subsC,List.mem_append]
   exact .inr (ihb fs h p hp)
 | label l' =>
  intro l r fs h p hp
  simp only [findLabel] at h
  split at h
  ·cases h; cases hp
  ·cases h
 | _=>intro l r fs h; cases h
def EndQ (X:Ctx) (F:FnD) (ok:List DT → Prop) (ex:Exit) (s:St):Prop := (ex = .normal ∨ ex = .ret) ∧ ∃ (s':DSt) (xs:List DT),GhostTo X F.n F.Z s s'.toSt ∧ noGhost F.n s'.toSt ∧ slotsOk X.P F.cl F.n s'.toSt (F.rs ++ F.Z) (xs.map DT.toT) ∧ (∀ t ∈ xs.map DT.toT,∀ cs,t ≠ .tup cs) ∧ ok xs
theorem keys_put {n:Nat} (a:DA) (k:Nat) (hk:k < n):∀ {st:DSt},keysOk n st = true → keysOk n (st.put k a) = true
 | [],_=>by simp [DSt.put,keysOk,hk]
 | (i,x) :: r,h=>by
  simp only [keysOk,Bool.and_eq_true] at h
  simp only [DSt.put]
  cases Nat.beq k i <;> simp only [cond_true,cond_false,keysOk,Bool.and_eq_true]
  ·exact ⟨h.1,keys_put a k hk h.2⟩
  ·exact h
theorem keys_map {n:Nat} (f:DA → DA):∀ {st:DSt},keysOk n st = true → keysOk n (st.mapA f) = true
 | [],_=>rfl
 | (i,x) :: r,h=>by
  simp only [keysOk,Bool.and_eq_true] at h
  simp only [DSt.mapA,keysOk,Bool.and_eq_true]
  exact ⟨h.1,keys_map f h.2⟩
theorem keys_find {n:Nat}:∀ {st:DSt},keysOk n st = true → ∀ {k:Nat} {a:DA},st.find k = some a → k < n
 | [],_,_,_,h=>by cases h
 | (i,x) :: r,h,k,a,hf=>by
  simp only [keysOk,Bool.and_eq_true,Nat.blt_eq] at h
  simp only [DSt.find] at hf
  by_cases hk:k = i
  ·subst hk; exact h.1
  ·rw [beq_ne hk] at hf; exact keys_find h.2 hf
theorem keys_share {n:Nat} {st st':DSt} {r:Nat} (h:keysOk n st = true) (hs:shareDS st r = some st'):keysOk n st' = true := by
 unfold shareDS at hs
 split at hs
 ·rename_i e t l hr
  cases hs
  exact keys_put _ _ (keys_find h hr) (keys_map _ h)
 ·cases hs
theorem keys_ret {n:Nat} {Z:List Nat}:∀ {rs:List Nat} {fz:List Bool} {st st':DSt},keysOk n st = true → retDS n Z rs fz st = some st' → keysOk n st' = true
 | [],fz,st,st',hk,h=>by cases h; exact hk
 | r :: rs,fz,st,st',hk,h=>by
  simp only [retDS] at h
  split at h
  ·split at h
   ·rename_i s1 hs; exact keys_ret (keys_share hk hs) h
   ·cases h
  ·cases h
  ·exact keys_ret hk h
  ·split at h
   ·rename_i s1 hs; exact keys_ret (keys_share hk hs) h
   ·cases h
  ·rename_i s off len hr hfz
   split at h
   ·rename_i e t l hs
    split at h
    ·refine keys_ret (st := moveDS st s r (.own e t l)) ?_ h
     unfold moveDS
     exact keys_put _ _ (keys_find hk hr) (keys_put _ _ (keys_find hk hs) (keys_map _ hk))
    ·cases h
   ·cases h
  ·cases h
theorem retD_sound (hY:DXOk Y X) {st:DSt} (hw:WF st) {ret:List DT → Option ρ} (h:retD Y F ret st = some r) {ex:Exit} (hex:ex = .normal ∨ ex = .ret):EndQ X F (fun xs=>ret xs = some r) ex st.toSt := by
 unfold retD at h
 split at h
 ·rename_i hb
  simp only [Bool.and_eq_true] at hb
  split at h
  ·rename_i st' hs
   split at h
   ·rename_i xs hx
    obtain ⟨c1,c2⟩ := clean_sound (X := X) (n := F.n) (Z := F.Z) hw
    exact ⟨hex,st',xs,c1.trans (retDS_sound c2 hb.1 hs),keysOk_spec (keys_ret hb.2 hs),(resultsD_spec (n := F.n) hY hx).1,(resultsD_spec (n := F.n) hY hx).2,h⟩
   ·cases h
  ·cases h
 ·cases h
theorem regionF_sound (hY:DXOk Y X) (hE:EnvOk X E) (hm:X.P.follows .mixedOrders = true) {st:DSt} (hw:WF st) {id:Nat} {ops:Array Oper} {op:Bool} {K:DSt → Option ρ} (h:regionF Y E F id ops op st K = some r) {Q:Exit → St → Prop}
  (hP:∀ pv (st':DSt),(Pan.pan pv:Option ρ) = some r → Q (.panic [{ v := pv,recovered := false }]) st'.toSt) (hQ:∀ st',WF st' → K st' = some r → Q .normal st'.toSt):AW X F.n F.Z (.region id ops op) st.toSt Q := by
 unfold regionF at h
 split at h
 ·exact regionM_sound hY hE hm hw h hP hQ
 ·split at h
  ·rename_i st' hs
   obtain ⟨c1,c2⟩ := clean_sound (X := X) (n := F.n) (Z := F.Z) hw
   obtain ⟨h1,h2⟩ := sharesD_sound (X := X) (n := F.n) (Z := F.Z) c2 hs
   exact AW.from (c1.trans h1) (regionM_sound hY hE hm h2 h hP hQ)
  ·cases h
theorem runD_sound (hY:DXOk Y X) (hE:EnvOk X E) (hm:X.P.follows .mixedOrders = true) {S:Pos} {goto:Nat → DSt → Option ρ} {ret:List DT → Option ρ} {Q:Exit → St → Prop}
  (hQ:∀ ex s,EndQ X F (fun xs=>ret xs = some r) ex s → Q ex s)
  (hP:∀ pv (st':DSt),(Pan.pan pv:Option ρ) = some r → Q (.panic [{ v := pv,recovered := false }]) st'.toSt)
  (hG:∀ id st' fs ops op,WF st' → goto id st' = some r → (id,fs,ops,op) ∈ S → AW X F.n F.Z (.region id ops op) st'.toSt (Qf X F.n F.Z Q fs)) :
  ∀ (fuel:Nat) (tk:Tk) (st:DSt),WF st → CovT S tk → runD Y E F goto ret fuel tk st = some r → Claim X F.n F.Z Q tk st
 | 0,_,_,_,_,h=>by cases h
 | fuel + 1,.code c fs,st,hw,hcov,h=>by
  have ih := runD_sound hY hE hm hQ hP hG fuel
  obtain ⟨hc,hf⟩ := hcov
  cases c with
  | skip=>exact AW_skip (ih (.norm fs) st hw hf h)
  | exit id=>exact AW_exit (ih (.exit id fs) st hw hf h)
  | ret=>exact AW_ret (Qf_ret (hQ _ _ (retD_sound hY hw h (.inr rfl))) fs)
  | region id ops op =>
   simp only [runD] at h
   split at h
   ·split at h
    ·rename_i st' hp
     obtain ⟨h1,h2⟩ := pruneD_sound (X := X) (Z := F.Z) hw hp
     exact AW.from h1 (hG id st' fs ops op h2 h (hc _ (by simp [subsC])))
    ·cases h
   ·exact regionF_sound hY hE hm hw h (fun pv st' hp=>Qf_panic (hP pv st' hp) fs) (fun st' hw' hk=>ih (.norm fs) st' hw' hf hk)
  | seq a b =>
   refine AW_seq (ih (.code a (.seq b :: fs)) st hw ⟨fun p hp=>hc p (List.mem_append_left _ hp),fun p hp=>hc p (List.mem_append_right _ hp),hf⟩ h)
  | block id c=>exact AW_block (ih (.code c (.block id :: fs)) st hw ⟨hc,hf⟩ h)
  | loop c=>exact AW_loopL (AWL_of (ih (.code c (.loop c :: fs)) st hw ⟨hc,hc,hf⟩ h))
  | scope c=>exact AW_scopeS (AWS_of (ih (.code c (.scope c :: fs)) st hw ⟨hc,hc,hf⟩ h))
  | label l=>exact AW_label (ih (.norm fs) st hw hf h)
  | goto l=>exact AW_goto (ih (.goto l fs) st hw hf h)
  | cond x a b =>
   simp only [runD] at h
   split at h
   ·rename_i t hx
    obtain ⟨x1,x2⟩ := rdT_spec (n := F.n) (X := X) hY hw (γ := none) trivial hx
    refine AW_cond (x2 trivial) x1 (fun ht=>?_) (fun ht=>?_)
    ·rw [if_pos ht] at h
     exact ih (.code a fs) st hw ⟨fun p hp=>hc p (List.mem_append_left _ hp),hf⟩ h
    ·rw [if_neg (by rw [ht]; simp)] at h
     exact ih (.code b fs) st hw ⟨fun p hp=>hc p (List.mem_append_right _ hp),hf⟩ h
   ·cases h
  | _=>cases h
 | fuel + 1,.norm fs,st,hw,hcov,h=>by
  have ih := runD_sound hY hE hm hQ hP hG fuel
  cases fs with
  | nil=>exact hQ _ _ (retD_sound hY hw h (.inl rfl))
  | cons f fs =>
   cases f with
   | seq b=>exact ih (.code b fs) st hw ⟨hcov.1,hcov.2⟩ h
   | block id=>exact ih (.norm fs) st hw hcov h
   | loop c=>exact AWL_of (ih (.code c (.loop c :: fs)) st hw ⟨hcov.1,hcov⟩ h)
   | scope c=>exact ih (.norm fs) st hw hcov.2 h
 | fuel + 1,.exit id fs,st,hw,hcov,h=>by
  have ih := runD_sound hY hE hm hQ hP hG fuel
  cases fs with
  | nil=>cases h
  | cons f fs =>
   cases f with
   | seq b=>exact ih (.exit id fs) st hw hcov.2 h
   | block j =>
    simp only [runD] at h
    simp only [Claim,Qf,blockC]
    split at h
    ·rename_i hb
     rw [if_pos (Nat.eq_of_beq_eq_true hb)]
     exact ih (.norm fs) st hw hcov h
    ·rename_i hb
     rw [if_neg (by rintro rfl; rw [Nat.beq_refl] at hb; cases hb)]
     exact ih (.exit id fs) st hw hcov h
   | loop c=>exact ih (.exit id fs) st hw hcov.2 h
   | scope c=>exact ih (.exit id fs) st hw hcov.2 h
 | fuel + 1,.goto l fs,st,hw,hcov,h=>by
  have ih := runD_sound hY hE hm hQ hP hG fuel
  cases fs with
  | nil=>cases h
  | cons f fs =>
   cases f with
   | seq b=>exact ih (.goto l fs) st hw hcov.2 h
   | block j=>exact ih (.goto l fs) st hw hcov h
   | loop c=>exact ih (.goto l fs) st hw hcov.2 h
   | scope c =>
    simp only [runD] at h
    simp only [Claim,Qf,scopeQ]
    cases hf:findLabel c l with
    | some r=>rw [hf] at h; exact AWS_of (ih (.code r (.scope c :: fs)) st hw ⟨fun p hp=>hcov.1 p (findLabel_subs _ hf p hp),hcov⟩ h)
    | none=>rw [hf] at h; exact ih (.goto l fs) st hw hcov.2 h
def nodupN:List Nat → Bool
 | []=>true
 | k :: r => !memN r k && nodupN r
theorem look_of:∀ {S:Pos} {id:Nat} {v:List Fr × Array Oper × Bool},nodupN (S.map (·.1)) = true → (id,v) ∈ S → look S id = some v
 | [],_,_,_,h=>by cases h
 | (k,w) :: r,id,v,hn,h=>by
  simp only [List.map_cons,nodupN,Bool.and_eq_true,Bool.not_eq_true'] at hn
  simp only [look]
  rcases List.mem_cons.1 h with e | h2
  ·cases e; simp
  ·have hne:id ≠ k := by
    rintro rfl
    have:memN (r.map (·.1)) id = true := memN_spec.2 (List.mem_map.2 ⟨(id,v),h2,rfl⟩)
    rw [this] at hn; cases hn.1
   rw [beq_ne hne]; exact look_of hn.2 h2
theorem segD_sound (hY:DXOk Y X) (hE:EnvOk X E) (hm:X.P.follows .mixedOrders = true) {body:Code} {fuel:Nat} (hnd:nodupN ((subsC body []).map (·.1)) = true) {goto:Nat → DSt → Option ρ} {ret:List DT → Option ρ} {Q:Exit → St → Prop}
  (hcov:∀ id fs ops op,(id,fs,ops,op) ∈ subsC body [] → CovF (subsC body []) fs)
  (hQ:∀ ex s,EndQ X F (fun xs=>ret xs = some r) ex s → Q ex s)
  (hP:∀ pv (st':DSt),(Pan.pan pv:Option ρ) = some r → Q (.panic [{ v := pv,recovered := false }]) st'.toSt)
  (hG:∀ id st' fs ops op,WF st' → goto id st' = some r → (id,fs,ops,op) ∈ subsC body [] → AW X F.n F.Z (.region id ops op) st'.toSt (Qf X F.n F.Z Q fs)) {id:Nat} {st:DSt} (hw:WF st)
  (h:segD Y E F body fuel id st goto ret = some r) {fs:List Fr} {ops:Array Oper} {op:Bool} (hp:(id,fs,ops,op) ∈ subsC body []):AW X F.n F.Z (.region id ops op) st.toSt (Qf X F.n F.Z Q fs) := by
 unfold segD at h
 rw [look_of hnd hp] at h
 exact regionF_sound hY hE hm hw h (fun pv st' hq=>Qf_panic (hP pv st' hq) fs) (fun st' hw' hk=>runD_sound hY hE hm hQ hP hG fuel (.norm fs) st' hw' (hcov _ _ _ _ hp) hk)
theorem covF_of (S:Pos):∀ (c:Code) (fs:List Fr),CovC S c fs → CovF S fs → ∀ id gs ops op,(id,gs,ops,op) ∈ subsC c fs → CovF S gs := by
 intro c
 induction c with
 | region id ops op =>
  intro fs hc hf id' gs ops' op' h
  simp only [subsC,List.mem_singleton,Prod.mk.injEq] at h
  obtain ⟨_,rfl,_⟩ := h; exact hf
 | seq a b iha ihb =>
  intro fs hc hf id gs ops op h
  simp only [subsC,List.mem_append] at h
  have ha:CovC S a (.seq b :: fs) := fun p hp=>hc p (List.mem_append_left _ hp)
  have hb:CovC S b fs := fun p hp=>hc p (List.mem_append_right _ hp)
  rcases h with h | h
  ·exact iha _ ha ⟨hb,hf⟩ id gs ops op h
  ·exact ihb _ hb hf id gs ops op h
 | block id c ih=>intro fs hc hf id gs ops op h; exact ih (.block _ :: fs) hc hf id gs ops op h
 | loop c ih=>intro fs hc hf id gs ops op h; exact ih (.loop c :: fs) hc ⟨hc,hf⟩ id gs ops op h
 | scope c ih=>intro fs hc hf id gs ops op h; exact ih (.scope c :: fs) hc ⟨hc,hf⟩ id gs ops op h
 | cond x a b iha ihb =>
  intro fs hc hf id gs ops op h
  simp only [subsC,List.mem_append] at h
  rcases h with h | h
  ·exact iha _ (fun p hp=>hc p (List.mem_append_left _ hp)) hf id gs ops op h
  ·exact ihb _ (fun p hp=>hc p (List.mem_append_right _ hp)) hf id gs ops op h
 | _=>intro fs hc hf id gs ops op h; cases h
def resT:List T → T
 | [x]=>x
 | xs=>.tup xs
def outU (n:Nat):List T := List.replicate n .u
theorem entryD_toSt:∀ (k:Nat) (xs:List DT),(entryD k xs).toSt = entry k (xs.map DT.toT)
 | _,[]=>rfl
 | k,x :: xs=>by simp only [entryD,DSt.toSt,List.map_cons,entry,entryD_toSt (k + 1) xs]; rfl
theorem entryD_wf:∀ (k:Nat) (xs:List DT),WF (entryD k xs)
 | _,[]=>fun i a h=>by cases h
 | k,x :: xs=>by
  intro i a h
  have key:∀ (k:Nat) (xs:List DT) (i:Nat) (a:DA),(entryD k xs).find i = some a → ∃ x,a = .t x := by
   intro k xs
   induction xs generalizing k with
   | nil=>intro i a h; cases h
   | cons x xs ih =>
    intro i a h
    simp only [entryD,DSt.find] at h
    cases hb:Nat.beq i k with
    | true=>rw [hb] at h; cases h; exact ⟨x,rfl⟩
    | false=>rw [hb] at h; exact ih _ i a h
  obtain ⟨y,rfl⟩ := key _ _ _ _ h
  trivial
theorem APure_of_AW (hZ:F.Z = [] := by rfl) {f:FuncId} {fn:Func} {body:Code} (hf:X.P.funcs[f]? = some fn) (hb:fn.body = some body) (hn:fn.ntmps = F.n) (hrs:fn.results = (F.rs.map (resVar F.cl)).toArray) (hndr:F.rs.Nodup)
  {args:List DT} (hlen:args.length ≤ F.n) {xs0:List DT} (hbody:AW X F.n F.Z body (entry 0 (args.map DT.toT)) (EndQ X F (fun xs=>xs = xs0))):APure X f (args.map DT.toT) (resT (xs0.map DT.toT)) := by
 rw [hZ] at hbody
 refine ACall_of_body (n := F.n) (Z := []) (rs := F.rs) (cl := F.cl) hf hb hn hrs (by rw [List.length_map]; exact hlen) (by simp) hndr (by simp) (by simp) (AW.to (hbody.mono ?_))
 rintro ex s ⟨hex,s',xs,h1,h2,h3,h5,h4⟩
 rw [hZ] at h1 h3
 rw [List.append_nil] at h3
 refine ⟨s'.toSt,h1,?_⟩
 subst h4
 have houts:∀ (m i:Nat),outsOk F.n s'.toSt [] i (List.replicate m .u) := by
  intro m
  induction m with
  | zero=>intro i; trivial
  | succ m ih=>intro i; exact ⟨by simp,ih (i + 1)⟩
 have hnt:∀ (rs:List Nat) (ts:List T),slotsOk X.P F.cl F.n s'.toSt rs ts → (∀ t ∈ ts,∀ cs,t ≠ .tup cs) → ∀ K:St → Prop,K s'.toSt → retGo F.n rs s'.toSt K := by
  intro rs
  induction rs with
  | nil=>intro ts _ _ K hK; exact hK
  | cons q qs ih =>
   intro ts h ht K hK
   cases ts with
   | nil=>exact h.elim
   | cons t ts =>
    obtain ⟨e1,e2⟩ := h
    have hrest := ih ts e2 (fun t ht'=>ht t (by simp [ht'])) K hK
    unfold valOk at e1
    split at e1
    ·simp only [retGo,e1]
     cases t with
     | tup cs=>exact absurd rfl (ht _ (by simp) cs)
     | _=>exact hrest
    ·obtain ⟨e,cs,k,e3,_⟩ := e1
     simp only [retGo,e3]
     exact hrest
 have hends:∀ e:Exit,e = .normal ∨ e = .ret → retGo F.n F.rs s'.toSt (fun s=>noGhost F.n s ∧ resOk X.P F.cl F.n s F.rs (resT ((xs).map DT.toT)) ∧ outsOk F.n s [] 0 (List.replicate (args.map DT.toT).length .u)) := by
  intro e he
  refine hnt _ _ h3 h5 _ ⟨h2,?_,houts _ _⟩
  unfold resOk
  cases hrs':F.rs with
  | nil =>
   rw [hrs'] at h3
   cases hx:(xs).map DT.toT with
   | nil=>trivial
   | cons=>rw [hx] at h3; exact h3.elim
  | cons q qs =>
   rw [hrs'] at h3
   cases hx:(xs).map DT.toT with
   | nil=>rw [hx] at h3; exact h3.elim
   | cons x xs =>
    rw [hx] at h3
    cases qs with
    | nil =>
     cases xs with
     | nil=>exact h3.1
     | cons=>exact h3.2.elim
    | cons q2 qs =>
     cases xs with
     | nil=>exact h3.2.elim
     | cons x2 xs=>exact h3
 rcases hex with rfl | rfl
 ·exact hends _ (.inl rfl)
 ·exact hends _ (.inr rfl)
theorem AW_of_machine (hY:DXOk Y X) (hE:EnvOk X E) (hm:X.P.follows .mixedOrders = true) {body:Code}
  {args:List DT} (hnd:nodupN ((subsC body []).map (·.1)) = true) {fuel:Nat} {L R:Type} (lab:L → Nat × DSt) (step:L → Option (L ⊕ R)) (encR:R → List DT) (hwf:∀ l,WF (lab l).2)
  (hseg:∀ (l:L) (goto:Nat → DSt → Option Unit) (ret:List DT → Option Unit),segD Y E F body fuel (lab l).1 (lab l).2 goto ret = (step l).bind (Sum.elim (fun l'=>goto (lab l').1 (lab l').2) (fun r=>ret (encR r))))
  {ent:Option (L ⊕ R)} (hent:∀ (goto:Nat → DSt → Option Unit) (ret:List DT → Option Unit),runD Y E F goto ret fuel (.code body []) (entryD 0 args) = ent.bind (Sum.elim (fun l'=>goto (lab l').1 (lab l').2) (fun r=>ret (encR r))))
  {r:R} (hr:runL step ent = some r):AW X F.n F.Z body (entry 0 (args.map DT.toT)) (EndQ X F (fun xs=>xs = encR r)) := by
 classical
 let S := subsC body []
 let ret:List DT → Option Unit := fun xs=>if xs = encR r then some () else none
 let Q:Exit → St → Prop := EndQ X F (fun xs=>ret xs = some ())
 have hcovS:CovC S body [] := fun p hp=>hp
 have hcov:∀ id fs ops op,(id,fs,ops,op) ∈ subsC body [] → CovF (subsC body []) fs := covF_of S body [] hcovS trivial
 have hlab:∀ (k:Nat) (l:L),iterN step k l = some r → ∀ fs ops op,((lab l).1,fs,ops,op) ∈ subsC body [] → AW X F.n F.Z (.region (lab l).1 ops op) (lab l).2.toSt (Qf X F.n F.Z Q fs) := by
  intro k
  induction k with
  | zero=>intro l h; cases h
  | succ k ih =>
   intro l h fs ops op hp
   let goto:Nat → DSt → Option Unit := fun id st=>if ∃ l',lab l' = (id,st) ∧ iterN step k l' = some r then some () else none
   refine segD_sound (r := ()) (goto := goto) (ret := ret) (fuel := fuel) hY hE hm hnd hcov (fun ex s h=>h) (fun pv st' hp=>by cases hp) (fun id st' fs ops op hw hg hp=>?_) (hwf l) ?_ hp
   ·by_cases hx:∃ l',lab l' = (id,st') ∧ iterN step k l' = some r
    ·obtain ⟨l',e,hk⟩ := hx
     have := ih l' hk fs ops op
     rw [e] at this
     exact this hp
    ·simp only [goto,if_neg hx] at hg; cases hg
   ·rw [hseg]
    simp only [iterN] at h
    split at h
    ·rename_i l' hl'
     rw [hl']
     simp only [Option.bind_some,Sum.elim_inl,goto]
     rw [if_pos ⟨l',rfl,h⟩]
    ·rename_i r' hr'
     rw [hr']
     cases h
     simp only [Option.bind_some,Sum.elim_inr,ret,if_true]
    ·cases h
 have hbody:AW X F.n F.Z body (entry 0 (args.map DT.toT)) Q := by
  rw [← entryD_toSt]
  obtain ⟨x,hx,hcase⟩ := runL_some hr
  let goto:Nat → DSt → Option Unit := fun id st=>if ∃ l',lab l' = (id,st) ∧ iter step l' = some r then some () else none
  refine runD_sound (r := ()) (goto := goto) (ret := ret) (S := S) hY hE hm (fun ex s h=>h) (fun pv st' hp=>by cases hp) (fun id st' fs ops op hw hg hp=>?_) fuel (.code body []) _ (entryD_wf 0 args) ⟨hcovS,trivial⟩ ?_
  ·by_cases hx:∃ l',lab l' = (id,st') ∧ iter step l' = some r
   ·obtain ⟨l',e,hk⟩ := hx
    obtain ⟨k,hk⟩ := iter_some hk
    have := hlab k l' hk fs ops op
    rw [e] at this
    exact this hp
   ·simp only [goto,if_neg hx] at hg; cases hg
  ·rw [hent,hx]
   rcases hcase with ⟨l,rfl,hl⟩ | rfl
   ·simp only [Option.bind_some,Sum.elim_inl,goto]
    rw [if_pos ⟨l,rfl,hl⟩]
   ·simp only [Option.bind_some,Sum.elim_inr,ret,if_true]
 refine hbody.mono ?_
 rintro ex s ⟨hex,s',xs,h1,h2,h3,h5,h4⟩
 refine ⟨hex,s',xs,h1,h2,h3,h5,?_⟩
 by_cases e:xs = encR r
 ·exact e
 ·simp only [ret,if_neg e] at h4; cases h4
theorem APure_of_machine (hY:DXOk Y X) (hE:EnvOk X E) (hm:X.P.follows .mixedOrders = true) {f:FuncId} {fn:Func} {body:Code} (hf:X.P.funcs[f]? = some fn) (hb:fn.body = some body) (hn:fn.ntmps = F.n) (hrs:fn.results = (F.rs.map (resVar F.cl)).toArray) (hndr:F.rs.Nodup)
  {args:List DT} (hlen:args.length ≤ F.n) (hnd:nodupN ((subsC body []).map (·.1)) = true) {fuel:Nat} {L R:Type} (lab:L → Nat × DSt) (step:L → Option (L ⊕ R)) (encR:R → List DT) (hwf:∀ l,WF (lab l).2)
  (hseg:∀ (l:L) (goto:Nat → DSt → Option Unit) (ret:List DT → Option Unit),segD Y E F body fuel (lab l).1 (lab l).2 goto ret = (step l).bind (Sum.elim (fun l'=>goto (lab l').1 (lab l').2) (fun r=>ret (encR r))))
  {ent:Option (L ⊕ R)} (hent:∀ (goto:Nat → DSt → Option Unit) (ret:List DT → Option Unit),runD Y E F goto ret fuel (.code body []) (entryD 0 args) = ent.bind (Sum.elim (fun l'=>goto (lab l').1 (lab l').2) (fun r=>ret (encR r))))
  {r:R} (hr:runL step ent = some r) (hZ:F.Z = [] := by rfl):APure X f (args.map DT.toT) (resT ((encR r).map DT.toT)) :=
 APure_of_AW hZ hf hb hn hrs hndr hlen (AW_of_machine hY hE hm hnd lab step encR hwf hseg hent hr)
def outsL (z:Nat) (out:T):Nat → Nat → List T
 | _,0=>[]
 | i,m + 1=>(if i = z then out else .u) :: outsL z out (i + 1) m
theorem outsL_ok {n:Nat} {s:St} {z:Nat} {out:T} (h:stG n s z = .t out):∀ (m i:Nat),outsOk n s [z] i (outsL z out i m)
 | 0,i=>trivial
 | m + 1,i=>by
  refine ⟨?_,outsL_ok h m (i + 1)⟩
  by_cases hi:i = z
  ·subst hi; simp [h]
  ·simp [hi]
theorem outsL_len (z:Nat) (out:T):∀ (m i:Nat),(outsL z out i m).length = m
 | 0,_=>rfl
 | m + 1,i=>by simp only [outsL,List.length_cons,outsL_len z out m]
theorem slotsOk_split {P:Program} {cl:List (Nat × TypeId)} {n:Nat} {s:St} {z:Nat} {t:T}:∀ {rs:List Nat} {ts:List T},rs.length = ts.length → slotsOk P cl n s (rs ++ [z]) (ts ++ [t]) → slotsOk P cl n s rs ts ∧ valOk P cl n s z t
 | [],[],_,h=>⟨trivial,h.1⟩
 | _ :: _,[],h,_=>by cases h
 | [],_ :: _,h,_=>by cases h
 | r :: rs,t0 :: ts,hl,h=>by
  obtain ⟨h1,h2⟩ := slotsOk_split (rs := rs) (ts := ts) (by simpa using hl) h.2
  exact ⟨⟨h.1,h1⟩,h2⟩
theorem ALend_of_AW {f:FuncId} {fn:Func} {body:Code} {z:Nat} (hZ:F.Z = [z]) (hcz:lookC F.cl z = none) (hzr:z ∉ F.rs) (hf:X.P.funcs[f]? = some fn) (hb:fn.body = some body) (hn:fn.ntmps = F.n) (hrs:fn.results = (F.rs.map (resVar F.cl)).toArray) (hndr:F.rs.Nodup)
  {args:List DT} (hz:z < args.length) (hlen:args.length ≤ F.n) {xs0:List DT} {out:DT} (hlx:F.rs.length = xs0.length) (hbody:AW X F.n F.Z body (entry 0 (args.map DT.toT)) (EndQ X F (fun xs=>xs = xs0 ++ [out]))):ACall X f (args.map DT.toT) (resT (xs0.map DT.toT)) (outsL z out.toT 0 args.length) := by
 rw [hZ] at hbody
 refine ACall_of_body (n := F.n) (Z := [z]) (rs := F.rs) (cl := F.cl) hf hb hn hrs (by rw [List.length_map]; exact hlen) (by rw [outsL_len,List.length_map]) hndr (fun i hi=>by rw [List.mem_singleton.1 hi,List.length_map]; exact ⟨hz,hzr⟩) (fun i hi=>by rw [List.mem_singleton.1 hi]; exact hcz) (AW.to (hbody.mono ?_))
 rintro ex s ⟨hex,s',xs,h1,h2,h3,h5,h4⟩
 rw [hZ] at h1 h3
 subst h4
 refine ⟨s'.toSt,h1,?_⟩
 rw [List.map_append] at h3 h5
 obtain ⟨h6,h7⟩ := slotsOk_split (by rw [List.length_map]; exact hlx) h3
 have h8:stG F.n s'.toSt z = .t out.toT := by unfold valOk at h7; rw [hcz] at h7; exact h7
 have hnt:∀ (rs:List Nat) (ts:List T),slotsOk X.P F.cl F.n s'.toSt rs ts → (∀ t ∈ ts,∀ cs,t ≠ .tup cs) → ∀ K:St → Prop,K s'.toSt → retGo F.n rs s'.toSt K := by
  intro rs
  induction rs with
  | nil=>intro ts _ _ K hK; exact hK
  | cons q qs ih =>
   intro ts h ht K hK
   cases ts with
   | nil=>exact h.elim
   | cons t ts =>
    obtain ⟨e1,e2⟩ := h
    have hrest := ih ts e2 (fun t ht'=>ht t (by simp [ht'])) K hK
    unfold valOk at e1
    split at e1
    ·simp only [retGo,e1]
     cases t with
     | tup cs=>exact absurd rfl (ht _ (by simp) cs)
     | _=>exact hrest
    ·obtain ⟨e,cs,k,e3,_⟩ := e1
     simp only [retGo,e3]
     exact hrest
 have hends:retGo F.n F.rs s'.toSt (fun s=>noGhost F.n s ∧ resOk X.P F.cl F.n s F.rs (resT (xs0.map DT.toT)) ∧ outsOk F.n s [z] 0 (outsL z out.toT 0 args.length)) := by
  refine hnt _ _ h6 (fun t ht=>h5 t (by simp only [List.mem_append]; exact .inl ht)) _ ⟨h2,?_,outsL_ok h8 _ _⟩
  unfold resOk
  cases hrs':F.rs with
  | nil =>
   rw [hrs'] at h6
   cases hx:xs0.map DT.toT with
   | nil=>trivial
   | cons=>rw [hx] at h6; exact h6.elim
  | cons q qs =>
   rw [hrs'] at h6
   cases hx:xs0.map DT.toT with
   | nil=>rw [hx] at h6; exact h6.elim
   | cons x xs =>
    rw [hx] at h6
    cases qs with
    | nil =>
     cases xs with
     | nil=>exact h6.1
     | cons=>exact h6.2.elim
    | cons q2 qs =>
     cases xs with
     | nil=>exact h6.2.elim
     | cons x2 xs=>exact h6
 rcases hex with rfl | rfl
 ·exact hends
 ·exact hends
theorem ALend_of_machine (hY:DXOk Y X) (hE:EnvOk X E) (hm:X.P.follows .mixedOrders = true) {f:FuncId} {fn:Func} {body:Code} {z:Nat} (hf:X.P.funcs[f]? = some fn) (hb:fn.body = some body) (hn:fn.ntmps = F.n) (hrs:fn.results = (F.rs.map (resVar F.cl)).toArray) (hndr:F.rs.Nodup) (hZ:F.Z = [z]) (hcz:lookC F.cl z = none) (hzr:z ∉ F.rs)
  {args:List DT} (hz:z < args.length) (hlen:args.length ≤ F.n) (hnd:nodupN ((subsC body []).map (·.1)) = true) {fuel:Nat} {L R:Type} (lab:L → Nat × DSt) (step:L → Option (L ⊕ R)) (encR:R → List DT) (outR:R → DT) (hwf:∀ l,WF (lab l).2)
  (hseg:∀ (l:L) (goto:Nat → DSt → Option Unit) (ret:List DT → Option Unit),segD Y E F body fuel (lab l).1 (lab l).2 goto ret = (step l).bind (Sum.elim (fun l'=>goto (lab l').1 (lab l').2) (fun r=>ret (encR r ++ [outR r]))))
  {ent:Option (L ⊕ R)} (hent:∀ (goto:Nat → DSt → Option Unit) (ret:List DT → Option Unit),runD Y E F goto ret fuel (.code body []) (entryD 0 args) = ent.bind (Sum.elim (fun l'=>goto (lab l').1 (lab l').2) (fun r=>ret (encR r ++ [outR r]))))
  {r:R} (hr:runL step ent = some r) (hlx:F.rs.length = (encR r).length):ACall X f (args.map DT.toT) (resT ((encR r).map DT.toT)) (outsL z (outR r).toT 0 args.length) :=
 ALend_of_AW hZ hcz hzr hf hb hn hrs hndr hz hlen hlx (AW_of_machine hY hE hm hnd lab step (fun r=>encR r ++ [outR r]) hwf hseg hent hr)
end Go.Eng

/- What the printed texts lean on. -/
namespace Go.Eng
open Go.RowKit (Below)
set_option linter.unusedVariables false
set_option linter.unusedSimpArgs false
@[reducible] def w64 (x:Int):Int := IntKind.wrap .i64 x
theorem w64_eq {a:Int} (h : -9223372036854775808 ≤ a) (h2:a ≤ 9223372036854775807):w64 a = a := wrap64 h h2
def push {L R ρ:Type} (x:Option (L ⊕ R)) (g:L → Option ρ) (h:R → Option ρ):Option ρ := x.bind (Sum.elim g h)
section
variable {L R ρ α:Type} {g:L → Option ρ} {h:R → Option ρ} {k:α → Option ρ}
theorem push_G {p:Prop} [Decidable p] {k:Option (L ⊕ R)}:push (G p k) g h = G p (push k g h) := by unfold G push; split <;> rfl
theorem push_ite {p:Prop} [Decidable p] {a b:Option (L ⊕ R)}:push (if p then a else b) g h = if p then push a g h else push b g h := by split <;> rfl
theorem push_bind {x:Option α} {k:α → Option (L ⊕ R)}:push (x.bind k) g h = x.bind fun a=>push (k a) g h := by cases x <;> rfl
theorem push_inl {l:L}:push (some (.inl l)) g h = g l := rfl
theorem push_inr {r:R}:push (some (.inr r)) g h = h r := rfl
def bnd (x:Option α) (k:α → Option ρ):Option ρ := x.bind k
theorem bnd_G {p:Prop} [Decidable p] {x:Option α}:bnd (G p x) k = G p (bnd x k) := by unfold G bnd; split <;> rfl
theorem bnd_ite {p:Prop} [Decidable p] {a b:Option α}:bnd (if p then a else b) k = if p then bnd a k else bnd b k := by split <;> rfl
theorem bnd_bind {β:Type} {x:Option β} {f:β → Option α}:bnd (x.bind f) k = x.bind fun a=>bnd (f a) k := by cases x <;> rfl
theorem bnd_some {a:α}:bnd (some a) k = k a := rfl
end
theorem G_pos {ρ:Type} {p:Prop} [Decidable p] {k:Option ρ} (h:p):G p k = k := by unfold G; exact if_pos h
def Env.add (f:FuncId) (e:List DT → Option CallRes) (E:Env):Env := fun g args=>bif Nat.beq g f then e args else E g args
theorem EnvOk.add {X:Ctx} {E:Env} (h:EnvOk X E) {f:FuncId} {e:List DT → Option CallRes} (he:∀ args c,e args = some c → CallOk X f args c):EnvOk X (Env.add f e E) := by
 intro g args c hc
 unfold Env.add at hc
 by_cases hg:g = f
 ·subst hg
  rw [Nat.beq_refl] at hc
  exact he args c hc
 ·rw [beq_ne hg] at hc; exact h g args c hc
def Env.add2 (f:FuncId) (e:List DT → Option CallRes) (E:Env):Env := fun g args=>match (bif Nat.beq g f then e args else none) with
 | some c=>some c
 | none=>E g args
theorem EnvOk.add2 {X:Ctx} {E:Env} (h:EnvOk X E) {f:FuncId} {e:List DT → Option CallRes} (he:∀ args c,e args = some c → CallOk X f args c):EnvOk X (Env.add2 f e E) := by
 intro g args c hc
 unfold Env.add2 at hc
 split at hc
 ·rename_i c' hq
  cases hc
  by_cases hg:g = f
  ·subst hg
   rw [Nat.beq_refl] at hq
   exact he args c hq
  ·rw [beq_ne hg] at hq; cases hq
 ·exact h g args c hc
def E_0:Env := fun _ _=>none
theorem E_0_ok {X:Ctx}:EnvOk X E_0 := fun _ _ _ h=>by cases h
def bareD:DT → Bool
 | .u=>true
 | .s t _=>t.bare
 | .own _ t _=>t.bare
 | .box _ cs=>all cs
 | .tup cs=>all cs
 | .own2 _ _ _ _=>false
where all:List DT → Bool
 | []=>true
 | x :: xs=>match bareD x with
  | true=>all xs
  | false=>false
theorem noSl_list (t:Ty) (h:t.bare = true) (l:List t.I):T.noSl.all (l.map t.enc) = true := by
 induction l with
 | nil=>rfl
 | cons x l ih=>simp only [List.map_cons,T.noSl.all,enc_noSl t x h,ih,Bool.and_self]
theorem noSl_res:∀ {d:DT},bareD d = true → d.toT.noSl = true
 | .u,_=>rfl
 | .s t x,h=>enc_noSl t x h
 | .own e t l,h=>noSl_list t h l
 | .box e cs,h=>noSl_all cs h
 | .tup cs,h=>noSl_all cs h
where noSl_all:∀ (cs:List DT),bareD.all cs = true → T.noSl.all (DT.toT.all cs) = true
 | [],_=>rfl
 | x :: xs,h=>by
  simp only [bareD.all] at h
  cases hx:bareD x with
  | false=>rw [hx] at h; cases h
  | true =>
   rw [hx] at h
   simp only [DT.toT.all,T.noSl.all,noSl_res hx,noSl_all xs h,Bool.and_self]
def allR {α:Type} (x:Option (List (Bool × List α))):Option (List (Bool × List α)) := x.bind fun r=>G (r.all (fun y=>y.1) = true) (some r)
theorem allR_some {α:Type} {x:Option (List (Bool × List α))} {r:List (Bool × List α)} (h:allR x = some r):x = some r ∧ r.all (fun y=>y.1) = true := by
 obtain ⟨r',h1,h2⟩ := Option.bind_eq_some_iff.1 h
 obtain ⟨h3,h4⟩ := G_some h2
 cases h4
 exact ⟨h1,h3⟩
theorem noSl_own2 {e e2:TypeId} {t:Ty} {L:List (Bool × List t.I)} (h:L.all (fun y=>y.1) = true) (ht:t.bare = true):(DT.own2 e e2 t L).toT.noSl = true := by
 show T.noSl.all (L.map (el2 e2 t)) = true
 induction L with
 | nil=>rfl
 | cons y L ih =>
  simp only [List.all_cons,Bool.and_eq_true] at h
  rw [List.map_cons]
  simp only [T.noSl.all,ih h.2,Bool.and_true]
  unfold el2
  rw [h.1]
  exact noSl_list t ht y.2
def listWF (st:DSt):DSt → Prop
 | []=>True
 | p :: r=>slotWF st p.2 ∧ listWF st r
theorem WF_list {st:DSt} (h:listWF st st):WF st := by
 have key:∀ (l:DSt),listWF st l → ∀ k a,l.find k = some a → slotWF st a := by
  intro l
  induction l with
  | nil=>intro _ k a h; cases h
  | cons p r ih =>
   obtain ⟨i,x⟩ := p
   intro hl k a hf
   simp only [DSt.find] at hf
   cases hb:Nat.beq k i with
   | true=>rw [hb] at hf; cases hf; exact hl.1
   | false=>rw [hb] at hf; exact ih hl.2 k a hf
 exact fun k a hf=>key st h k a hf
theorem APure_of_straight {X:Ctx} {Y:DX} {E:Env} {F:FnD} (hY:DXOk Y X) (hE:EnvOk X E) (hm:X.P.follows .mixedOrders = true) {f:FuncId} {fn:Func} {body:Code} (hf:X.P.funcs[f]? = some fn) (hb:fn.body = some body) (hn:fn.ntmps = F.n) (hrs:fn.results = (F.rs.map (resVar F.cl)).toArray) (hndr:F.rs.Nodup)
  {args:List DT} (hlen:args.length ≤ F.n) (hnd:nodupN ((subsC body []).map (·.1)) = true) {fuel:Nat} {R:Type} (encR:R → List DT)
  {ent:Option R} (hent:∀ (goto:Nat → DSt → Option Unit) (ret:List DT → Option Unit),runD Y E F goto ret fuel (.code body []) (entryD 0 args) = bnd ent fun r=>ret (encR r))
  {r:R} (hr:ent = some r) (hZ:F.Z = [] := by rfl):APure X f (args.map DT.toT) (resT ((encR r).map DT.toT)) := by
 refine APure_of_machine (hZ := hZ) (F := F) (fuel := fuel) hY hE hm hf hb hn hrs hndr hlen hnd (L := Empty) (fun l=>l.elim) (fun l=>l.elim) encR (fun l=>l.elim) (fun l=>l.elim) (ent := ent.map .inr) (fun goto ret=>?_) ?_
 ·rw [hent,hr]; rfl
 ·rw [hr]; rfl
theorem ALend_of_straight {X:Ctx} {Y:DX} {E:Env} {F:FnD} (hY:DXOk Y X) (hE:EnvOk X E) (hm:X.P.follows .mixedOrders = true) {f:FuncId} {fn:Func} {body:Code} {z:Nat} (hf:X.P.funcs[f]? = some fn) (hb:fn.body = some body) (hn:fn.ntmps = F.n) (hrs:fn.results = (F.rs.map (resVar F.cl)).toArray) (hndr:F.rs.Nodup) (hZ:F.Z = [z]) (hcz:lookC F.cl z = none) (hzr:z ∉ F.rs)
  {args:List DT} (hz:z < args.length) (hlen:args.length ≤ F.n) (hnd:nodupN ((subsC body []).map (·.1)) = true) {fuel:Nat} {R:Type} (encR:R → List DT) (outR:R → DT)
  {ent:Option R} (hent:∀ (goto:Nat → DSt → Option Unit) (ret:List DT → Option Unit),runD Y E F goto ret fuel (.code body []) (entryD 0 args) = bnd ent fun r=>ret (encR r ++ [outR r]))
  {r:R} (hr:ent = some r) (hlx:F.rs.length = (encR r).length):ACall X f (args.map DT.toT) (resT ((encR r).map DT.toT)) (outsL z (outR r).toT 0 args.length) := by
 refine ALend_of_machine (F := F) (fuel := fuel) hY hE hm hf hb hn hrs hndr hZ hcz hzr hz hlen hnd (L := Empty) (fun l=>l.elim) (fun l=>l.elim) encR outR (fun l=>l.elim) (fun l=>l.elim) (ent := ent.map .inr) (fun goto ret=>?_) ?_ hlx
 ·rw [hent,hr]; rfl
 ·rw [hr]; rfl
def Glob.vals:Glob → List Value
 | .one t x=>valsT t x
 | .arr t l=>l.flatMap (valsT t)
def Glob.ok:Glob → Bool
 | .one t _=>t.bare && t.fine
 | .arr t _=>t.bare && t.fine
theorem Glob.spec (x:Glob) (h:x.ok = true):x.cells = x.vals.map .v ∧ ∀ y ∈ x.vals,y.oneCell' = true := by
 cases x with
 | one t y =>
  simp only [Glob.ok,Bool.and_eq_true] at h
  exact valsT_spec t y h.1 h.2
 | arr t l =>
  simp only [Glob.ok,Bool.and_eq_true] at h
  simp only [Glob.cells,Glob.vals]
  induction l with
  | nil=>exact ⟨rfl,by simp⟩
  | cons a l ih =>
   obtain ⟨p1,p2⟩ := valsT_spec t a h.1 h.2
   refine ⟨by simp only [List.flatMap_cons,List.map_append,p1,ih.1],fun y hy=>?_⟩
   simp only [List.flatMap_cons,List.mem_append] at hy
   rcases hy with hy | hy
   ·exact p2 y hy
   ·exact ih.2 y hy
def globsOk (N:Nat):List (Nat × Glob) → Bool
 | []=>true
 | (k,x) :: r=>Nat.blt k N && (x.ok && globsOk N r)
theorem globsOk_spec {N:Nat}:∀ {l:List (Nat × Glob)},globsOk N l = true → ∀ p ∈ l,p.1 < N ∧ p.2.ok = true
 | [],_,p,h=>by cases h
 | (k,x) :: r,hl,p,h=>by
  simp only [globsOk,Bool.and_eq_true,Nat.blt_eq] at hl
  rcases List.mem_cons.1 h with rfl | h2
  ·exact ⟨hl.1,hl.2.1⟩
  ·exact globsOk_spec hl.2.2 p h2
def laidG (N:Nat) (gt:List (Nat × Glob)) (w:World):Prop := N ≤ w.heap.size ∧ ∀ p ∈ gt,∀ (k:Nat) (x:Value),p.2.vals[k]? = some x → w.cell? ⟨p.1,k,none⟩ = some x
def mkCtx (P:Program) (N:Nat) (gt:List (Nat × Glob)) (h:globsOk N gt = true):Ctx where
 P := P
 N := N
 G := laidG N gt
 gl := fun g=>(look gt g).map Glob.cells
 hN := fun w h=>h.1
 hG := fun w w' hb hs hw=>⟨Nat.le_trans hw.1 hs,fun p hp k x hx=>by
  rw [cell_eq_of_block (w := w) (hb p.1 (globsOk_spec h p hp).1)]; exact hw.2 p hp k x hx⟩
 hgl := fun g cs hg=>by
  cases hl:look gt g with
  | none=>rw [hl] at hg; cases hg
  | some x =>
   rw [hl] at hg
   simp only [Option.map_some,Option.some.injEq] at hg
   subst hg
   have hm := look_mem hl
   obtain ⟨h1,h2⟩ := globsOk_spec h _ hm
   obtain ⟨h3,h4⟩ := x.spec h2
   exact ⟨h1,fun w F hw hF=>⟨x.vals,fun k y hy=>hw.2 _ hm k y hy,by rw [h3]; exact zeros_rep _,h4⟩⟩
end Go.Eng

/- What function values do: what is known of a call through one. -/
namespace Go.Eng
set_option linter.unusedVariables false
set_option linter.unusedSimpArgs false
def DynC (X:Ctx) (v:Value) (args:List T) (res:T):Prop := ∃ f,v = fnv f ∧ isFn X.P f = true ∧ APure X f args res
def Env.addD (e:List DT → Option CallRes) (E:Env):Env := fun g args=>match e args with
 | some c=>some c
 | none=>E g args
theorem EnvOk.addD {X:Ctx} {E:Env} (h:EnvOk X E) {e:List DT → Option CallRes} (he:∀ g args c,e args = some c → CallOk X g args c):EnvOk X (Env.addD e E) := by
 intro g args c hc
 unfold Env.addD at hc
 split at hc
 ·rename_i c' hq
  cases hc
  exact he g args _ hq
 ·exact h g args c hc
theorem dyn_or {X:Ctx} {v:Value} {f:FuncId} {α:Type} {x y:Option α} {r:α} {args:List T} {res:T} (h:(if fnIs v f = true then x else y) = some r) (h1:fnIs v f = true → x = some r → DynC X v args res) (h2:y = some r → DynC X v args res):DynC X v args res := by
 split at h
 ·rename_i hv; exact h1 hv h
 ·exact h2 h
end Go.Eng
