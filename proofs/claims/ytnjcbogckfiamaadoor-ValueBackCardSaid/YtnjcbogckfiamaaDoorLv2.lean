/- A part of the proof: Lv2. -/
import Derived.Test.YtnjcbogckfiamaaDoorLv1
namespace Go.Eng
open Go.Proofs Go.RowKit
set_option linter.unusedVariables false
set_option linter.unusedSimpArgs false
set_option maxRecDepth 100000
theorem ok_bytealg_abigen_runtime_cmpstring (a b:List UInt8) (r:Int) (h:bytealg_abigen_runtime_cmpstring a b = some r):AExt X0 96 ([.s .str a,.s .str b].map DT.toT) (DT.s (.int .i64) r).toT := by
 cases h
 have := AExt_compareString (X := X0) (f := 96) Tryd.func96 (by decide +kernel) (by decide +kernel) (by kernel_rfl) (by kernel_rfl) (mkS a) (mkS b)
 rw [bl_mkS,bl_mkS] at this
 exact this
noncomputable def e_bytealg_abigen_runtime_cmpstring:List DT → Option CallRes
 | [.s t0 y0,.s t1 y1]=>(castT (b := .str) y0).bind fun a=>(castT (b := .str) y1).bind fun b=>some ⟨Int,bytealg_abigen_runtime_cmpstring a b,fun r=>.s (.int .i64) r,(0:Int),false⟩
 | _=>none
noncomputable def E_bytealg_abigen_runtime_cmpstring:Env := Env.add 96 e_bytealg_abigen_runtime_cmpstring E_cmp_Compare
theorem E_bytealg_abigen_runtime_cmpstring_ok:EnvOk X0 E_bytealg_abigen_runtime_cmpstring := by
 refine EnvOk.add E_cmp_Compare_ok (fun args c h=>?_)
 unfold e_bytealg_abigen_runtime_cmpstring at h
 split at h
 ·obtain ⟨v0,⟨rfl,rfl⟩,h⟩ := castB h
  obtain ⟨v1,⟨rfl,rfl⟩,h⟩ := castB h
  cases h
  exact ⟨fun r hr=>.inr ⟨rfl,ok_bytealg_abigen_runtime_cmpstring _ _ r hr⟩,fun hb=>by cases hb⟩
 ·cases h
def F_bytealg_CompareString:FnD := { n := 8,rs := [4] }
theorem ok_bytealg_CompareString (a:(List UInt8)) (b:(List UInt8)) (r:Int) (h:bytealg_CompareString a b = some r):APure X0 80 ([.s .str a,.s .str b].map DT.toT) (resT ([.s (.int .i64) r].map DT.toT)) := by
 refine APure_of_straight (F := F_bytealg_CompareString) (fuel := 3000) (E := E_bytealg_abigen_runtime_cmpstring) Yok E_bytealg_abigen_runtime_cmpstring_ok mixed Tryd.func80 rfl rfl rfl (by decide) (args := [.s .str a,.s .str b]) (Nat.le_of_ble_eq_true rfl) (by kernel_rfl) (fun r=>[.s (.int .i64) r]) ?_ h
 intro goto ret
 unfold bytealg_CompareString
 simp only [bnd_G,bnd_ite,bnd_bind,bnd_some,-eq_self]
 kernel_rfl
noncomputable def e_bytealg_CompareString:List DT → Option CallRes
 | [.s t0 y0,.s t1 y1]=>(castT (b := .str) y0).bind fun a=>(castT (b := .str) y1).bind fun b=>some ⟨Int,bytealg_CompareString a b,fun r=>.s (.int .i64) r,(0:Int),true⟩
 | _=>none
noncomputable def E_bytealg_CompareString:Env := Env.add 80 e_bytealg_CompareString E_bytealg_abigen_runtime_cmpstring
theorem E_bytealg_CompareString_ok:EnvOk X0 E_bytealg_CompareString := by
 refine EnvOk.add E_bytealg_abigen_runtime_cmpstring_ok (fun args c h=>?_)
 unfold e_bytealg_CompareString at h
 split at h
 ·obtain ⟨v0,⟨rfl,rfl⟩,h⟩ := castB h
  obtain ⟨v1,⟨rfl,rfl⟩,h⟩ := castB h
  cases h
  exact ⟨fun r hr=>.inl ⟨by kernel_rfl,ok_bytealg_CompareString _ _ r hr⟩,fun hb=>fun r=>noSl_res (by rfl)⟩
 ·cases h
def F_strings_Compare:FnD := { n := 8,rs := [4] }
theorem ok_strings_Compare (a:(List UInt8)) (b:(List UInt8)) (r:Int) (h:strings_Compare a b = some r):APure X0 58 ([.s .str a,.s .str b].map DT.toT) (resT ([.s (.int .i64) r].map DT.toT)) := by
 refine APure_of_straight (F := F_strings_Compare) (fuel := 3000) (E := E_bytealg_CompareString) Yok E_bytealg_CompareString_ok mixed Tryd.func58 rfl rfl rfl (by decide) (args := [.s .str a,.s .str b]) (Nat.le_of_ble_eq_true rfl) (by kernel_rfl) (fun r=>[.s (.int .i64) r]) ?_ h
 intro goto ret
 unfold strings_Compare
 simp only [bnd_G,bnd_ite,bnd_bind,bnd_some,-eq_self]
 kernel_rfl
noncomputable def e_strings_Compare:List DT → Option CallRes
 | [.s t0 y0,.s t1 y1]=>(castT (b := .str) y0).bind fun a=>(castT (b := .str) y1).bind fun b=>some ⟨Int,strings_Compare a b,fun r=>.s (.int .i64) r,(0:Int),true⟩
 | _=>none
noncomputable def E_strings_Compare:Env := Env.add 58 e_strings_Compare E_bytealg_CompareString
theorem E_strings_Compare_ok:EnvOk X0 E_strings_Compare := by
 refine EnvOk.add E_bytealg_CompareString_ok (fun args c h=>?_)
 unfold e_strings_Compare at h
 split at h
 ·obtain ⟨v0,⟨rfl,rfl⟩,h⟩ := castB h
  obtain ⟨v1,⟨rfl,rfl⟩,h⟩ := castB h
  cases h
  exact ⟨fun r hr=>.inl ⟨by kernel_rfl,ok_strings_Compare _ _ r hr⟩,fun hb=>fun r=>noSl_res (by rfl)⟩
 ·cases h
def F_slices_CompareFunc:FnD := { n := 39,rs := [6],labels := [(2,[0,1,2,11,12,13])] }
def lab_slices_CompareFunc:L_slices_CompareFunc → Nat × DSt
 | .l2 s1 s2 cmp x11 x12 x13=>(2,[(0,.t (.s (.sl 1 (.sl 4 tyAtom)) s1)),(1,.t (.s (.sl 1 (.sl 4 tyAtom)) s2)),(2,.t (.s .opq cmp)),(11,.t (.s (.sl 1 (.sl 4 tyAtom)) x11)),(12,.t (.s (.int .i64) x12)),(13,.t (.s (.int .i64) x13))])
noncomputable def ed_slices_CompareFunc (dyn:Value → (List tAtom) → (List tAtom) → Option Int):List DT → Option CallRes
 | [.tup [.u,.s tv yv],.s t0 y0,.s t1 y1]=>(castT (b := .opq) yv).bind fun v_=>(castT (b := (.sl 4 tyAtom)) y0).bind fun a0=>(castT (b := (.sl 4 tyAtom)) y1).bind fun a1=>some ⟨Int,dyn v_ a0 a1,fun r_=>(.s (.int .i64) r_:DT),(0:Int),true⟩
 | _=>none
theorem ed_slices_CompareFunc_ok (dyn:Value → (List tAtom) → (List tAtom) → Option Int) (hd:∀ (v_:Value) (a0:(List tAtom)) (a1:(List tAtom)) (r_:Int),dyn v_ a0 a1 = some r_ → DynC X0 v_ (([.s (.sl 4 tyAtom) a0,.s (.sl 4 tyAtom) a1]:List DT).map DT.toT) (.s (.int .i64) r_:DT).toT):∀ (g:FuncId) (args:List DT) (c:CallRes),ed_slices_CompareFunc dyn args = some c → CallOk X0 g args c := by
 intro g args c h
 unfold ed_slices_CompareFunc at h
 split at h
 ·obtain ⟨vv,⟨rfl,rfl⟩,h⟩ := castB h
  obtain ⟨v0,⟨rfl,rfl⟩,h⟩ := castB h
  obtain ⟨v1,⟨rfl,rfl⟩,h⟩ := castB h
  cases h
  exact ⟨fun r hr=>hd _ _ _ r hr,fun hb=>fun r=>noSl_res (by rfl)⟩
 ·cases h
theorem ok_slices_CompareFunc (dyn:Value → (List tAtom) → (List tAtom) → Option Int) (hd:∀ (v_:Value) (a0:(List tAtom)) (a1:(List tAtom)) (r_:Int),dyn v_ a0 a1 = some r_ → DynC X0 v_ (([.s (.sl 4 tyAtom) a0,.s (.sl 4 tyAtom) a1]:List DT).map DT.toT) (.s (.int .i64) r_:DT).toT) (s1:(List (List tAtom))) (s2:(List (List tAtom))) (cmp:Value) (r:Int) (h:slices_CompareFunc dyn s1 s2 cmp = some r):APure X0 59 ([.s (.sl 1 (.sl 4 tyAtom)) s1,.s (.sl 1 (.sl 4 tyAtom)) s2,.s .opq cmp].map DT.toT) (resT ([.s (.int .i64) r].map DT.toT)) := by
 unfold slices_CompareFunc at h
 refine APure_of_machine (F := F_slices_CompareFunc) (fuel := 3000) (E := (Env.addD (ed_slices_CompareFunc dyn) E_strings_Compare)) Yok (EnvOk.addD E_strings_Compare_ok (ed_slices_CompareFunc_ok dyn hd)) mixed Tryd.func59 rfl rfl rfl (by decide) (args := [.s (.sl 1 (.sl 4 tyAtom)) s1,.s (.sl 1 (.sl 4 tyAtom)) s2,.s .opq cmp]) (Nat.le_of_ble_eq_true rfl) (by kernel_rfl) lab_slices_CompareFunc (st_slices_CompareFunc dyn) (fun r=>[.s (.int .i64) r]) ?_ ?_ ?_ h
 ·intro l; cases l
  ·exact WF_list ⟨trivial,trivial,trivial,trivial,trivial,trivial,trivial⟩
 ·intro l goto ret; cases l with
  | l2 =>
   show _ = push (sg_slices_CompareFunc_2 ..) _ _
   unfold sg_slices_CompareFunc_2
   simp only [push_G,push_ite,push_bind,push_inl,push_inr,-eq_self]
   kernel_rfl
 ·intro goto ret
  show _ = push (en_slices_CompareFunc ..) _ _
  unfold en_slices_CompareFunc
  simp only [push_G,push_ite,push_bind,push_inl,push_inr,-eq_self]
  kernel_rfl
noncomputable def e_slices_CompareFunc (dyn:Value → (List tAtom) → (List tAtom) → Option Int):List DT → Option CallRes
 | [.s t0 y0,.s t1 y1,.s t2 y2]=>(castT (b := (.sl 1 (.sl 4 tyAtom))) y0).bind fun s1=>(castT (b := (.sl 1 (.sl 4 tyAtom))) y1).bind fun s2=>(castT (b := .opq) y2).bind fun cmp=>some ⟨Int,slices_CompareFunc dyn s1 s2 cmp,fun r=>.s (.int .i64) r,(0:Int),true⟩
 | _=>none
theorem he_slices_CompareFunc (dyn:Value → (List tAtom) → (List tAtom) → Option Int) (hd:∀ (v_:Value) (a0:(List tAtom)) (a1:(List tAtom)) (r_:Int),dyn v_ a0 a1 = some r_ → DynC X0 v_ (([.s (.sl 4 tyAtom) a0,.s (.sl 4 tyAtom) a1]:List DT).map DT.toT) (.s (.int .i64) r_:DT).toT):∀ (args:List DT) (c:CallRes),e_slices_CompareFunc dyn args = some c → CallOk X0 59 args c := by
 intro args c h
 unfold e_slices_CompareFunc at h
 split at h
 ·replace h := castB h; obtain ⟨v0,⟨rfl,rfl⟩,h⟩ := h
  replace h := castB h; obtain ⟨v1,⟨rfl,rfl⟩,h⟩ := h
  replace h := castB h; obtain ⟨v2,⟨rfl,rfl⟩,h⟩ := h
  cases h
  exact ⟨fun r hr=>.inl ⟨by kernel_rfl,ok_slices_CompareFunc dyn hd _ _ _ r hr⟩,fun hb=>fun r=>noSl_res (by rfl)⟩
 ·cases h
def F_value_compare:FnD := { n := 45,rs := [4] }
noncomputable def e_value_compare_n (fu_:Nat):List DT → Option CallRes
 | [.s t0 y0,.s t1 y1]=>(castT (b := (.sl 4 tyAtom)) y0).bind fun a=>(castT (b := (.sl 4 tyAtom)) y1).bind fun b=>some ⟨Int,value_compare_n fu_ a b,fun r=>.s (.int .i64) r,(0:Int),true⟩
 | _=>none
noncomputable def E_value_compare_n (fu_:Nat):Env := Env.add 38 (e_value_compare_n fu_) E_strings_Compare
theorem E_value_compare_n_ok (fu_:Nat) (ih:∀ (a:(List tAtom)) (b:(List tAtom)) (r:Int),value_compare_n fu_ a b = some r → APure X0 38 ([.s (.sl 4 tyAtom) a,.s (.sl 4 tyAtom) b].map DT.toT) (resT ([.s (.int .i64) r].map DT.toT))):EnvOk X0 (E_value_compare_n fu_) := by
 refine EnvOk.add E_strings_Compare_ok (fun args c h=>?_)
 unfold e_value_compare_n at h
 split at h
 ·replace h := castB h; obtain ⟨v0,⟨rfl,rfl⟩,h⟩ := h
  replace h := castB h; obtain ⟨v1,⟨rfl,rfl⟩,h⟩ := h
  cases h
  exact ⟨fun r hr=>.inl ⟨by kernel_rfl,ih _ _ r hr⟩,fun hb=>fun r=>noSl_res (by rfl)⟩
 ·cases h
theorem ok_value_compare_n:∀ (fu_:Nat) (a:(List tAtom)) (b:(List tAtom)) (r:Int) (h:value_compare_n fu_ a b = some r),APure X0 38 ([.s (.sl 4 tyAtom) a,.s (.sl 4 tyAtom) b].map DT.toT) (resT ([.s (.int .i64) r].map DT.toT))
 | 0,a,b,r,h=>by unfold value_compare_n at h; cases h
 | fu_ + 1,a,b,r,h=>by
  unfold value_compare_n at h
  refine APure_of_straight (F := F_value_compare) (fuel := 3000) (E := (Env.add 59 (e_slices_CompareFunc (fun v_ a0 a1=>if fnIs v_ 38 = true then (value_compare_n fu_) a0 a1 else none)) (E_value_compare_n fu_))) Yok (EnvOk.add (E_value_compare_n_ok fu_ (ok_value_compare_n fu_)) (he_slices_CompareFunc (fun v_ a0 a1=>if fnIs v_ 38 = true then (value_compare_n fu_) a0 a1 else none) (fun v_ a0 a1 r_ h=>dyn_or h (fun hv hx=>⟨38,fnIs_spec hv,by kernel_rfl,ok_value_compare_n fu_ a0 a1 r_ hx⟩) (fun h=>by cases h)))) mixed Tryd.func38 rfl rfl rfl (by decide) (args := [.s (.sl 4 tyAtom) a,.s (.sl 4 tyAtom) b]) (Nat.le_of_ble_eq_true rfl) (by kernel_rfl) (fun r=>[.s (.int .i64) r]) ?_ h
  intro goto ret
  unfold en_value_compare
  simp only [bnd_G,bnd_ite,bnd_bind,bnd_some,-eq_self]
  kernel_rfl
theorem ok_value_compare (a:(List tAtom)) (b:(List tAtom)) (r:Int) (h:value_compare a b = some r):APure X0 38 ([.s (.sl 4 tyAtom) a,.s (.sl 4 tyAtom) b].map DT.toT) (resT ([.s (.int .i64) r].map DT.toT)) := ok_value_compare_n 64 a b r h
noncomputable def e_value_compare:List DT → Option CallRes
 | [.s t0 y0,.s t1 y1]=>(castT (b := (.sl 4 tyAtom)) y0).bind fun a=>(castT (b := (.sl 4 tyAtom)) y1).bind fun b=>some ⟨Int,value_compare a b,fun r=>.s (.int .i64) r,(0:Int),true⟩
 | _=>none
noncomputable def E_value_compare:Env := Env.add 38 (e_value_compare) E_strings_Compare
theorem E_value_compare_ok:EnvOk X0 (E_value_compare) := by
 refine EnvOk.add E_strings_Compare_ok (fun args c h=>?_)
 unfold e_value_compare at h
 split at h
 ·replace h := castB h; obtain ⟨v0,⟨rfl,rfl⟩,h⟩ := h
  replace h := castB h; obtain ⟨v1,⟨rfl,rfl⟩,h⟩ := h
  cases h
  exact ⟨fun r hr=>.inl ⟨by kernel_rfl,ok_value_compare _ _ r hr⟩,fun hb=>fun r=>noSl_res (by rfl)⟩
 ·cases h
def F_value_way:FnD := { n := 23,rs := [2,3] }
theorem ok_value_way (kind:Int) (r:(Int × Value)) (h:value_way kind = some r):APure X0 54 ([.s (.int .i64) kind].map DT.toT) (resT ([.s (.int .i64) r.1,.s .opq r.2].map DT.toT)) := by
 refine APure_of_straight (F := F_value_way) (fuel := 3000) (E := E_value_compare) Yok E_value_compare_ok mixed Tryd.func54 rfl rfl rfl (by decide) (args := [.s (.int .i64) kind]) (Nat.le_of_ble_eq_true rfl) (by kernel_rfl) (fun r=>[.s (.int .i64) r.1,.s .opq r.2]) ?_ h
 intro goto ret
 unfold value_way
 simp only [bnd_G,bnd_ite,bnd_bind,bnd_some,-eq_self]
 kernel_rfl
noncomputable def e_value_way:List DT → Option CallRes
 | [.s t0 y0]=>(castT (b := (.int .i64)) y0).bind fun kind=>some ⟨(Int × Value),value_way kind,fun r=>.tup [.s (.int .i64) r.1,.s .opq r.2],((0:Int),Value.nilFunc),true⟩
 | _=>none
noncomputable def E_value_way:Env := Env.add 54 e_value_way E_value_compare
theorem E_value_way_ok:EnvOk X0 E_value_way := by
 refine EnvOk.add E_value_compare_ok (fun args c h=>?_)
 unfold e_value_way at h
 split at h
 ·obtain ⟨v0,⟨rfl,rfl⟩,h⟩ := castB h
  cases h
  exact ⟨fun r hr=>.inl ⟨by kernel_rfl,ok_value_way _ r hr⟩,fun hb=>fun r=>noSl_res (by rfl)⟩
 ·cases h
def F_value_Do:FnD := { n := 47,rs := [4,5,6] }
theorem dyn_value_Do_ok:∀ (v_:Value) (a0:(List (List tAtom))) (r_:((List tAtom) × Bool)),dyn_value_Do v_ a0 = some r_ → DynC X0 v_ (([.s (.sl 1 (.sl 4 tyAtom)) a0]:List DT).map DT.toT) (.tup [.own 50 tyAtom r_.1,.s .bool r_.2]:DT).toT := by
 intro v_ a0 r_ h
 unfold dyn_value_Do at h
 refine dyn_or h (fun hv hx=>⟨69,fnIs_spec hv,by kernel_rfl,ok_value_args_add a0 r_ hx⟩) (fun h=>?_)
 cases h
noncomputable def ed_value_Do:List DT → Option CallRes
 | [.tup [.u,.s tv yv],.s t0 y0]=>(castT (b := .opq) yv).bind fun v_=>(castT (b := (.sl 1 (.sl 4 tyAtom))) y0).bind fun a0=>some ⟨((List tAtom) × Bool),dyn_value_Do v_ a0,fun r_=>(.tup [.own 50 tyAtom r_.1,.s .bool r_.2]:DT),(([]:List tAtom),false),true⟩
 | _=>none
theorem ed_value_Do_ok:∀ (g:FuncId) (args:List DT) (c:CallRes),ed_value_Do args = some c → CallOk X0 g args c := by
 intro g args c h
 unfold ed_value_Do at h
 split at h
 ·obtain ⟨vv,⟨rfl,rfl⟩,h⟩ := castB h
  obtain ⟨v0,⟨rfl,rfl⟩,h⟩ := castB h
  cases h
  exact ⟨fun r hr=>dyn_value_Do_ok _ _ r hr,fun hb=>fun r=>noSl_res (by rfl)⟩
 ·cases h
theorem ok_value_Do (kind:Int) (l:(List (List tAtom))) (r:((List tAtom) × Bool × Int)) (h:value_Do kind l = some r):APure X0 29 ([.s (.int .i64) kind,.s (.sl 1 (.sl 4 tyAtom)) l].map DT.toT) (resT ([.own 50 tyAtom r.1,.s .bool r.2.1,.s (.int .i64) r.2.2].map DT.toT)) := by
 unfold value_Do at h
 refine APure_of_straight (F := F_value_Do) (fuel := 3000) (E := (Env.addD (ed_value_Do) E_value_way)) Yok (EnvOk.addD E_value_way_ok (ed_value_Do_ok)) mixed Tryd.func29 rfl rfl rfl (by decide) (args := [.s (.int .i64) kind,.s (.sl 1 (.sl 4 tyAtom)) l]) (Nat.le_of_ble_eq_true rfl) (by kernel_rfl) (fun r=>[.own 50 tyAtom r.1,.s .bool r.2.1,.s (.int .i64) r.2.2]) ?_ h
 intro goto ret
 unfold en_value_Do
 simp only [bnd_G,bnd_ite,bnd_bind,bnd_some,-eq_self]
 kernel_rfl
noncomputable def e_value_Do:List DT → Option CallRes
 | [.s t0 y0,.s t1 y1]=>(castT (b := (.int .i64)) y0).bind fun kind=>(castT (b := (.sl 1 (.sl 4 tyAtom))) y1).bind fun l=>some ⟨((List tAtom) × Bool × Int),value_Do kind l,fun r=>.tup [.own 50 tyAtom r.1,.s .bool r.2.1,.s (.int .i64) r.2.2],(([]:List tAtom),false,(0:Int)),true⟩
 | _=>none
noncomputable def E_value_Do:Env := Env.add 29 (e_value_Do) E_value_way
theorem E_value_Do_ok:EnvOk X0 (E_value_Do) := by
 refine EnvOk.add E_value_way_ok (fun args c h=>?_)
 unfold e_value_Do at h
 split at h
 ·replace h := castB h; obtain ⟨v0,⟨rfl,rfl⟩,h⟩ := h
  replace h := castB h; obtain ⟨v1,⟨rfl,rfl⟩,h⟩ := h
  cases h
  exact ⟨fun r hr=>.inl ⟨by kernel_rfl,ok_value_Do _ _ r hr⟩,fun hb=>fun r=>noSl_res (by rfl)⟩
 ·cases h
def F_law07_works:FnD := { n := 53,rs := [0] }
theorem ok_law07_works  (r:Bool) (h:law07_works  = some r):APure X0 13 ([].map DT.toT) (resT ([.s .bool r].map DT.toT)) := by
 refine APure_of_straight (F := F_law07_works) (fuel := 3000) (E := E_value_Do) Yok E_value_Do_ok mixed Tryd.func13 rfl rfl rfl (by decide) (args := []) (Nat.le_of_ble_eq_true rfl) (by kernel_rfl) (fun r=>[.s .bool r]) ?_ h
 intro goto ret
 unfold law07_works
 simp only [bnd_G,bnd_ite,bnd_bind,bnd_some,-eq_self]
 kernel_rfl
noncomputable def e_law07_works:List DT → Option CallRes
 | []=>some ⟨Bool,law07_works ,fun r=>.s .bool r,false,true⟩
 | _=>none
noncomputable def E_law07_works:Env := Env.add 13 e_law07_works E_value_Do
theorem E_law07_works_ok:EnvOk X0 E_law07_works := by
 refine EnvOk.add E_value_Do_ok (fun args c h=>?_)
 unfold e_law07_works at h
 split at h
 ·cases h
  exact ⟨fun r hr=>.inl ⟨by kernel_rfl,ok_law07_works r hr⟩,fun hb=>fun r=>noSl_res (by rfl)⟩
 ·cases h
def F_value_Compare:FnD := { n := 21,rs := [4,5] }
theorem ok_value_Compare (a:(List tAtom)) (b:(List tAtom)) (r:(Int × Int)) (h:value_Compare a b = some r):APure X0 31 ([.s (.sl 4 tyAtom) a,.s (.sl 4 tyAtom) b].map DT.toT) (resT ([.s (.int .i64) r.1,.s (.int .i64) r.2].map DT.toT)) := by
 refine APure_of_straight (F := F_value_Compare) (fuel := 3000) (E := E_law07_works) Yok E_law07_works_ok mixed Tryd.func31 rfl rfl rfl (by decide) (args := [.s (.sl 4 tyAtom) a,.s (.sl 4 tyAtom) b]) (Nat.le_of_ble_eq_true rfl) (by kernel_rfl) (fun r=>[.s (.int .i64) r.1,.s (.int .i64) r.2]) ?_ h
 intro goto ret
 unfold value_Compare
 simp only [bnd_G,bnd_ite,bnd_bind,bnd_some,-eq_self]
 kernel_rfl
noncomputable def e_value_Compare:List DT → Option CallRes
 | [.s t0 y0,.s t1 y1]=>(castT (b := (.sl 4 tyAtom)) y0).bind fun a=>(castT (b := (.sl 4 tyAtom)) y1).bind fun b=>some ⟨(Int × Int),value_Compare a b,fun r=>.tup [.s (.int .i64) r.1,.s (.int .i64) r.2],((0:Int),(0:Int)),true⟩
 | _=>none
noncomputable def E_value_Compare:Env := Env.add 31 e_value_Compare E_law07_works
theorem E_value_Compare_ok:EnvOk X0 E_value_Compare := by
 refine EnvOk.add E_law07_works_ok (fun args c h=>?_)
 unfold e_value_Compare at h
 split at h
 ·obtain ⟨v0,⟨rfl,rfl⟩,h⟩ := castB h
  obtain ⟨v1,⟨rfl,rfl⟩,h⟩ := castB h
  cases h
  exact ⟨fun r hr=>.inl ⟨by kernel_rfl,ok_value_Compare _ _ r hr⟩,fun hb=>fun r=>noSl_res (by rfl)⟩
 ·cases h
def F_law07_compare:FnD := { n := 25,rs := [4,5] }
theorem ok_law07_compare (a:(List tAtom)) (b:(List tAtom)) (r:(Int × Bool)) (h:law07_compare a b = some r):APure X0 18 ([.s (.sl 4 tyAtom) a,.s (.sl 4 tyAtom) b].map DT.toT) (resT ([.s (.int .i64) r.1,.s .bool r.2].map DT.toT)) := by
 refine APure_of_straight (F := F_law07_compare) (fuel := 3000) (E := E_value_Compare) Yok E_value_Compare_ok mixed Tryd.func18 rfl rfl rfl (by decide) (args := [.s (.sl 4 tyAtom) a,.s (.sl 4 tyAtom) b]) (Nat.le_of_ble_eq_true rfl) (by kernel_rfl) (fun r=>[.s (.int .i64) r.1,.s .bool r.2]) ?_ h
 intro goto ret
 unfold law07_compare
 simp only [bnd_G,bnd_ite,bnd_bind,bnd_some,-eq_self]
 kernel_rfl
noncomputable def e_law07_compare:List DT → Option CallRes
 | [.s t0 y0,.s t1 y1]=>(castT (b := (.sl 4 tyAtom)) y0).bind fun a=>(castT (b := (.sl 4 tyAtom)) y1).bind fun b=>some ⟨(Int × Bool),law07_compare a b,fun r=>.tup [.s (.int .i64) r.1,.s .bool r.2],((0:Int),false),true⟩
 | _=>none
noncomputable def E_law07_compare:Env := Env.add 18 e_law07_compare E_value_Compare
theorem E_law07_compare_ok:EnvOk X0 E_law07_compare := by
 refine EnvOk.add E_value_Compare_ok (fun args c h=>?_)
 unfold e_law07_compare at h
 split at h
 ·obtain ⟨v0,⟨rfl,rfl⟩,h⟩ := castB h
  obtain ⟨v1,⟨rfl,rfl⟩,h⟩ := castB h
  cases h
  exact ⟨fun r hr=>.inl ⟨by kernel_rfl,ok_law07_compare _ _ r hr⟩,fun hb=>fun r=>noSl_res (by rfl)⟩
 ·cases h
def F_value_Members:FnD := { n := 33,rs := [2,3],labels := [(8,[5,19,20])] }
def Y_value_Members:DX := { Y0 with o2 := [2,5] }
theorem Yok_value_Members:DXOk Y_value_Members X0 := ⟨Yok.tab,Yok.gl⟩
def lab_value_Members:L_value_Members → Nat × DSt
 | .l8 out x19 x20=>(8,[(5,.t (.own2 23 50 tyAtom out)),(19,.t (.s (.int .i64) x19)),(20,.t (.s (.int .i64) x20))])
theorem ok_value_Members (v:(List tAtom)) (r:((List (Bool × List tAtom)) × Int)) (h:value_Members v = some r):APure X0 19 ([.s (.sl 4 tyAtom) v].map DT.toT) (resT ([.own2 23 50 tyAtom r.1,.s (.int .i64) r.2].map DT.toT)) := by
 refine APure_of_machine (F := F_value_Members) (fuel := 3000) (E := E_law07_compare) Yok_value_Members E_law07_compare_ok mixed Tryd.func19 rfl rfl rfl (by decide) (args := [.s (.sl 4 tyAtom) v]) (Nat.le_of_ble_eq_true rfl) (by kernel_rfl) lab_value_Members st_value_Members (fun r=>[.own2 23 50 tyAtom r.1,.s (.int .i64) r.2]) ?_ ?_ ?_ h
 ·intro l; cases l
  ·exact WF_list ⟨trivial,trivial,trivial,trivial⟩
 ·intro l goto ret; cases l with
  | l8 =>
   show _ = push (sg_value_Members_8 ..) _ _
   unfold sg_value_Members_8
   simp only [push_G,push_ite,push_bind,push_inl,push_inr,-eq_self]
   kernel_rfl
 ·intro goto ret
  show _ = push (en_value_Members ..) _ _
  unfold en_value_Members
  simp only [push_G,push_ite,push_bind,push_inl,push_inr,-eq_self]
  kernel_rfl
noncomputable def e_value_Members:List DT → Option CallRes
 | [.s t0 y0]=>(castT (b := (.sl 4 tyAtom)) y0).bind fun v=>some ⟨((List (Bool × List tAtom)) × Int),value_Members v,fun r=>.tup [.own2 23 50 tyAtom r.1,.s (.int .i64) r.2],([],(0:Int)),false⟩
 | _=>none
noncomputable def E_value_Members:Env := Env.add 19 e_value_Members E_law07_compare
theorem E_value_Members_ok:EnvOk X0 E_value_Members := by
 refine EnvOk.add E_law07_compare_ok (fun args c h=>?_)
 unfold e_value_Members at h
 split at h
 ·obtain ⟨v0,⟨rfl,rfl⟩,h⟩ := castB h
  cases h
  exact ⟨fun r hr=>.inl ⟨by kernel_rfl,ok_value_Members _ r hr⟩,fun hb=>by cases hb⟩
 ·cases h
def F_slices_insertionSortCmpFunc:FnD := { n := 53,rs := [],Z := [0],labels := [(1,[0,1,2,3,8]),(4,[0,1,2,3,8,9])] }
def Y_slices_insertionSortCmpFunc:DX := { Y0 with o2 := [46,50] }
theorem Yok_slices_insertionSortCmpFunc:DXOk Y_slices_insertionSortCmpFunc X0 := ⟨Yok.tab,Yok.gl⟩
def lab_slices_insertionSortCmpFunc:L_slices_insertionSortCmpFunc → Nat × DSt
 | .l1 data a b cmp i=>(1,[(0,.t (.own2 23 50 tyAtom data)),(1,.t (.s (.int .i64) a)),(2,.t (.s (.int .i64) b)),(3,.t (.s .opq cmp)),(8,.t (.s (.int .i64) i))])
 | .l4 data a b cmp i j=>(4,[(0,.t (.own2 23 50 tyAtom data)),(1,.t (.s (.int .i64) a)),(2,.t (.s (.int .i64) b)),(3,.t (.s .opq cmp)),(8,.t (.s (.int .i64) i)),(9,.t (.s (.int .i64) j))])
theorem dyn_slices_insertionSortCmpFunc_ok:∀ (v_:Value) (a0:(List tAtom)) (a1:(List tAtom)) (r_:Int),dyn_slices_insertionSortCmpFunc v_ a0 a1 = some r_ → DynC X0 v_ (([.s (.sl 4 tyAtom) a0,.s (.sl 4 tyAtom) a1]:List DT).map DT.toT) (.s (.int .i64) r_:DT).toT := by
 intro v_ a0 a1 r_ h
 unfold dyn_slices_insertionSortCmpFunc at h
 refine dyn_or h (fun hv hx=>⟨38,fnIs_spec hv,by kernel_rfl,ok_value_compare a0 a1 r_ hx⟩) (fun h=>?_)
 cases h
noncomputable def ed_slices_insertionSortCmpFunc:List DT → Option CallRes
 | [.tup [.u,.s tv yv],.s t0 y0,.s t1 y1]=>(castT (b := .opq) yv).bind fun v_=>(castT (b := (.sl 4 tyAtom)) y0).bind fun a0=>(castT (b := (.sl 4 tyAtom)) y1).bind fun a1=>some ⟨Int,dyn_slices_insertionSortCmpFunc v_ a0 a1,fun r_=>(.s (.int .i64) r_:DT),(0:Int),true⟩
 | _=>none
theorem ed_slices_insertionSortCmpFunc_ok:∀ (g:FuncId) (args:List DT) (c:CallRes),ed_slices_insertionSortCmpFunc args = some c → CallOk X0 g args c := by
 intro g args c h
 unfold ed_slices_insertionSortCmpFunc at h
 split at h
 ·obtain ⟨vv,⟨rfl,rfl⟩,h⟩ := castB h
  obtain ⟨v0,⟨rfl,rfl⟩,h⟩ := castB h
  obtain ⟨v1,⟨rfl,rfl⟩,h⟩ := castB h
  cases h
  exact ⟨fun r hr=>dyn_slices_insertionSortCmpFunc_ok _ _ _ r hr,fun hb=>fun r=>noSl_res (by rfl)⟩
 ·cases h
theorem ok_slices_insertionSortCmpFunc (data:(List (Bool × List tAtom))) (a:Int) (b:Int) (cmp:Value) (r:(List (Bool × List tAtom))) (h:slices_insertionSortCmpFunc data a b cmp = some r):ACall X0 77 ([.own2 23 50 tyAtom data,.s (.int .i64) a,.s (.int .i64) b,.s .opq cmp].map DT.toT) (resT ([].map DT.toT)) (outsL 0 (.own2 23 50 tyAtom r:DT).toT 0 4) := by
 unfold slices_insertionSortCmpFunc at h
 refine ALend_of_machine (F := F_slices_insertionSortCmpFunc) (fuel := 3000) (E := (Env.addD (ed_slices_insertionSortCmpFunc) E_value_Members)) (z := 0) Yok_slices_insertionSortCmpFunc (EnvOk.addD E_value_Members_ok (ed_slices_insertionSortCmpFunc_ok)) mixed Tryd.func77 rfl rfl rfl (by decide) rfl rfl (by decide) (args := [.own2 23 50 tyAtom data,.s (.int .i64) a,.s (.int .i64) b,.s .opq cmp]) (Nat.le_of_ble_eq_true rfl) (Nat.le_of_ble_eq_true rfl) (by kernel_rfl) lab_slices_insertionSortCmpFunc (st_slices_insertionSortCmpFunc) (fun r=>[]) (fun r=>.own2 23 50 tyAtom r) ?_ ?_ ?_ h rfl
 ·intro l; cases l
  ·exact WF_list ⟨trivial,trivial,trivial,trivial,trivial,trivial⟩
  ·exact WF_list ⟨trivial,trivial,trivial,trivial,trivial,trivial,trivial⟩
 ·intro l goto ret; cases l with
  | l1 =>
   show _ = push (sg_slices_insertionSortCmpFunc_1 ..) _ _
   unfold sg_slices_insertionSortCmpFunc_1
   simp only [push_G,push_ite,push_bind,push_inl,push_inr,-eq_self]
   kernel_rfl
  | l4 =>
   show _ = push (sg_slices_insertionSortCmpFunc_4 ..) _ _
   unfold sg_slices_insertionSortCmpFunc_4
   simp only [push_G,push_ite,push_bind,push_inl,push_inr,-eq_self]
   kernel_rfl
 ·intro goto ret
  show _ = push (en_slices_insertionSortCmpFunc ..) _ _
  unfold en_slices_insertionSortCmpFunc
  simp only [push_G,push_ite,push_bind,push_inl,push_inr,-eq_self]
  kernel_rfl
noncomputable def e_slices_insertionSortCmpFunc:List DT → Option CallRes
 | [.tup [.u],.own2 e0 f0 t0 y0,.s t1 y1,.s t2 y2,.s t3 y3]=>(castL (a := t0) (b := tyAtom) y0).bind fun data=>(beqO e0 23).bind fun _=>(beqO f0 50).bind fun _=>(castT (b := (.int .i64)) y1).bind fun a=>(castT (b := (.int .i64)) y2).bind fun b=>(castT (b := .opq) y3).bind fun cmp=>some ⟨(List (Bool × List tAtom)),allR (slices_insertionSortCmpFunc data a b cmp),fun r=>.tup [.tup [],.own2 23 50 tyAtom r],[],false⟩
 | _=>none
noncomputable def E_slices_insertionSortCmpFunc:Env := Env.add2 77 (e_slices_insertionSortCmpFunc) E_value_Members
theorem E_slices_insertionSortCmpFunc_ok:EnvOk X0 (E_slices_insertionSortCmpFunc) := by
 refine EnvOk.add2 E_value_Members_ok (fun args c h=>?_)
 unfold e_slices_insertionSortCmpFunc at h
 split at h
 ·replace h := Option.bind_eq_some_iff.1 h
  obtain ⟨v0,c0,h⟩ := h
  obtain ⟨rfl,rfl⟩ := castL_some c0
  replace h := Option.bind_eq_some_iff.1 h
  obtain ⟨u0,b0,h⟩ := h
  obtain rfl := beqO_some b0
  replace h := Option.bind_eq_some_iff.1 h
  obtain ⟨z0,d0,h⟩ := h
  obtain rfl := beqO_some d0
  replace h := castB h; obtain ⟨v1,⟨rfl,rfl⟩,h⟩ := h
  replace h := castB h; obtain ⟨v2,⟨rfl,rfl⟩,h⟩ := h
  replace h := castB h; obtain ⟨v3,⟨rfl,rfl⟩,h⟩ := h
  cases h
  intro r hr res out hwr
  obtain ⟨hr,ha⟩ := allR_some hr
  cases hwr
  exact ⟨by kernel_rfl,ok_slices_insertionSortCmpFunc _ _ _ _ r hr,noSl_res (d := .tup []) (by rfl),noSl_own2 ha (by rfl),rfl⟩
 ·cases h
def F_slices_swapRangeCmpFunc:FnD := { n := 38,rs := [],Z := [0],labels := [(1,[0,1,2,3,10])] }
def Y_slices_swapRangeCmpFunc:DX := { Y0 with o2 := [29,35] }
theorem Yok_slices_swapRangeCmpFunc:DXOk Y_slices_swapRangeCmpFunc X0 := ⟨Yok.tab,Yok.gl⟩
def lab_slices_swapRangeCmpFunc:L_slices_swapRangeCmpFunc → Nat × DSt
 | .l1 data a b n i=>(1,[(0,.t (.own2 23 50 tyAtom data)),(1,.t (.s (.int .i64) a)),(2,.t (.s (.int .i64) b)),(3,.t (.s (.int .i64) n)),(10,.t (.s (.int .i64) i))])
theorem ok_slices_swapRangeCmpFunc (data:(List (Bool × List tAtom))) (a:Int) (b:Int) (n:Int) (cmp:Value) (r:(List (Bool × List tAtom))) (h:slices_swapRangeCmpFunc data a b n cmp = some r):ACall X0 106 ([.own2 23 50 tyAtom data,.s (.int .i64) a,.s (.int .i64) b,.s (.int .i64) n,.s .opq cmp].map DT.toT) (resT ([].map DT.toT)) (outsL 0 (.own2 23 50 tyAtom r:DT).toT 0 5) := by
 unfold slices_swapRangeCmpFunc at h
 refine ALend_of_machine (F := F_slices_swapRangeCmpFunc) (fuel := 3000) (E := E_slices_insertionSortCmpFunc) (z := 0) Yok_slices_swapRangeCmpFunc E_slices_insertionSortCmpFunc_ok mixed Tryd.func106 rfl rfl rfl (by decide) rfl rfl (by decide) (args := [.own2 23 50 tyAtom data,.s (.int .i64) a,.s (.int .i64) b,.s (.int .i64) n,.s .opq cmp]) (Nat.le_of_ble_eq_true rfl) (Nat.le_of_ble_eq_true rfl) (by kernel_rfl) lab_slices_swapRangeCmpFunc (st_slices_swapRangeCmpFunc) (fun r=>[]) (fun r=>.own2 23 50 tyAtom r) ?_ ?_ ?_ h rfl
 ·intro l; cases l
  ·exact WF_list ⟨trivial,trivial,trivial,trivial,trivial,trivial⟩
 ·intro l goto ret; cases l with
  | l1 =>
   show _ = push (sg_slices_swapRangeCmpFunc_1 ..) _ _
   unfold sg_slices_swapRangeCmpFunc_1
   simp only [push_G,push_ite,push_bind,push_inl,push_inr,-eq_self]
   kernel_rfl
 ·intro goto ret
  show _ = push (en_slices_swapRangeCmpFunc ..) _ _
  unfold en_slices_swapRangeCmpFunc
  simp only [push_G,push_ite,push_bind,push_inl,push_inr,-eq_self]
  kernel_rfl
noncomputable def e_slices_swapRangeCmpFunc:List DT → Option CallRes
 | [.tup [.u],.own2 e0 f0 t0 y0,.s t1 y1,.s t2 y2,.s t3 y3,.s t4 y4]=>(castL (a := t0) (b := tyAtom) y0).bind fun data=>(beqO e0 23).bind fun _=>(beqO f0 50).bind fun _=>(castT (b := (.int .i64)) y1).bind fun a=>(castT (b := (.int .i64)) y2).bind fun b=>(castT (b := (.int .i64)) y3).bind fun n=>(castT (b := .opq) y4).bind fun cmp=>some ⟨(List (Bool × List tAtom)),allR (slices_swapRangeCmpFunc data a b n cmp),fun r=>.tup [.tup [],.own2 23 50 tyAtom r],[],false⟩
 | _=>none
noncomputable def E_slices_swapRangeCmpFunc:Env := Env.add2 106 (e_slices_swapRangeCmpFunc) E_slices_insertionSortCmpFunc
theorem E_slices_swapRangeCmpFunc_ok:EnvOk X0 (E_slices_swapRangeCmpFunc) := by
 refine EnvOk.add2 E_slices_insertionSortCmpFunc_ok (fun args c h=>?_)
 unfold e_slices_swapRangeCmpFunc at h
 split at h
 ·replace h := Option.bind_eq_some_iff.1 h
  obtain ⟨v0,c0,h⟩ := h
  obtain ⟨rfl,rfl⟩ := castL_some c0
  replace h := Option.bind_eq_some_iff.1 h
  obtain ⟨u0,b0,h⟩ := h
  obtain rfl := beqO_some b0
  replace h := Option.bind_eq_some_iff.1 h
  obtain ⟨z0,d0,h⟩ := h
  obtain rfl := beqO_some d0
  replace h := castB h; obtain ⟨v1,⟨rfl,rfl⟩,h⟩ := h
  replace h := castB h; obtain ⟨v2,⟨rfl,rfl⟩,h⟩ := h
  replace h := castB h; obtain ⟨v3,⟨rfl,rfl⟩,h⟩ := h
  replace h := castB h; obtain ⟨v4,⟨rfl,rfl⟩,h⟩ := h
  cases h
  intro r hr res out hwr
  obtain ⟨hr,ha⟩ := allR_some hr
  cases hwr
  exact ⟨by kernel_rfl,ok_slices_swapRangeCmpFunc _ _ _ _ _ r hr,noSl_res (d := .tup []) (by rfl),noSl_own2 ha (by rfl),rfl⟩
 ·cases h
def F_slices_rotateCmpFunc:FnD := { n := 58,rs := [],Z := [0],labels := [(2,[0,2,4,10,11])] }
def Y_slices_rotateCmpFunc:DX := { Y0 with o2 := [31,46,57] }
theorem Yok_slices_rotateCmpFunc:DXOk Y_slices_rotateCmpFunc X0 := ⟨Yok.tab,Yok.gl⟩
def lab_slices_rotateCmpFunc:L_slices_rotateCmpFunc → Nat × DSt
 | .l2 data m cmp i j=>(2,[(0,.t (.own2 23 50 tyAtom data)),(2,.t (.s (.int .i64) m)),(4,.t (.s .opq cmp)),(10,.t (.s (.int .i64) i)),(11,.t (.s (.int .i64) j))])
theorem ok_slices_rotateCmpFunc (data:(List (Bool × List tAtom))) (a:Int) (m:Int) (b:Int) (cmp:Value) (r:(List (Bool × List tAtom))) (h:slices_rotateCmpFunc data a m b cmp = some r):ACall X0 95 ([.own2 23 50 tyAtom data,.s (.int .i64) a,.s (.int .i64) m,.s (.int .i64) b,.s .opq cmp].map DT.toT) (resT ([].map DT.toT)) (outsL 0 (.own2 23 50 tyAtom r:DT).toT 0 5) := by
 unfold slices_rotateCmpFunc at h
 refine ALend_of_machine (F := F_slices_rotateCmpFunc) (fuel := 3000) (E := E_slices_swapRangeCmpFunc) (z := 0) Yok_slices_rotateCmpFunc E_slices_swapRangeCmpFunc_ok mixed Tryd.func95 rfl rfl rfl (by decide) rfl rfl (by decide) (args := [.own2 23 50 tyAtom data,.s (.int .i64) a,.s (.int .i64) m,.s (.int .i64) b,.s .opq cmp]) (Nat.le_of_ble_eq_true rfl) (Nat.le_of_ble_eq_true rfl) (by kernel_rfl) lab_slices_rotateCmpFunc (st_slices_rotateCmpFunc) (fun r=>[]) (fun r=>.own2 23 50 tyAtom r) ?_ ?_ ?_ h rfl
 ·intro l; cases l
  ·exact WF_list ⟨trivial,trivial,trivial,trivial,trivial,trivial⟩
 ·intro l goto ret; cases l with
  | l2 =>
   show _ = push (sg_slices_rotateCmpFunc_2 ..) _ _
   unfold sg_slices_rotateCmpFunc_2
   simp only [push_G,push_ite,push_bind,push_inl,push_inr,-eq_self]
   kernel_rfl
 ·intro goto ret
  show _ = push (en_slices_rotateCmpFunc ..) _ _
  unfold en_slices_rotateCmpFunc
  simp only [push_G,push_ite,push_bind,push_inl,push_inr,-eq_self]
  kernel_rfl
noncomputable def e_slices_rotateCmpFunc:List DT → Option CallRes
 | [.tup [.u],.own2 e0 f0 t0 y0,.s t1 y1,.s t2 y2,.s t3 y3,.s t4 y4]=>(castL (a := t0) (b := tyAtom) y0).bind fun data=>(beqO e0 23).bind fun _=>(beqO f0 50).bind fun _=>(castT (b := (.int .i64)) y1).bind fun a=>(castT (b := (.int .i64)) y2).bind fun m=>(castT (b := (.int .i64)) y3).bind fun b=>(castT (b := .opq) y4).bind fun cmp=>some ⟨(List (Bool × List tAtom)),allR (slices_rotateCmpFunc data a m b cmp),fun r=>.tup [.tup [],.own2 23 50 tyAtom r],[],false⟩
 | _=>none
noncomputable def E_slices_rotateCmpFunc:Env := Env.add2 95 (e_slices_rotateCmpFunc) E_slices_swapRangeCmpFunc
theorem E_slices_rotateCmpFunc_ok:EnvOk X0 (E_slices_rotateCmpFunc) := by
 refine EnvOk.add2 E_slices_swapRangeCmpFunc_ok (fun args c h=>?_)
 unfold e_slices_rotateCmpFunc at h
 split at h
 ·replace h := Option.bind_eq_some_iff.1 h
  obtain ⟨v0,c0,h⟩ := h
  obtain ⟨rfl,rfl⟩ := castL_some c0
  replace h := Option.bind_eq_some_iff.1 h
  obtain ⟨u0,b0,h⟩ := h
  obtain rfl := beqO_some b0
  replace h := Option.bind_eq_some_iff.1 h
  obtain ⟨z0,d0,h⟩ := h
  obtain rfl := beqO_some d0
  replace h := castB h; obtain ⟨v1,⟨rfl,rfl⟩,h⟩ := h
  replace h := castB h; obtain ⟨v2,⟨rfl,rfl⟩,h⟩ := h
  replace h := castB h; obtain ⟨v3,⟨rfl,rfl⟩,h⟩ := h
  replace h := castB h; obtain ⟨v4,⟨rfl,rfl⟩,h⟩ := h
  cases h
  intro r hr res out hwr
  obtain ⟨hr,ha⟩ := allR_some hr
  cases hwr
  exact ⟨by kernel_rfl,ok_slices_rotateCmpFunc _ _ _ _ _ r hr,noSl_res (d := .tup []) (by rfl),noSl_own2 ha (by rfl),rfl⟩
 ·cases h
def F_slices_symMergeCmpFunc:FnD := { n := 220,rs := [],Z := [0],labels := [(3,[0,1,4,10,11]),(15,[0,2,4,14,15]),(32,[0,1,2,3,4,18,19,20,21]),(9,[0,10,13]),(21,[0,14,17]),(33,[0,1,2,3,4,18,19,20,21,22]),(41,[0,1,3,4,18,20,24]),(43,[0,3,4,18,24])] }
def Y_slices_symMergeCmpFunc:DX := { Y0 with o2 := [44,48,70,74,96,100,122,126,164,168,191,205,219] }
theorem Yok_slices_symMergeCmpFunc:DXOk Y_slices_symMergeCmpFunc X0 := ⟨Yok.tab,Yok.gl⟩
def lab_slices_symMergeCmpFunc:L_slices_symMergeCmpFunc → Nat × DSt
 | .l3 data a cmp i j=>(3,[(0,.t (.own2 23 50 tyAtom data)),(1,.t (.s (.int .i64) a)),(4,.t (.s .opq cmp)),(10,.t (.s (.int .i64) i)),(11,.t (.s (.int .i64) j))])
 | .l15 data m cmp i j=>(15,[(0,.t (.own2 23 50 tyAtom data)),(2,.t (.s (.int .i64) m)),(4,.t (.s .opq cmp)),(14,.t (.s (.int .i64) i)),(15,.t (.s (.int .i64) j))])
 | .l32 data a m b cmp mid n start r_=>(32,[(0,.t (.own2 23 50 tyAtom data)),(1,.t (.s (.int .i64) a)),(2,.t (.s (.int .i64) m)),(3,.t (.s (.int .i64) b)),(4,.t (.s .opq cmp)),(18,.t (.s (.int .i64) mid)),(19,.t (.s (.int .i64) n)),(20,.t (.s (.int .i64) start)),(21,.t (.s (.int .i64) r_))])
 | .l9 data i k=>(9,[(0,.t (.own2 23 50 tyAtom data)),(10,.t (.s (.int .i64) i)),(13,.t (.s (.int .i64) k))])
 | .l21 data i k=>(21,[(0,.t (.own2 23 50 tyAtom data)),(14,.t (.s (.int .i64) i)),(17,.t (.s (.int .i64) k))])
 | .l33 data a m b cmp mid n start r_ p=>(33,[(0,.t (.own2 23 50 tyAtom data)),(1,.t (.s (.int .i64) a)),(2,.t (.s (.int .i64) m)),(3,.t (.s (.int .i64) b)),(4,.t (.s .opq cmp)),(18,.t (.s (.int .i64) mid)),(19,.t (.s (.int .i64) n)),(20,.t (.s (.int .i64) start)),(21,.t (.s (.int .i64) r_)),(22,.t (.s (.int .i64) p))])
 | .l41 data a b cmp mid start end_=>(41,[(0,.t (.own2 23 50 tyAtom data)),(1,.t (.s (.int .i64) a)),(3,.t (.s (.int .i64) b)),(4,.t (.s .opq cmp)),(18,.t (.s (.int .i64) mid)),(20,.t (.s (.int .i64) start)),(24,.t (.s (.int .i64) end_))])
 | .l43 data b cmp mid end_=>(43,[(0,.t (.own2 23 50 tyAtom data)),(3,.t (.s (.int .i64) b)),(4,.t (.s .opq cmp)),(18,.t (.s (.int .i64) mid)),(24,.t (.s (.int .i64) end_))])
theorem dyn_slices_symMergeCmpFunc_ok:∀ (v_:Value) (a0:(List tAtom)) (a1:(List tAtom)) (r_:Int),dyn_slices_symMergeCmpFunc v_ a0 a1 = some r_ → DynC X0 v_ (([.s (.sl 4 tyAtom) a0,.s (.sl 4 tyAtom) a1]:List DT).map DT.toT) (.s (.int .i64) r_:DT).toT := by
 intro v_ a0 a1 r_ h
 unfold dyn_slices_symMergeCmpFunc at h
 refine dyn_or h (fun hv hx=>⟨38,fnIs_spec hv,by kernel_rfl,ok_value_compare a0 a1 r_ hx⟩) (fun h=>?_)
 cases h
noncomputable def ed_slices_symMergeCmpFunc:List DT → Option CallRes
 | [.tup [.u,.s tv yv],.s t0 y0,.s t1 y1]=>(castT (b := .opq) yv).bind fun v_=>(castT (b := (.sl 4 tyAtom)) y0).bind fun a0=>(castT (b := (.sl 4 tyAtom)) y1).bind fun a1=>some ⟨Int,dyn_slices_symMergeCmpFunc v_ a0 a1,fun r_=>(.s (.int .i64) r_:DT),(0:Int),true⟩
 | _=>none
theorem ed_slices_symMergeCmpFunc_ok:∀ (g:FuncId) (args:List DT) (c:CallRes),ed_slices_symMergeCmpFunc args = some c → CallOk X0 g args c := by
 intro g args c h
 unfold ed_slices_symMergeCmpFunc at h
 split at h
 ·obtain ⟨vv,⟨rfl,rfl⟩,h⟩ := castB h
  obtain ⟨v0,⟨rfl,rfl⟩,h⟩ := castB h
  obtain ⟨v1,⟨rfl,rfl⟩,h⟩ := castB h
  cases h
  exact ⟨fun r hr=>dyn_slices_symMergeCmpFunc_ok _ _ _ r hr,fun hb=>fun r=>noSl_res (by rfl)⟩
 ·cases h
noncomputable def e_slices_symMergeCmpFunc_n (fu_:Nat):List DT → Option CallRes
 | [.tup [.u],.own2 e0 f0 t0 y0,.s t1 y1,.s t2 y2,.s t3 y3,.s t4 y4]=>(castL (a := t0) (b := tyAtom) y0).bind fun data=>(beqO e0 23).bind fun _=>(beqO f0 50).bind fun _=>(castT (b := (.int .i64)) y1).bind fun a=>(castT (b := (.int .i64)) y2).bind fun m=>(castT (b := (.int .i64)) y3).bind fun b=>(castT (b := .opq) y4).bind fun cmp=>some ⟨(List (Bool × List tAtom)),allR (slices_symMergeCmpFunc_n fu_ data a m b cmp),fun r=>.tup [.tup [],.own2 23 50 tyAtom r],[],false⟩
 | _=>none
noncomputable def E_slices_symMergeCmpFunc_n (fu_:Nat):Env := Env.add2 78 (e_slices_symMergeCmpFunc_n fu_) E_slices_rotateCmpFunc
theorem E_slices_symMergeCmpFunc_n_ok (fu_:Nat) (ih:∀ (data:(List (Bool × List tAtom))) (a:Int) (m:Int) (b:Int) (cmp:Value) (r:(List (Bool × List tAtom))),slices_symMergeCmpFunc_n fu_ data a m b cmp = some r → ACall X0 78 ([.own2 23 50 tyAtom data,.s (.int .i64) a,.s (.int .i64) m,.s (.int .i64) b,.s .opq cmp].map DT.toT) (resT ([].map DT.toT)) (outsL 0 (.own2 23 50 tyAtom r:DT).toT 0 5)):EnvOk X0 (E_slices_symMergeCmpFunc_n fu_) := by
 refine EnvOk.add2 E_slices_rotateCmpFunc_ok (fun args c h=>?_)
 unfold e_slices_symMergeCmpFunc_n at h
 split at h
 ·replace h := Option.bind_eq_some_iff.1 h
  obtain ⟨v0,c0,h⟩ := h
  obtain ⟨rfl,rfl⟩ := castL_some c0
  replace h := Option.bind_eq_some_iff.1 h
  obtain ⟨u0,b0,h⟩ := h
  obtain rfl := beqO_some b0
  replace h := Option.bind_eq_some_iff.1 h
  obtain ⟨z0,d0,h⟩ := h
  obtain rfl := beqO_some d0
  replace h := castB h; obtain ⟨v1,⟨rfl,rfl⟩,h⟩ := h
  replace h := castB h; obtain ⟨v2,⟨rfl,rfl⟩,h⟩ := h
  replace h := castB h; obtain ⟨v3,⟨rfl,rfl⟩,h⟩ := h
  replace h := castB h; obtain ⟨v4,⟨rfl,rfl⟩,h⟩ := h
  cases h
  intro r hr res out hwr
  obtain ⟨hr,ha⟩ := allR_some hr
  cases hwr
  exact ⟨by kernel_rfl,ih _ _ _ _ _ r hr,noSl_res (d := .tup []) (by rfl),noSl_own2 ha (by rfl),rfl⟩
 ·cases h
theorem ok_slices_symMergeCmpFunc_n:∀ (fu_:Nat) (data:(List (Bool × List tAtom))) (a:Int) (m:Int) (b:Int) (cmp:Value) (r:(List (Bool × List tAtom))) (h:slices_symMergeCmpFunc_n fu_ data a m b cmp = some r),ACall X0 78 ([.own2 23 50 tyAtom data,.s (.int .i64) a,.s (.int .i64) m,.s (.int .i64) b,.s .opq cmp].map DT.toT) (resT ([].map DT.toT)) (outsL 0 (.own2 23 50 tyAtom r:DT).toT 0 5)
 | 0,data,a,m,b,cmp,r,h=>by unfold slices_symMergeCmpFunc_n at h; cases h
 | fu_ + 1,data,a,m,b,cmp,r,h=>by
  unfold slices_symMergeCmpFunc_n at h
  refine ALend_of_machine (F := F_slices_symMergeCmpFunc) (fuel := 3000) (E := (Env.addD (ed_slices_symMergeCmpFunc) (E_slices_symMergeCmpFunc_n fu_))) (z := 0) Yok_slices_symMergeCmpFunc (EnvOk.addD (E_slices_symMergeCmpFunc_n_ok fu_ (ok_slices_symMergeCmpFunc_n fu_)) (ed_slices_symMergeCmpFunc_ok)) mixed Tryd.func78 rfl rfl rfl (by decide) rfl rfl (by decide) (args := [.own2 23 50 tyAtom data,.s (.int .i64) a,.s (.int .i64) m,.s (.int .i64) b,.s .opq cmp]) (Nat.le_of_ble_eq_true rfl) (Nat.le_of_ble_eq_true rfl) (by kernel_rfl) lab_slices_symMergeCmpFunc (st_slices_symMergeCmpFunc (slices_symMergeCmpFunc_n fu_)) (fun r=>[]) (fun r=>.own2 23 50 tyAtom r) ?_ ?_ ?_ h rfl
  ·intro l; cases l
   ·exact WF_list ⟨trivial,trivial,trivial,trivial,trivial,trivial⟩
   ·exact WF_list ⟨trivial,trivial,trivial,trivial,trivial,trivial⟩
   ·exact WF_list ⟨trivial,trivial,trivial,trivial,trivial,trivial,trivial,trivial,trivial,trivial⟩
   ·exact WF_list ⟨trivial,trivial,trivial,trivial⟩
   ·exact WF_list ⟨trivial,trivial,trivial,trivial⟩
   ·exact WF_list ⟨trivial,trivial,trivial,trivial,trivial,trivial,trivial,trivial,trivial,trivial,trivial⟩
   ·exact WF_list ⟨trivial,trivial,trivial,trivial,trivial,trivial,trivial,trivial⟩
   ·exact WF_list ⟨trivial,trivial,trivial,trivial,trivial,trivial⟩
  ·intro l goto ret; cases l with
   | l3 =>
    show _ = push (sg_slices_symMergeCmpFunc_3 (slices_symMergeCmpFunc_n fu_) ..) _ _
    unfold sg_slices_symMergeCmpFunc_3
    simp only [push_G,push_ite,push_bind,push_inl,push_inr,-eq_self]
    kernel_rfl
   | l15 =>
    show _ = push (sg_slices_symMergeCmpFunc_15 (slices_symMergeCmpFunc_n fu_) ..) _ _
    unfold sg_slices_symMergeCmpFunc_15
    simp only [push_G,push_ite,push_bind,push_inl,push_inr,-eq_self]
    kernel_rfl
   | l32 =>
    show _ = push (sg_slices_symMergeCmpFunc_32 (slices_symMergeCmpFunc_n fu_) ..) _ _
    unfold sg_slices_symMergeCmpFunc_32
    simp only [push_G,push_ite,push_bind,push_inl,push_inr,-eq_self]
    kernel_rfl
   | l9 =>
    show _ = push (sg_slices_symMergeCmpFunc_9 (slices_symMergeCmpFunc_n fu_) ..) _ _
    unfold sg_slices_symMergeCmpFunc_9
    simp only [push_G,push_ite,push_bind,push_inl,push_inr,-eq_self]
    kernel_rfl
   | l21 =>
    show _ = push (sg_slices_symMergeCmpFunc_21 (slices_symMergeCmpFunc_n fu_) ..) _ _
    unfold sg_slices_symMergeCmpFunc_21
    simp only [push_G,push_ite,push_bind,push_inl,push_inr,-eq_self]
    kernel_rfl
   | l33 =>
    show _ = push (sg_slices_symMergeCmpFunc_33 (slices_symMergeCmpFunc_n fu_) ..) _ _
    unfold sg_slices_symMergeCmpFunc_33
    simp only [push_G,push_ite,push_bind,push_inl,push_inr,-eq_self]
    kernel_rfl
   | l41 =>
    show _ = push (sg_slices_symMergeCmpFunc_41 (slices_symMergeCmpFunc_n fu_) ..) _ _
    unfold sg_slices_symMergeCmpFunc_41
    simp only [push_G,push_ite,push_bind,push_inl,push_inr,-eq_self]
    kernel_rfl
   | l43 =>
    show _ = push (sg_slices_symMergeCmpFunc_43 (slices_symMergeCmpFunc_n fu_) ..) _ _
    unfold sg_slices_symMergeCmpFunc_43
    simp only [push_G,push_ite,push_bind,push_inl,push_inr,-eq_self]
    kernel_rfl
  ·intro goto ret
   show _ = push (en_slices_symMergeCmpFunc (slices_symMergeCmpFunc_n fu_) ..) _ _
   unfold en_slices_symMergeCmpFunc
   simp only [push_G,push_ite,push_bind,push_inl,push_inr,-eq_self]
   kernel_rfl
theorem ok_slices_symMergeCmpFunc (data:(List (Bool × List tAtom))) (a:Int) (m:Int) (b:Int) (cmp:Value) (r:(List (Bool × List tAtom))) (h:slices_symMergeCmpFunc data a m b cmp = some r):ACall X0 78 ([.own2 23 50 tyAtom data,.s (.int .i64) a,.s (.int .i64) m,.s (.int .i64) b,.s .opq cmp].map DT.toT) (resT ([].map DT.toT)) (outsL 0 (.own2 23 50 tyAtom r:DT).toT 0 5) := ok_slices_symMergeCmpFunc_n 200 data a m b cmp r h
noncomputable def e_slices_symMergeCmpFunc:List DT → Option CallRes
 | [.tup [.u],.own2 e0 f0 t0 y0,.s t1 y1,.s t2 y2,.s t3 y3,.s t4 y4]=>(castL (a := t0) (b := tyAtom) y0).bind fun data=>(beqO e0 23).bind fun _=>(beqO f0 50).bind fun _=>(castT (b := (.int .i64)) y1).bind fun a=>(castT (b := (.int .i64)) y2).bind fun m=>(castT (b := (.int .i64)) y3).bind fun b=>(castT (b := .opq) y4).bind fun cmp=>some ⟨(List (Bool × List tAtom)),allR (slices_symMergeCmpFunc data a m b cmp),fun r=>.tup [.tup [],.own2 23 50 tyAtom r],[],false⟩
 | _=>none
noncomputable def E_slices_symMergeCmpFunc:Env := Env.add2 78 (e_slices_symMergeCmpFunc) E_slices_rotateCmpFunc
theorem E_slices_symMergeCmpFunc_ok:EnvOk X0 (E_slices_symMergeCmpFunc) := by
 refine EnvOk.add2 E_slices_rotateCmpFunc_ok (fun args c h=>?_)
 unfold e_slices_symMergeCmpFunc at h
 split at h
 ·replace h := Option.bind_eq_some_iff.1 h
  obtain ⟨v0,c0,h⟩ := h
  obtain ⟨rfl,rfl⟩ := castL_some c0
  replace h := Option.bind_eq_some_iff.1 h
  obtain ⟨u0,b0,h⟩ := h
  obtain rfl := beqO_some b0
  replace h := Option.bind_eq_some_iff.1 h
  obtain ⟨z0,d0,h⟩ := h
  obtain rfl := beqO_some d0
  replace h := castB h; obtain ⟨v1,⟨rfl,rfl⟩,h⟩ := h
  replace h := castB h; obtain ⟨v2,⟨rfl,rfl⟩,h⟩ := h
  replace h := castB h; obtain ⟨v3,⟨rfl,rfl⟩,h⟩ := h
  replace h := castB h; obtain ⟨v4,⟨rfl,rfl⟩,h⟩ := h
  cases h
  intro r hr res out hwr
  obtain ⟨hr,ha⟩ := allR_some hr
  cases hwr
  exact ⟨by kernel_rfl,ok_slices_symMergeCmpFunc _ _ _ _ _ r hr,noSl_res (d := .tup []) (by rfl),noSl_own2 ha (by rfl),rfl⟩
 ·cases h
def F_slices_stableCmpFunc:FnD := { n := 63,rs := [],Z := [0],labels := [(2,[0,1,2,6,7,8]),(7,[0,1,2,6]),(9,[0,1,2,6,7,8])] }
def Y_slices_stableCmpFunc:DX := { Y0 with o2 := [18,27,43,60] }
theorem Yok_slices_stableCmpFunc:DXOk Y_slices_stableCmpFunc X0 := ⟨Yok.tab,Yok.gl⟩
def lab_slices_stableCmpFunc:L_slices_stableCmpFunc → Nat × DSt
 | .l2 data n cmp blockSize a b=>(2,[(0,.t (.own2 23 50 tyAtom data)),(1,.t (.s (.int .i64) n)),(2,.t (.s .opq cmp)),(6,.t (.s (.int .i64) blockSize)),(7,.t (.s (.int .i64) a)),(8,.t (.s (.int .i64) b))])
 | .l7 data n cmp blockSize=>(7,[(0,.t (.own2 23 50 tyAtom data)),(1,.t (.s (.int .i64) n)),(2,.t (.s .opq cmp)),(6,.t (.s (.int .i64) blockSize))])
 | .l9 data n cmp blockSize a b=>(9,[(0,.t (.own2 23 50 tyAtom data)),(1,.t (.s (.int .i64) n)),(2,.t (.s .opq cmp)),(6,.t (.s (.int .i64) blockSize)),(7,.t (.s (.int .i64) a)),(8,.t (.s (.int .i64) b))])
theorem ok_slices_stableCmpFunc (data:(List (Bool × List tAtom))) (n:Int) (cmp:Value) (r:(List (Bool × List tAtom))) (h:slices_stableCmpFunc data n cmp = some r):ACall X0 56 ([.own2 23 50 tyAtom data,.s (.int .i64) n,.s .opq cmp].map DT.toT) (resT ([].map DT.toT)) (outsL 0 (.own2 23 50 tyAtom r:DT).toT 0 3) := by
 unfold slices_stableCmpFunc at h
 refine ALend_of_machine (F := F_slices_stableCmpFunc) (fuel := 3000) (E := E_slices_symMergeCmpFunc) (z := 0) Yok_slices_stableCmpFunc E_slices_symMergeCmpFunc_ok mixed Tryd.func56 rfl rfl rfl (by decide) rfl rfl (by decide) (args := [.own2 23 50 tyAtom data,.s (.int .i64) n,.s .opq cmp]) (Nat.le_of_ble_eq_true rfl) (Nat.le_of_ble_eq_true rfl) (by kernel_rfl) lab_slices_stableCmpFunc (st_slices_stableCmpFunc) (fun r=>[]) (fun r=>.own2 23 50 tyAtom r) ?_ ?_ ?_ h rfl
 ·intro l; cases l
  ·exact WF_list ⟨trivial,trivial,trivial,trivial,trivial,trivial,trivial⟩
  ·exact WF_list ⟨trivial,trivial,trivial,trivial,trivial⟩
  ·exact WF_list ⟨trivial,trivial,trivial,trivial,trivial,trivial,trivial⟩
 ·intro l goto ret; cases l with
  | l2 =>
   show _ = push (sg_slices_stableCmpFunc_2 ..) _ _
   unfold sg_slices_stableCmpFunc_2
   simp only [push_G,push_ite,push_bind,push_inl,push_inr,-eq_self]
   kernel_rfl
  | l7 =>
   show _ = push (sg_slices_stableCmpFunc_7 ..) _ _
   unfold sg_slices_stableCmpFunc_7
   simp only [push_G,push_ite,push_bind,push_inl,push_inr,-eq_self]
   kernel_rfl
  | l9 =>
   show _ = push (sg_slices_stableCmpFunc_9 ..) _ _
   unfold sg_slices_stableCmpFunc_9
   simp only [push_G,push_ite,push_bind,push_inl,push_inr,-eq_self]
   kernel_rfl
 ·intro goto ret
  show _ = push (en_slices_stableCmpFunc ..) _ _
  unfold en_slices_stableCmpFunc
  simp only [push_G,push_ite,push_bind,push_inl,push_inr,-eq_self]
  kernel_rfl
noncomputable def e_slices_stableCmpFunc:List DT → Option CallRes
 | [.tup [.u],.own2 e0 f0 t0 y0,.s t1 y1,.s t2 y2]=>(castL (a := t0) (b := tyAtom) y0).bind fun data=>(beqO e0 23).bind fun _=>(beqO f0 50).bind fun _=>(castT (b := (.int .i64)) y1).bind fun n=>(castT (b := .opq) y2).bind fun cmp=>some ⟨(List (Bool × List tAtom)),allR (slices_stableCmpFunc data n cmp),fun r=>.tup [.tup [],.own2 23 50 tyAtom r],[],false⟩
 | _=>none
noncomputable def E_slices_stableCmpFunc:Env := Env.add2 56 (e_slices_stableCmpFunc) E_slices_symMergeCmpFunc
theorem E_slices_stableCmpFunc_ok:EnvOk X0 (E_slices_stableCmpFunc) := by
 refine EnvOk.add2 E_slices_symMergeCmpFunc_ok (fun args c h=>?_)
 unfold e_slices_stableCmpFunc at h
 split at h
 ·replace h := Option.bind_eq_some_iff.1 h
  obtain ⟨v0,c0,h⟩ := h
  obtain ⟨rfl,rfl⟩ := castL_some c0
  replace h := Option.bind_eq_some_iff.1 h
  obtain ⟨u0,b0,h⟩ := h
  obtain rfl := beqO_some b0
  replace h := Option.bind_eq_some_iff.1 h
  obtain ⟨z0,d0,h⟩ := h
  obtain rfl := beqO_some d0
  replace h := castB h; obtain ⟨v1,⟨rfl,rfl⟩,h⟩ := h
  replace h := castB h; obtain ⟨v2,⟨rfl,rfl⟩,h⟩ := h
  cases h
  intro r hr res out hwr
  obtain ⟨hr,ha⟩ := allR_some hr
  cases hwr
  exact ⟨by kernel_rfl,ok_slices_stableCmpFunc _ _ _ r hr,noSl_res (d := .tup []) (by rfl),noSl_own2 ha (by rfl),rfl⟩
 ·cases h
def F_slices_SortStableFunc:FnD := { n := 9,rs := [],Z := [0] }
def Y_slices_SortStableFunc:DX := { Y0 with o2 := [8] }
theorem Yok_slices_SortStableFunc:DXOk Y_slices_SortStableFunc X0 := ⟨Yok.tab,Yok.gl⟩
theorem ok_slices_SortStableFunc (x:(List (Bool × List tAtom))) (cmp:Value) (r:(List (Bool × List tAtom))) (h:slices_SortStableFunc x cmp = some r):ACall X0 37 ([.own2 23 50 tyAtom x,.s .opq cmp].map DT.toT) (resT ([].map DT.toT)) (outsL 0 (.own2 23 50 tyAtom r:DT).toT 0 2) := by
 unfold slices_SortStableFunc at h
 refine ALend_of_straight (F := F_slices_SortStableFunc) (fuel := 3000) (E := E_slices_stableCmpFunc) (z := 0) Yok_slices_SortStableFunc E_slices_stableCmpFunc_ok mixed Tryd.func37 rfl rfl rfl (by decide) rfl rfl (by decide) (args := [.own2 23 50 tyAtom x,.s .opq cmp]) (Nat.le_of_ble_eq_true rfl) (Nat.le_of_ble_eq_true rfl) (by kernel_rfl) (fun r=>[]) (fun r=>.own2 23 50 tyAtom r) ?_ h rfl
 intro goto ret
 unfold en_slices_SortStableFunc
 simp only [bnd_G,bnd_ite,bnd_bind,bnd_some,-eq_self]
 kernel_rfl
noncomputable def e_slices_SortStableFunc:List DT → Option CallRes
 | [.tup [.u],.own2 e0 f0 t0 y0,.s t1 y1]=>(castL (a := t0) (b := tyAtom) y0).bind fun x=>(beqO e0 23).bind fun _=>(beqO f0 50).bind fun _=>(castT (b := .opq) y1).bind fun cmp=>some ⟨(List (Bool × List tAtom)),allR (slices_SortStableFunc x cmp),fun r=>.tup [.tup [],.own2 23 50 tyAtom r],[],false⟩
 | _=>none
noncomputable def E_slices_SortStableFunc:Env := Env.add2 37 (e_slices_SortStableFunc) E_slices_stableCmpFunc
theorem E_slices_SortStableFunc_ok:EnvOk X0 (E_slices_SortStableFunc) := by
 refine EnvOk.add2 E_slices_stableCmpFunc_ok (fun args c h=>?_)
 unfold e_slices_SortStableFunc at h
 split at h
 ·replace h := Option.bind_eq_some_iff.1 h
  obtain ⟨v0,c0,h⟩ := h
  obtain ⟨rfl,rfl⟩ := castL_some c0
  replace h := Option.bind_eq_some_iff.1 h
  obtain ⟨u0,b0,h⟩ := h
  obtain rfl := beqO_some b0
  replace h := Option.bind_eq_some_iff.1 h
  obtain ⟨z0,d0,h⟩ := h
  obtain rfl := beqO_some d0
  replace h := castB h; obtain ⟨v1,⟨rfl,rfl⟩,h⟩ := h
  cases h
  intro r hr res out hwr
  obtain ⟨hr,ha⟩ := allR_some hr
  cases hwr
  exact ⟨by kernel_rfl,ok_slices_SortStableFunc _ _ r hr,noSl_res (d := .tup []) (by rfl),noSl_own2 ha (by rfl),rfl⟩
 ·cases h
def F_value_Sort:FnD := { n := 35,rs := [2,3],labels := [(8,[0,5,19,20])] }
def Y_value_Sort:DX := { Y0 with o2 := [2,5,33] }
theorem Yok_value_Sort:DXOk Y_value_Sort X0 := ⟨Yok.tab,Yok.gl⟩
def lab_value_Sort:L_value_Sort → Nat × DSt
 | .l8 l out x19 x20=>(8,[(0,.t (.s (.sl 1 (.sl 4 tyAtom)) l)),(5,.t (.own2 23 50 tyAtom out)),(19,.t (.s (.int .i64) x19)),(20,.t (.s (.int .i64) x20))])
theorem ok_value_Sort (l:(List (List tAtom))) (r:((List (Bool × List tAtom)) × Int)) (h:value_Sort l = some r):APure X0 21 ([.s (.sl 1 (.sl 4 tyAtom)) l].map DT.toT) (resT ([.own2 23 50 tyAtom r.1,.s (.int .i64) r.2].map DT.toT)) := by
 refine APure_of_machine (F := F_value_Sort) (fuel := 3000) (E := E_slices_SortStableFunc) Yok_value_Sort E_slices_SortStableFunc_ok mixed Tryd.func21 rfl rfl rfl (by decide) (args := [.s (.sl 1 (.sl 4 tyAtom)) l]) (Nat.le_of_ble_eq_true rfl) (by kernel_rfl) lab_value_Sort st_value_Sort (fun r=>[.own2 23 50 tyAtom r.1,.s (.int .i64) r.2]) ?_ ?_ ?_ h
 ·intro l; cases l
  ·exact WF_list ⟨trivial,trivial,trivial,trivial,trivial⟩
 ·intro l goto ret; cases l with
  | l8 =>
   show _ = push (sg_value_Sort_8 ..) _ _
   unfold sg_value_Sort_8
   simp only [push_G,push_ite,push_bind,push_inl,push_inr,-eq_self]
   kernel_rfl
 ·intro goto ret
  show _ = push (en_value_Sort ..) _ _
  unfold en_value_Sort
  simp only [push_G,push_ite,push_bind,push_inl,push_inr,-eq_self]
  kernel_rfl
noncomputable def e_value_Sort:List DT → Option CallRes
 | [.s t0 y0]=>(castT (b := (.sl 1 (.sl 4 tyAtom))) y0).bind fun l=>some ⟨((List (Bool × List tAtom)) × Int),value_Sort l,fun r=>.tup [.own2 23 50 tyAtom r.1,.s (.int .i64) r.2],([],(0:Int)),false⟩
 | _=>none
noncomputable def E_value_Sort:Env := Env.add 21 e_value_Sort E_slices_SortStableFunc
theorem E_value_Sort_ok:EnvOk X0 E_value_Sort := by
 refine EnvOk.add E_slices_SortStableFunc_ok (fun args c h=>?_)
 unfold e_value_Sort at h
 split at h
 ·obtain ⟨v0,⟨rfl,rfl⟩,h⟩ := castB h
  cases h
  exact ⟨fun r hr=>.inl ⟨by kernel_rfl,ok_value_Sort _ r hr⟩,fun hb=>by cases hb⟩
 ·cases h
def F_law07_ValueBack:FnD := { n := 166,rs := [6],labels := [(8,[0,1,2]),(13,[0,2]),(18,[2]),(24,[2,13,14]),(30,[2,13,17]),(34,[2,13,17,18,19]),(38,[2,13,17,18,19])] }
def Y_law07_ValueBack:DX := { Y0 with o2 := [112,116,156] }
theorem Yok_law07_ValueBack:DXOk Y_law07_ValueBack X0 := ⟨Yok.tab,Yok.gl⟩
def lab_law07_ValueBack:L_law07_ValueBack → Nat × DSt
 | .l8 v s_ l=>(8,[(0,.t (.s (.sl 4 tyAtom) v)),(1,.t (.s .str s_)),(2,.t (.s (.sl 1 (.sl 4 tyAtom)) l))])
 | .l13 v l=>(13,[(0,.t (.s (.sl 4 tyAtom) v)),(2,.t (.s (.sl 1 (.sl 4 tyAtom)) l))])
 | .l18 l=>(18,[(2,.t (.s (.sl 1 (.sl 4 tyAtom)) l))])
 | .l24 l x i=>(24,[(2,.t (.s (.sl 1 (.sl 4 tyAtom)) l)),(13,.t (.own2 23 50 tyAtom x)),(14,.t (.s (.int .i64) i))])
 | .l30 l x i=>(30,[(2,.t (.s (.sl 1 (.sl 4 tyAtom)) l)),(13,.t (.own2 23 50 tyAtom x)),(17,.t (.s (.int .i64) i))])
 | .l34 l x i n k=>(34,[(2,.t (.s (.sl 1 (.sl 4 tyAtom)) l)),(13,.t (.own2 23 50 tyAtom x)),(17,.t (.s (.int .i64) i)),(18,.t (.s (.int .i64) n)),(19,.t (.s (.int .i64) k))])
 | .l38 l x i n k=>(38,[(2,.t (.s (.sl 1 (.sl 4 tyAtom)) l)),(13,.t (.own2 23 50 tyAtom x)),(17,.t (.s (.int .i64) i)),(18,.t (.s (.int .i64) n)),(19,.t (.s (.int .i64) k))])
theorem ok_law07_ValueBack (v:(List tAtom)) (s_:(List UInt8)) (l:(List (List tAtom))) (r:Bool) (h:law07_ValueBack v s_ l = some r):APure X0 6 ([.s (.sl 4 tyAtom) v,.s .str s_,.s (.sl 1 (.sl 4 tyAtom)) l].map DT.toT) (resT ([.s .bool r].map DT.toT)) := by
 refine APure_of_machine (F := F_law07_ValueBack) (fuel := 3000) (E := E_value_Sort) Yok_law07_ValueBack E_value_Sort_ok mixed Tryd.func6 rfl rfl rfl (by decide) (args := [.s (.sl 4 tyAtom) v,.s .str s_,.s (.sl 1 (.sl 4 tyAtom)) l]) (Nat.le_of_ble_eq_true rfl) (by kernel_rfl) lab_law07_ValueBack st_law07_ValueBack (fun r=>[.s .bool r]) ?_ ?_ ?_ h
 ·intro l; cases l
  ·exact WF_list ⟨trivial,trivial,trivial,trivial⟩
  ·exact WF_list ⟨trivial,trivial,trivial⟩
  ·exact WF_list ⟨trivial,trivial⟩
  ·exact WF_list ⟨trivial,trivial,trivial,trivial⟩
  ·exact WF_list ⟨trivial,trivial,trivial,trivial⟩
  ·exact WF_list ⟨trivial,trivial,trivial,trivial,trivial,trivial⟩
  ·exact WF_list ⟨trivial,trivial,trivial,trivial,trivial,trivial⟩
 ·intro l goto ret; cases l with
  | l8 =>
   show _ = push (sg_law07_ValueBack_8 ..) _ _
   unfold sg_law07_ValueBack_8
   simp only [push_G,push_ite,push_bind,push_inl,push_inr,-eq_self]
   kernel_rfl
  | l13 =>
   show _ = push (sg_law07_ValueBack_13 ..) _ _
   unfold sg_law07_ValueBack_13
   simp only [push_G,push_ite,push_bind,push_inl,push_inr,-eq_self]
   kernel_rfl
  | l18 =>
   show _ = push (sg_law07_ValueBack_18 ..) _ _
   unfold sg_law07_ValueBack_18
   simp only [push_G,push_ite,push_bind,push_inl,push_inr,-eq_self]
   kernel_rfl
  | l24 =>
   show _ = push (sg_law07_ValueBack_24 ..) _ _
   unfold sg_law07_ValueBack_24
   simp only [push_G,push_ite,push_bind,push_inl,push_inr,-eq_self]
   kernel_rfl
  | l30 =>
   show _ = push (sg_law07_ValueBack_30 ..) _ _
   unfold sg_law07_ValueBack_30
   simp only [push_G,push_ite,push_bind,push_inl,push_inr,-eq_self]
   kernel_rfl
  | l34 =>
   show _ = push (sg_law07_ValueBack_34 ..) _ _
   unfold sg_law07_ValueBack_34
   simp only [push_G,push_ite,push_bind,push_inl,push_inr,-eq_self]
   kernel_rfl
  | l38 =>
   show _ = push (sg_law07_ValueBack_38 ..) _ _
   unfold sg_law07_ValueBack_38
   simp only [push_G,push_ite,push_bind,push_inl,push_inr,-eq_self]
   kernel_rfl
 ·intro goto ret
  show _ = push (en_law07_ValueBack ..) _ _
  unfold en_law07_ValueBack
  simp only [push_G,push_ite,push_bind,push_inl,push_inr,-eq_self]
  kernel_rfl
end Go.Eng
