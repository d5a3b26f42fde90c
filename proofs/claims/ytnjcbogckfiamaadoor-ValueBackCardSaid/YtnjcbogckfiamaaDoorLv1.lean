/- A part of the proof: Lv1. -/
import Derived.Test.YtnjcbogckfiamaaDoorLvd
import Derived.Test.YtnjcbogckfiamaaDoorD4
import Derived.Test.YtnjcbogckfiamaaDoorRows
import Derived.Test.YtnjcbogckfiamaaDoorShd
import Derived.Test.YtnjcbogckfiamaaDoorTb
namespace Go.Eng
open Go.Proofs Go.RowKit
set_option linter.unusedVariables false
set_option linter.unusedSimpArgs false
set_option maxRecDepth 100000
theorem castB {a b:Ty} {x:a.I} {β:Type 1} {f:b.I → Option β} {c:β} (h:(castT (a := a) (b := b) x).bind f = some c):∃ v:b.I,(∃ e:a = b,e ▸ x = v) ∧ f v = some c := by
 obtain ⟨v,c,h⟩ := Option.bind_eq_some_iff.1 h
 exact ⟨v,castT_some c,h⟩
theorem castC {a b:Ty} {x:List a.I} {β:Type 1} {f:List b.I → Option β} {c:β} (h:(castT (a := .sl 1 a) (b := .sl 1 b) x).bind f = some c):∃ v:List b.I,(∃ e:a = b,(e ▸ x:List b.I) = v) ∧ f v = some c := by
 obtain ⟨v,c,h⟩ := Option.bind_eq_some_iff.1 h
 exact ⟨v,castSl_some c,h⟩
def globs:List (Nat × Glob) := []
noncomputable def X0:Ctx := mkCtxT Tryd.prog 2 globs (by kernel_rfl) (fun w=>Lib.TabIs Tryd.prog w "internal/strconv.uint64pow10" .u64 Lib.pow10Tab) (fun w w' hb h=>tabIs_keep (g := 1) (by kernel_rfl) (by decide) w w' hb h)
theorem mixed:X0.P.follows .mixedOrders = true := by kernel_rfl
def Y0:DX := { tab := [(2,{ ty := (.int .i64) }),(3,{ ty := (.int .i64) }),(4,{ ty := .bool }),(5,{ ty := .u8 }),(9,{ ty := .str }),(23,{ ty := (.sl 4 tyAtom),sl := some (50,tyAtom,40) }),(42,{ ty := (.sl 1 (.sl 4 tyAtom)),sl := some (23,(.sl 4 tyAtom),24) }),(48,{ ty := (.sl 1 .str),sl := some (9,.str,16) }),(50,{ ty := tyAtom,fs := [(.int .i64),(.int .i64),(.int .i64),.str],eq := true }),(57,{ ty := tyreader,fs := [.str,(.int .i64),(.sl 4 tyAtom)] }),(63,{ ty := (.sl 2 tywhole),sl := some (97,tywhole,16) }),(74,{ ty := (.sl 1 .u8),sl := some (5,.u8,1) }),(75,{ ty := (.int .u64) }),(93,{ ty := .opq,fn := true }),(97,{ ty := tywhole,fs := [(.int .i64),(.int .i64)],eq := true }),(104,{ ty := (.int .u64) }),(110,{ ty := (.sl 1 (.sl 4 tyAtom)),sl := some (23,(.sl 4 tyAtom),24) }),(130,{ ty := (.int .u32) }),(131,{ ty := .opq,ar := some (65,.u8) })],gl := globs }
theorem td_2:TDOk Tryd.prog 2 { ty := (.int .i64) } := { row := .inr (by kernel_rfl),und := .inr (by kernel_rfl),sli := .inl rfl,slt := by kernel_rfl,bye := .inl rfl,fld := .inl rfl,lay := .inl rfl,rowT := .inl rfl,arr := .inl rfl,arv := .inl rfl,fsz := by kernel_rfl,eqv := .inl rfl,zer := .inr (by kernel_rfl),fnv := .inl rfl,emp := .inl rfl,mki := .inl rfl }
theorem td_3:TDOk Tryd.prog 3 { ty := (.int .i64) } := { row := .inr (by kernel_rfl),und := .inr (by kernel_rfl),sli := .inl rfl,slt := by kernel_rfl,bye := .inl rfl,fld := .inl rfl,lay := .inl rfl,rowT := .inl rfl,arr := .inl rfl,arv := .inl rfl,fsz := by kernel_rfl,eqv := .inl rfl,zer := .inr (by kernel_rfl),fnv := .inl rfl,emp := .inl rfl,mki := .inl rfl }
theorem td_4:TDOk Tryd.prog 4 { ty := .bool } := { row := .inr (by kernel_rfl),und := .inr (by kernel_rfl),sli := .inl rfl,slt := by kernel_rfl,bye := .inl rfl,fld := .inl rfl,lay := .inl rfl,rowT := .inl rfl,arr := .inl rfl,arv := .inl rfl,fsz := by kernel_rfl,eqv := .inl rfl,zer := .inr (by kernel_rfl),fnv := .inl rfl,emp := .inl rfl,mki := .inl rfl }
theorem td_5:TDOk Tryd.prog 5 { ty := .u8 } := { row := .inr (by kernel_rfl),und := .inr (by kernel_rfl),sli := .inl rfl,slt := by kernel_rfl,bye := .inl rfl,fld := .inl rfl,lay := .inl rfl,rowT := .inl rfl,arr := .inl rfl,arv := .inl rfl,fsz := by kernel_rfl,eqv := .inl rfl,zer := .inr (by kernel_rfl),fnv := .inl rfl,emp := .inl rfl,mki := .inl rfl }
theorem td_9:TDOk Tryd.prog 9 { ty := .str } := { row := .inr (by kernel_rfl),und := .inr (by kernel_rfl),sli := .inl rfl,slt := by kernel_rfl,bye := .inl rfl,fld := .inl rfl,lay := .inl rfl,rowT := .inl rfl,arr := .inl rfl,arv := .inl rfl,fsz := by kernel_rfl,eqv := .inl rfl,zer := .inr (by kernel_rfl),fnv := .inl rfl,emp := .inl rfl,mki := .inl rfl }
theorem td_23:TDOk Tryd.prog 23 { ty := (.sl 4 tyAtom),sl := some (50,tyAtom,40) } := { row := .inr (by kernel_rfl),und := .inl rfl,sli := .inr (by kernel_rfl),slt := by kernel_rfl,bye := .inl rfl,fld := .inl rfl,lay := .inl rfl,rowT := .inl rfl,arr := .inl rfl,arv := .inl rfl,fsz := by kernel_rfl,eqv := .inl rfl,zer := .inr (by kernel_rfl),fnv := .inl rfl,emp := .inl rfl,mki := .inl rfl }
theorem td_42:TDOk Tryd.prog 42 { ty := (.sl 1 (.sl 4 tyAtom)),sl := some (23,(.sl 4 tyAtom),24) } := { row := .inr (by kernel_rfl),und := .inl rfl,sli := .inr (by kernel_rfl),slt := by kernel_rfl,bye := .inl rfl,fld := .inl rfl,lay := .inl rfl,rowT := .inl rfl,arr := .inl rfl,arv := .inl rfl,fsz := by kernel_rfl,eqv := .inl rfl,zer := .inr (by kernel_rfl),fnv := .inl rfl,emp := .inl rfl,mki := .inl rfl }
theorem td_48:TDOk Tryd.prog 48 { ty := (.sl 1 .str),sl := some (9,.str,16) } := { row := .inr (by kernel_rfl),und := .inl rfl,sli := .inr (by kernel_rfl),slt := by kernel_rfl,bye := .inl rfl,fld := .inl rfl,lay := .inl rfl,rowT := .inl rfl,arr := .inl rfl,arv := .inl rfl,fsz := by kernel_rfl,eqv := .inl rfl,zer := .inr (by kernel_rfl),fnv := .inl rfl,emp := .inl rfl,mki := .inl rfl }
theorem td_50:TDOk Tryd.prog 50 { ty := tyAtom,fs := [(.int .i64),(.int .i64),(.int .i64),.str],eq := true } := { row := .inr (by kernel_rfl),und := .inl rfl,sli := .inl rfl,slt := by kernel_rfl,bye := .inl rfl,fld := .inr (by kernel_rfl),lay := .inr (by kernel_rfl),rowT := .inr rfl,arr := .inl rfl,arv := .inl rfl,fsz := by kernel_rfl,eqv := .inr (by kernel_rfl),zer := .inr (by kernel_rfl),fnv := .inl rfl,emp := .inl rfl,mki := .inl rfl }
theorem td_57:TDOk Tryd.prog 57 { ty := tyreader,fs := [.str,(.int .i64),(.sl 4 tyAtom)] } := { row := .inr (by kernel_rfl),und := .inl rfl,sli := .inl rfl,slt := by kernel_rfl,bye := .inl rfl,fld := .inr (by kernel_rfl),lay := .inr (by kernel_rfl),rowT := .inr rfl,arr := .inl rfl,arv := .inl rfl,fsz := by kernel_rfl,eqv := .inl rfl,zer := .inr (by kernel_rfl),fnv := .inl rfl,emp := .inl rfl,mki := .inl rfl }
theorem td_63:TDOk Tryd.prog 63 { ty := (.sl 2 tywhole),sl := some (97,tywhole,16) } := { row := .inr (by kernel_rfl),und := .inl rfl,sli := .inr (by kernel_rfl),slt := by kernel_rfl,bye := .inl rfl,fld := .inl rfl,lay := .inl rfl,rowT := .inl rfl,arr := .inl rfl,arv := .inl rfl,fsz := by kernel_rfl,eqv := .inl rfl,zer := .inr (by kernel_rfl),fnv := .inl rfl,emp := .inl rfl,mki := .inl rfl }
theorem td_74:TDOk Tryd.prog 74 { ty := (.sl 1 .u8),sl := some (5,.u8,1) } := { row := .inr (by kernel_rfl),und := .inl rfl,sli := .inr (by kernel_rfl),slt := by kernel_rfl,bye := .inr (by kernel_rfl),fld := .inl rfl,lay := .inl rfl,rowT := .inl rfl,arr := .inl rfl,arv := .inl rfl,fsz := by kernel_rfl,eqv := .inl rfl,zer := .inr (by kernel_rfl),fnv := .inl rfl,emp := .inl rfl,mki := .inl rfl }
theorem td_75:TDOk Tryd.prog 75 { ty := (.int .u64) } := { row := .inr (by kernel_rfl),und := .inr (by kernel_rfl),sli := .inl rfl,slt := by kernel_rfl,bye := .inl rfl,fld := .inl rfl,lay := .inl rfl,rowT := .inl rfl,arr := .inl rfl,arv := .inl rfl,fsz := by kernel_rfl,eqv := .inl rfl,zer := .inr (by kernel_rfl),fnv := .inl rfl,emp := .inl rfl,mki := .inl rfl }
theorem td_93:TDOk Tryd.prog 93 { ty := .opq,fn := true } := { row := .inl rfl,und := .inl rfl,sli := .inl rfl,slt := by kernel_rfl,bye := .inl rfl,fld := .inl rfl,lay := .inl rfl,rowT := .inl rfl,arr := .inl rfl,arv := .inl rfl,fsz := by kernel_rfl,eqv := .inl rfl,zer := .inl rfl,fnv := .inr (by kernel_rfl),emp := .inl rfl,mki := .inl rfl }
theorem td_97:TDOk Tryd.prog 97 { ty := tywhole,fs := [(.int .i64),(.int .i64)],eq := true } := { row := .inr (by kernel_rfl),und := .inl rfl,sli := .inl rfl,slt := by kernel_rfl,bye := .inl rfl,fld := .inr (by kernel_rfl),lay := .inr (by kernel_rfl),rowT := .inr rfl,arr := .inl rfl,arv := .inl rfl,fsz := by kernel_rfl,eqv := .inr (by kernel_rfl),zer := .inr (by kernel_rfl),fnv := .inl rfl,emp := .inl rfl,mki := .inl rfl }
theorem td_104:TDOk Tryd.prog 104 { ty := (.int .u64) } := { row := .inr (by kernel_rfl),und := .inr (by kernel_rfl),sli := .inl rfl,slt := by kernel_rfl,bye := .inl rfl,fld := .inl rfl,lay := .inl rfl,rowT := .inl rfl,arr := .inl rfl,arv := .inl rfl,fsz := by kernel_rfl,eqv := .inl rfl,zer := .inr (by kernel_rfl),fnv := .inl rfl,emp := .inl rfl,mki := .inl rfl }
theorem td_110:TDOk Tryd.prog 110 { ty := (.sl 1 (.sl 4 tyAtom)),sl := some (23,(.sl 4 tyAtom),24) } := { row := .inr (by kernel_rfl),und := .inl rfl,sli := .inr (by kernel_rfl),slt := by kernel_rfl,bye := .inl rfl,fld := .inl rfl,lay := .inl rfl,rowT := .inl rfl,arr := .inl rfl,arv := .inl rfl,fsz := by kernel_rfl,eqv := .inl rfl,zer := .inr (by kernel_rfl),fnv := .inl rfl,emp := .inl rfl,mki := .inl rfl }
theorem td_130:TDOk Tryd.prog 130 { ty := (.int .u32) } := { row := .inr (by kernel_rfl),und := .inr (by kernel_rfl),sli := .inl rfl,slt := by kernel_rfl,bye := .inl rfl,fld := .inl rfl,lay := .inl rfl,rowT := .inl rfl,arr := .inl rfl,arv := .inl rfl,fsz := by kernel_rfl,eqv := .inl rfl,zer := .inr (by kernel_rfl),fnv := .inl rfl,emp := .inl rfl,mki := .inl rfl }
theorem td_131:TDOk Tryd.prog 131 { ty := .opq,ar := some (65,.u8) } := { row := .inl rfl,und := .inl rfl,sli := .inl rfl,slt := by kernel_rfl,bye := .inl rfl,fld := .inl rfl,lay := .inl rfl,rowT := .inl rfl,arr := .inr (by kernel_rfl),arv := .inr (.inl rfl),fsz := by kernel_rfl,eqv := .inl rfl,zer := .inl rfl,fnv := .inl rfl,emp := .inl rfl,mki := .inl rfl }
theorem Yok:DXOk Y0 X0 where
 tab := List.forall_mem_cons.2 ⟨td_2,List.forall_mem_cons.2 ⟨td_3,List.forall_mem_cons.2 ⟨td_4,List.forall_mem_cons.2 ⟨td_5,List.forall_mem_cons.2 ⟨td_9,List.forall_mem_cons.2 ⟨td_23,List.forall_mem_cons.2 ⟨td_42,List.forall_mem_cons.2 ⟨td_48,List.forall_mem_cons.2 ⟨td_50,List.forall_mem_cons.2 ⟨td_57,List.forall_mem_cons.2 ⟨td_63,List.forall_mem_cons.2 ⟨td_74,List.forall_mem_cons.2 ⟨td_75,List.forall_mem_cons.2 ⟨td_93,List.forall_mem_cons.2 ⟨td_97,List.forall_mem_cons.2 ⟨td_104,List.forall_mem_cons.2 ⟨td_110,List.forall_mem_cons.2 ⟨td_130,List.forall_mem_cons.2 ⟨td_131,(fun _ h=>by cases h)⟩⟩⟩⟩⟩⟩⟩⟩⟩⟩⟩⟩⟩⟩⟩⟩⟩⟩⟩
 gl := fun _=>rfl
def F_value_well:FnD := { n := 56,rs := [2] }
theorem ok_value_well (a:tAtom) (r:Bool) (h:value_well a = some r):APure X0 55 ([.s tyAtom a].map DT.toT) (resT ([.s .bool r].map DT.toT)) := by
 refine APure_of_straight (F := F_value_well) (fuel := 3000) (E := E_0) Yok E_0_ok mixed Tryd.func55 rfl rfl rfl (by decide) (args := [.s tyAtom a]) (Nat.le_of_ble_eq_true rfl) (by kernel_rfl) (fun r=>[.s .bool r]) ?_ h
 intro goto ret
 unfold value_well
 simp only [bnd_G,bnd_ite,bnd_bind,bnd_some,-eq_self]
 kernel_rfl
noncomputable def e_value_well:List DT → Option CallRes
 | [.s t0 y0]=>(castT (b := tyAtom) y0).bind fun a=>some ⟨Bool,value_well a,fun r=>.s .bool r,false,true⟩
 | _=>none
noncomputable def E_value_well:Env := Env.add 55 e_value_well E_0
theorem E_value_well_ok:EnvOk X0 E_value_well := by
 refine EnvOk.add E_0_ok (fun args c h=>?_)
 unfold e_value_well at h
 split at h
 ·obtain ⟨v0,⟨rfl,rfl⟩,h⟩ := castB h
  cases h
  exact ⟨fun r hr=>.inl ⟨by kernel_rfl,ok_value_well _ r hr⟩,fun hb=>fun r=>noSl_res (by rfl)⟩
 ·cases h
def F_value_wholes:FnD := { n := 80,rs := [2,3],labels := [(3,[4,5,16,17,18]),(10,[4,5,6,8,9,16,17,18,42,43,44])] }
def lab_value_wholes:L_value_wholes → Nat × DSt
 | .l3 out stack x16 x17 x18=>(3,[(4,.t (.own 97 tywhole out)),(5,.t (.own 97 tywhole stack)),(16,.t (.s (.sl 4 tyAtom) x16)),(17,.t (.s (.int .i64) x17)),(18,.t (.s (.int .i64) x18))])
 | .l10 out stack i k w w' x16 x17 x18 x42 x42' x43 x44=>(10,[(4,.t (.own 97 tywhole out)),(5,.t (.own 97 tywhole stack)),(6,.t (.s (.int .i64) i)),(8,.t (.s (.int .i64) k)),(9,.t (.box 97 [.s (.int .i64) w,.s (.int .i64) w'])),(16,.t (.s (.sl 4 tyAtom) x16)),(17,.t (.s (.int .i64) x17)),(18,.t (.s (.int .i64) x18)),(42,.ref 5 none x42 x42' .mid),(43,.t (.s (.int .i64) x43)),(44,.t (.s (.int .i64) x44))])
theorem ok_value_wholes (v:(List tAtom)) (r:((List twhole) × Bool)) (h:value_wholes v = some r):APure X0 30 ([.s (.sl 4 tyAtom) v].map DT.toT) (resT ([.own 97 tywhole r.1,.s .bool r.2].map DT.toT)) := by
 refine APure_of_machine (F := F_value_wholes) (fuel := 3000) (E := E_value_well) Yok E_value_well_ok mixed Tryd.func30 rfl rfl rfl (by decide) (args := [.s (.sl 4 tyAtom) v]) (Nat.le_of_ble_eq_true rfl) (by kernel_rfl) lab_value_wholes st_value_wholes (fun r=>[.own 97 tywhole r.1,.s .bool r.2]) ?_ ?_ ?_ h
 ·intro l; cases l
  ·exact WF_list ⟨trivial,trivial,trivial,trivial,trivial,trivial⟩
  ·exact WF_list ⟨trivial,trivial,trivial,trivial,trivial,trivial,trivial,trivial,.inl rfl,trivial,trivial,trivial⟩
 ·intro l goto ret; cases l with
  | l3 =>
   show _ = push (sg_value_wholes_3 ..) _ _
   unfold sg_value_wholes_3
   simp only [push_G,push_ite,push_bind,push_inl,push_inr,-eq_self]
   kernel_rfl
  | l10 =>
   show _ = push (sg_value_wholes_10 ..) _ _
   unfold sg_value_wholes_10
   simp only [push_G,push_ite,push_bind,push_inl,push_inr,-eq_self]
   kernel_rfl
 ·intro goto ret
  show _ = push (en_value_wholes ..) _ _
  unfold en_value_wholes
  simp only [push_G,push_ite,push_bind,push_inl,push_inr,-eq_self]
  kernel_rfl
noncomputable def e_value_wholes:List DT → Option CallRes
 | [.s t0 y0]=>(castT (b := (.sl 4 tyAtom)) y0).bind fun v=>some ⟨((List twhole) × Bool),value_wholes v,fun r=>.tup [.own 97 tywhole r.1,.s .bool r.2],(([]:List twhole),false),true⟩
 | _=>none
noncomputable def E_value_wholes:Env := Env.add 30 e_value_wholes E_value_well
theorem E_value_wholes_ok:EnvOk X0 E_value_wholes := by
 refine EnvOk.add E_value_well_ok (fun args c h=>?_)
 unfold e_value_wholes at h
 split at h
 ·obtain ⟨v0,⟨rfl,rfl⟩,h⟩ := castB h
  cases h
  exact ⟨fun r hr=>.inl ⟨by kernel_rfl,ok_value_wholes _ r hr⟩,fun hb=>fun r=>noSl_res (by rfl)⟩
 ·cases h
def F_value_Check:FnD := { n := 15,rs := [2] }
theorem ok_value_Check (v:(List tAtom)) (r:Int) (h:value_Check v = some r):APure X0 16 ([.s (.sl 4 tyAtom) v].map DT.toT) (resT ([.s (.int .i64) r].map DT.toT)) := by
 refine APure_of_straight (F := F_value_Check) (fuel := 3000) (E := E_value_wholes) Yok E_value_wholes_ok mixed Tryd.func16 rfl rfl rfl (by decide) (args := [.s (.sl 4 tyAtom) v]) (Nat.le_of_ble_eq_true rfl) (by kernel_rfl) (fun r=>[.s (.int .i64) r]) ?_ h
 intro goto ret
 unfold value_Check
 simp only [bnd_G,bnd_ite,bnd_bind,bnd_some,-eq_self]
 kernel_rfl
noncomputable def e_value_Check:List DT → Option CallRes
 | [.s t0 y0]=>(castT (b := (.sl 4 tyAtom)) y0).bind fun v=>some ⟨Int,value_Check v,fun r=>.s (.int .i64) r,(0:Int),true⟩
 | _=>none
noncomputable def E_value_Check:Env := Env.add 16 e_value_Check E_value_wholes
theorem E_value_Check_ok:EnvOk X0 E_value_Check := by
 refine EnvOk.add E_value_wholes_ok (fun args c h=>?_)
 unfold e_value_Check at h
 split at h
 ·obtain ⟨v0,⟨rfl,rfl⟩,h⟩ := castB h
  cases h
  exact ⟨fun r hr=>.inl ⟨by kernel_rfl,ok_value_Check _ r hr⟩,fun hb=>fun r=>noSl_res (by rfl)⟩
 ·cases h
theorem ok_strconv_Itoa (n:Int) (r:List UInt8) (h:strconv_Itoa n = some r):APure X0 22 ([.s (.int .i64) n].map DT.toT) (DT.s .str r).toT := by
 obtain ⟨⟨h1,h2⟩,h⟩ := G_some h
 cases h
 exact itoa_call (X := X0) (k := 22) (fun n w h0 h1 hG=>Tryd.strconv_Itoa n h0 h1 w hG.2) n h1 h2
noncomputable def e_strconv_Itoa:List DT → Option CallRes
 | [.s t0 y0]=>(castT (b := .int .i64) y0).bind fun n=>some ⟨List UInt8,strconv_Itoa n,fun r=>.s .str r,([]:List UInt8),true⟩
 | _=>none
noncomputable def E_strconv_Itoa:Env := Env.add 22 e_strconv_Itoa E_value_Check
theorem E_strconv_Itoa_ok:EnvOk X0 E_strconv_Itoa := by
 refine EnvOk.add E_value_Check_ok (fun args c h=>?_)
 unfold e_strconv_Itoa at h
 split at h
 ·obtain ⟨v0,⟨rfl,rfl⟩,h⟩ := castB h
  cases h
  exact ⟨fun r hr=>.inl ⟨by kernel_rfl,ok_strconv_Itoa _ r hr⟩,fun hb=>fun r=>noSl_res (d := .s .str r) (by rfl)⟩
 ·cases h
def F_lex_Quote:FnD := { n := 63,rs := [2],labels := [(4,[0,3,14,15])] }
def lab_lex_Quote:L_lex_Quote → Nat × DSt
 | .l4 s_ out x14 x15=>(4,[(0,.t (.s .str s_)),(3,.t (.own 5 .u8 out)),(14,.t (.s (.int .i64) x14)),(15,.t (.s (.int .i64) x15))])
theorem ok_lex_Quote (s_:(List UInt8)) (r:(List UInt8)) (h:lex_Quote s_ = some r):APure X0 23 ([.s .str s_].map DT.toT) (resT ([.s .str r].map DT.toT)) := by
 refine APure_of_machine (F := F_lex_Quote) (fuel := 3000) (E := E_strconv_Itoa) Yok E_strconv_Itoa_ok mixed Tryd.func23 rfl rfl rfl (by decide) (args := [.s .str s_]) (Nat.le_of_ble_eq_true rfl) (by kernel_rfl) lab_lex_Quote st_lex_Quote (fun r=>[.s .str r]) ?_ ?_ ?_ h
 ·intro l; cases l
  ·exact WF_list ⟨trivial,trivial,trivial,trivial,trivial⟩
 ·intro l goto ret; cases l with
  | l4 =>
   show _ = push (sg_lex_Quote_4 ..) _ _
   unfold sg_lex_Quote_4
   simp only [push_G,push_ite,push_bind,push_inl,push_inr,-eq_self]
   kernel_rfl
 ·intro goto ret
  show _ = push (en_lex_Quote ..) _ _
  unfold en_lex_Quote
  simp only [push_G,push_ite,push_bind,push_inl,push_inr,-eq_self]
  kernel_rfl
noncomputable def e_lex_Quote:List DT → Option CallRes
 | [.s t0 y0]=>(castT (b := .str) y0).bind fun s_=>some ⟨(List UInt8),lex_Quote s_,fun r=>.s .str r,([]:List UInt8),true⟩
 | _=>none
noncomputable def E_lex_Quote:Env := Env.add 23 e_lex_Quote E_strconv_Itoa
theorem E_lex_Quote_ok:EnvOk X0 E_lex_Quote := by
 refine EnvOk.add E_strconv_Itoa_ok (fun args c h=>?_)
 unfold e_lex_Quote at h
 split at h
 ·obtain ⟨v0,⟨rfl,rfl⟩,h⟩ := castB h
  cases h
  exact ⟨fun r hr=>.inl ⟨by kernel_rfl,ok_lex_Quote _ r hr⟩,fun hb=>fun r=>noSl_res (by rfl)⟩
 ·cases h
theorem ok_strings_Join (l:List (List UInt8)) (sep:List UInt8) (r:List UInt8) (h:strings_Join l sep = some r):APure X0 24 ([.s (.sl 1 .str) l,.s .str sep].map DT.toT) (DT.s .str r).toT := by
 obtain ⟨⟨h1,h2⟩,h⟩ := G_some h
 cases h
 exact join_call (X := X0) (k := 24) Tryd.strings_Join_none Tryd.strings_Join l sep h1 h2
noncomputable def e_strings_Join:List DT → Option CallRes
 | [.s t0 y0,.s t1 y1]=>(castT (b := .sl 1 .str) y0).bind fun l=>(castT (b := .str) y1).bind fun sep=>some ⟨List UInt8,strings_Join l sep,fun r=>.s .str r,([]:List UInt8),true⟩
 | _=>none
noncomputable def E_strings_Join:Env := Env.add 24 e_strings_Join E_lex_Quote
theorem E_strings_Join_ok:EnvOk X0 E_strings_Join := by
 refine EnvOk.add E_lex_Quote_ok (fun args c h=>?_)
 unfold e_strings_Join at h
 split at h
 ·obtain ⟨v0,⟨rfl,rfl⟩,h⟩ := castB h
  obtain ⟨v1,⟨rfl,rfl⟩,h⟩ := castB h
  cases h
  exact ⟨fun r hr=>.inl ⟨by kernel_rfl,ok_strings_Join _ _ r hr⟩,fun hb=>fun r=>noSl_res (d := .s .str r) (by rfl)⟩
 ·cases h
def F_value_Print:FnD := { n := 57,rs := [2,3],labels := [(6,[5,16,17,18])] }
def lab_value_Print:L_value_Print → Nat × DSt
 | .l6 stack x16 x17 x18=>(6,[(5,.t (.own 9 .str stack)),(16,.t (.s (.sl 4 tyAtom) x16)),(17,.t (.s (.int .i64) x17)),(18,.t (.s (.int .i64) x18))])
theorem ok_value_Print (v:(List tAtom)) (r:((List UInt8) × Int)) (h:value_Print v = some r):APure X0 8 ([.s (.sl 4 tyAtom) v].map DT.toT) (resT ([.s .str r.1,.s (.int .i64) r.2].map DT.toT)) := by
 refine APure_of_machine (F := F_value_Print) (fuel := 3000) (E := E_strings_Join) Yok E_strings_Join_ok mixed Tryd.func8 rfl rfl rfl (by decide) (args := [.s (.sl 4 tyAtom) v]) (Nat.le_of_ble_eq_true rfl) (by kernel_rfl) lab_value_Print st_value_Print (fun r=>[.s .str r.1,.s (.int .i64) r.2]) ?_ ?_ ?_ h
 ·intro l; cases l
  ·exact WF_list ⟨trivial,trivial,trivial,trivial,trivial⟩
 ·intro l goto ret; cases l with
  | l6 =>
   show _ = push (sg_value_Print_6 ..) _ _
   unfold sg_value_Print_6
   simp only [push_G,push_ite,push_bind,push_inl,push_inr,-eq_self]
   kernel_rfl
 ·intro goto ret
  show _ = push (en_value_Print ..) _ _
  unfold en_value_Print
  simp only [push_G,push_ite,push_bind,push_inl,push_inr,-eq_self]
  kernel_rfl
noncomputable def e_value_Print:List DT → Option CallRes
 | [.s t0 y0]=>(castT (b := (.sl 4 tyAtom)) y0).bind fun v=>some ⟨((List UInt8) × Int),value_Print v,fun r=>.tup [.s .str r.1,.s (.int .i64) r.2],(([]:List UInt8),(0:Int)),true⟩
 | _=>none
noncomputable def E_value_Print:Env := Env.add 8 e_value_Print E_strings_Join
theorem E_value_Print_ok:EnvOk X0 E_value_Print := by
 refine EnvOk.add E_strings_Join_ok (fun args c h=>?_)
 unfold e_value_Print at h
 split at h
 ·obtain ⟨v0,⟨rfl,rfl⟩,h⟩ := castB h
  cases h
  exact ⟨fun r hr=>.inl ⟨by kernel_rfl,ok_value_Print _ r hr⟩,fun hb=>fun r=>noSl_res (by rfl)⟩
 ·cases h
def F_base_SameValue:FnD := { n := 26,rs := [4],labels := [(4,[0,1,5])] }
def lab_base_SameValue:L_base_SameValue → Nat × DSt
 | .l4 a b i=>(4,[(0,.t (.s (.sl 4 tyAtom) a)),(1,.t (.s (.sl 4 tyAtom) b)),(5,.t (.s (.int .i64) i))])
theorem ok_base_SameValue (a:(List tAtom)) (b:(List tAtom)) (r:Bool) (h:base_SameValue a b = some r):APure X0 10 ([.s (.sl 4 tyAtom) a,.s (.sl 4 tyAtom) b].map DT.toT) (resT ([.s .bool r].map DT.toT)) := by
 refine APure_of_machine (F := F_base_SameValue) (fuel := 3000) (E := E_value_Print) Yok E_value_Print_ok mixed Tryd.func10 rfl rfl rfl (by decide) (args := [.s (.sl 4 tyAtom) a,.s (.sl 4 tyAtom) b]) (Nat.le_of_ble_eq_true rfl) (by kernel_rfl) lab_base_SameValue st_base_SameValue (fun r=>[.s .bool r]) ?_ ?_ ?_ h
 ·intro l; cases l
  ·exact WF_list ⟨trivial,trivial,trivial,trivial⟩
 ·intro l goto ret; cases l with
  | l4 =>
   show _ = push (sg_base_SameValue_4 ..) _ _
   unfold sg_base_SameValue_4
   simp only [push_G,push_ite,push_bind,push_inl,push_inr,-eq_self]
   kernel_rfl
 ·intro goto ret
  show _ = push (en_base_SameValue ..) _ _
  unfold en_base_SameValue
  simp only [push_G,push_ite,push_bind,push_inl,push_inr,-eq_self]
  kernel_rfl
noncomputable def e_base_SameValue:List DT → Option CallRes
 | [.s t0 y0,.s t1 y1]=>(castT (b := (.sl 4 tyAtom)) y0).bind fun a=>(castT (b := (.sl 4 tyAtom)) y1).bind fun b=>some ⟨Bool,base_SameValue a b,fun r=>.s .bool r,false,true⟩
 | _=>none
noncomputable def E_base_SameValue:Env := Env.add 10 e_base_SameValue E_value_Print
theorem E_base_SameValue_ok:EnvOk X0 E_base_SameValue := by
 refine EnvOk.add E_value_Print_ok (fun args c h=>?_)
 unfold e_base_SameValue at h
 split at h
 ·obtain ⟨v0,⟨rfl,rfl⟩,h⟩ := castB h
  obtain ⟨v1,⟨rfl,rfl⟩,h⟩ := castB h
  cases h
  exact ⟨fun r hr=>.inl ⟨by kernel_rfl,ok_base_SameValue _ _ r hr⟩,fun hb=>fun r=>noSl_res (by rfl)⟩
 ·cases h
def F_value_reader_put:FnD := { n := 21,rs := [4],Z := [0] }
theorem ok_value_reader_put (r_:(List UInt8)) (r_':Int) (r_'':(List tAtom)) (a:tAtom) (r:(Bool × (List UInt8) × Int × (List tAtom))) (h:value_reader_put r_ r_' r_'' a = some r):ACall X0 50 ([.box 57 [.s .str r_,.s (.int .i64) r_',.own 50 tyAtom r_''],.s tyAtom a].map DT.toT) (resT ([.s .bool r.1].map DT.toT)) (outsL 0 (.box 57 [.s .str r.2.1,.s (.int .i64) r.2.2.1,.own 50 tyAtom r.2.2.2]:DT).toT 0 2) := by
 unfold value_reader_put at h
 refine ALend_of_straight (F := F_value_reader_put) (fuel := 3000) (E := E_base_SameValue) (z := 0) Yok E_base_SameValue_ok mixed Tryd.func50 rfl rfl rfl (by decide) rfl rfl (by decide) (args := [.box 57 [.s .str r_,.s (.int .i64) r_',.own 50 tyAtom r_''],.s tyAtom a]) (Nat.le_of_ble_eq_true rfl) (Nat.le_of_ble_eq_true rfl) (by kernel_rfl) (fun r=>[.s .bool r.1]) (fun r=>.box 57 [.s .str r.2.1,.s (.int .i64) r.2.2.1,.own 50 tyAtom r.2.2.2]) ?_ h rfl
 intro goto ret
 unfold en_value_reader_put
 simp only [bnd_G,bnd_ite,bnd_bind,bnd_some,-eq_self]
 kernel_rfl
noncomputable def e_value_reader_put:List DT → Option CallRes
 | [.tup [.u],.box e0 [.s t1 y1,.s t2 y2,.own e3 t3 y3],.s t4 y4]=>(beqO e0 57).bind fun _=>(castT (b := .str) y1).bind fun r_=>(castT (b := (.int .i64)) y2).bind fun r_'=>(castT (a := .sl 1 t3) (b := .sl 1 tyAtom) y3).bind fun r_''=>(beqO e3 50).bind fun _=>(castT (b := tyAtom) y4).bind fun a=>some ⟨(Bool × (List UInt8) × Int × (List tAtom)),value_reader_put r_ r_' r_'' a,fun r=>.tup [.s .bool r.1,.box 57 [.s .str r.2.1,.s (.int .i64) r.2.2.1,.own 50 tyAtom r.2.2.2]],(false,([]:List UInt8),(0:Int),([]:List tAtom)),false⟩
 | _=>none
noncomputable def E_value_reader_put:Env := Env.add2 50 (e_value_reader_put) E_base_SameValue
theorem E_value_reader_put_ok:EnvOk X0 (E_value_reader_put) := by
 refine EnvOk.add2 E_base_SameValue_ok (fun args c h=>?_)
 unfold e_value_reader_put at h
 split at h
 ·replace h := Option.bind_eq_some_iff.1 h
  obtain ⟨u0,b0,h⟩ := h
  obtain rfl := beqO_some b0
  replace h := castB h; obtain ⟨v1,⟨rfl,rfl⟩,h⟩ := h
  replace h := castB h; obtain ⟨v2,⟨rfl,rfl⟩,h⟩ := h
  replace h := castC h; obtain ⟨v3,⟨rfl,rfl⟩,h⟩ := h
  replace h := Option.bind_eq_some_iff.1 h
  obtain ⟨u3,b3,h⟩ := h
  obtain rfl := beqO_some b3
  replace h := castB h; obtain ⟨v4,⟨rfl,rfl⟩,h⟩ := h
  cases h
  intro r hr res out hwr
  cases hwr
  exact ⟨by kernel_rfl,ok_value_reader_put _ _ _ _ r hr,noSl_res (d := .s .bool r.1) (by rfl),noSl_res (d := .box 57 [.s .str r.2.1,.s (.int .i64) r.2.2.1,.own 50 tyAtom r.2.2.2]) (by rfl),rfl⟩
 ·cases h
theorem ok_bytealg_IndexByteString (s_:List UInt8) (c:UInt8) (r:Int) (h:bytealg_IndexByteString s_ c = some r):AExt X0 112 ([.s .str s_,.s .u8 c].map DT.toT) (DT.s (.int .i64) r).toT := by
 cases h
 have := AExt_indexByteString (X := X0) (f := 112) Tryd.func112 (by decide +kernel) (by decide +kernel) (by kernel_rfl) (by kernel_rfl) (mkS s_) (c.toNat:Int)
 rw [bl_mkS,show ((c.toNat:Int).toNat.toUInt8) = c from by simp] at this
 exact this
noncomputable def e_bytealg_IndexByteString:List DT → Option CallRes
 | [.s t0 y0,.s t1 y1]=>(castT (b := .str) y0).bind fun s_=>(castT (b := .u8) y1).bind fun c=>some ⟨Int,bytealg_IndexByteString s_ c,fun r=>.s (.int .i64) r,(0:Int),false⟩
 | _=>none
noncomputable def E_bytealg_IndexByteString:Env := Env.add 112 e_bytealg_IndexByteString E_value_reader_put
theorem E_bytealg_IndexByteString_ok:EnvOk X0 E_bytealg_IndexByteString := by
 refine EnvOk.add E_value_reader_put_ok (fun args c h=>?_)
 unfold e_bytealg_IndexByteString at h
 split at h
 ·obtain ⟨v0,⟨rfl,rfl⟩,h⟩ := castB h
  obtain ⟨v1,⟨rfl,rfl⟩,h⟩ := castB h
  cases h
  exact ⟨fun r hr=>.inr ⟨rfl,ok_bytealg_IndexByteString _ _ r hr⟩,fun hb=>by cases hb⟩
 ·cases h
def F_stringslite_IndexByte:FnD := { n := 8,rs := [4] }
theorem ok_stringslite_IndexByte (s_:(List UInt8)) (c:UInt8) (r:Int) (h:stringslite_IndexByte s_ c = some r):APure X0 111 ([.s .str s_,.s .u8 c].map DT.toT) (resT ([.s (.int .i64) r].map DT.toT)) := by
 refine APure_of_straight (F := F_stringslite_IndexByte) (fuel := 3000) (E := E_bytealg_IndexByteString) Yok E_bytealg_IndexByteString_ok mixed Tryd.func111 rfl rfl rfl (by decide) (args := [.s .str s_,.s .u8 c]) (Nat.le_of_ble_eq_true rfl) (by kernel_rfl) (fun r=>[.s (.int .i64) r]) ?_ h
 intro goto ret
 unfold stringslite_IndexByte
 simp only [bnd_G,bnd_ite,bnd_bind,bnd_some,-eq_self]
 kernel_rfl
noncomputable def e_stringslite_IndexByte:List DT → Option CallRes
 | [.s t0 y0,.s t1 y1]=>(castT (b := .str) y0).bind fun s_=>(castT (b := .u8) y1).bind fun c=>some ⟨Int,stringslite_IndexByte s_ c,fun r=>.s (.int .i64) r,(0:Int),true⟩
 | _=>none
noncomputable def E_stringslite_IndexByte:Env := Env.add 111 e_stringslite_IndexByte E_bytealg_IndexByteString
theorem E_stringslite_IndexByte_ok:EnvOk X0 E_stringslite_IndexByte := by
 refine EnvOk.add E_bytealg_IndexByteString_ok (fun args c h=>?_)
 unfold e_stringslite_IndexByte at h
 split at h
 ·obtain ⟨v0,⟨rfl,rfl⟩,h⟩ := castB h
  obtain ⟨v1,⟨rfl,rfl⟩,h⟩ := castB h
  cases h
  exact ⟨fun r hr=>.inl ⟨by kernel_rfl,ok_stringslite_IndexByte _ _ r hr⟩,fun hb=>fun r=>noSl_res (by rfl)⟩
 ·cases h
def F_strings_IndexByte:FnD := { n := 8,rs := [4] }
theorem ok_strings_IndexByte (s_:(List UInt8)) (c:UInt8) (r:Int) (h:strings_IndexByte s_ c = some r):APure X0 109 ([.s .str s_,.s .u8 c].map DT.toT) (resT ([.s (.int .i64) r].map DT.toT)) := by
 refine APure_of_straight (F := F_strings_IndexByte) (fuel := 3000) (E := E_stringslite_IndexByte) Yok E_stringslite_IndexByte_ok mixed Tryd.func109 rfl rfl rfl (by decide) (args := [.s .str s_,.s .u8 c]) (Nat.le_of_ble_eq_true rfl) (by kernel_rfl) (fun r=>[.s (.int .i64) r]) ?_ h
 intro goto ret
 unfold strings_IndexByte
 simp only [bnd_G,bnd_ite,bnd_bind,bnd_some,-eq_self]
 kernel_rfl
noncomputable def e_strings_IndexByte:List DT → Option CallRes
 | [.s t0 y0,.s t1 y1]=>(castT (b := .str) y0).bind fun s_=>(castT (b := .u8) y1).bind fun c=>some ⟨Int,strings_IndexByte s_ c,fun r=>.s (.int .i64) r,(0:Int),true⟩
 | _=>none
noncomputable def E_strings_IndexByte:Env := Env.add 109 e_strings_IndexByte E_stringslite_IndexByte
theorem E_strings_IndexByte_ok:EnvOk X0 E_strings_IndexByte := by
 refine EnvOk.add E_stringslite_IndexByte_ok (fun args c h=>?_)
 unfold e_strings_IndexByte at h
 split at h
 ·obtain ⟨v0,⟨rfl,rfl⟩,h⟩ := castB h
  obtain ⟨v1,⟨rfl,rfl⟩,h⟩ := castB h
  cases h
  exact ⟨fun r hr=>.inl ⟨by kernel_rfl,ok_strings_IndexByte _ _ r hr⟩,fun hb=>fun r=>noSl_res (by rfl)⟩
 ·cases h
def F_lex_escaped:FnD := { n := 60,rs := [4,5] }
theorem ok_lex_escaped (s_:(List UInt8)) (at_:Int) (r:(UInt8 × Int)) (h:lex_escaped s_ at_ = some r):APure X0 102 ([.s .str s_,.s (.int .i64) at_].map DT.toT) (resT ([.s .u8 r.1,.s (.int .i64) r.2].map DT.toT)) := by
 refine APure_of_straight (F := F_lex_escaped) (fuel := 3000) (E := E_strings_IndexByte) Yok E_strings_IndexByte_ok mixed Tryd.func102 rfl rfl rfl (by decide) (args := [.s .str s_,.s (.int .i64) at_]) (Nat.le_of_ble_eq_true rfl) (by kernel_rfl) (fun r=>[.s .u8 r.1,.s (.int .i64) r.2]) ?_ h
 intro goto ret
 unfold lex_escaped
 simp only [bnd_G,bnd_ite,bnd_bind,bnd_some,-eq_self]
 kernel_rfl
noncomputable def e_lex_escaped:List DT → Option CallRes
 | [.s t0 y0,.s t1 y1]=>(castT (b := .str) y0).bind fun s_=>(castT (b := (.int .i64)) y1).bind fun at_=>some ⟨(UInt8 × Int),lex_escaped s_ at_,fun r=>.tup [.s .u8 r.1,.s (.int .i64) r.2],((0:UInt8),(0:Int)),true⟩
 | _=>none
noncomputable def E_lex_escaped:Env := Env.add 102 e_lex_escaped E_strings_IndexByte
theorem E_lex_escaped_ok:EnvOk X0 E_lex_escaped := by
 refine EnvOk.add E_strings_IndexByte_ok (fun args c h=>?_)
 unfold e_lex_escaped at h
 split at h
 ·obtain ⟨v0,⟨rfl,rfl⟩,h⟩ := castB h
  obtain ⟨v1,⟨rfl,rfl⟩,h⟩ := castB h
  cases h
  exact ⟨fun r hr=>.inl ⟨by kernel_rfl,ok_lex_escaped _ _ r hr⟩,fun hb=>fun r=>noSl_res (by rfl)⟩
 ·cases h
def F_lex_quoted:FnD := { n := 69,rs := [4,5,6],labels := [(5,[0,1,7])] }
def lab_lex_quoted:L_lex_quoted → Nat × DSt
 | .l5 s_ at_ out=>(5,[(0,.t (.s .str s_)),(1,.t (.s (.int .i64) at_)),(7,.t (.own 5 .u8 out))])
theorem ok_lex_quoted (s_:(List UInt8)) (at_:Int) (r:((List UInt8) × Int × Bool)) (h:lex_quoted s_ at_ = some r):APure X0 87 ([.s .str s_,.s (.int .i64) at_].map DT.toT) (resT ([.s .str r.1,.s (.int .i64) r.2.1,.s .bool r.2.2].map DT.toT)) := by
 refine APure_of_machine (F := F_lex_quoted) (fuel := 3000) (E := E_lex_escaped) Yok E_lex_escaped_ok mixed Tryd.func87 rfl rfl rfl (by decide) (args := [.s .str s_,.s (.int .i64) at_]) (Nat.le_of_ble_eq_true rfl) (by kernel_rfl) lab_lex_quoted st_lex_quoted (fun r=>[.s .str r.1,.s (.int .i64) r.2.1,.s .bool r.2.2]) ?_ ?_ ?_ h
 ·intro l; cases l
  ·exact WF_list ⟨trivial,trivial,trivial,trivial⟩
 ·intro l goto ret; cases l with
  | l5 =>
   show _ = push (sg_lex_quoted_5 ..) _ _
   unfold sg_lex_quoted_5
   simp only [push_G,push_ite,push_bind,push_inl,push_inr,-eq_self]
   kernel_rfl
 ·intro goto ret
  show _ = push (en_lex_quoted ..) _ _
  unfold en_lex_quoted
  simp only [push_G,push_ite,push_bind,push_inl,push_inr,-eq_self]
  kernel_rfl
noncomputable def e_lex_quoted:List DT → Option CallRes
 | [.s t0 y0,.s t1 y1]=>(castT (b := .str) y0).bind fun s_=>(castT (b := (.int .i64)) y1).bind fun at_=>some ⟨((List UInt8) × Int × Bool),lex_quoted s_ at_,fun r=>.tup [.s .str r.1,.s (.int .i64) r.2.1,.s .bool r.2.2],(([]:List UInt8),(0:Int),false),true⟩
 | _=>none
noncomputable def E_lex_quoted:Env := Env.add 87 e_lex_quoted E_lex_escaped
theorem E_lex_quoted_ok:EnvOk X0 E_lex_quoted := by
 refine EnvOk.add E_lex_escaped_ok (fun args c h=>?_)
 unfold e_lex_quoted at h
 split at h
 ·obtain ⟨v0,⟨rfl,rfl⟩,h⟩ := castB h
  obtain ⟨v1,⟨rfl,rfl⟩,h⟩ := castB h
  cases h
  exact ⟨fun r hr=>.inl ⟨by kernel_rfl,ok_lex_quoted _ _ r hr⟩,fun hb=>fun r=>noSl_res (by rfl)⟩
 ·cases h
def F_lex_Unquote:FnD := { n := 22,rs := [2,3] }
theorem ok_lex_Unquote (s_:(List UInt8)) (r:((List UInt8) × Bool)) (h:lex_Unquote s_ = some r):APure X0 64 ([.s .str s_].map DT.toT) (resT ([.s .str r.1,.s .bool r.2].map DT.toT)) := by
 refine APure_of_straight (F := F_lex_Unquote) (fuel := 3000) (E := E_lex_quoted) Yok E_lex_quoted_ok mixed Tryd.func64 rfl rfl rfl (by decide) (args := [.s .str s_]) (Nat.le_of_ble_eq_true rfl) (by kernel_rfl) (fun r=>[.s .str r.1,.s .bool r.2]) ?_ h
 intro goto ret
 unfold lex_Unquote
 simp only [bnd_G,bnd_ite,bnd_bind,bnd_some,-eq_self]
 kernel_rfl
noncomputable def e_lex_Unquote:List DT → Option CallRes
 | [.s t0 y0]=>(castT (b := .str) y0).bind fun s_=>some ⟨((List UInt8) × Bool),lex_Unquote s_,fun r=>.tup [.s .str r.1,.s .bool r.2],(([]:List UInt8),false),true⟩
 | _=>none
noncomputable def E_lex_Unquote:Env := Env.add 64 e_lex_Unquote E_lex_quoted
theorem E_lex_Unquote_ok:EnvOk X0 E_lex_Unquote := by
 refine EnvOk.add E_lex_quoted_ok (fun args c h=>?_)
 unfold e_lex_Unquote at h
 split at h
 ·obtain ⟨v0,⟨rfl,rfl⟩,h⟩ := castB h
  cases h
  exact ⟨fun r hr=>.inl ⟨by kernel_rfl,ok_lex_Unquote _ r hr⟩,fun hb=>fun r=>noSl_res (by rfl)⟩
 ·cases h
def F_value_reader_text:FnD := { n := 77,rs := [2],Z := [0],labels := [(2,[0,3])] }
def Y_value_reader_text:DX := { Y0 with o2 := [75] }
theorem Yok_value_reader_text:DXOk Y_value_reader_text X0 := ⟨Yok.tab,Yok.gl⟩
def lab_value_reader_text:L_value_reader_text → Nat × DSt
 | .l2 r_ r_' r_'' end_=>(2,[(0,.t (.box 57 [.s .str r_,.s (.int .i64) r_',.own 50 tyAtom r_''])),(3,.t (.s (.int .i64) end_))])
theorem ok_value_reader_text (r_:(List UInt8)) (r_':Int) (r_'':(List tAtom)) (r:(Bool × (List UInt8) × Int × (List tAtom))) (h:value_reader_text r_ r_' r_'' = some r):ACall X0 48 ([.box 57 [.s .str r_,.s (.int .i64) r_',.own 50 tyAtom r_'']].map DT.toT) (resT ([.s .bool r.1].map DT.toT)) (outsL 0 (.box 57 [.s .str r.2.1,.s (.int .i64) r.2.2.1,.own 50 tyAtom r.2.2.2]:DT).toT 0 1) := by
 unfold value_reader_text at h
 refine ALend_of_machine (F := F_value_reader_text) (fuel := 3000) (E := E_lex_Unquote) (z := 0) Yok_value_reader_text E_lex_Unquote_ok mixed Tryd.func48 rfl rfl rfl (by decide) rfl rfl (by decide) (args := [.box 57 [.s .str r_,.s (.int .i64) r_',.own 50 tyAtom r_'']]) (Nat.le_of_ble_eq_true rfl) (Nat.le_of_ble_eq_true rfl) (by kernel_rfl) lab_value_reader_text (st_value_reader_text) (fun r=>[.s .bool r.1]) (fun r=>.box 57 [.s .str r.2.1,.s (.int .i64) r.2.2.1,.own 50 tyAtom r.2.2.2]) ?_ ?_ ?_ h rfl
 ·intro l; cases l
  ·exact WF_list ⟨trivial,trivial,trivial⟩
 ·intro l goto ret; cases l with
  | l2 =>
   show _ = push (sg_value_reader_text_2 ..) _ _
   unfold sg_value_reader_text_2
   simp only [push_G,push_ite,push_bind,push_inl,push_inr,-eq_self]
   kernel_rfl
 ·intro goto ret
  show _ = push (en_value_reader_text ..) _ _
  unfold en_value_reader_text
  simp only [push_G,push_ite,push_bind,push_inl,push_inr,-eq_self]
  kernel_rfl
noncomputable def e_value_reader_text:List DT → Option CallRes
 | [.tup [.u],.box e0 [.s t1 y1,.s t2 y2,.own e3 t3 y3]]=>(beqO e0 57).bind fun _=>(castT (b := .str) y1).bind fun r_=>(castT (b := (.int .i64)) y2).bind fun r_'=>(castT (a := .sl 1 t3) (b := .sl 1 tyAtom) y3).bind fun r_''=>(beqO e3 50).bind fun _=>some ⟨(Bool × (List UInt8) × Int × (List tAtom)),value_reader_text r_ r_' r_'',fun r=>.tup [.s .bool r.1,.box 57 [.s .str r.2.1,.s (.int .i64) r.2.2.1,.own 50 tyAtom r.2.2.2]],(false,([]:List UInt8),(0:Int),([]:List tAtom)),false⟩
 | _=>none
noncomputable def E_value_reader_text:Env := Env.add2 48 (e_value_reader_text) E_lex_Unquote
theorem E_value_reader_text_ok:EnvOk X0 (E_value_reader_text) := by
 refine EnvOk.add2 E_lex_Unquote_ok (fun args c h=>?_)
 unfold e_value_reader_text at h
 split at h
 ·replace h := Option.bind_eq_some_iff.1 h
  obtain ⟨u0,b0,h⟩ := h
  obtain rfl := beqO_some b0
  replace h := castB h; obtain ⟨v1,⟨rfl,rfl⟩,h⟩ := h
  replace h := castB h; obtain ⟨v2,⟨rfl,rfl⟩,h⟩ := h
  replace h := castC h; obtain ⟨v3,⟨rfl,rfl⟩,h⟩ := h
  replace h := Option.bind_eq_some_iff.1 h
  obtain ⟨u3,b3,h⟩ := h
  obtain rfl := beqO_some b3
  cases h
  intro r hr res out hwr
  cases hwr
  exact ⟨by kernel_rfl,ok_value_reader_text _ _ _ r hr,noSl_res (d := .s .bool r.1) (by rfl),noSl_res (d := .box 57 [.s .str r.2.1,.s (.int .i64) r.2.2.1,.own 50 tyAtom r.2.2.2]) (by rfl),rfl⟩
 ·cases h
def F_stringslite_HasPrefix:FnD := { n := 18,rs := [4] }
theorem ok_stringslite_HasPrefix (s_:(List UInt8)) (prefix_:(List UInt8)) (r:Bool) (h:stringslite_HasPrefix s_ prefix_ = some r):APure X0 88 ([.s .str s_,.s .str prefix_].map DT.toT) (resT ([.s .bool r].map DT.toT)) := by
 refine APure_of_straight (F := F_stringslite_HasPrefix) (fuel := 3000) (E := E_value_reader_text) Yok E_value_reader_text_ok mixed Tryd.func88 rfl rfl rfl (by decide) (args := [.s .str s_,.s .str prefix_]) (Nat.le_of_ble_eq_true rfl) (by kernel_rfl) (fun r=>[.s .bool r]) ?_ h
 intro goto ret
 unfold stringslite_HasPrefix
 simp only [bnd_G,bnd_ite,bnd_bind,bnd_some,-eq_self]
 kernel_rfl
noncomputable def e_stringslite_HasPrefix:List DT → Option CallRes
 | [.s t0 y0,.s t1 y1]=>(castT (b := .str) y0).bind fun s_=>(castT (b := .str) y1).bind fun prefix_=>some ⟨Bool,stringslite_HasPrefix s_ prefix_,fun r=>.s .bool r,false,true⟩
 | _=>none
noncomputable def E_stringslite_HasPrefix:Env := Env.add 88 e_stringslite_HasPrefix E_value_reader_text
theorem E_stringslite_HasPrefix_ok:EnvOk X0 E_stringslite_HasPrefix := by
 refine EnvOk.add E_value_reader_text_ok (fun args c h=>?_)
 unfold e_stringslite_HasPrefix at h
 split at h
 ·obtain ⟨v0,⟨rfl,rfl⟩,h⟩ := castB h
  obtain ⟨v1,⟨rfl,rfl⟩,h⟩ := castB h
  cases h
  exact ⟨fun r hr=>.inl ⟨by kernel_rfl,ok_stringslite_HasPrefix _ _ r hr⟩,fun hb=>fun r=>noSl_res (by rfl)⟩
 ·cases h
def F_strings_HasPrefix:FnD := { n := 8,rs := [4] }
theorem ok_strings_HasPrefix (s_:(List UInt8)) (prefix_:(List UInt8)) (r:Bool) (h:strings_HasPrefix s_ prefix_ = some r):APure X0 65 ([.s .str s_,.s .str prefix_].map DT.toT) (resT ([.s .bool r].map DT.toT)) := by
 refine APure_of_straight (F := F_strings_HasPrefix) (fuel := 3000) (E := E_stringslite_HasPrefix) Yok E_stringslite_HasPrefix_ok mixed Tryd.func65 rfl rfl rfl (by decide) (args := [.s .str s_,.s .str prefix_]) (Nat.le_of_ble_eq_true rfl) (by kernel_rfl) (fun r=>[.s .bool r]) ?_ h
 intro goto ret
 unfold strings_HasPrefix
 simp only [bnd_G,bnd_ite,bnd_bind,bnd_some,-eq_self]
 kernel_rfl
noncomputable def e_strings_HasPrefix:List DT → Option CallRes
 | [.s t0 y0,.s t1 y1]=>(castT (b := .str) y0).bind fun s_=>(castT (b := .str) y1).bind fun prefix_=>some ⟨Bool,strings_HasPrefix s_ prefix_,fun r=>.s .bool r,false,true⟩
 | _=>none
noncomputable def E_strings_HasPrefix:Env := Env.add 65 e_strings_HasPrefix E_stringslite_HasPrefix
theorem E_strings_HasPrefix_ok:EnvOk X0 E_strings_HasPrefix := by
 refine EnvOk.add E_stringslite_HasPrefix_ok (fun args c h=>?_)
 unfold e_strings_HasPrefix at h
 split at h
 ·obtain ⟨v0,⟨rfl,rfl⟩,h⟩ := castB h
  obtain ⟨v1,⟨rfl,rfl⟩,h⟩ := castB h
  cases h
  exact ⟨fun r hr=>.inl ⟨by kernel_rfl,ok_strings_HasPrefix _ _ r hr⟩,fun hb=>fun r=>noSl_res (by rfl)⟩
 ·cases h
def F_value_reader_has:FnD := { n := 28,rs := [4],Z := [0] }
theorem ok_value_reader_has (r_:(List UInt8)) (r_':Int) (r_'':(List tAtom)) (t_:(List UInt8)) (r:(Bool × (List UInt8) × Int × (List tAtom))) (h:value_reader_has r_ r_' r_'' t_ = some r):ACall X0 49 ([.box 57 [.s .str r_,.s (.int .i64) r_',.own 50 tyAtom r_''],.s .str t_].map DT.toT) (resT ([.s .bool r.1].map DT.toT)) (outsL 0 (.box 57 [.s .str r.2.1,.s (.int .i64) r.2.2.1,.own 50 tyAtom r.2.2.2]:DT).toT 0 2) := by
 unfold value_reader_has at h
 refine ALend_of_straight (F := F_value_reader_has) (fuel := 3000) (E := E_strings_HasPrefix) (z := 0) Yok E_strings_HasPrefix_ok mixed Tryd.func49 rfl rfl rfl (by decide) rfl rfl (by decide) (args := [.box 57 [.s .str r_,.s (.int .i64) r_',.own 50 tyAtom r_''],.s .str t_]) (Nat.le_of_ble_eq_true rfl) (Nat.le_of_ble_eq_true rfl) (by kernel_rfl) (fun r=>[.s .bool r.1]) (fun r=>.box 57 [.s .str r.2.1,.s (.int .i64) r.2.2.1,.own 50 tyAtom r.2.2.2]) ?_ h rfl
 intro goto ret
 unfold en_value_reader_has
 simp only [bnd_G,bnd_ite,bnd_bind,bnd_some,-eq_self]
 kernel_rfl
noncomputable def e_value_reader_has:List DT → Option CallRes
 | [.tup [.u],.box e0 [.s t1 y1,.s t2 y2,.own e3 t3 y3],.s t4 y4]=>(beqO e0 57).bind fun _=>(castT (b := .str) y1).bind fun r_=>(castT (b := (.int .i64)) y2).bind fun r_'=>(castT (a := .sl 1 t3) (b := .sl 1 tyAtom) y3).bind fun r_''=>(beqO e3 50).bind fun _=>(castT (b := .str) y4).bind fun t_=>some ⟨(Bool × (List UInt8) × Int × (List tAtom)),value_reader_has r_ r_' r_'' t_,fun r=>.tup [.s .bool r.1,.box 57 [.s .str r.2.1,.s (.int .i64) r.2.2.1,.own 50 tyAtom r.2.2.2]],(false,([]:List UInt8),(0:Int),([]:List tAtom)),false⟩
 | _=>none
noncomputable def E_value_reader_has:Env := Env.add2 49 (e_value_reader_has) E_strings_HasPrefix
theorem E_value_reader_has_ok:EnvOk X0 (E_value_reader_has) := by
 refine EnvOk.add2 E_strings_HasPrefix_ok (fun args c h=>?_)
 unfold e_value_reader_has at h
 split at h
 ·replace h := Option.bind_eq_some_iff.1 h
  obtain ⟨u0,b0,h⟩ := h
  obtain rfl := beqO_some b0
  replace h := castB h; obtain ⟨v1,⟨rfl,rfl⟩,h⟩ := h
  replace h := castB h; obtain ⟨v2,⟨rfl,rfl⟩,h⟩ := h
  replace h := castC h; obtain ⟨v3,⟨rfl,rfl⟩,h⟩ := h
  replace h := Option.bind_eq_some_iff.1 h
  obtain ⟨u3,b3,h⟩ := h
  obtain rfl := beqO_some b3
  replace h := castB h; obtain ⟨v4,⟨rfl,rfl⟩,h⟩ := h
  cases h
  intro r hr res out hwr
  cases hwr
  exact ⟨by kernel_rfl,ok_value_reader_has _ _ _ _ r hr,noSl_res (d := .s .bool r.1) (by rfl),noSl_res (d := .box 57 [.s .str r.2.1,.s (.int .i64) r.2.2.1,.own 50 tyAtom r.2.2.2]) (by rfl),rfl⟩
 ·cases h
def F_lex_digit:FnD := { n := 9,rs := [2] }
theorem ok_lex_digit (c:UInt8) (r:Bool) (h:lex_digit c = some r):APure X0 89 ([.s .u8 c].map DT.toT) (resT ([.s .bool r].map DT.toT)) := by
 refine APure_of_straight (F := F_lex_digit) (fuel := 3000) (E := E_value_reader_has) Yok E_value_reader_has_ok mixed Tryd.func89 rfl rfl rfl (by decide) (args := [.s .u8 c]) (Nat.le_of_ble_eq_true rfl) (by kernel_rfl) (fun r=>[.s .bool r]) ?_ h
 intro goto ret
 unfold lex_digit
 simp only [bnd_G,bnd_ite,bnd_bind,bnd_some,-eq_self]
 kernel_rfl
noncomputable def e_lex_digit:List DT → Option CallRes
 | [.s t0 y0]=>(castT (b := .u8) y0).bind fun c=>some ⟨Bool,lex_digit c,fun r=>.s .bool r,false,true⟩
 | _=>none
noncomputable def E_lex_digit:Env := Env.add 89 e_lex_digit E_value_reader_has
theorem E_lex_digit_ok:EnvOk X0 E_lex_digit := by
 refine EnvOk.add E_value_reader_has_ok (fun args c h=>?_)
 unfold e_lex_digit at h
 split at h
 ·obtain ⟨v0,⟨rfl,rfl⟩,h⟩ := castB h
  cases h
  exact ⟨fun r hr=>.inl ⟨by kernel_rfl,ok_lex_digit _ r hr⟩,fun hb=>fun r=>noSl_res (by rfl)⟩
 ·cases h
def F_lex_Number:FnD := { n := 40,rs := [2,3],labels := [(5,[0,4,19,20])] }
def lab_lex_Number:L_lex_Number → Nat × DSt
 | .l5 s_ n x19 x20=>(5,[(0,.t (.s .str s_)),(4,.t (.s (.int .i64) n)),(19,.t (.s (.int .i64) x19)),(20,.t (.s (.int .i64) x20))])
theorem ok_lex_Number (s_:(List UInt8)) (r:(Int × Bool)) (h:lex_Number s_ = some r):APure X0 66 ([.s .str s_].map DT.toT) (resT ([.s (.int .i64) r.1,.s .bool r.2].map DT.toT)) := by
 refine APure_of_machine (F := F_lex_Number) (fuel := 3000) (E := E_lex_digit) Yok E_lex_digit_ok mixed Tryd.func66 rfl rfl rfl (by decide) (args := [.s .str s_]) (Nat.le_of_ble_eq_true rfl) (by kernel_rfl) lab_lex_Number st_lex_Number (fun r=>[.s (.int .i64) r.1,.s .bool r.2]) ?_ ?_ ?_ h
 ·intro l; cases l
  ·exact WF_list ⟨trivial,trivial,trivial,trivial,trivial⟩
 ·intro l goto ret; cases l with
  | l5 =>
   show _ = push (sg_lex_Number_5 ..) _ _
   unfold sg_lex_Number_5
   simp only [push_G,push_ite,push_bind,push_inl,push_inr,-eq_self]
   kernel_rfl
 ·intro goto ret
  show _ = push (en_lex_Number ..) _ _
  unfold en_lex_Number
  simp only [push_G,push_ite,push_bind,push_inl,push_inr,-eq_self]
  kernel_rfl
noncomputable def e_lex_Number:List DT → Option CallRes
 | [.s t0 y0]=>(castT (b := .str) y0).bind fun s_=>some ⟨(Int × Bool),lex_Number s_,fun r=>.tup [.s (.int .i64) r.1,.s .bool r.2],((0:Int),false),true⟩
 | _=>none
noncomputable def E_lex_Number:Env := Env.add 66 e_lex_Number E_lex_digit
theorem E_lex_Number_ok:EnvOk X0 E_lex_Number := by
 refine EnvOk.add E_lex_digit_ok (fun args c h=>?_)
 unfold e_lex_Number at h
 split at h
 ·obtain ⟨v0,⟨rfl,rfl⟩,h⟩ := castB h
  cases h
  exact ⟨fun r hr=>.inl ⟨by kernel_rfl,ok_lex_Number _ r hr⟩,fun hb=>fun r=>noSl_res (by rfl)⟩
 ·cases h
def F_value_reader_number:FnD := { n := 83,rs := [2],Z := [0],labels := [(3,[0,3,4])] }
def Y_value_reader_number:DX := { Y0 with o2 := [8,81] }
theorem Yok_value_reader_number:DXOk Y_value_reader_number X0 := ⟨Yok.tab,Yok.gl⟩
def lab_value_reader_number:L_value_reader_number → Nat × DSt
 | .l3 r_ r_' r_'' neg from_=>(3,[(0,.t (.box 57 [.s .str r_,.s (.int .i64) r_',.own 50 tyAtom r_''])),(3,.t (.s .bool neg)),(4,.t (.s (.int .i64) from_))])
theorem ok_value_reader_number (r_:(List UInt8)) (r_':Int) (r_'':(List tAtom)) (r:(Bool × (List UInt8) × Int × (List tAtom))) (h:value_reader_number r_ r_' r_'' = some r):ACall X0 51 ([.box 57 [.s .str r_,.s (.int .i64) r_',.own 50 tyAtom r_'']].map DT.toT) (resT ([.s .bool r.1].map DT.toT)) (outsL 0 (.box 57 [.s .str r.2.1,.s (.int .i64) r.2.2.1,.own 50 tyAtom r.2.2.2]:DT).toT 0 1) := by
 unfold value_reader_number at h
 refine ALend_of_machine (F := F_value_reader_number) (fuel := 3000) (E := E_lex_Number) (z := 0) Yok_value_reader_number E_lex_Number_ok mixed Tryd.func51 rfl rfl rfl (by decide) rfl rfl (by decide) (args := [.box 57 [.s .str r_,.s (.int .i64) r_',.own 50 tyAtom r_'']]) (Nat.le_of_ble_eq_true rfl) (Nat.le_of_ble_eq_true rfl) (by kernel_rfl) lab_value_reader_number (st_value_reader_number) (fun r=>[.s .bool r.1]) (fun r=>.box 57 [.s .str r.2.1,.s (.int .i64) r.2.2.1,.own 50 tyAtom r.2.2.2]) ?_ ?_ ?_ h rfl
 ·intro l; cases l
  ·exact WF_list ⟨trivial,trivial,trivial,trivial⟩
 ·intro l goto ret; cases l with
  | l3 =>
   show _ = push (sg_value_reader_number_3 ..) _ _
   unfold sg_value_reader_number_3
   simp only [push_G,push_ite,push_bind,push_inl,push_inr,-eq_self]
   kernel_rfl
 ·intro goto ret
  show _ = push (en_value_reader_number ..) _ _
  unfold en_value_reader_number
  simp only [push_G,push_ite,push_bind,push_inl,push_inr,-eq_self]
  kernel_rfl
noncomputable def e_value_reader_number:List DT → Option CallRes
 | [.tup [.u],.box e0 [.s t1 y1,.s t2 y2,.own e3 t3 y3]]=>(beqO e0 57).bind fun _=>(castT (b := .str) y1).bind fun r_=>(castT (b := (.int .i64)) y2).bind fun r_'=>(castT (a := .sl 1 t3) (b := .sl 1 tyAtom) y3).bind fun r_''=>(beqO e3 50).bind fun _=>some ⟨(Bool × (List UInt8) × Int × (List tAtom)),value_reader_number r_ r_' r_'',fun r=>.tup [.s .bool r.1,.box 57 [.s .str r.2.1,.s (.int .i64) r.2.2.1,.own 50 tyAtom r.2.2.2]],(false,([]:List UInt8),(0:Int),([]:List tAtom)),false⟩
 | _=>none
noncomputable def E_value_reader_number:Env := Env.add2 51 (e_value_reader_number) E_lex_Number
theorem E_value_reader_number_ok:EnvOk X0 (E_value_reader_number) := by
 refine EnvOk.add2 E_lex_Number_ok (fun args c h=>?_)
 unfold e_value_reader_number at h
 split at h
 ·replace h := Option.bind_eq_some_iff.1 h
  obtain ⟨u0,b0,h⟩ := h
  obtain rfl := beqO_some b0
  replace h := castB h; obtain ⟨v1,⟨rfl,rfl⟩,h⟩ := h
  replace h := castB h; obtain ⟨v2,⟨rfl,rfl⟩,h⟩ := h
  replace h := castC h; obtain ⟨v3,⟨rfl,rfl⟩,h⟩ := h
  replace h := Option.bind_eq_some_iff.1 h
  obtain ⟨u3,b3,h⟩ := h
  obtain rfl := beqO_some b3
  cases h
  intro r hr res out hwr
  cases hwr
  exact ⟨by kernel_rfl,ok_value_reader_number _ _ _ r hr,noSl_res (d := .s .bool r.1) (by rfl),noSl_res (d := .box 57 [.s .str r.2.1,.s (.int .i64) r.2.2.1,.own 50 tyAtom r.2.2.2]) (by rfl),rfl⟩
 ·cases h
def F_value_reader_value:FnD := { n := 67,rs := [4],Z := [0],labels := [(9,[0,1,5])] }
def Y_value_reader_value:DX := { Y0 with o2 := [32,43,49,56,64,66] }
theorem Yok_value_reader_value:DXOk Y_value_reader_value X0 := ⟨Yok.tab,Yok.gl⟩
def lab_value_reader_value:L_value_reader_value → Nat × DSt
 | .l9 r_ r_' r_'' deep n=>(9,[(0,.t (.box 57 [.s .str r_,.s (.int .i64) r_',.own 50 tyAtom r_''])),(1,.t (.s (.int .i64) deep)),(5,.t (.s (.int .i64) n))])
noncomputable def e_value_reader_value_n (fu_:Nat):List DT → Option CallRes
 | [.tup [.u],.box e0 [.s t1 y1,.s t2 y2,.own e3 t3 y3],.s t4 y4]=>(beqO e0 57).bind fun _=>(castT (b := .str) y1).bind fun r_=>(castT (b := (.int .i64)) y2).bind fun r_'=>(castT (a := .sl 1 t3) (b := .sl 1 tyAtom) y3).bind fun r_''=>(beqO e3 50).bind fun _=>(castT (b := (.int .i64)) y4).bind fun deep=>some ⟨(Bool × (List UInt8) × Int × (List tAtom)),value_reader_value_n fu_ r_ r_' r_'' deep,fun r=>.tup [.s .bool r.1,.box 57 [.s .str r.2.1,.s (.int .i64) r.2.2.1,.own 50 tyAtom r.2.2.2]],(false,([]:List UInt8),(0:Int),([]:List tAtom)),false⟩
 | _=>none
noncomputable def E_value_reader_value_n (fu_:Nat):Env := Env.add2 27 (e_value_reader_value_n fu_) E_value_reader_number
theorem E_value_reader_value_n_ok (fu_:Nat) (ih:∀ (r_:(List UInt8)) (r_':Int) (r_'':(List tAtom)) (deep:Int) (r:(Bool × (List UInt8) × Int × (List tAtom))),value_reader_value_n fu_ r_ r_' r_'' deep = some r → ACall X0 27 ([.box 57 [.s .str r_,.s (.int .i64) r_',.own 50 tyAtom r_''],.s (.int .i64) deep].map DT.toT) (resT ([.s .bool r.1].map DT.toT)) (outsL 0 (.box 57 [.s .str r.2.1,.s (.int .i64) r.2.2.1,.own 50 tyAtom r.2.2.2]:DT).toT 0 2)):EnvOk X0 (E_value_reader_value_n fu_) := by
 refine EnvOk.add2 E_value_reader_number_ok (fun args c h=>?_)
 unfold e_value_reader_value_n at h
 split at h
 ·replace h := Option.bind_eq_some_iff.1 h
  obtain ⟨u0,b0,h⟩ := h
  obtain rfl := beqO_some b0
  replace h := castB h; obtain ⟨v1,⟨rfl,rfl⟩,h⟩ := h
  replace h := castB h; obtain ⟨v2,⟨rfl,rfl⟩,h⟩ := h
  replace h := castC h; obtain ⟨v3,⟨rfl,rfl⟩,h⟩ := h
  replace h := Option.bind_eq_some_iff.1 h
  obtain ⟨u3,b3,h⟩ := h
  obtain rfl := beqO_some b3
  replace h := castB h; obtain ⟨v4,⟨rfl,rfl⟩,h⟩ := h
  cases h
  intro r hr res out hwr
  cases hwr
  exact ⟨by kernel_rfl,ih _ _ _ _ r hr,noSl_res (d := .s .bool r.1) (by rfl),noSl_res (d := .box 57 [.s .str r.2.1,.s (.int .i64) r.2.2.1,.own 50 tyAtom r.2.2.2]) (by rfl),rfl⟩
 ·cases h
theorem ok_value_reader_value_n:∀ (fu_:Nat) (r_:(List UInt8)) (r_':Int) (r_'':(List tAtom)) (deep:Int) (r:(Bool × (List UInt8) × Int × (List tAtom))) (h:value_reader_value_n fu_ r_ r_' r_'' deep = some r),ACall X0 27 ([.box 57 [.s .str r_,.s (.int .i64) r_',.own 50 tyAtom r_''],.s (.int .i64) deep].map DT.toT) (resT ([.s .bool r.1].map DT.toT)) (outsL 0 (.box 57 [.s .str r.2.1,.s (.int .i64) r.2.2.1,.own 50 tyAtom r.2.2.2]:DT).toT 0 2)
 | 0,r_,r_',r_'',deep,r,h=>by unfold value_reader_value_n at h; cases h
 | fu_ + 1,r_,r_',r_'',deep,r,h=>by
  unfold value_reader_value_n at h
  refine ALend_of_machine (F := F_value_reader_value) (fuel := 3000) (E := (E_value_reader_value_n fu_)) (z := 0) Yok_value_reader_value (E_value_reader_value_n_ok fu_ (ok_value_reader_value_n fu_)) mixed Tryd.func27 rfl rfl rfl (by decide) rfl rfl (by decide) (args := [.box 57 [.s .str r_,.s (.int .i64) r_',.own 50 tyAtom r_''],.s (.int .i64) deep]) (Nat.le_of_ble_eq_true rfl) (Nat.le_of_ble_eq_true rfl) (by kernel_rfl) lab_value_reader_value (st_value_reader_value (value_reader_value_n fu_)) (fun r=>[.s .bool r.1]) (fun r=>.box 57 [.s .str r.2.1,.s (.int .i64) r.2.2.1,.own 50 tyAtom r.2.2.2]) ?_ ?_ ?_ h rfl
  ·intro l; cases l
   ·exact WF_list ⟨trivial,trivial,trivial,trivial⟩
  ·intro l goto ret; cases l with
   | l9 =>
    show _ = push (sg_value_reader_value_9 (value_reader_value_n fu_) ..) _ _
    unfold sg_value_reader_value_9
    simp only [push_G,push_ite,push_bind,push_inl,push_inr,-eq_self]
    kernel_rfl
  ·intro goto ret
   show _ = push (en_value_reader_value (value_reader_value_n fu_) ..) _ _
   unfold en_value_reader_value
   simp only [push_G,push_ite,push_bind,push_inl,push_inr,-eq_self]
   kernel_rfl
theorem ok_value_reader_value (r_:(List UInt8)) (r_':Int) (r_'':(List tAtom)) (deep:Int) (r:(Bool × (List UInt8) × Int × (List tAtom))) (h:value_reader_value r_ r_' r_'' deep = some r):ACall X0 27 ([.box 57 [.s .str r_,.s (.int .i64) r_',.own 50 tyAtom r_''],.s (.int .i64) deep].map DT.toT) (resT ([.s .bool r.1].map DT.toT)) (outsL 0 (.box 57 [.s .str r.2.1,.s (.int .i64) r.2.2.1,.own 50 tyAtom r.2.2.2]:DT).toT 0 2) := ok_value_reader_value_n 40 r_ r_' r_'' deep r h
noncomputable def e_value_reader_value:List DT → Option CallRes
 | [.tup [.u],.box e0 [.s t1 y1,.s t2 y2,.own e3 t3 y3],.s t4 y4]=>(beqO e0 57).bind fun _=>(castT (b := .str) y1).bind fun r_=>(castT (b := (.int .i64)) y2).bind fun r_'=>(castT (a := .sl 1 t3) (b := .sl 1 tyAtom) y3).bind fun r_''=>(beqO e3 50).bind fun _=>(castT (b := (.int .i64)) y4).bind fun deep=>some ⟨(Bool × (List UInt8) × Int × (List tAtom)),value_reader_value r_ r_' r_'' deep,fun r=>.tup [.s .bool r.1,.box 57 [.s .str r.2.1,.s (.int .i64) r.2.2.1,.own 50 tyAtom r.2.2.2]],(false,([]:List UInt8),(0:Int),([]:List tAtom)),false⟩
 | _=>none
noncomputable def E_value_reader_value:Env := Env.add2 27 (e_value_reader_value) E_value_reader_number
theorem E_value_reader_value_ok:EnvOk X0 (E_value_reader_value) := by
 refine EnvOk.add2 E_value_reader_number_ok (fun args c h=>?_)
 unfold e_value_reader_value at h
 split at h
 ·replace h := Option.bind_eq_some_iff.1 h
  obtain ⟨u0,b0,h⟩ := h
  obtain rfl := beqO_some b0
  replace h := castB h; obtain ⟨v1,⟨rfl,rfl⟩,h⟩ := h
  replace h := castB h; obtain ⟨v2,⟨rfl,rfl⟩,h⟩ := h
  replace h := castC h; obtain ⟨v3,⟨rfl,rfl⟩,h⟩ := h
  replace h := Option.bind_eq_some_iff.1 h
  obtain ⟨u3,b3,h⟩ := h
  obtain rfl := beqO_some b3
  replace h := castB h; obtain ⟨v4,⟨rfl,rfl⟩,h⟩ := h
  cases h
  intro r hr res out hwr
  cases hwr
  exact ⟨by kernel_rfl,ok_value_reader_value _ _ _ _ r hr,noSl_res (d := .s .bool r.1) (by rfl),noSl_res (d := .box 57 [.s .str r.2.1,.s (.int .i64) r.2.2.1,.own 50 tyAtom r.2.2.2]) (by rfl),rfl⟩
 ·cases h
def F_value_Parse:FnD := { n := 27,rs := [2,3] }
def Y_value_Parse:DX := { Y0 with o2 := [2,9,12] }
theorem Yok_value_Parse:DXOk Y_value_Parse X0 := ⟨Yok.tab,Yok.gl⟩
theorem ok_value_Parse (s_:(List UInt8)) (r:((List tAtom) × Int)) (h:value_Parse s_ = some r):APure X0 11 ([.s .str s_].map DT.toT) (resT ([.own 50 tyAtom r.1,.s (.int .i64) r.2].map DT.toT)) := by
 refine APure_of_straight (F := F_value_Parse) (fuel := 3000) (E := E_value_reader_value) Yok_value_Parse E_value_reader_value_ok mixed Tryd.func11 rfl rfl rfl (by decide) (args := [.s .str s_]) (Nat.le_of_ble_eq_true rfl) (by kernel_rfl) (fun r=>[.own 50 tyAtom r.1,.s (.int .i64) r.2]) ?_ h
 intro goto ret
 unfold value_Parse
 simp only [bnd_G,bnd_ite,bnd_bind,bnd_some,-eq_self]
 kernel_rfl
noncomputable def e_value_Parse:List DT → Option CallRes
 | [.s t0 y0]=>(castT (b := .str) y0).bind fun s_=>some ⟨((List tAtom) × Int),value_Parse s_,fun r=>.tup [.own 50 tyAtom r.1,.s (.int .i64) r.2],(([]:List tAtom),(0:Int)),true⟩
 | _=>none
noncomputable def E_value_Parse:Env := Env.add 11 e_value_Parse E_value_reader_value
theorem E_value_Parse_ok:EnvOk X0 E_value_Parse := by
 refine EnvOk.add E_value_reader_value_ok (fun args c h=>?_)
 unfold e_value_Parse at h
 split at h
 ·obtain ⟨v0,⟨rfl,rfl⟩,h⟩ := castB h
  cases h
  exact ⟨fun r hr=>.inl ⟨by kernel_rfl,ok_value_Parse _ r hr⟩,fun hb=>fun r=>noSl_res (by rfl)⟩
 ·cases h
def F_law07_whole:FnD := { n := 6,rs := [2] }
theorem ok_law07_whole (n:Int) (r:(List tAtom)) (h:law07_whole n = some r):APure X0 15 ([.s (.int .i64) n].map DT.toT) (resT ([.own 50 tyAtom r].map DT.toT)) := by
 refine APure_of_straight (F := F_law07_whole) (fuel := 3000) (E := E_value_Parse) Yok E_value_Parse_ok mixed Tryd.func15 rfl rfl rfl (by decide) (args := [.s (.int .i64) n]) (Nat.le_of_ble_eq_true rfl) (by kernel_rfl) (fun r=>[.own 50 tyAtom r]) ?_ h
 intro goto ret
 unfold law07_whole
 simp only [bnd_G,bnd_ite,bnd_bind,bnd_some,-eq_self]
 kernel_rfl
noncomputable def e_law07_whole:List DT → Option CallRes
 | [.s t0 y0]=>(castT (b := (.int .i64)) y0).bind fun n=>some ⟨(List tAtom),law07_whole n,fun r=>.own 50 tyAtom r,([]:List tAtom),true⟩
 | _=>none
noncomputable def E_law07_whole:Env := Env.add 15 e_law07_whole E_value_Parse
theorem E_law07_whole_ok:EnvOk X0 E_law07_whole := by
 refine EnvOk.add E_value_Parse_ok (fun args c h=>?_)
 unfold e_law07_whole at h
 split at h
 ·obtain ⟨v0,⟨rfl,rfl⟩,h⟩ := castB h
  cases h
  exact ⟨fun r hr=>.inl ⟨by kernel_rfl,ok_law07_whole _ r hr⟩,fun hb=>fun r=>noSl_res (by rfl)⟩
 ·cases h
def F_value_first:FnD := { n := 18,rs := [2],labels := [(2,[6,7,8])] }
def lab_value_first:L_value_first → Nat × DSt
 | .l2 x6 x7 x8=>(2,[(6,.t (.s (.sl 1 (.sl 4 tyAtom)) x6)),(7,.t (.s (.int .i64) x7)),(8,.t (.s (.int .i64) x8))])
theorem ok_value_first (l:(List (List tAtom))) (r:Int) (h:value_first l = some r):APure X0 35 ([.s (.sl 1 (.sl 4 tyAtom)) l].map DT.toT) (resT ([.s (.int .i64) r].map DT.toT)) := by
 refine APure_of_machine (F := F_value_first) (fuel := 3000) (E := E_law07_whole) Yok E_law07_whole_ok mixed Tryd.func35 rfl rfl rfl (by decide) (args := [.s (.sl 1 (.sl 4 tyAtom)) l]) (Nat.le_of_ble_eq_true rfl) (by kernel_rfl) lab_value_first st_value_first (fun r=>[.s (.int .i64) r]) ?_ ?_ ?_ h
 ·intro l; cases l
  ·exact WF_list ⟨trivial,trivial,trivial,trivial⟩
 ·intro l goto ret; cases l with
  | l2 =>
   show _ = push (sg_value_first_2 ..) _ _
   unfold sg_value_first_2
   simp only [push_G,push_ite,push_bind,push_inl,push_inr,-eq_self]
   kernel_rfl
 ·intro goto ret
  show _ = push (en_value_first ..) _ _
  unfold en_value_first
  simp only [push_G,push_ite,push_bind,push_inl,push_inr,-eq_self]
  kernel_rfl
noncomputable def e_value_first:List DT → Option CallRes
 | [.s t0 y0]=>(castT (b := (.sl 1 (.sl 4 tyAtom))) y0).bind fun l=>some ⟨Int,value_first l,fun r=>.s (.int .i64) r,(0:Int),true⟩
 | _=>none
noncomputable def E_value_first:Env := Env.add 35 e_value_first E_law07_whole
theorem E_value_first_ok:EnvOk X0 E_value_first := by
 refine EnvOk.add E_law07_whole_ok (fun args c h=>?_)
 unfold e_value_first at h
 split at h
 ·obtain ⟨v0,⟨rfl,rfl⟩,h⟩ := castB h
  cases h
  exact ⟨fun r hr=>.inl ⟨by kernel_rfl,ok_value_first _ r hr⟩,fun hb=>fun r=>noSl_res (by rfl)⟩
 ·cases h
def F_value_made:FnD := { n := 33,rs := [2,3],labels := [(3,[0,4,7,8,9])] }
def lab_value_made:L_value_made → Nat × DSt
 | .l3 l out x7 x8 x9=>(3,[(0,.t (.s (.sl 1 (.sl 4 tyAtom)) l)),(4,.t (.own 50 tyAtom out)),(7,.t (.s (.sl 1 (.sl 4 tyAtom)) x7)),(8,.t (.s (.int .i64) x8)),(9,.t (.s (.int .i64) x9))])
theorem ok_value_made (l:(List (List tAtom))) (r:((List tAtom) × Bool)) (h:value_made l = some r):APure X0 36 ([.s (.sl 1 (.sl 4 tyAtom)) l].map DT.toT) (resT ([.own 50 tyAtom r.1,.s .bool r.2].map DT.toT)) := by
 refine APure_of_machine (F := F_value_made) (fuel := 3000) (E := E_value_first) Yok E_value_first_ok mixed Tryd.func36 rfl rfl rfl (by decide) (args := [.s (.sl 1 (.sl 4 tyAtom)) l]) (Nat.le_of_ble_eq_true rfl) (by kernel_rfl) lab_value_made st_value_made (fun r=>[.own 50 tyAtom r.1,.s .bool r.2]) ?_ ?_ ?_ h
 ·intro l; cases l
  ·exact WF_list ⟨trivial,trivial,trivial,trivial,trivial,trivial⟩
 ·intro l goto ret; cases l with
  | l3 =>
   show _ = push (sg_value_made_3 ..) _ _
   unfold sg_value_made_3
   simp only [push_G,push_ite,push_bind,push_inl,push_inr,-eq_self]
   kernel_rfl
 ·intro goto ret
  show _ = push (en_value_made ..) _ _
  unfold en_value_made
  simp only [push_G,push_ite,push_bind,push_inl,push_inr,-eq_self]
  kernel_rfl
noncomputable def e_value_made:List DT → Option CallRes
 | [.s t0 y0]=>(castT (b := (.sl 1 (.sl 4 tyAtom))) y0).bind fun l=>some ⟨((List tAtom) × Bool),value_made l,fun r=>.tup [.own 50 tyAtom r.1,.s .bool r.2],(([]:List tAtom),false),true⟩
 | _=>none
noncomputable def E_value_made:Env := Env.add 36 e_value_made E_value_first
theorem E_value_made_ok:EnvOk X0 E_value_made := by
 refine EnvOk.add E_value_first_ok (fun args c h=>?_)
 unfold e_value_made at h
 split at h
 ·obtain ⟨v0,⟨rfl,rfl⟩,h⟩ := castB h
  cases h
  exact ⟨fun r hr=>.inl ⟨by kernel_rfl,ok_value_made _ r hr⟩,fun hb=>fun r=>noSl_res (by rfl)⟩
 ·cases h
def F_value_List:FnD := { n := 23,rs := [2,3] }
theorem ok_value_List (l:(List (List tAtom))) (r:((List tAtom) × Int)) (h:value_List l = some r):APure X0 20 ([.s (.sl 1 (.sl 4 tyAtom)) l].map DT.toT) (resT ([.own 50 tyAtom r.1,.s (.int .i64) r.2].map DT.toT)) := by
 refine APure_of_straight (F := F_value_List) (fuel := 3000) (E := E_value_made) Yok E_value_made_ok mixed Tryd.func20 rfl rfl rfl (by decide) (args := [.s (.sl 1 (.sl 4 tyAtom)) l]) (Nat.le_of_ble_eq_true rfl) (by kernel_rfl) (fun r=>[.own 50 tyAtom r.1,.s (.int .i64) r.2]) ?_ h
 intro goto ret
 unfold value_List
 simp only [bnd_G,bnd_ite,bnd_bind,bnd_some,-eq_self]
 kernel_rfl
noncomputable def e_value_List:List DT → Option CallRes
 | [.s t0 y0]=>(castT (b := (.sl 1 (.sl 4 tyAtom))) y0).bind fun l=>some ⟨((List tAtom) × Int),value_List l,fun r=>.tup [.own 50 tyAtom r.1,.s (.int .i64) r.2],(([]:List tAtom),(0:Int)),true⟩
 | _=>none
noncomputable def E_value_List:Env := Env.add 20 e_value_List E_value_made
theorem E_value_List_ok:EnvOk X0 E_value_List := by
 refine EnvOk.add E_value_made_ok (fun args c h=>?_)
 unfold e_value_List at h
 split at h
 ·obtain ⟨v0,⟨rfl,rfl⟩,h⟩ := castB h
  cases h
  exact ⟨fun r hr=>.inl ⟨by kernel_rfl,ok_value_List _ r hr⟩,fun hb=>fun r=>noSl_res (by rfl)⟩
 ·cases h
def F_slices_IndexFunc:FnD := { n := 19,rs := [4],labels := [(2,[0,1,7,8])] }
def lab_slices_IndexFunc:L_slices_IndexFunc → Nat × DSt
 | .l2 s_ f x7 x8=>(2,[(0,.t (.s (.sl 1 (.sl 4 tyAtom)) s_)),(1,.t (.s .opq f)),(7,.t (.s (.int .i64) x7)),(8,.t (.s (.int .i64) x8))])
noncomputable def ed_slices_IndexFunc (dyn:Value → (List tAtom) → Option Bool):List DT → Option CallRes
 | [.tup [.u,.s tv yv],.s t0 y0]=>(castT (b := .opq) yv).bind fun v_=>(castT (b := (.sl 4 tyAtom)) y0).bind fun a0=>some ⟨Bool,dyn v_ a0,fun r_=>(.s .bool r_:DT),false,true⟩
 | _=>none
theorem ed_slices_IndexFunc_ok (dyn:Value → (List tAtom) → Option Bool) (hd:∀ (v_:Value) (a0:(List tAtom)) (r_:Bool),dyn v_ a0 = some r_ → DynC X0 v_ (([.s (.sl 4 tyAtom) a0]:List DT).map DT.toT) (.s .bool r_:DT).toT):∀ (g:FuncId) (args:List DT) (c:CallRes),ed_slices_IndexFunc dyn args = some c → CallOk X0 g args c := by
 intro g args c h
 unfold ed_slices_IndexFunc at h
 split at h
 ·obtain ⟨vv,⟨rfl,rfl⟩,h⟩ := castB h
  obtain ⟨v0,⟨rfl,rfl⟩,h⟩ := castB h
  cases h
  exact ⟨fun r hr=>hd _ _ r hr,fun hb=>fun r=>noSl_res (by rfl)⟩
 ·cases h
theorem ok_slices_IndexFunc (dyn:Value → (List tAtom) → Option Bool) (hd:∀ (v_:Value) (a0:(List tAtom)) (r_:Bool),dyn v_ a0 = some r_ → DynC X0 v_ (([.s (.sl 4 tyAtom) a0]:List DT).map DT.toT) (.s .bool r_:DT).toT) (s_:(List (List tAtom))) (f:Value) (r:Int) (h:slices_IndexFunc dyn s_ f = some r):APure X0 110 ([.s (.sl 1 (.sl 4 tyAtom)) s_,.s .opq f].map DT.toT) (resT ([.s (.int .i64) r].map DT.toT)) := by
 unfold slices_IndexFunc at h
 refine APure_of_machine (F := F_slices_IndexFunc) (fuel := 3000) (E := (Env.addD (ed_slices_IndexFunc dyn) E_value_List)) Yok (EnvOk.addD E_value_List_ok (ed_slices_IndexFunc_ok dyn hd)) mixed Tryd.func110 rfl rfl rfl (by decide) (args := [.s (.sl 1 (.sl 4 tyAtom)) s_,.s .opq f]) (Nat.le_of_ble_eq_true rfl) (by kernel_rfl) lab_slices_IndexFunc (st_slices_IndexFunc dyn) (fun r=>[.s (.int .i64) r]) ?_ ?_ ?_ h
 ·intro l; cases l
  ·exact WF_list ⟨trivial,trivial,trivial,trivial,trivial⟩
 ·intro l goto ret; cases l with
  | l2 =>
   show _ = push (sg_slices_IndexFunc_2 ..) _ _
   unfold sg_slices_IndexFunc_2
   simp only [push_G,push_ite,push_bind,push_inl,push_inr,-eq_self]
   kernel_rfl
 ·intro goto ret
  show _ = push (en_slices_IndexFunc ..) _ _
  unfold en_slices_IndexFunc
  simp only [push_G,push_ite,push_bind,push_inl,push_inr,-eq_self]
  kernel_rfl
noncomputable def e_slices_IndexFunc (dyn:Value → (List tAtom) → Option Bool):List DT → Option CallRes
 | [.s t0 y0,.s t1 y1]=>(castT (b := (.sl 1 (.sl 4 tyAtom))) y0).bind fun s_=>(castT (b := .opq) y1).bind fun f=>some ⟨Int,slices_IndexFunc dyn s_ f,fun r=>.s (.int .i64) r,(0:Int),true⟩
 | _=>none
theorem he_slices_IndexFunc (dyn:Value → (List tAtom) → Option Bool) (hd:∀ (v_:Value) (a0:(List tAtom)) (r_:Bool),dyn v_ a0 = some r_ → DynC X0 v_ (([.s (.sl 4 tyAtom) a0]:List DT).map DT.toT) (.s .bool r_:DT).toT):∀ (args:List DT) (c:CallRes),e_slices_IndexFunc dyn args = some c → CallOk X0 110 args c := by
 intro args c h
 unfold e_slices_IndexFunc at h
 split at h
 ·replace h := castB h; obtain ⟨v0,⟨rfl,rfl⟩,h⟩ := h
  replace h := castB h; obtain ⟨v1,⟨rfl,rfl⟩,h⟩ := h
  cases h
  exact ⟨fun r hr=>.inl ⟨by kernel_rfl,ok_slices_IndexFunc dyn hd _ _ r hr⟩,fun hb=>fun r=>noSl_res (by rfl)⟩
 ·cases h
def F_slices_ContainsFunc:FnD := { n := 9,rs := [4] }
noncomputable def ed_slices_ContainsFunc (dyn:Value → (List tAtom) → Option Bool):List DT → Option CallRes
 | [.tup [.u,.s tv yv],.s t0 y0]=>(castT (b := .opq) yv).bind fun v_=>(castT (b := (.sl 4 tyAtom)) y0).bind fun a0=>some ⟨Bool,dyn v_ a0,fun r_=>(.s .bool r_:DT),false,true⟩
 | _=>none
theorem ed_slices_ContainsFunc_ok (dyn:Value → (List tAtom) → Option Bool) (hd:∀ (v_:Value) (a0:(List tAtom)) (r_:Bool),dyn v_ a0 = some r_ → DynC X0 v_ (([.s (.sl 4 tyAtom) a0]:List DT).map DT.toT) (.s .bool r_:DT).toT):∀ (g:FuncId) (args:List DT) (c:CallRes),ed_slices_ContainsFunc dyn args = some c → CallOk X0 g args c := by
 intro g args c h
 unfold ed_slices_ContainsFunc at h
 split at h
 ·obtain ⟨vv,⟨rfl,rfl⟩,h⟩ := castB h
  obtain ⟨v0,⟨rfl,rfl⟩,h⟩ := castB h
  cases h
  exact ⟨fun r hr=>hd _ _ r hr,fun hb=>fun r=>noSl_res (by rfl)⟩
 ·cases h
theorem ok_slices_ContainsFunc (dyn:Value → (List tAtom) → Option Bool) (hd:∀ (v_:Value) (a0:(List tAtom)) (r_:Bool),dyn v_ a0 = some r_ → DynC X0 v_ (([.s (.sl 4 tyAtom) a0]:List DT).map DT.toT) (.s .bool r_:DT).toT) (s_:(List (List tAtom))) (f:Value) (r:Bool) (h:slices_ContainsFunc dyn s_ f = some r):APure X0 103 ([.s (.sl 1 (.sl 4 tyAtom)) s_,.s .opq f].map DT.toT) (resT ([.s .bool r].map DT.toT)) := by
 unfold slices_ContainsFunc at h
 refine APure_of_straight (F := F_slices_ContainsFunc) (fuel := 3000) (E := (Env.add 110 (e_slices_IndexFunc dyn) (Env.addD (ed_slices_ContainsFunc dyn) E_value_List))) Yok (EnvOk.add (EnvOk.addD E_value_List_ok (ed_slices_ContainsFunc_ok dyn hd)) (he_slices_IndexFunc dyn hd)) mixed Tryd.func103 rfl rfl rfl (by decide) (args := [.s (.sl 1 (.sl 4 tyAtom)) s_,.s .opq f]) (Nat.le_of_ble_eq_true rfl) (by kernel_rfl) (fun r=>[.s .bool r]) ?_ h
 intro goto ret
 unfold en_slices_ContainsFunc
 simp only [bnd_G,bnd_ite,bnd_bind,bnd_some,-eq_self]
 kernel_rfl
noncomputable def e_slices_ContainsFunc (dyn:Value → (List tAtom) → Option Bool):List DT → Option CallRes
 | [.s t0 y0,.s t1 y1]=>(castT (b := (.sl 1 (.sl 4 tyAtom))) y0).bind fun s_=>(castT (b := .opq) y1).bind fun f=>some ⟨Bool,slices_ContainsFunc dyn s_ f,fun r=>.s .bool r,false,true⟩
 | _=>none
theorem he_slices_ContainsFunc (dyn:Value → (List tAtom) → Option Bool) (hd:∀ (v_:Value) (a0:(List tAtom)) (r_:Bool),dyn v_ a0 = some r_ → DynC X0 v_ (([.s (.sl 4 tyAtom) a0]:List DT).map DT.toT) (.s .bool r_:DT).toT):∀ (args:List DT) (c:CallRes),e_slices_ContainsFunc dyn args = some c → CallOk X0 103 args c := by
 intro args c h
 unfold e_slices_ContainsFunc at h
 split at h
 ·replace h := castB h; obtain ⟨v0,⟨rfl,rfl⟩,h⟩ := h
  replace h := castB h; obtain ⟨v1,⟨rfl,rfl⟩,h⟩ := h
  cases h
  exact ⟨fun r hr=>.inl ⟨by kernel_rfl,ok_slices_ContainsFunc dyn hd _ _ r hr⟩,fun hb=>fun r=>noSl_res (by rfl)⟩
 ·cases h
def F_value_top:FnD := { n := 9,rs := [2],cl := [(2,50)] }
theorem ok_value_top (v:(List tAtom)) (r:tAtom) (h:value_top v = some r):APure X0 32 ([.s (.sl 4 tyAtom) v].map DT.toT) (resT ([.s tyAtom r].map DT.toT)) := by
 refine APure_of_straight (F := F_value_top) (fuel := 3000) (E := E_value_List) Yok E_value_List_ok mixed Tryd.func32 rfl rfl rfl (by decide) (args := [.s (.sl 4 tyAtom) v]) (Nat.le_of_ble_eq_true rfl) (by kernel_rfl) (fun r=>[.s tyAtom r]) ?_ h
 intro goto ret
 unfold value_top
 simp only [bnd_G,bnd_ite,bnd_bind,bnd_some,-eq_self]
 kernel_rfl
noncomputable def e_value_top:List DT → Option CallRes
 | [.s t0 y0]=>(castT (b := (.sl 4 tyAtom)) y0).bind fun v=>some ⟨tAtom,value_top v,fun r=>.s tyAtom r,dAtom,true⟩
 | _=>none
noncomputable def E_value_top:Env := Env.add 32 e_value_top E_value_List
theorem E_value_top_ok:EnvOk X0 E_value_top := by
 refine EnvOk.add E_value_List_ok (fun args c h=>?_)
 unfold e_value_top at h
 split at h
 ·obtain ⟨v0,⟨rfl,rfl⟩,h⟩ := castB h
  cases h
  exact ⟨fun r hr=>.inl ⟨by kernel_rfl,ok_value_top _ r hr⟩,fun hb=>fun r=>noSl_res (by rfl)⟩
 ·cases h
def F_value_args_ints_1:FnD := { n := 7,rs := [2] }
theorem ok_value_args_ints_1 (v:(List tAtom)) (r:Bool) (h:value_args_ints_1 v = some r):APure X0 104 ([.s (.sl 4 tyAtom) v].map DT.toT) (resT ([.s .bool r].map DT.toT)) := by
 refine APure_of_straight (F := F_value_args_ints_1) (fuel := 3000) (E := E_value_top) Yok E_value_top_ok mixed Tryd.func104 rfl rfl rfl (by decide) (args := [.s (.sl 4 tyAtom) v]) (Nat.le_of_ble_eq_true rfl) (by kernel_rfl) (fun r=>[.s .bool r]) ?_ h
 intro goto ret
 unfold value_args_ints_1
 simp only [bnd_G,bnd_ite,bnd_bind,bnd_some,-eq_self]
 kernel_rfl
noncomputable def e_value_args_ints_1:List DT → Option CallRes
 | [.s t0 y0]=>(castT (b := (.sl 4 tyAtom)) y0).bind fun v=>some ⟨Bool,value_args_ints_1 v,fun r=>.s .bool r,false,true⟩
 | _=>none
noncomputable def E_value_args_ints_1:Env := Env.add 104 e_value_args_ints_1 E_value_top
theorem E_value_args_ints_1_ok:EnvOk X0 E_value_args_ints_1 := by
 refine EnvOk.add E_value_top_ok (fun args c h=>?_)
 unfold e_value_args_ints_1 at h
 split at h
 ·obtain ⟨v0,⟨rfl,rfl⟩,h⟩ := castB h
  cases h
  exact ⟨fun r hr=>.inl ⟨by kernel_rfl,ok_value_args_ints_1 _ r hr⟩,fun hb=>fun r=>noSl_res (by rfl)⟩
 ·cases h
def F_value_args_ints:FnD := { n := 6,rs := [2] }
theorem ok_value_args_ints (a:(List (List tAtom))) (r:Bool) (h:value_args_ints a = some r):APure X0 91 ([.s (.sl 1 (.sl 4 tyAtom)) a].map DT.toT) (resT ([.s .bool r].map DT.toT)) := by
 unfold value_args_ints at h
 refine APure_of_straight (F := F_value_args_ints) (fuel := 3000) (E := (Env.add 103 (e_slices_ContainsFunc (fun v_ a0=>if fnIs v_ 104 = true then value_args_ints_1 a0 else none)) E_value_args_ints_1)) Yok (EnvOk.add E_value_args_ints_1_ok (he_slices_ContainsFunc (fun v_ a0=>if fnIs v_ 104 = true then value_args_ints_1 a0 else none) (fun v_ a0 r_ h=>dyn_or h (fun hv hx=>⟨104,fnIs_spec hv,by kernel_rfl,ok_value_args_ints_1 a0 r_ hx⟩) (fun h=>by cases h)))) mixed Tryd.func91 rfl rfl rfl (by decide) (args := [.s (.sl 1 (.sl 4 tyAtom)) a]) (Nat.le_of_ble_eq_true rfl) (by kernel_rfl) (fun r=>[.s .bool r]) ?_ h
 intro goto ret
 unfold en_value_args_ints
 simp only [bnd_G,bnd_ite,bnd_bind,bnd_some,-eq_self]
 kernel_rfl
noncomputable def e_value_args_ints:List DT → Option CallRes
 | [.s t0 y0]=>(castT (b := (.sl 1 (.sl 4 tyAtom))) y0).bind fun a=>some ⟨Bool,value_args_ints a,fun r=>.s .bool r,false,true⟩
 | _=>none
noncomputable def E_value_args_ints:Env := Env.add 91 (e_value_args_ints) E_value_args_ints_1
theorem E_value_args_ints_ok:EnvOk X0 (E_value_args_ints) := by
 refine EnvOk.add E_value_args_ints_1_ok (fun args c h=>?_)
 unfold e_value_args_ints at h
 split at h
 ·replace h := castB h; obtain ⟨v0,⟨rfl,rfl⟩,h⟩ := h
  cases h
  exact ⟨fun r hr=>.inl ⟨by kernel_rfl,ok_value_args_ints _ r hr⟩,fun hb=>fun r=>noSl_res (by rfl)⟩
 ·cases h
def F_value_Int:FnD := { n := 13,rs := [2,3] }
theorem ok_value_Int (n:Int) (r:((List tAtom) × Int)) (h:value_Int n = some r):APure X0 105 ([.s (.int .i64) n].map DT.toT) (resT ([.own 50 tyAtom r.1,.s (.int .i64) r.2].map DT.toT)) := by
 refine APure_of_straight (F := F_value_Int) (fuel := 3000) (E := E_value_args_ints) Yok E_value_args_ints_ok mixed Tryd.func105 rfl rfl rfl (by decide) (args := [.s (.int .i64) n]) (Nat.le_of_ble_eq_true rfl) (by kernel_rfl) (fun r=>[.own 50 tyAtom r.1,.s (.int .i64) r.2]) ?_ h
 intro goto ret
 unfold value_Int
 simp only [bnd_G,bnd_ite,bnd_bind,bnd_some,-eq_self]
 kernel_rfl
noncomputable def e_value_Int:List DT → Option CallRes
 | [.s t0 y0]=>(castT (b := (.int .i64)) y0).bind fun n=>some ⟨((List tAtom) × Int),value_Int n,fun r=>.tup [.own 50 tyAtom r.1,.s (.int .i64) r.2],(([]:List tAtom),(0:Int)),true⟩
 | _=>none
noncomputable def E_value_Int:Env := Env.add 105 e_value_Int E_value_args_ints
theorem E_value_Int_ok:EnvOk X0 E_value_Int := by
 refine EnvOk.add E_value_args_ints_ok (fun args c h=>?_)
 unfold e_value_Int at h
 split at h
 ·obtain ⟨v0,⟨rfl,rfl⟩,h⟩ := castB h
  cases h
  exact ⟨fun r hr=>.inl ⟨by kernel_rfl,ok_value_Int _ r hr⟩,fun hb=>fun r=>noSl_res (by rfl)⟩
 ·cases h
def F_value_number:FnD := { n := 14,rs := [2,3] }
theorem ok_value_number (n:Int) (r:((List tAtom) × Bool)) (h:value_number n = some r):APure X0 92 ([.s (.int .i64) n].map DT.toT) (resT ([.own 50 tyAtom r.1,.s .bool r.2].map DT.toT)) := by
 refine APure_of_straight (F := F_value_number) (fuel := 3000) (E := E_value_Int) Yok E_value_Int_ok mixed Tryd.func92 rfl rfl rfl (by decide) (args := [.s (.int .i64) n]) (Nat.le_of_ble_eq_true rfl) (by kernel_rfl) (fun r=>[.own 50 tyAtom r.1,.s .bool r.2]) ?_ h
 intro goto ret
 unfold value_number
 simp only [bnd_G,bnd_ite,bnd_bind,bnd_some,-eq_self]
 kernel_rfl
noncomputable def e_value_number:List DT → Option CallRes
 | [.s t0 y0]=>(castT (b := (.int .i64)) y0).bind fun n=>some ⟨((List tAtom) × Bool),value_number n,fun r=>.tup [.own 50 tyAtom r.1,.s .bool r.2],(([]:List tAtom),false),true⟩
 | _=>none
noncomputable def E_value_number:Env := Env.add 92 e_value_number E_value_Int
theorem E_value_number_ok:EnvOk X0 E_value_number := by
 refine EnvOk.add E_value_Int_ok (fun args c h=>?_)
 unfold e_value_number at h
 split at h
 ·obtain ⟨v0,⟨rfl,rfl⟩,h⟩ := castB h
  cases h
  exact ⟨fun r hr=>.inl ⟨by kernel_rfl,ok_value_number _ r hr⟩,fun hb=>fun r=>noSl_res (by rfl)⟩
 ·cases h
def F_value_args_add:FnD := { n := 23,rs := [2,3] }
theorem ok_value_args_add (a:(List (List tAtom))) (r:((List tAtom) × Bool)) (h:value_args_add a = some r):APure X0 69 ([.s (.sl 1 (.sl 4 tyAtom)) a].map DT.toT) (resT ([.own 50 tyAtom r.1,.s .bool r.2].map DT.toT)) := by
 refine APure_of_straight (F := F_value_args_add) (fuel := 3000) (E := E_value_number) Yok E_value_number_ok mixed Tryd.func69 rfl rfl rfl (by decide) (args := [.s (.sl 1 (.sl 4 tyAtom)) a]) (Nat.le_of_ble_eq_true rfl) (by kernel_rfl) (fun r=>[.own 50 tyAtom r.1,.s .bool r.2]) ?_ h
 intro goto ret
 unfold value_args_add
 simp only [bnd_G,bnd_ite,bnd_bind,bnd_some,-eq_self]
 kernel_rfl
noncomputable def e_value_args_add:List DT → Option CallRes
 | [.s t0 y0]=>(castT (b := (.sl 1 (.sl 4 tyAtom))) y0).bind fun a=>some ⟨((List tAtom) × Bool),value_args_add a,fun r=>.tup [.own 50 tyAtom r.1,.s .bool r.2],(([]:List tAtom),false),true⟩
 | _=>none
noncomputable def E_value_args_add:Env := Env.add 69 e_value_args_add E_value_number
theorem E_value_args_add_ok:EnvOk X0 E_value_args_add := by
 refine EnvOk.add E_value_number_ok (fun args c h=>?_)
 unfold e_value_args_add at h
 split at h
 ·obtain ⟨v0,⟨rfl,rfl⟩,h⟩ := castB h
  cases h
  exact ⟨fun r hr=>.inl ⟨by kernel_rfl,ok_value_args_add _ r hr⟩,fun hb=>fun r=>noSl_res (by rfl)⟩
 ·cases h
def F_value_members:FnD := { n := 44,rs := [2],labels := [(5,[0,3,5,6,7])] }
def lab_value_members:L_value_members → Nat × DSt
 | .l5 v w out end_ i=>(5,[(0,.t (.s (.sl 4 tyAtom) v)),(3,.t (.own 97 tywhole w)),(5,.t (.own 23 (.sl 4 tyAtom) out)),(6,.t (.s (.int .i64) end_)),(7,.t (.s (.int .i64) i))])
theorem ok_value_members (v:(List tAtom)) (r:(List (List tAtom))) (h:value_members v = some r):APure X0 33 ([.s (.sl 4 tyAtom) v].map DT.toT) (resT ([.own 23 (.sl 4 tyAtom) r].map DT.toT)) := by
 refine APure_of_machine (F := F_value_members) (fuel := 3000) (E := E_value_args_add) Yok E_value_args_add_ok mixed Tryd.func33 rfl rfl rfl (by decide) (args := [.s (.sl 4 tyAtom) v]) (Nat.le_of_ble_eq_true rfl) (by kernel_rfl) lab_value_members st_value_members (fun r=>[.own 23 (.sl 4 tyAtom) r]) ?_ ?_ ?_ h
 ·intro l; cases l
  ·exact WF_list ⟨trivial,trivial,trivial,trivial,trivial,trivial⟩
 ·intro l goto ret; cases l with
  | l5 =>
   show _ = push (sg_value_members_5 ..) _ _
   unfold sg_value_members_5
   simp only [push_G,push_ite,push_bind,push_inl,push_inr,-eq_self]
   kernel_rfl
 ·intro goto ret
  show _ = push (en_value_members ..) _ _
  unfold en_value_members
  simp only [push_G,push_ite,push_bind,push_inl,push_inr,-eq_self]
  kernel_rfl
noncomputable def e_value_members:List DT → Option CallRes
 | [.s t0 y0]=>(castT (b := (.sl 4 tyAtom)) y0).bind fun v=>some ⟨(List (List tAtom)),value_members v,fun r=>.own 23 (.sl 4 tyAtom) r,([]:List (List tAtom)),false⟩
 | _=>none
noncomputable def E_value_members:Env := Env.add 33 e_value_members E_value_args_add
theorem E_value_members_ok:EnvOk X0 E_value_members := by
 refine EnvOk.add E_value_args_add_ok (fun args c h=>?_)
 unfold e_value_members at h
 split at h
 ·obtain ⟨v0,⟨rfl,rfl⟩,h⟩ := castB h
  cases h
  exact ⟨fun r hr=>.inl ⟨by kernel_rfl,ok_value_members _ r hr⟩,fun hb=>by cases hb⟩
 ·cases h
def F_slices_Clone:FnD := { n := 8,rs := [2],labels := [(1,[0])] }
theorem ok_slices_Clone (s_:List tAtom) (r:List tAtom) (h:slices_Clone s_ = some r):APure X0 34 ([.s (.sl 4 tyAtom) s_].map DT.toT) (resT ([.own 50 tyAtom r].map DT.toT)) := by
 obtain ⟨hG,h⟩ := G_some h
 cases h
 refine APure_of_nil (e := 50) (F := F_slices_Clone) (fuel := 3000) (E := E_0) (ty := tyAtom) (l := s_) (id := 1) (s0 := 0) (d1 := 3) (d2 := 4) (st1 := [(0,.t (.s (.sl 4 tyAtom) s_))]) Yok E_0_ok mixed Tryd.func34 rfl rfl rfl (by decide) (args := [.s (.sl 4 tyAtom) s_]) (Nat.le_of_ble_eq_true rfl) (by kernel_rfl) rfl rfl rfl rfl rfl rfl rfl (by kernel_rfl) rfl (by kernel_rfl) (by kernel_rfl) (WF_list ⟨trivial,trivial⟩) (fun goto ret=>by kernel_rfl) (fun b hb goto ret hret=>?_)
 cases b with
 | false =>
  refine Eq.trans (b := G ((([]:List tAtom).length + s_.length) * 40 ≤ 140737488355328) (ret [.own 50 tyAtom s_])) (by kernel_rfl) ?_
  rw [G_pos hG,hret]
 | true =>
  obtain rfl := hb rfl
  exact Eq.trans (b := ret [.own 50 tyAtom []]) (by kernel_rfl) hret
noncomputable def e_slices_Clone:List DT → Option CallRes
 | [.s t0 y0]=>(castT (b := (.sl 4 tyAtom)) y0).bind fun s_=>some ⟨List tAtom,slices_Clone s_,fun r=>.own 50 tyAtom r,[],true⟩
 | _=>none
noncomputable def E_slices_Clone:Env := Env.add 34 e_slices_Clone E_value_members
theorem E_slices_Clone_ok:EnvOk X0 E_slices_Clone := by
 refine EnvOk.add E_value_members_ok (fun args c h=>?_)
 unfold e_slices_Clone at h
 split at h
 ·obtain ⟨v0,⟨rfl,rfl⟩,h⟩ := castB h
  cases h
  exact ⟨fun r hr=>.inl ⟨by kernel_rfl,ok_slices_Clone _ r hr⟩,fun hb=>fun r=>noSl_res (by rfl)⟩
 ·cases h
def F_cmp_isNaN:FnD := { n := 6,rs := [2] }
theorem ok_cmp_isNaN (x:Int) (r:Bool) (h:cmp_isNaN x = some r):APure X0 79 ([.s (.int .i64) x].map DT.toT) (resT ([.s .bool r].map DT.toT)) := by
 refine APure_of_straight (F := F_cmp_isNaN) (fuel := 3000) (E := E_slices_Clone) Yok E_slices_Clone_ok mixed Tryd.func79 rfl rfl rfl (by decide) (args := [.s (.int .i64) x]) (Nat.le_of_ble_eq_true rfl) (by kernel_rfl) (fun r=>[.s .bool r]) ?_ h
 intro goto ret
 unfold cmp_isNaN
 simp only [bnd_G,bnd_ite,bnd_bind,bnd_some,-eq_self]
 kernel_rfl
noncomputable def e_cmp_isNaN:List DT → Option CallRes
 | [.s t0 y0]=>(castT (b := (.int .i64)) y0).bind fun x=>some ⟨Bool,cmp_isNaN x,fun r=>.s .bool r,false,true⟩
 | _=>none
noncomputable def E_cmp_isNaN:Env := Env.add 79 e_cmp_isNaN E_slices_Clone
theorem E_cmp_isNaN_ok:EnvOk X0 E_cmp_isNaN := by
 refine EnvOk.add E_slices_Clone_ok (fun args c h=>?_)
 unfold e_cmp_isNaN at h
 split at h
 ·obtain ⟨v0,⟨rfl,rfl⟩,h⟩ := castB h
  cases h
  exact ⟨fun r hr=>.inl ⟨by kernel_rfl,ok_cmp_isNaN _ r hr⟩,fun hb=>fun r=>noSl_res (by rfl)⟩
 ·cases h
def F_cmp_Compare:FnD := { n := 20,rs := [4] }
theorem ok_cmp_Compare (x:Int) (y:Int) (r:Int) (h:cmp_Compare x y = some r):APure X0 57 ([.s (.int .i64) x,.s (.int .i64) y].map DT.toT) (resT ([.s (.int .i64) r].map DT.toT)) := by
 refine APure_of_straight (F := F_cmp_Compare) (fuel := 3000) (E := E_cmp_isNaN) Yok E_cmp_isNaN_ok mixed Tryd.func57 rfl rfl rfl (by decide) (args := [.s (.int .i64) x,.s (.int .i64) y]) (Nat.le_of_ble_eq_true rfl) (by kernel_rfl) (fun r=>[.s (.int .i64) r]) ?_ h
 intro goto ret
 unfold cmp_Compare
 simp only [bnd_G,bnd_ite,bnd_bind,bnd_some,-eq_self]
 kernel_rfl
noncomputable def e_cmp_Compare:List DT → Option CallRes
 | [.s t0 y0,.s t1 y1]=>(castT (b := (.int .i64)) y0).bind fun x=>(castT (b := (.int .i64)) y1).bind fun y=>some ⟨Int,cmp_Compare x y,fun r=>.s (.int .i64) r,(0:Int),true⟩
 | _=>none
noncomputable def E_cmp_Compare:Env := Env.add 57 e_cmp_Compare E_cmp_isNaN
theorem E_cmp_Compare_ok:EnvOk X0 E_cmp_Compare := by
 refine EnvOk.add E_cmp_isNaN_ok (fun args c h=>?_)
 unfold e_cmp_Compare at h
 split at h
 ·obtain ⟨v0,⟨rfl,rfl⟩,h⟩ := castB h
  obtain ⟨v1,⟨rfl,rfl⟩,h⟩ := castB h
  cases h
  exact ⟨fun r hr=>.inl ⟨by kernel_rfl,ok_cmp_Compare _ _ r hr⟩,fun hb=>fun r=>noSl_res (by rfl)⟩
 ·cases h
end Go.Eng
