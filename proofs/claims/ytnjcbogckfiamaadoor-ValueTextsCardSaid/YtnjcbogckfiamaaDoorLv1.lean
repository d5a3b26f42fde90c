/- A part of the proof: Lv1. -/
import Derived.Test.YtnjcbogckfiamaaDoorLvd
import Derived.Test.YtnjcbogckfiamaaDoorD4
import Derived.Test.YtnjcbogckfiamaaDoorRows
import Derived.Test.YtnjcbogckfiamaaDoorShd
import Derived.Test.YtnjcbogckfiamaaDoorTb
namespace Go.Eng
open Go.Proofs Go.RowKit
set_option linter.unusedVariables false
set_option linter.unusedSimpArgs false

def globs : List (Nat × Glob) := []
noncomputable def X0 : Ctx := mkCtxT Tryd.prog 2 globs (by kernel_rfl) (fun w => Lib.TabIs Tryd.prog w "internal/strconv.uint64pow10" .u64 Lib.pow10Tab) (fun w w' hb h => tabIs_keep (g := 1) (by kernel_rfl) (by decide) w w' hb h)
theorem mixed : X0.P.follows .mixedOrders = true := by kernel_rfl
def Y0 : DX := { tab := [(2, { ty := (.int .i64) }), (3, { ty := (.int .i64) }), (4, { ty := .bool }), (5, { ty := .u8 }), (9, { ty := .str }), (23, { ty := (.sl 4 tyAtom), sl := some (50, tyAtom, 40) }), (42, { ty := (.sl 1 (.sl 4 tyAtom)), sl := some (23, (.sl 4 tyAtom), 24) }), (48, { ty := (.sl 1 .str), sl := some (9, .str, 16) }), (50, { ty := tyAtom, fs := [(.int .i64), (.int .i64), (.int .i64), .str], eq := true }), (57, { ty := tyreader, fs := [.str, (.int .i64), (.sl 4 tyAtom)] }), (63, { ty := (.sl 2 tywhole), sl := some (97, tywhole, 16) }), (74, { ty := (.sl 1 .u8), sl := some (5, .u8, 1) }), (75, { ty := (.int .u64) }), (85, { ty := (.sl 1 (.int .i64)), sl := some (3, (.int .i64), 8) }), (97, { ty := tywhole, fs := [(.int .i64), (.int .i64)], eq := true }), (104, { ty := (.int .u64) }), (113, { ty := .opq, ar := some (24, .u8) }), (130, { ty := (.int .u32) })], gl := globs }
theorem td_2 : TDOk Tryd.prog 2 { ty := (.int .i64) } where
  row := .inr (by kernel_rfl)
  und := .inr (by kernel_rfl)
  sli := .inl rfl
  slt := by kernel_rfl
  bye := .inl rfl
  fld := .inl rfl
  lay := .inl rfl
  rowT := .inl rfl
  arr := .inl rfl
  fsz := by kernel_rfl
  eqv := .inl rfl
  zer := .inr (by kernel_rfl)
  fnv := .inl rfl
theorem td_3 : TDOk Tryd.prog 3 { ty := (.int .i64) } where
  row := .inr (by kernel_rfl)
  und := .inr (by kernel_rfl)
  sli := .inl rfl
  slt := by kernel_rfl
  bye := .inl rfl
  fld := .inl rfl
  lay := .inl rfl
  rowT := .inl rfl
  arr := .inl rfl
  fsz := by kernel_rfl
  eqv := .inl rfl
  zer := .inr (by kernel_rfl)
  fnv := .inl rfl
theorem td_4 : TDOk Tryd.prog 4 { ty := .bool } where
  row := .inr (by kernel_rfl)
  und := .inr (by kernel_rfl)
  sli := .inl rfl
  slt := by kernel_rfl
  bye := .inl rfl
  fld := .inl rfl
  lay := .inl rfl
  rowT := .inl rfl
  arr := .inl rfl
  fsz := by kernel_rfl
  eqv := .inl rfl
  zer := .inr (by kernel_rfl)
  fnv := .inl rfl
theorem td_5 : TDOk Tryd.prog 5 { ty := .u8 } where
  row := .inr (by kernel_rfl)
  und := .inr (by kernel_rfl)
  sli := .inl rfl
  slt := by kernel_rfl
  bye := .inl rfl
  fld := .inl rfl
  lay := .inl rfl
  rowT := .inl rfl
  arr := .inl rfl
  fsz := by kernel_rfl
  eqv := .inl rfl
  zer := .inr (by kernel_rfl)
  fnv := .inl rfl
theorem td_9 : TDOk Tryd.prog 9 { ty := .str } where
  row := .inr (by kernel_rfl)
  und := .inr (by kernel_rfl)
  sli := .inl rfl
  slt := by kernel_rfl
  bye := .inl rfl
  fld := .inl rfl
  lay := .inl rfl
  rowT := .inl rfl
  arr := .inl rfl
  fsz := by kernel_rfl
  eqv := .inl rfl
  zer := .inr (by kernel_rfl)
  fnv := .inl rfl
theorem td_23 : TDOk Tryd.prog 23 { ty := (.sl 4 tyAtom), sl := some (50, tyAtom, 40) } where
  row := .inr (by kernel_rfl)
  und := .inl rfl
  sli := .inr (by kernel_rfl)
  slt := by kernel_rfl
  bye := .inl rfl
  fld := .inl rfl
  lay := .inl rfl
  rowT := .inl rfl
  arr := .inl rfl
  fsz := by kernel_rfl
  eqv := .inl rfl
  zer := .inr (by kernel_rfl)
  fnv := .inl rfl
theorem td_42 : TDOk Tryd.prog 42 { ty := (.sl 1 (.sl 4 tyAtom)), sl := some (23, (.sl 4 tyAtom), 24) } where
  row := .inr (by kernel_rfl)
  und := .inl rfl
  sli := .inr (by kernel_rfl)
  slt := by kernel_rfl
  bye := .inl rfl
  fld := .inl rfl
  lay := .inl rfl
  rowT := .inl rfl
  arr := .inl rfl
  fsz := by kernel_rfl
  eqv := .inl rfl
  zer := .inr (by kernel_rfl)
  fnv := .inl rfl
theorem td_48 : TDOk Tryd.prog 48 { ty := (.sl 1 .str), sl := some (9, .str, 16) } where
  row := .inr (by kernel_rfl)
  und := .inl rfl
  sli := .inr (by kernel_rfl)
  slt := by kernel_rfl
  bye := .inl rfl
  fld := .inl rfl
  lay := .inl rfl
  rowT := .inl rfl
  arr := .inl rfl
  fsz := by kernel_rfl
  eqv := .inl rfl
  zer := .inr (by kernel_rfl)
  fnv := .inl rfl
theorem td_50 : TDOk Tryd.prog 50 { ty := tyAtom, fs := [(.int .i64), (.int .i64), (.int .i64), .str], eq := true } where
  row := .inr (by kernel_rfl)
  und := .inl rfl
  sli := .inl rfl
  slt := by kernel_rfl
  bye := .inl rfl
  fld := .inr (by kernel_rfl)
  lay := .inr (by kernel_rfl)
  rowT := .inr rfl
  arr := .inl rfl
  fsz := by kernel_rfl
  eqv := .inr (by kernel_rfl)
  zer := .inr (by kernel_rfl)
  fnv := .inl rfl
theorem td_57 : TDOk Tryd.prog 57 { ty := tyreader, fs := [.str, (.int .i64), (.sl 4 tyAtom)] } where
  row := .inr (by kernel_rfl)
  und := .inl rfl
  sli := .inl rfl
  slt := by kernel_rfl
  bye := .inl rfl
  fld := .inr (by kernel_rfl)
  lay := .inr (by kernel_rfl)
  rowT := .inr rfl
  arr := .inl rfl
  fsz := by kernel_rfl
  eqv := .inl rfl
  zer := .inr (by kernel_rfl)
  fnv := .inl rfl
theorem td_63 : TDOk Tryd.prog 63 { ty := (.sl 2 tywhole), sl := some (97, tywhole, 16) } where
  row := .inr (by kernel_rfl)
  und := .inl rfl
  sli := .inr (by kernel_rfl)
  slt := by kernel_rfl
  bye := .inl rfl
  fld := .inl rfl
  lay := .inl rfl
  rowT := .inl rfl
  arr := .inl rfl
  fsz := by kernel_rfl
  eqv := .inl rfl
  zer := .inr (by kernel_rfl)
  fnv := .inl rfl
theorem td_74 : TDOk Tryd.prog 74 { ty := (.sl 1 .u8), sl := some (5, .u8, 1) } where
  row := .inr (by kernel_rfl)
  und := .inl rfl
  sli := .inr (by kernel_rfl)
  slt := by kernel_rfl
  bye := .inr (by kernel_rfl)
  fld := .inl rfl
  lay := .inl rfl
  rowT := .inl rfl
  arr := .inl rfl
  fsz := by kernel_rfl
  eqv := .inl rfl
  zer := .inr (by kernel_rfl)
  fnv := .inl rfl
theorem td_75 : TDOk Tryd.prog 75 { ty := (.int .u64) } where
  row := .inr (by kernel_rfl)
  und := .inr (by kernel_rfl)
  sli := .inl rfl
  slt := by kernel_rfl
  bye := .inl rfl
  fld := .inl rfl
  lay := .inl rfl
  rowT := .inl rfl
  arr := .inl rfl
  fsz := by kernel_rfl
  eqv := .inl rfl
  zer := .inr (by kernel_rfl)
  fnv := .inl rfl
theorem td_85 : TDOk Tryd.prog 85 { ty := (.sl 1 (.int .i64)), sl := some (3, (.int .i64), 8) } where
  row := .inr (by kernel_rfl)
  und := .inl rfl
  sli := .inr (by kernel_rfl)
  slt := by kernel_rfl
  bye := .inl rfl
  fld := .inl rfl
  lay := .inl rfl
  rowT := .inl rfl
  arr := .inl rfl
  fsz := by kernel_rfl
  eqv := .inl rfl
  zer := .inr (by kernel_rfl)
  fnv := .inl rfl
theorem td_97 : TDOk Tryd.prog 97 { ty := tywhole, fs := [(.int .i64), (.int .i64)], eq := true } where
  row := .inr (by kernel_rfl)
  und := .inl rfl
  sli := .inl rfl
  slt := by kernel_rfl
  bye := .inl rfl
  fld := .inr (by kernel_rfl)
  lay := .inr (by kernel_rfl)
  rowT := .inr rfl
  arr := .inl rfl
  fsz := by kernel_rfl
  eqv := .inr (by kernel_rfl)
  zer := .inr (by kernel_rfl)
  fnv := .inl rfl
theorem td_104 : TDOk Tryd.prog 104 { ty := (.int .u64) } where
  row := .inr (by kernel_rfl)
  und := .inr (by kernel_rfl)
  sli := .inl rfl
  slt := by kernel_rfl
  bye := .inl rfl
  fld := .inl rfl
  lay := .inl rfl
  rowT := .inl rfl
  arr := .inl rfl
  fsz := by kernel_rfl
  eqv := .inl rfl
  zer := .inr (by kernel_rfl)
  fnv := .inl rfl
theorem td_113 : TDOk Tryd.prog 113 { ty := .opq, ar := some (24, .u8) } where
  row := .inl rfl
  und := .inl rfl
  sli := .inl rfl
  slt := by kernel_rfl
  bye := .inl rfl
  fld := .inl rfl
  lay := .inl rfl
  rowT := .inl rfl
  arr := .inr (by kernel_rfl)
  fsz := by kernel_rfl
  eqv := .inl rfl
  zer := .inl rfl
  fnv := .inl rfl
theorem td_130 : TDOk Tryd.prog 130 { ty := (.int .u32) } where
  row := .inr (by kernel_rfl)
  und := .inr (by kernel_rfl)
  sli := .inl rfl
  slt := by kernel_rfl
  bye := .inl rfl
  fld := .inl rfl
  lay := .inl rfl
  rowT := .inl rfl
  arr := .inl rfl
  fsz := by kernel_rfl
  eqv := .inl rfl
  zer := .inr (by kernel_rfl)
  fnv := .inl rfl
theorem Yok : DXOk Y0 X0 where
  tab := List.forall_mem_cons.2 ⟨td_2, List.forall_mem_cons.2 ⟨td_3, List.forall_mem_cons.2 ⟨td_4, List.forall_mem_cons.2 ⟨td_5, List.forall_mem_cons.2 ⟨td_9, List.forall_mem_cons.2 ⟨td_23, List.forall_mem_cons.2 ⟨td_42, List.forall_mem_cons.2 ⟨td_48, List.forall_mem_cons.2 ⟨td_50, List.forall_mem_cons.2 ⟨td_57, List.forall_mem_cons.2 ⟨td_63, List.forall_mem_cons.2 ⟨td_74, List.forall_mem_cons.2 ⟨td_75, List.forall_mem_cons.2 ⟨td_85, List.forall_mem_cons.2 ⟨td_97, List.forall_mem_cons.2 ⟨td_104, List.forall_mem_cons.2 ⟨td_113, List.forall_mem_cons.2 ⟨td_130, (fun _ h => by cases h)⟩⟩⟩⟩⟩⟩⟩⟩⟩⟩⟩⟩⟩⟩⟩⟩⟩⟩
  gl := fun _ => rfl

/-! ### 7 onceweb/oncewebbase.CopyValue -/
def F_base_CopyValue : FnD := { n := 6, rs := [2] }
set_option maxRecDepth 100000 in
theorem ok_base_CopyValue (v : (List tAtom)) (r : (List tAtom)) (h : base_CopyValue v = some r) : APure X0 7 ([.s (.sl 4 tyAtom) v].map DT.toT) (resT ([.own 50 tyAtom r].map DT.toT)) := by
  refine APure_of_straight (F := F_base_CopyValue) (fuel := 3000) (E := E_0) Yok E_0_ok mixed Tryd.func7 rfl rfl rfl (by decide) (args := [.s (.sl 4 tyAtom) v]) (Nat.le_of_ble_eq_true rfl) (by kernel_rfl) (fun r => [.own 50 tyAtom r]) ?_ h
  intro goto ret
  unfold base_CopyValue
  simp only [bnd_G, bnd_ite, bnd_bind, bnd_some, -eq_self]
  kernel_rfl
noncomputable def e_base_CopyValue : List DT → Option CallRes
  | [.s t0 y0] => (castT (b := (.sl 4 tyAtom)) y0).bind fun v => some ⟨(List tAtom), base_CopyValue v, fun r => .own 50 tyAtom r, ([] : List tAtom), true⟩
  | _ => none
noncomputable def E_base_CopyValue : Env := Env.add 7 e_base_CopyValue E_0
theorem E_base_CopyValue_ok : EnvOk X0 E_base_CopyValue := by
  refine EnvOk.add E_0_ok (fun args c h => ?_)
  unfold e_base_CopyValue at h
  split at h
  · obtain ⟨v0, c0, h⟩ := Option.bind_eq_some_iff.1 h
    obtain ⟨rfl, rfl⟩ := castT_some c0
    cases h
    exact ⟨fun r hr => .inl ⟨by kernel_rfl, ok_base_CopyValue _ r hr⟩, fun hb => fun r => noSl_res (by rfl)⟩
  · cases h

/-! ### 55 onceweb/value.well -/
def F_value_well : FnD := { n := 56, rs := [2] }
set_option maxRecDepth 100000 in
theorem ok_value_well (a : tAtom) (r : Bool) (h : value_well a = some r) : APure X0 55 ([.s tyAtom a].map DT.toT) (resT ([.s .bool r].map DT.toT)) := by
  refine APure_of_straight (F := F_value_well) (fuel := 3000) (E := E_base_CopyValue) Yok E_base_CopyValue_ok mixed Tryd.func55 rfl rfl rfl (by decide) (args := [.s tyAtom a]) (Nat.le_of_ble_eq_true rfl) (by kernel_rfl) (fun r => [.s .bool r]) ?_ h
  intro goto ret
  unfold value_well
  simp only [bnd_G, bnd_ite, bnd_bind, bnd_some, -eq_self]
  kernel_rfl
noncomputable def e_value_well : List DT → Option CallRes
  | [.s t0 y0] => (castT (b := tyAtom) y0).bind fun a => some ⟨Bool, value_well a, fun r => .s .bool r, false, true⟩
  | _ => none
noncomputable def E_value_well : Env := Env.add 55 e_value_well E_base_CopyValue
theorem E_value_well_ok : EnvOk X0 E_value_well := by
  refine EnvOk.add E_base_CopyValue_ok (fun args c h => ?_)
  unfold e_value_well at h
  split at h
  · obtain ⟨v0, c0, h⟩ := Option.bind_eq_some_iff.1 h
    obtain ⟨rfl, rfl⟩ := castT_some c0
    cases h
    exact ⟨fun r hr => .inl ⟨by kernel_rfl, ok_value_well _ r hr⟩, fun hb => fun r => noSl_res (by rfl)⟩
  · cases h

/-! ### 30 onceweb/value.wholes -/
def F_value_wholes : FnD := { n := 80, rs := [2, 3], labels := [(3, [4, 5, 16, 17, 18]), (10, [4, 5, 6, 8, 9, 16, 17, 18, 42, 43, 44])] }
def lab_value_wholes : L_value_wholes → Nat × DSt
  | .l3 out stack x16 x17 x18 => (3, [(4, .t (.own 97 tywhole out)), (5, .t (.own 97 tywhole stack)), (16, .t (.s (.sl 4 tyAtom) x16)), (17, .t (.s (.int .i64) x17)), (18, .t (.s (.int .i64) x18))])
  | .l10 out stack i k w w' x16 x17 x18 x42 x42' x43 x44 => (10, [(4, .t (.own 97 tywhole out)), (5, .t (.own 97 tywhole stack)), (6, .t (.s (.int .i64) i)), (8, .t (.s (.int .i64) k)), (9, .t (.box 97 [.s (.int .i64) w, .s (.int .i64) w'])), (16, .t (.s (.sl 4 tyAtom) x16)), (17, .t (.s (.int .i64) x17)), (18, .t (.s (.int .i64) x18)), (42, .ref 5 none x42 x42' .mid), (43, .t (.s (.int .i64) x43)), (44, .t (.s (.int .i64) x44))])
set_option maxRecDepth 100000 in
theorem ok_value_wholes (v : (List tAtom)) (r : ((List twhole) × Bool)) (h : value_wholes v = some r) : APure X0 30 ([.s (.sl 4 tyAtom) v].map DT.toT) (resT ([.own 97 tywhole r.1, .s .bool r.2].map DT.toT)) := by
  refine APure_of_machine (F := F_value_wholes) (fuel := 3000) (E := E_value_well) Yok E_value_well_ok mixed Tryd.func30 rfl rfl rfl (by decide) (args := [.s (.sl 4 tyAtom) v]) (Nat.le_of_ble_eq_true rfl) (by kernel_rfl) lab_value_wholes st_value_wholes (fun r => [.own 97 tywhole r.1, .s .bool r.2]) ?_ ?_ ?_ h
  · intro l; cases l
    · exact WF_list ⟨trivial, trivial, trivial, trivial, trivial, trivial⟩
    · exact WF_list ⟨trivial, trivial, trivial, trivial, trivial, trivial, trivial, trivial, .inl rfl, trivial, trivial, trivial⟩
  · intro l goto ret; cases l with
    | l3 out stack x16 x17 x18 =>
      show _ = push (sg_value_wholes_3 out stack x16 x17 x18) (fun l' => goto (lab_value_wholes l').1 (lab_value_wholes l').2) (fun r => ret [.own 97 tywhole r.1, .s .bool r.2])
      unfold sg_value_wholes_3
      simp only [push_G, push_ite, push_bind, push_inl, push_inr, -eq_self]
      kernel_rfl
    | l10 out stack i k w w' x16 x17 x18 x42 x42' x43 x44 =>
      show _ = push (sg_value_wholes_10 out stack i k w w' x16 x17 x18 x42 x42' x43 x44) (fun l' => goto (lab_value_wholes l').1 (lab_value_wholes l').2) (fun r => ret [.own 97 tywhole r.1, .s .bool r.2])
      unfold sg_value_wholes_10
      simp only [push_G, push_ite, push_bind, push_inl, push_inr, -eq_self]
      kernel_rfl
  · intro goto ret
    show _ = push (en_value_wholes v) (fun l' => goto (lab_value_wholes l').1 (lab_value_wholes l').2) (fun r => ret [.own 97 tywhole r.1, .s .bool r.2])
    unfold en_value_wholes
    simp only [push_G, push_ite, push_bind, push_inl, push_inr, -eq_self]
    kernel_rfl
noncomputable def e_value_wholes : List DT → Option CallRes
  | [.s t0 y0] => (castT (b := (.sl 4 tyAtom)) y0).bind fun v => some ⟨((List twhole) × Bool), value_wholes v, fun r => .tup [.own 97 tywhole r.1, .s .bool r.2], (([] : List twhole), false), true⟩
  | _ => none
noncomputable def E_value_wholes : Env := Env.add 30 e_value_wholes E_value_well
theorem E_value_wholes_ok : EnvOk X0 E_value_wholes := by
  refine EnvOk.add E_value_well_ok (fun args c h => ?_)
  unfold e_value_wholes at h
  split at h
  · obtain ⟨v0, c0, h⟩ := Option.bind_eq_some_iff.1 h
    obtain ⟨rfl, rfl⟩ := castT_some c0
    cases h
    exact ⟨fun r hr => .inl ⟨by kernel_rfl, ok_value_wholes _ r hr⟩, fun hb => fun r => noSl_res (by rfl)⟩
  · cases h

/-! ### 16 onceweb/value.Check -/
def F_value_Check : FnD := { n := 15, rs := [2] }
set_option maxRecDepth 100000 in
theorem ok_value_Check (v : (List tAtom)) (r : Int) (h : value_Check v = some r) : APure X0 16 ([.s (.sl 4 tyAtom) v].map DT.toT) (resT ([.s (.int .i64) r].map DT.toT)) := by
  refine APure_of_straight (F := F_value_Check) (fuel := 3000) (E := E_value_wholes) Yok E_value_wholes_ok mixed Tryd.func16 rfl rfl rfl (by decide) (args := [.s (.sl 4 tyAtom) v]) (Nat.le_of_ble_eq_true rfl) (by kernel_rfl) (fun r => [.s (.int .i64) r]) ?_ h
  intro goto ret
  unfold value_Check
  simp only [bnd_G, bnd_ite, bnd_bind, bnd_some, -eq_self]
  kernel_rfl
noncomputable def e_value_Check : List DT → Option CallRes
  | [.s t0 y0] => (castT (b := (.sl 4 tyAtom)) y0).bind fun v => some ⟨Int, value_Check v, fun r => .s (.int .i64) r, (0 : Int), true⟩
  | _ => none
noncomputable def E_value_Check : Env := Env.add 16 e_value_Check E_value_wholes
theorem E_value_Check_ok : EnvOk X0 E_value_Check := by
  refine EnvOk.add E_value_wholes_ok (fun args c h => ?_)
  unfold e_value_Check at h
  split at h
  · obtain ⟨v0, c0, h⟩ := Option.bind_eq_some_iff.1 h
    obtain ⟨rfl, rfl⟩ := castT_some c0
    cases h
    exact ⟨fun r hr => .inl ⟨by kernel_rfl, ok_value_Check _ r hr⟩, fun hb => fun r => noSl_res (by rfl)⟩
  · cases h

/-! ### 81 internal/strconv.small -/
def F_strconv_small : FnD := { n := 15, rs := [2] }
set_option maxRecDepth 100000 in
theorem ok_strconv_small (i : Int) (r : (List UInt8)) (h : strconv_small i = some r) : APure X0 81 ([.s (.int .i64) i].map DT.toT) (resT ([.s .str r].map DT.toT)) := by
  refine APure_of_straight (F := F_strconv_small) (fuel := 3000) (E := E_value_Check) Yok E_value_Check_ok mixed Tryd.func81 rfl rfl rfl (by decide) (args := [.s (.int .i64) i]) (Nat.le_of_ble_eq_true rfl) (by kernel_rfl) (fun r => [.s .str r]) ?_ h
  intro goto ret
  unfold strconv_small
  simp only [bnd_G, bnd_ite, bnd_bind, bnd_some, -eq_self]
  kernel_rfl
noncomputable def e_strconv_small : List DT → Option CallRes
  | [.s t0 y0] => (castT (b := (.int .i64)) y0).bind fun i => some ⟨(List UInt8), strconv_small i, fun r => .s .str r, ([] : List UInt8), true⟩
  | _ => none
noncomputable def E_strconv_small : Env := Env.add 81 e_strconv_small E_value_Check
theorem E_strconv_small_ok : EnvOk X0 E_strconv_small := by
  refine EnvOk.add E_value_Check_ok (fun args c h => ?_)
  unfold e_strconv_small at h
  split at h
  · obtain ⟨v0, c0, h⟩ := Option.bind_eq_some_iff.1 h
    obtain ⟨rfl, rfl⟩ := castT_some c0
    cases h
    exact ⟨fun r hr => .inl ⟨by kernel_rfl, ok_strconv_small _ r hr⟩, fun hb => fun r => noSl_res (by rfl)⟩
  · cases h

/-! ### 97 internal/strconv.log10Pow2 -/
def F_strconv_log10Pow2 : FnD := { n := 6, rs := [2] }
set_option maxRecDepth 100000 in
theorem ok_strconv_log10Pow2 (x : Int) (r : Int) (h : strconv_log10Pow2 x = some r) : APure X0 97 ([.s (.int .i64) x].map DT.toT) (resT ([.s (.int .i64) r].map DT.toT)) := by
  refine APure_of_straight (F := F_strconv_log10Pow2) (fuel := 3000) (E := E_strconv_small) Yok E_strconv_small_ok mixed Tryd.func97 rfl rfl rfl (by decide) (args := [.s (.int .i64) x]) (Nat.le_of_ble_eq_true rfl) (by kernel_rfl) (fun r => [.s (.int .i64) r]) ?_ h
  intro goto ret
  unfold strconv_log10Pow2
  simp only [bnd_G, bnd_ite, bnd_bind, bnd_some, -eq_self]
  kernel_rfl
noncomputable def e_strconv_log10Pow2 : List DT → Option CallRes
  | [.s t0 y0] => (castT (b := (.int .i64)) y0).bind fun x => some ⟨Int, strconv_log10Pow2 x, fun r => .s (.int .i64) r, (0 : Int), true⟩
  | _ => none
noncomputable def E_strconv_log10Pow2 : Env := Env.add 97 e_strconv_log10Pow2 E_strconv_small
theorem E_strconv_log10Pow2_ok : EnvOk X0 E_strconv_log10Pow2 := by
  refine EnvOk.add E_strconv_small_ok (fun args c h => ?_)
  unfold e_strconv_log10Pow2 at h
  split at h
  · obtain ⟨v0, c0, h⟩ := Option.bind_eq_some_iff.1 h
    obtain ⟨rfl, rfl⟩ := castT_some c0
    cases h
    exact ⟨fun r hr => .inl ⟨by kernel_rfl, ok_strconv_log10Pow2 _ r hr⟩, fun hb => fun r => noSl_res (by rfl)⟩
  · cases h

/-! ### 98 math/bits.Len64 -/
def F_bits_Len64 : FnD := { n := 25, rs := [2], labels := [(4, [0, 2]), (7, [0, 2])] }
def lab_bits_Len64 : L_bits_Len64 → Nat × DSt
  | .l4 x n => (4, [(0, .t (.s (.int .u64) x)), (2, .t (.s (.int .i64) n))])
  | .l7 x n => (7, [(0, .t (.s (.int .u64) x)), (2, .t (.s (.int .i64) n))])
set_option maxRecDepth 100000 in
theorem ok_bits_Len64 (x : Int) (r : Int) (h : bits_Len64 x = some r) : APure X0 98 ([.s (.int .u64) x].map DT.toT) (resT ([.s (.int .i64) r].map DT.toT)) := by
  refine APure_of_machine (F := F_bits_Len64) (fuel := 3000) (E := E_strconv_log10Pow2) Yok E_strconv_log10Pow2_ok mixed Tryd.func98 rfl rfl rfl (by decide) (args := [.s (.int .u64) x]) (Nat.le_of_ble_eq_true rfl) (by kernel_rfl) lab_bits_Len64 st_bits_Len64 (fun r => [.s (.int .i64) r]) ?_ ?_ ?_ h
  · intro l; cases l
    · exact WF_list ⟨trivial, trivial, trivial⟩
    · exact WF_list ⟨trivial, trivial, trivial⟩
  · intro l goto ret; cases l with
    | l4 x n =>
      show _ = push (sg_bits_Len64_4 x n) (fun l' => goto (lab_bits_Len64 l').1 (lab_bits_Len64 l').2) (fun r => ret [.s (.int .i64) r])
      unfold sg_bits_Len64_4
      simp only [push_G, push_ite, push_bind, push_inl, push_inr, -eq_self]
      kernel_rfl
    | l7 x n =>
      show _ = push (sg_bits_Len64_7 x n) (fun l' => goto (lab_bits_Len64 l').1 (lab_bits_Len64 l').2) (fun r => ret [.s (.int .i64) r])
      unfold sg_bits_Len64_7
      simp only [push_G, push_ite, push_bind, push_inl, push_inr, -eq_self]
      kernel_rfl
  · intro goto ret
    show _ = push (en_bits_Len64 x) (fun l' => goto (lab_bits_Len64 l').1 (lab_bits_Len64 l').2) (fun r => ret [.s (.int .i64) r])
    unfold en_bits_Len64
    simp only [push_G, push_ite, push_bind, push_inl, push_inr, -eq_self]
    kernel_rfl
noncomputable def e_bits_Len64 : List DT → Option CallRes
  | [.s t0 y0] => (castT (b := (.int .u64)) y0).bind fun x => some ⟨Int, bits_Len64 x, fun r => .s (.int .i64) r, (0 : Int), true⟩
  | _ => none
noncomputable def E_bits_Len64 : Env := Env.add 98 e_bits_Len64 E_strconv_log10Pow2
theorem E_bits_Len64_ok : EnvOk X0 E_bits_Len64 := by
  refine EnvOk.add E_strconv_log10Pow2_ok (fun args c h => ?_)
  unfold e_bits_Len64 at h
  split at h
  · obtain ⟨v0, c0, h⟩ := Option.bind_eq_some_iff.1 h
    obtain ⟨rfl, rfl⟩ := castT_some c0
    cases h
    exact ⟨fun r hr => .inl ⟨by kernel_rfl, ok_bits_Len64 _ r hr⟩, fun hb => fun r => noSl_res (by rfl)⟩
  · cases h

/-! ### 99 internal/strconv.bool2[int] -/
def F_strconv_bool2 : FnD := { n := 4, rs := [2] }
set_option maxRecDepth 100000 in
theorem ok_strconv_bool2 (b : Bool) (r : Int) (h : strconv_bool2 b = some r) : APure X0 99 ([.s .bool b].map DT.toT) (resT ([.s (.int .i64) r].map DT.toT)) := by
  refine APure_of_straight (F := F_strconv_bool2) (fuel := 3000) (E := E_bits_Len64) Yok E_bits_Len64_ok mixed Tryd.func99 rfl rfl rfl (by decide) (args := [.s .bool b]) (Nat.le_of_ble_eq_true rfl) (by kernel_rfl) (fun r => [.s (.int .i64) r]) ?_ h
  intro goto ret
  unfold strconv_bool2
  simp only [bnd_G, bnd_ite, bnd_bind, bnd_some, -eq_self]
  kernel_rfl
noncomputable def e_strconv_bool2 : List DT → Option CallRes
  | [.s t0 y0] => (castT (b := .bool) y0).bind fun b => some ⟨Int, strconv_bool2 b, fun r => .s (.int .i64) r, (0 : Int), true⟩
  | _ => none
noncomputable def E_strconv_bool2 : Env := Env.add 99 e_strconv_bool2 E_bits_Len64
theorem E_strconv_bool2_ok : EnvOk X0 E_strconv_bool2 := by
  refine EnvOk.add E_bits_Len64_ok (fun args c h => ?_)
  unfold e_strconv_bool2 at h
  split at h
  · obtain ⟨v0, c0, h⟩ := Option.bind_eq_some_iff.1 h
    obtain ⟨rfl, rfl⟩ := castT_some c0
    cases h
    exact ⟨fun r hr => .inl ⟨by kernel_rfl, ok_strconv_bool2 _ r hr⟩, fun hb => fun r => noSl_res (by rfl)⟩
  · cases h

/-! ### 100 internal/strconv.isPowerOfTwo -/
def F_strconv_isPowerOfTwo : FnD := { n := 8, rs := [2] }
set_option maxRecDepth 100000 in
theorem ok_strconv_isPowerOfTwo (x : Int) (r : Bool) (h : strconv_isPowerOfTwo x = some r) : APure X0 100 ([.s (.int .i64) x].map DT.toT) (resT ([.s .bool r].map DT.toT)) := by
  refine APure_of_straight (F := F_strconv_isPowerOfTwo) (fuel := 3000) (E := E_strconv_bool2) Yok E_strconv_bool2_ok mixed Tryd.func100 rfl rfl rfl (by decide) (args := [.s (.int .i64) x]) (Nat.le_of_ble_eq_true rfl) (by kernel_rfl) (fun r => [.s .bool r]) ?_ h
  intro goto ret
  unfold strconv_isPowerOfTwo
  simp only [bnd_G, bnd_ite, bnd_bind, bnd_some, -eq_self]
  kernel_rfl
noncomputable def e_strconv_isPowerOfTwo : List DT → Option CallRes
  | [.s t0 y0] => (castT (b := (.int .i64)) y0).bind fun x => some ⟨Bool, strconv_isPowerOfTwo x, fun r => .s .bool r, false, true⟩
  | _ => none
noncomputable def E_strconv_isPowerOfTwo : Env := Env.add 100 e_strconv_isPowerOfTwo E_strconv_bool2
theorem E_strconv_isPowerOfTwo_ok : EnvOk X0 E_strconv_isPowerOfTwo := by
  refine EnvOk.add E_strconv_bool2_ok (fun args c h => ?_)
  unfold e_strconv_isPowerOfTwo at h
  split at h
  · obtain ⟨v0, c0, h⟩ := Option.bind_eq_some_iff.1 h
    obtain ⟨rfl, rfl⟩ := castT_some c0
    cases h
    exact ⟨fun r hr => .inl ⟨by kernel_rfl, ok_strconv_isPowerOfTwo _ r hr⟩, fun hb => fun r => noSl_res (by rfl)⟩
  · cases h

/-! ### 22 strconv_Itoa: by the shelf's contract -/
theorem ok_strconv_Itoa (n : Int) (r : List UInt8) (h : strconv_Itoa n = some r) : APure X0 22 ([.s (.int .i64) n].map DT.toT) (DT.s .str r).toT := by
  obtain ⟨⟨h1, h2⟩, h⟩ := G_some h
  cases h
  exact itoa_call (X := X0) (k := 22) (fun n w h0 h1 hG => Tryd.strconv_Itoa n h0 h1 w hG.2) n h1 h2
noncomputable def e_strconv_Itoa : List DT → Option CallRes
  | [.s t0 y0] => (castT (b := .int .i64) y0).bind fun n => some ⟨List UInt8, strconv_Itoa n, fun r => .s .str r, ([] : List UInt8), true⟩
  | _ => none
noncomputable def E_strconv_Itoa : Env := Env.add 22 e_strconv_Itoa E_strconv_isPowerOfTwo
theorem E_strconv_Itoa_ok : EnvOk X0 E_strconv_Itoa := by
  refine EnvOk.add E_strconv_isPowerOfTwo_ok (fun args c h => ?_)
  unfold e_strconv_Itoa at h
  split at h
  · obtain ⟨v0, c0, h⟩ := Option.bind_eq_some_iff.1 h
    obtain ⟨rfl, rfl⟩ := castT_some c0
    cases h
    exact ⟨fun r hr => .inl ⟨by kernel_rfl, ok_strconv_Itoa _ r hr⟩, fun hb => fun r => noSl_res (d := .s .str r) (by rfl)⟩
  · cases h


/-! ### 23 onceweb/lex.Quote -/
def F_lex_Quote : FnD := { n := 63, rs := [2], labels := [(4, [0, 3, 14, 15])] }
def lab_lex_Quote : L_lex_Quote → Nat × DSt
  | .l4 s_ out x14 x15 => (4, [(0, .t (.s .str s_)), (3, .t (.own 5 .u8 out)), (14, .t (.s (.int .i64) x14)), (15, .t (.s (.int .i64) x15))])
set_option maxRecDepth 100000 in
theorem ok_lex_Quote (s_ : (List UInt8)) (r : (List UInt8)) (h : lex_Quote s_ = some r) : APure X0 23 ([.s .str s_].map DT.toT) (resT ([.s .str r].map DT.toT)) := by
  refine APure_of_machine (F := F_lex_Quote) (fuel := 3000) (E := E_strconv_Itoa) Yok E_strconv_Itoa_ok mixed Tryd.func23 rfl rfl rfl (by decide) (args := [.s .str s_]) (Nat.le_of_ble_eq_true rfl) (by kernel_rfl) lab_lex_Quote st_lex_Quote (fun r => [.s .str r]) ?_ ?_ ?_ h
  · intro l; cases l
    · exact WF_list ⟨trivial, trivial, trivial, trivial, trivial⟩
  · intro l goto ret; cases l with
    | l4 s_ out x14 x15 =>
      show _ = push (sg_lex_Quote_4 s_ out x14 x15) (fun l' => goto (lab_lex_Quote l').1 (lab_lex_Quote l').2) (fun r => ret [.s .str r])
      unfold sg_lex_Quote_4
      simp only [push_G, push_ite, push_bind, push_inl, push_inr, -eq_self]
      kernel_rfl
  · intro goto ret
    show _ = push (en_lex_Quote s_) (fun l' => goto (lab_lex_Quote l').1 (lab_lex_Quote l').2) (fun r => ret [.s .str r])
    unfold en_lex_Quote
    simp only [push_G, push_ite, push_bind, push_inl, push_inr, -eq_self]
    kernel_rfl
noncomputable def e_lex_Quote : List DT → Option CallRes
  | [.s t0 y0] => (castT (b := .str) y0).bind fun s_ => some ⟨(List UInt8), lex_Quote s_, fun r => .s .str r, ([] : List UInt8), true⟩
  | _ => none
noncomputable def E_lex_Quote : Env := Env.add 23 e_lex_Quote E_strconv_Itoa
theorem E_lex_Quote_ok : EnvOk X0 E_lex_Quote := by
  refine EnvOk.add E_strconv_Itoa_ok (fun args c h => ?_)
  unfold e_lex_Quote at h
  split at h
  · obtain ⟨v0, c0, h⟩ := Option.bind_eq_some_iff.1 h
    obtain ⟨rfl, rfl⟩ := castT_some c0
    cases h
    exact ⟨fun r hr => .inl ⟨by kernel_rfl, ok_lex_Quote _ r hr⟩, fun hb => fun r => noSl_res (by rfl)⟩
  · cases h

/-! ### 24 strings_Join: by the shelf's contract -/
theorem ok_strings_Join (l : List (List UInt8)) (sep : List UInt8) (r : List UInt8) (h : strings_Join l sep = some r) : APure X0 24 ([.s (.sl 1 .str) l, .s .str sep].map DT.toT) (DT.s .str r).toT := by
  obtain ⟨⟨h1, h2⟩, h⟩ := G_some h
  cases h
  exact join_call (X := X0) (k := 24) Tryd.strings_Join_none Tryd.strings_Join l sep h1 h2
noncomputable def e_strings_Join : List DT → Option CallRes
  | [.s t0 y0, .s t1 y1] => (castT (b := .sl 1 .str) y0).bind fun l => (castT (b := .str) y1).bind fun sep => some ⟨List UInt8, strings_Join l sep, fun r => .s .str r, ([] : List UInt8), true⟩
  | _ => none
noncomputable def E_strings_Join : Env := Env.add 24 e_strings_Join E_lex_Quote
theorem E_strings_Join_ok : EnvOk X0 E_strings_Join := by
  refine EnvOk.add E_lex_Quote_ok (fun args c h => ?_)
  unfold e_strings_Join at h
  split at h
  · obtain ⟨v0, c0, h⟩ := Option.bind_eq_some_iff.1 h
    obtain ⟨rfl, rfl⟩ := castT_some c0
    obtain ⟨v1, c1, h⟩ := Option.bind_eq_some_iff.1 h
    obtain ⟨rfl, rfl⟩ := castT_some c1
    cases h
    exact ⟨fun r hr => .inl ⟨by kernel_rfl, ok_strings_Join _ _ r hr⟩, fun hb => fun r => noSl_res (d := .s .str r) (by rfl)⟩
  · cases h


/-! ### 8 onceweb/value.Print -/
def F_value_Print : FnD := { n := 57, rs := [2, 3], labels := [(6, [5, 16, 17, 18])] }
def lab_value_Print : L_value_Print → Nat × DSt
  | .l6 stack x16 x17 x18 => (6, [(5, .t (.own 9 .str stack)), (16, .t (.s (.sl 4 tyAtom) x16)), (17, .t (.s (.int .i64) x17)), (18, .t (.s (.int .i64) x18))])
set_option maxRecDepth 100000 in
theorem ok_value_Print (v : (List tAtom)) (r : ((List UInt8) × Int)) (h : value_Print v = some r) : APure X0 8 ([.s (.sl 4 tyAtom) v].map DT.toT) (resT ([.s .str r.1, .s (.int .i64) r.2].map DT.toT)) := by
  refine APure_of_machine (F := F_value_Print) (fuel := 3000) (E := E_strings_Join) Yok E_strings_Join_ok mixed Tryd.func8 rfl rfl rfl (by decide) (args := [.s (.sl 4 tyAtom) v]) (Nat.le_of_ble_eq_true rfl) (by kernel_rfl) lab_value_Print st_value_Print (fun r => [.s .str r.1, .s (.int .i64) r.2]) ?_ ?_ ?_ h
  · intro l; cases l
    · exact WF_list ⟨trivial, trivial, trivial, trivial, trivial⟩
  · intro l goto ret; cases l with
    | l6 stack x16 x17 x18 =>
      show _ = push (sg_value_Print_6 stack x16 x17 x18) (fun l' => goto (lab_value_Print l').1 (lab_value_Print l').2) (fun r => ret [.s .str r.1, .s (.int .i64) r.2])
      unfold sg_value_Print_6
      simp only [push_G, push_ite, push_bind, push_inl, push_inr, -eq_self]
      kernel_rfl
  · intro goto ret
    show _ = push (en_value_Print v) (fun l' => goto (lab_value_Print l').1 (lab_value_Print l').2) (fun r => ret [.s .str r.1, .s (.int .i64) r.2])
    unfold en_value_Print
    simp only [push_G, push_ite, push_bind, push_inl, push_inr, -eq_self]
    kernel_rfl
noncomputable def e_value_Print : List DT → Option CallRes
  | [.s t0 y0] => (castT (b := (.sl 4 tyAtom)) y0).bind fun v => some ⟨((List UInt8) × Int), value_Print v, fun r => .tup [.s .str r.1, .s (.int .i64) r.2], (([] : List UInt8), (0 : Int)), true⟩
  | _ => none
noncomputable def E_value_Print : Env := Env.add 8 e_value_Print E_strings_Join
theorem E_value_Print_ok : EnvOk X0 E_value_Print := by
  refine EnvOk.add E_strings_Join_ok (fun args c h => ?_)
  unfold e_value_Print at h
  split at h
  · obtain ⟨v0, c0, h⟩ := Option.bind_eq_some_iff.1 h
    obtain ⟨rfl, rfl⟩ := castT_some c0
    cases h
    exact ⟨fun r hr => .inl ⟨by kernel_rfl, ok_value_Print _ r hr⟩, fun hb => fun r => noSl_res (by rfl)⟩
  · cases h

/-! ### 63 onceweb/oncewebref07.atom -/
def F_ref07_atom : FnD := { n := 56, rs := [2] }
set_option maxRecDepth 100000 in
theorem ok_ref07_atom (a : tAtom) (r : Bool) (h : ref07_atom a = some r) : APure X0 63 ([.s tyAtom a].map DT.toT) (resT ([.s .bool r].map DT.toT)) := by
  refine APure_of_straight (F := F_ref07_atom) (fuel := 3000) (E := E_value_Print) Yok E_value_Print_ok mixed Tryd.func63 rfl rfl rfl (by decide) (args := [.s tyAtom a]) (Nat.le_of_ble_eq_true rfl) (by kernel_rfl) (fun r => [.s .bool r]) ?_ h
  intro goto ret
  unfold ref07_atom
  simp only [bnd_G, bnd_ite, bnd_bind, bnd_some, -eq_self]
  kernel_rfl
noncomputable def e_ref07_atom : List DT → Option CallRes
  | [.s t0 y0] => (castT (b := tyAtom) y0).bind fun a => some ⟨Bool, ref07_atom a, fun r => .s .bool r, false, true⟩
  | _ => none
noncomputable def E_ref07_atom : Env := Env.add 63 e_ref07_atom E_value_Print
theorem E_ref07_atom_ok : EnvOk X0 E_ref07_atom := by
  refine EnvOk.add E_value_Print_ok (fun args c h => ?_)
  unfold e_ref07_atom at h
  split at h
  · obtain ⟨v0, c0, h⟩ := Option.bind_eq_some_iff.1 h
    obtain ⟨rfl, rfl⟩ := castT_some c0
    cases h
    exact ⟨fun r hr => .inl ⟨by kernel_rfl, ok_ref07_atom _ r hr⟩, fun hb => fun r => noSl_res (by rfl)⟩
  · cases h

/-! ### 43 onceweb/oncewebref07.begins -/
def F_ref07_begins : FnD := { n := 96, rs := [2, 3, 4], labels := [(5, [0, 5, 6, 7, 8]), (15, [0, 5, 6, 7, 8, 9, 10, 11, 12]), (20, [0, 5, 6, 7, 8, 10, 11])] }
def lab_ref07_begins : L_ref07_begins → Nat × DSt
  | .l5 v from_ stack deep i => (5, [(0, .t (.s (.sl 4 tyAtom) v)), (5, .t (.own 3 (.int .i64) from_)), (6, .t (.own 3 (.int .i64) stack)), (7, .t (.own 3 (.int .i64) deep)), (8, .t (.s (.int .i64) i))])
  | .l15 v from_ stack deep i n b d k => (15, [(0, .t (.s (.sl 4 tyAtom) v)), (5, .t (.own 3 (.int .i64) from_)), (6, .t (.own 3 (.int .i64) stack)), (7, .t (.own 3 (.int .i64) deep)), (8, .t (.s (.int .i64) i)), (9, .t (.s (.int .i64) n)), (10, .t (.s (.int .i64) b)), (11, .t (.s (.int .i64) d)), (12, .t (.s (.int .i64) k))])
  | .l20 v from_ stack deep i b d => (20, [(0, .t (.s (.sl 4 tyAtom) v)), (5, .t (.own 3 (.int .i64) from_)), (6, .t (.own 3 (.int .i64) stack)), (7, .t (.own 3 (.int .i64) deep)), (8, .t (.s (.int .i64) i)), (10, .t (.s (.int .i64) b)), (11, .t (.s (.int .i64) d))])
set_option maxRecDepth 100000 in
theorem ok_ref07_begins (v : (List tAtom)) (r : ((List Int) × Int × Bool)) (h : ref07_begins v = some r) : APure X0 43 ([.s (.sl 4 tyAtom) v].map DT.toT) (resT ([.own 3 (.int .i64) r.1, .s (.int .i64) r.2.1, .s .bool r.2.2].map DT.toT)) := by
  refine APure_of_machine (F := F_ref07_begins) (fuel := 3000) (E := E_ref07_atom) Yok E_ref07_atom_ok mixed Tryd.func43 rfl rfl rfl (by decide) (args := [.s (.sl 4 tyAtom) v]) (Nat.le_of_ble_eq_true rfl) (by kernel_rfl) lab_ref07_begins st_ref07_begins (fun r => [.own 3 (.int .i64) r.1, .s (.int .i64) r.2.1, .s .bool r.2.2]) ?_ ?_ ?_ h
  · intro l; cases l
    · exact WF_list ⟨trivial, trivial, trivial, trivial, trivial, trivial⟩
    · exact WF_list ⟨trivial, trivial, trivial, trivial, trivial, trivial, trivial, trivial, trivial, trivial⟩
    · exact WF_list ⟨trivial, trivial, trivial, trivial, trivial, trivial, trivial, trivial⟩
  · intro l goto ret; cases l with
    | l5 v from_ stack deep i =>
      show _ = push (sg_ref07_begins_5 v from_ stack deep i) (fun l' => goto (lab_ref07_begins l').1 (lab_ref07_begins l').2) (fun r => ret [.own 3 (.int .i64) r.1, .s (.int .i64) r.2.1, .s .bool r.2.2])
      unfold sg_ref07_begins_5
      simp only [push_G, push_ite, push_bind, push_inl, push_inr, -eq_self]
      kernel_rfl
    | l15 v from_ stack deep i n b d k =>
      show _ = push (sg_ref07_begins_15 v from_ stack deep i n b d k) (fun l' => goto (lab_ref07_begins l').1 (lab_ref07_begins l').2) (fun r => ret [.own 3 (.int .i64) r.1, .s (.int .i64) r.2.1, .s .bool r.2.2])
      unfold sg_ref07_begins_15
      simp only [push_G, push_ite, push_bind, push_inl, push_inr, -eq_self]
      kernel_rfl
    | l20 v from_ stack deep i b d =>
      show _ = push (sg_ref07_begins_20 v from_ stack deep i b d) (fun l' => goto (lab_ref07_begins l').1 (lab_ref07_begins l').2) (fun r => ret [.own 3 (.int .i64) r.1, .s (.int .i64) r.2.1, .s .bool r.2.2])
      unfold sg_ref07_begins_20
      simp only [push_G, push_ite, push_bind, push_inl, push_inr, -eq_self]
      kernel_rfl
  · intro goto ret
    show _ = push (en_ref07_begins v) (fun l' => goto (lab_ref07_begins l').1 (lab_ref07_begins l').2) (fun r => ret [.own 3 (.int .i64) r.1, .s (.int .i64) r.2.1, .s .bool r.2.2])
    unfold en_ref07_begins
    simp only [push_G, push_ite, push_bind, push_inl, push_inr, -eq_self]
    kernel_rfl
noncomputable def e_ref07_begins : List DT → Option CallRes
  | [.s t0 y0] => (castT (b := (.sl 4 tyAtom)) y0).bind fun v => some ⟨((List Int) × Int × Bool), ref07_begins v, fun r => .tup [.own 3 (.int .i64) r.1, .s (.int .i64) r.2.1, .s .bool r.2.2], (([] : List Int), (0 : Int), false), true⟩
  | _ => none
noncomputable def E_ref07_begins : Env := Env.add 43 e_ref07_begins E_ref07_atom
theorem E_ref07_begins_ok : EnvOk X0 E_ref07_begins := by
  refine EnvOk.add E_ref07_atom_ok (fun args c h => ?_)
  unfold e_ref07_begins at h
  split at h
  · obtain ⟨v0, c0, h⟩ := Option.bind_eq_some_iff.1 h
    obtain ⟨rfl, rfl⟩ := castT_some c0
    cases h
    exact ⟨fun r hr => .inl ⟨by kernel_rfl, ok_ref07_begins _ r hr⟩, fun hb => fun r => noSl_res (by rfl)⟩
  · cases h

/-! ### 25 onceweb/oncewebref07.Check -/
def F_ref07_Check : FnD := { n := 21, rs := [2] }
set_option maxRecDepth 100000 in
theorem ok_ref07_Check (v : (List tAtom)) (r : Int) (h : ref07_Check v = some r) : APure X0 25 ([.s (.sl 4 tyAtom) v].map DT.toT) (resT ([.s (.int .i64) r].map DT.toT)) := by
  refine APure_of_straight (F := F_ref07_Check) (fuel := 3000) (E := E_ref07_begins) Yok E_ref07_begins_ok mixed Tryd.func25 rfl rfl rfl (by decide) (args := [.s (.sl 4 tyAtom) v]) (Nat.le_of_ble_eq_true rfl) (by kernel_rfl) (fun r => [.s (.int .i64) r]) ?_ h
  intro goto ret
  unfold ref07_Check
  simp only [bnd_G, bnd_ite, bnd_bind, bnd_some, -eq_self]
  kernel_rfl
noncomputable def e_ref07_Check : List DT → Option CallRes
  | [.s t0 y0] => (castT (b := (.sl 4 tyAtom)) y0).bind fun v => some ⟨Int, ref07_Check v, fun r => .s (.int .i64) r, (0 : Int), true⟩
  | _ => none
noncomputable def E_ref07_Check : Env := Env.add 25 e_ref07_Check E_ref07_begins
theorem E_ref07_Check_ok : EnvOk X0 E_ref07_Check := by
  refine EnvOk.add E_ref07_begins_ok (fun args c h => ?_)
  unfold e_ref07_Check at h
  split at h
  · obtain ⟨v0, c0, h⟩ := Option.bind_eq_some_iff.1 h
    obtain ⟨rfl, rfl⟩ := castT_some c0
    cases h
    exact ⟨fun r hr => .inl ⟨by kernel_rfl, ok_ref07_Check _ r hr⟩, fun hb => fun r => noSl_res (by rfl)⟩
  · cases h

/-! ### 44 onceweb/oncewebref07.whole -/
def F_ref07_whole : FnD := { n := 9, rs := [2], cl := [(2, 50)] }
set_option maxRecDepth 100000 in
theorem ok_ref07_whole (v : (List tAtom)) (r : tAtom) (h : ref07_whole v = some r) : APure X0 44 ([.s (.sl 4 tyAtom) v].map DT.toT) (resT ([.s tyAtom r].map DT.toT)) := by
  refine APure_of_straight (F := F_ref07_whole) (fuel := 3000) (E := E_ref07_Check) Yok E_ref07_Check_ok mixed Tryd.func44 rfl rfl rfl (by decide) (args := [.s (.sl 4 tyAtom) v]) (Nat.le_of_ble_eq_true rfl) (by kernel_rfl) (fun r => [.s tyAtom r]) ?_ h
  intro goto ret
  unfold ref07_whole
  simp only [bnd_G, bnd_ite, bnd_bind, bnd_some, -eq_self]
  kernel_rfl
noncomputable def e_ref07_whole : List DT → Option CallRes
  | [.s t0 y0] => (castT (b := (.sl 4 tyAtom)) y0).bind fun v => some ⟨tAtom, ref07_whole v, fun r => .s tyAtom r, dAtom, true⟩
  | _ => none
noncomputable def E_ref07_whole : Env := Env.add 44 e_ref07_whole E_ref07_Check
theorem E_ref07_whole_ok : EnvOk X0 E_ref07_whole := by
  refine EnvOk.add E_ref07_Check_ok (fun args c h => ?_)
  unfold e_ref07_whole at h
  split at h
  · obtain ⟨v0, c0, h⟩ := Option.bind_eq_some_iff.1 h
    obtain ⟨rfl, rfl⟩ := castT_some c0
    cases h
    exact ⟨fun r hr => .inl ⟨by kernel_rfl, ok_ref07_whole _ r hr⟩, fun hb => fun r => noSl_res (by rfl)⟩
  · cases h

/-! ### 45 onceweb/oncewebbase.Itoa -/
def F_base_Itoa : FnD := { n := 30, rs := [2], labels := [(6, [0, 3]), (7, [0, 3, 4])] }
def lab_base_Itoa : L_base_Itoa → Nat × DSt
  | .l6 n u_ => (6, [(0, .t (.s (.int .i64) n)), (3, .t (.s (.int .u64) u_))])
  | .l7 n u_ s_ => (7, [(0, .t (.s (.int .i64) n)), (3, .t (.s (.int .u64) u_)), (4, .t (.s .str s_))])
set_option maxRecDepth 100000 in
theorem ok_base_Itoa (n : Int) (r : (List UInt8)) (h : base_Itoa n = some r) : APure X0 45 ([.s (.int .i64) n].map DT.toT) (resT ([.s .str r].map DT.toT)) := by
  refine APure_of_machine (F := F_base_Itoa) (fuel := 3000) (E := E_ref07_whole) Yok E_ref07_whole_ok mixed Tryd.func45 rfl rfl rfl (by decide) (args := [.s (.int .i64) n]) (Nat.le_of_ble_eq_true rfl) (by kernel_rfl) lab_base_Itoa st_base_Itoa (fun r => [.s .str r]) ?_ ?_ ?_ h
  · intro l; cases l
    · exact WF_list ⟨trivial, trivial, trivial⟩
    · exact WF_list ⟨trivial, trivial, trivial, trivial⟩
  · intro l goto ret; cases l with
    | l6 n u_ =>
      show _ = push (sg_base_Itoa_6 n u_) (fun l' => goto (lab_base_Itoa l').1 (lab_base_Itoa l').2) (fun r => ret [.s .str r])
      unfold sg_base_Itoa_6
      simp only [push_G, push_ite, push_bind, push_inl, push_inr, -eq_self]
      kernel_rfl
    | l7 n u_ s_ =>
      show _ = push (sg_base_Itoa_7 n u_ s_) (fun l' => goto (lab_base_Itoa l').1 (lab_base_Itoa l').2) (fun r => ret [.s .str r])
      unfold sg_base_Itoa_7
      simp only [push_G, push_ite, push_bind, push_inl, push_inr, -eq_self]
      kernel_rfl
  · intro goto ret
    show _ = push (en_base_Itoa n) (fun l' => goto (lab_base_Itoa l').1 (lab_base_Itoa l').2) (fun r => ret [.s .str r])
    unfold en_base_Itoa
    simp only [push_G, push_ite, push_bind, push_inl, push_inr, -eq_self]
    kernel_rfl
noncomputable def e_base_Itoa : List DT → Option CallRes
  | [.s t0 y0] => (castT (b := (.int .i64)) y0).bind fun n => some ⟨(List UInt8), base_Itoa n, fun r => .s .str r, ([] : List UInt8), true⟩
  | _ => none
noncomputable def E_base_Itoa : Env := Env.add 45 e_base_Itoa E_ref07_whole
theorem E_base_Itoa_ok : EnvOk X0 E_base_Itoa := by
  refine EnvOk.add E_ref07_whole_ok (fun args c h => ?_)
  unfold e_base_Itoa at h
  split at h
  · obtain ⟨v0, c0, h⟩ := Option.bind_eq_some_iff.1 h
    obtain ⟨rfl, rfl⟩ := castT_some c0
    cases h
    exact ⟨fun r hr => .inl ⟨by kernel_rfl, ok_base_Itoa _ r hr⟩, fun hb => fun r => noSl_res (by rfl)⟩
  · cases h

/-! ### 46 onceweb/oncewebref01.Quote -/
def F_ref01_Quote : FnD := { n := 60, rs := [2], labels := [(4, [0, 3, 4, 5])] }
def lab_ref01_Quote : L_ref01_Quote → Nat × DSt
  | .l4 s_ digits out i => (4, [(0, .t (.s .str s_)), (3, .t (.s .str digits)), (4, .t (.own 5 .u8 out)), (5, .t (.s (.int .i64) i))])
set_option maxRecDepth 100000 in
theorem ok_ref01_Quote (s_ : (List UInt8)) (r : (List UInt8)) (h : ref01_Quote s_ = some r) : APure X0 46 ([.s .str s_].map DT.toT) (resT ([.s .str r].map DT.toT)) := by
  refine APure_of_machine (F := F_ref01_Quote) (fuel := 3000) (E := E_base_Itoa) Yok E_base_Itoa_ok mixed Tryd.func46 rfl rfl rfl (by decide) (args := [.s .str s_]) (Nat.le_of_ble_eq_true rfl) (by kernel_rfl) lab_ref01_Quote st_ref01_Quote (fun r => [.s .str r]) ?_ ?_ ?_ h
  · intro l; cases l
    · exact WF_list ⟨trivial, trivial, trivial, trivial, trivial⟩
  · intro l goto ret; cases l with
    | l4 s_ digits out i =>
      show _ = push (sg_ref01_Quote_4 s_ digits out i) (fun l' => goto (lab_ref01_Quote l').1 (lab_ref01_Quote l').2) (fun r => ret [.s .str r])
      unfold sg_ref01_Quote_4
      simp only [push_G, push_ite, push_bind, push_inl, push_inr, -eq_self]
      kernel_rfl
  · intro goto ret
    show _ = push (en_ref01_Quote s_) (fun l' => goto (lab_ref01_Quote l').1 (lab_ref01_Quote l').2) (fun r => ret [.s .str r])
    unfold en_ref01_Quote
    simp only [push_G, push_ite, push_bind, push_inl, push_inr, -eq_self]
    kernel_rfl
noncomputable def e_ref01_Quote : List DT → Option CallRes
  | [.s t0 y0] => (castT (b := .str) y0).bind fun s_ => some ⟨(List UInt8), ref01_Quote s_, fun r => .s .str r, ([] : List UInt8), true⟩
  | _ => none
noncomputable def E_ref01_Quote : Env := Env.add 46 e_ref01_Quote E_base_Itoa
theorem E_ref01_Quote_ok : EnvOk X0 E_ref01_Quote := by
  refine EnvOk.add E_base_Itoa_ok (fun args c h => ?_)
  unfold e_ref01_Quote at h
  split at h
  · obtain ⟨v0, c0, h⟩ := Option.bind_eq_some_iff.1 h
    obtain ⟨rfl, rfl⟩ := castT_some c0
    cases h
    exact ⟨fun r hr => .inl ⟨by kernel_rfl, ok_ref01_Quote _ r hr⟩, fun hb => fun r => noSl_res (by rfl)⟩
  · cases h

/-! ### 47 onceweb/oncewebref07.members -/
def F_ref07_members : FnD := { n := 48, rs := [2], labels := [(6, [0, 3, 7, 8, 9])] }
def lab_ref07_members : L_ref07_members → Nat × DSt
  | .l6 v from_ out k i => (6, [(0, .t (.s (.sl 4 tyAtom) v)), (3, .t (.own 3 (.int .i64) from_)), (7, .t (.own 23 (.sl 4 tyAtom) out)), (8, .t (.s (.int .i64) k)), (9, .t (.s (.int .i64) i))])
set_option maxRecDepth 100000 in
theorem ok_ref07_members (v : (List tAtom)) (r : (List (List tAtom))) (h : ref07_members v = some r) : APure X0 47 ([.s (.sl 4 tyAtom) v].map DT.toT) (resT ([.own 23 (.sl 4 tyAtom) r].map DT.toT)) := by
  refine APure_of_machine (F := F_ref07_members) (fuel := 3000) (E := E_ref01_Quote) Yok E_ref01_Quote_ok mixed Tryd.func47 rfl rfl rfl (by decide) (args := [.s (.sl 4 tyAtom) v]) (Nat.le_of_ble_eq_true rfl) (by kernel_rfl) lab_ref07_members st_ref07_members (fun r => [.own 23 (.sl 4 tyAtom) r]) ?_ ?_ ?_ h
  · intro l; cases l
    · exact WF_list ⟨trivial, trivial, trivial, trivial, trivial, trivial⟩
  · intro l goto ret; cases l with
    | l6 v from_ out k i =>
      show _ = push (sg_ref07_members_6 v from_ out k i) (fun l' => goto (lab_ref07_members l').1 (lab_ref07_members l').2) (fun r => ret [.own 23 (.sl 4 tyAtom) r])
      unfold sg_ref07_members_6
      simp only [push_G, push_ite, push_bind, push_inl, push_inr, -eq_self]
      kernel_rfl
  · intro goto ret
    show _ = push (en_ref07_members v) (fun l' => goto (lab_ref07_members l').1 (lab_ref07_members l').2) (fun r => ret [.own 23 (.sl 4 tyAtom) r])
    unfold en_ref07_members
    simp only [push_G, push_ite, push_bind, push_inl, push_inr, -eq_self]
    kernel_rfl
noncomputable def e_ref07_members : List DT → Option CallRes
  | [.s t0 y0] => (castT (b := (.sl 4 tyAtom)) y0).bind fun v => some ⟨(List (List tAtom)), ref07_members v, fun r => .own 23 (.sl 4 tyAtom) r, ([] : List (List tAtom)), false⟩
  | _ => none
noncomputable def E_ref07_members : Env := Env.add 47 e_ref07_members E_ref01_Quote
theorem E_ref07_members_ok : EnvOk X0 E_ref07_members := by
  refine EnvOk.add E_ref01_Quote_ok (fun args c h => ?_)
  unfold e_ref07_members at h
  split at h
  · obtain ⟨v0, c0, h⟩ := Option.bind_eq_some_iff.1 h
    obtain ⟨rfl, rfl⟩ := castT_some c0
    cases h
    exact ⟨fun r hr => .inl ⟨by kernel_rfl, ok_ref07_members _ r hr⟩, fun hb => by cases hb⟩
  · cases h

/-! ### 26 onceweb/oncewebref07.print -/
def F_ref07_print : FnD := { n := 45, rs := [2], labels := [(10, [4, 5, 6])] }
def lab_ref07_print : L_ref07_print → Nat × DSt
  | .l10 l out i => (10, [(4, .t (.own 23 (.sl 4 tyAtom) l)), (5, .t (.own 5 .u8 out)), (6, .t (.s (.int .i64) i))])
noncomputable def e_ref07_print_n (fu_ : Nat) : List DT → Option CallRes
  | [.s t0 y0] => (castT (b := (.sl 4 tyAtom)) y0).bind fun v => some ⟨(List UInt8), ref07_print_n fu_ v, fun r => .s .str r, ([] : List UInt8), true⟩
  | _ => none
noncomputable def E_ref07_print_n (fu_ : Nat) : Env := Env.add 26 (e_ref07_print_n fu_) E_ref07_members
theorem E_ref07_print_n_ok (fu_ : Nat) (ih : ∀ (v : (List tAtom)) (r : (List UInt8)), ref07_print_n fu_ v = some r → APure X0 26 ([.s (.sl 4 tyAtom) v].map DT.toT) (resT ([.s .str r].map DT.toT))) : EnvOk X0 (E_ref07_print_n fu_) := by
  refine EnvOk.add E_ref07_members_ok (fun args c h => ?_)
  unfold e_ref07_print_n at h
  split at h
  · replace h := Option.bind_eq_some_iff.1 h
    obtain ⟨v0, c0, h⟩ := h
    obtain ⟨rfl, rfl⟩ := castT_some c0
    cases h
    exact ⟨fun r hr => .inl ⟨by kernel_rfl, ih _ r hr⟩, fun hb => fun r => noSl_res (by rfl)⟩
  · cases h
set_option maxRecDepth 100000 in
theorem ok_ref07_print_n : ∀ (fu_ : Nat) (v : (List tAtom)) (r : (List UInt8)) (h : ref07_print_n fu_ v = some r), APure X0 26 ([.s (.sl 4 tyAtom) v].map DT.toT) (resT ([.s .str r].map DT.toT))
  | 0, v, r, h => by unfold ref07_print_n at h; cases h
  | fu_ + 1, v, r, h => by
    unfold ref07_print_n at h
    refine APure_of_machine (F := F_ref07_print) (fuel := 3000) (E := (E_ref07_print_n fu_)) Yok (E_ref07_print_n_ok fu_ (ok_ref07_print_n fu_)) mixed Tryd.func26 rfl rfl rfl (by decide) (args := [.s (.sl 4 tyAtom) v]) (Nat.le_of_ble_eq_true rfl) (by kernel_rfl) lab_ref07_print (st_ref07_print (ref07_print_n fu_)) (fun r => [.s .str r]) ?_ ?_ ?_ h
    · intro l; cases l
      · exact WF_list ⟨trivial, trivial, trivial, trivial⟩
    · intro l goto ret; cases l with
      | l10 l out i =>
        show _ = push (sg_ref07_print_10 (ref07_print_n fu_) l out i) (fun l' => goto (lab_ref07_print l').1 (lab_ref07_print l').2) (fun r => ret [.s .str r])
        unfold sg_ref07_print_10
        simp only [push_G, push_ite, push_bind, push_inl, push_inr, -eq_self]
        kernel_rfl
    · intro goto ret
      show _ = push (en_ref07_print (ref07_print_n fu_) v) (fun l' => goto (lab_ref07_print l').1 (lab_ref07_print l').2) (fun r => ret [.s .str r])
      unfold en_ref07_print
      simp only [push_G, push_ite, push_bind, push_inl, push_inr, -eq_self]
      kernel_rfl
theorem ok_ref07_print (v : (List tAtom)) (r : (List UInt8)) (h : ref07_print v = some r) : APure X0 26 ([.s (.sl 4 tyAtom) v].map DT.toT) (resT ([.s .str r].map DT.toT)) := ok_ref07_print_n 64 v r h
noncomputable def e_ref07_print : List DT → Option CallRes
  | [.s t0 y0] => (castT (b := (.sl 4 tyAtom)) y0).bind fun v => some ⟨(List UInt8), ref07_print v, fun r => .s .str r, ([] : List UInt8), true⟩
  | _ => none
noncomputable def E_ref07_print : Env := Env.add 26 (e_ref07_print) E_ref07_members
theorem E_ref07_print_ok : EnvOk X0 (E_ref07_print) := by
  refine EnvOk.add E_ref07_members_ok (fun args c h => ?_)
  unfold e_ref07_print at h
  split at h
  · replace h := Option.bind_eq_some_iff.1 h
    obtain ⟨v0, c0, h⟩ := h
    obtain ⟨rfl, rfl⟩ := castT_some c0
    cases h
    exact ⟨fun r hr => .inl ⟨by kernel_rfl, ok_ref07_print _ r hr⟩, fun hb => fun r => noSl_res (by rfl)⟩
  · cases h

/-! ### 9 onceweb/oncewebref07.Print -/
def F_ref07_Print : FnD := { n := 12, rs := [2, 3] }
set_option maxRecDepth 100000 in
theorem ok_ref07_Print (v : (List tAtom)) (r : ((List UInt8) × Int)) (h : ref07_Print v = some r) : APure X0 9 ([.s (.sl 4 tyAtom) v].map DT.toT) (resT ([.s .str r.1, .s (.int .i64) r.2].map DT.toT)) := by
  refine APure_of_straight (F := F_ref07_Print) (fuel := 3000) (E := E_ref07_print) Yok E_ref07_print_ok mixed Tryd.func9 rfl rfl rfl (by decide) (args := [.s (.sl 4 tyAtom) v]) (Nat.le_of_ble_eq_true rfl) (by kernel_rfl) (fun r => [.s .str r.1, .s (.int .i64) r.2]) ?_ h
  intro goto ret
  unfold ref07_Print
  simp only [bnd_G, bnd_ite, bnd_bind, bnd_some, -eq_self]
  kernel_rfl
noncomputable def e_ref07_Print : List DT → Option CallRes
  | [.s t0 y0] => (castT (b := (.sl 4 tyAtom)) y0).bind fun v => some ⟨((List UInt8) × Int), ref07_Print v, fun r => .tup [.s .str r.1, .s (.int .i64) r.2], (([] : List UInt8), (0 : Int)), true⟩
  | _ => none
noncomputable def E_ref07_Print : Env := Env.add 9 e_ref07_Print E_ref07_print
theorem E_ref07_Print_ok : EnvOk X0 E_ref07_Print := by
  refine EnvOk.add E_ref07_print_ok (fun args c h => ?_)
  unfold e_ref07_Print at h
  split at h
  · obtain ⟨v0, c0, h⟩ := Option.bind_eq_some_iff.1 h
    obtain ⟨rfl, rfl⟩ := castT_some c0
    cases h
    exact ⟨fun r hr => .inl ⟨by kernel_rfl, ok_ref07_Print _ r hr⟩, fun hb => fun r => noSl_res (by rfl)⟩
  · cases h

/-! ### 10 onceweb/oncewebbase.SameValue -/
def F_base_SameValue : FnD := { n := 26, rs := [4], labels := [(4, [0, 1, 5])] }
def lab_base_SameValue : L_base_SameValue → Nat × DSt
  | .l4 a b i => (4, [(0, .t (.s (.sl 4 tyAtom) a)), (1, .t (.s (.sl 4 tyAtom) b)), (5, .t (.s (.int .i64) i))])
set_option maxRecDepth 100000 in
theorem ok_base_SameValue (a : (List tAtom)) (b : (List tAtom)) (r : Bool) (h : base_SameValue a b = some r) : APure X0 10 ([.s (.sl 4 tyAtom) a, .s (.sl 4 tyAtom) b].map DT.toT) (resT ([.s .bool r].map DT.toT)) := by
  refine APure_of_machine (F := F_base_SameValue) (fuel := 3000) (E := E_ref07_Print) Yok E_ref07_Print_ok mixed Tryd.func10 rfl rfl rfl (by decide) (args := [.s (.sl 4 tyAtom) a, .s (.sl 4 tyAtom) b]) (Nat.le_of_ble_eq_true rfl) (by kernel_rfl) lab_base_SameValue st_base_SameValue (fun r => [.s .bool r]) ?_ ?_ ?_ h
  · intro l; cases l
    · exact WF_list ⟨trivial, trivial, trivial, trivial⟩
  · intro l goto ret; cases l with
    | l4 a b i =>
      show _ = push (sg_base_SameValue_4 a b i) (fun l' => goto (lab_base_SameValue l').1 (lab_base_SameValue l').2) (fun r => ret [.s .bool r])
      unfold sg_base_SameValue_4
      simp only [push_G, push_ite, push_bind, push_inl, push_inr, -eq_self]
      kernel_rfl
  · intro goto ret
    show _ = push (en_base_SameValue a b) (fun l' => goto (lab_base_SameValue l').1 (lab_base_SameValue l').2) (fun r => ret [.s .bool r])
    unfold en_base_SameValue
    simp only [push_G, push_ite, push_bind, push_inl, push_inr, -eq_self]
    kernel_rfl
noncomputable def e_base_SameValue : List DT → Option CallRes
  | [.s t0 y0, .s t1 y1] => (castT (b := (.sl 4 tyAtom)) y0).bind fun a => (castT (b := (.sl 4 tyAtom)) y1).bind fun b => some ⟨Bool, base_SameValue a b, fun r => .s .bool r, false, true⟩
  | _ => none
noncomputable def E_base_SameValue : Env := Env.add 10 e_base_SameValue E_ref07_Print
theorem E_base_SameValue_ok : EnvOk X0 E_base_SameValue := by
  refine EnvOk.add E_ref07_Print_ok (fun args c h => ?_)
  unfold e_base_SameValue at h
  split at h
  · obtain ⟨v0, c0, h⟩ := Option.bind_eq_some_iff.1 h
    obtain ⟨rfl, rfl⟩ := castT_some c0
    obtain ⟨v1, c1, h⟩ := Option.bind_eq_some_iff.1 h
    obtain ⟨rfl, rfl⟩ := castT_some c1
    cases h
    exact ⟨fun r hr => .inl ⟨by kernel_rfl, ok_base_SameValue _ _ r hr⟩, fun hb => fun r => noSl_res (by rfl)⟩
  · cases h

/-! ### 50 (*onceweb/value.reader).put -/
def F_value_reader_put : FnD := { n := 21, rs := [4], Z := [0] }
set_option maxRecDepth 100000 in
theorem ok_value_reader_put (r_ : (List UInt8)) (r_' : Int) (r_'' : (List tAtom)) (a : tAtom) (r : (Bool × (List UInt8) × Int × (List tAtom))) (h : value_reader_put r_ r_' r_'' a = some r) : ACall X0 50 ([.box 57 [.s .str r_, .s (.int .i64) r_', .own 50 tyAtom r_''], .s tyAtom a].map DT.toT) (resT ([.s .bool r.1].map DT.toT)) (outsL 0 (.box 57 [.s .str r.2.1, .s (.int .i64) r.2.2.1, .own 50 tyAtom r.2.2.2] : DT).toT 0 2) := by
  unfold value_reader_put at h
  refine ALend_of_straight (F := F_value_reader_put) (fuel := 3000) (E := E_base_SameValue) (z := 0) Yok E_base_SameValue_ok mixed Tryd.func50 rfl rfl rfl (by decide) rfl rfl (by decide) (args := [.box 57 [.s .str r_, .s (.int .i64) r_', .own 50 tyAtom r_''], .s tyAtom a]) (Nat.le_of_ble_eq_true rfl) (Nat.le_of_ble_eq_true rfl) (by kernel_rfl) (fun r => [.s .bool r.1]) (fun r => .box 57 [.s .str r.2.1, .s (.int .i64) r.2.2.1, .own 50 tyAtom r.2.2.2]) ?_ h rfl
  intro goto ret
  unfold en_value_reader_put
  simp only [bnd_G, bnd_ite, bnd_bind, bnd_some, -eq_self]
  kernel_rfl
noncomputable def e_value_reader_put : List DT → Option CallRes
  | [.tup [.u], .box e0 [.s t1 y1, .s t2 y2, .own e3 t3 y3], .s t4 y4] => (beqO e0 57).bind fun _ => (castT (b := .str) y1).bind fun r_ => (castT (b := (.int .i64)) y2).bind fun r_' => (castT (a := .sl 1 t3) (b := .sl 1 tyAtom) y3).bind fun r_'' => (beqO e3 50).bind fun _ => (castT (b := tyAtom) y4).bind fun a => some ⟨(Bool × (List UInt8) × Int × (List tAtom)), value_reader_put r_ r_' r_'' a, fun r => .tup [.s .bool r.1, .box 57 [.s .str r.2.1, .s (.int .i64) r.2.2.1, .own 50 tyAtom r.2.2.2]], (false, ([] : List UInt8), (0 : Int), ([] : List tAtom)), false⟩
  | _ => none
noncomputable def E_value_reader_put : Env := Env.add2 50 (e_value_reader_put) E_base_SameValue
theorem E_value_reader_put_ok : EnvOk X0 (E_value_reader_put) := by
  refine EnvOk.add2 E_base_SameValue_ok (fun args c h => ?_)
  unfold e_value_reader_put at h
  split at h
  · replace h := Option.bind_eq_some_iff.1 h
    obtain ⟨u0, b0, h⟩ := h
    obtain rfl := beqO_some b0
    replace h := Option.bind_eq_some_iff.1 h
    obtain ⟨v1, c1, h⟩ := h
    obtain ⟨rfl, rfl⟩ := castT_some c1
    replace h := Option.bind_eq_some_iff.1 h
    obtain ⟨v2, c2, h⟩ := h
    obtain ⟨rfl, rfl⟩ := castT_some c2
    replace h := Option.bind_eq_some_iff.1 h
    obtain ⟨v3, c3, h⟩ := h
    obtain ⟨rfl, rfl⟩ := castSl_some c3
    replace h := Option.bind_eq_some_iff.1 h
    obtain ⟨u3, b3, h⟩ := h
    obtain rfl := beqO_some b3
    replace h := Option.bind_eq_some_iff.1 h
    obtain ⟨v4, c4, h⟩ := h
    obtain ⟨rfl, rfl⟩ := castT_some c4
    cases h
    intro r hr res out hwr
    cases hwr
    exact ⟨by kernel_rfl, ok_value_reader_put _ _ _ _ r hr, noSl_res (d := .s .bool r.1) (by rfl), noSl_res (d := .box 57 [.s .str r.2.1, .s (.int .i64) r.2.2.1, .own 50 tyAtom r.2.2.2]) (by rfl), rfl⟩
  · cases h

/-! ### 112 bytealg_IndexByteString: in no text -/
set_option maxRecDepth 100000 in
theorem ok_bytealg_IndexByteString (s_ : List UInt8) (c : UInt8) (r : Int) (h : bytealg_IndexByteString s_ c = some r) : AExt X0 112 ([.s .str s_, .s .u8 c].map DT.toT) (DT.s (.int .i64) r).toT := by
  cases h
  have := AExt_indexByteString (X := X0) (f := 112) Tryd.func112 (by decide +kernel) (by decide +kernel) (by kernel_rfl) (by kernel_rfl) (mkS s_) (c.toNat : Int)
  rw [bl_mkS, show ((c.toNat : Int).toNat.toUInt8) = c from by simp] at this
  exact this
noncomputable def e_bytealg_IndexByteString : List DT → Option CallRes
  | [.s t0 y0, .s t1 y1] => (castT (b := .str) y0).bind fun s_ => (castT (b := .u8) y1).bind fun c => some ⟨Int, bytealg_IndexByteString s_ c, fun r => .s (.int .i64) r, (0 : Int), false⟩
  | _ => none
noncomputable def E_bytealg_IndexByteString : Env := Env.add 112 e_bytealg_IndexByteString E_value_reader_put
theorem E_bytealg_IndexByteString_ok : EnvOk X0 E_bytealg_IndexByteString := by
  refine EnvOk.add E_value_reader_put_ok (fun args c h => ?_)
  unfold e_bytealg_IndexByteString at h
  split at h
  · obtain ⟨v0, c0, h⟩ := Option.bind_eq_some_iff.1 h
    obtain ⟨rfl, rfl⟩ := castT_some c0
    obtain ⟨v1, c1, h⟩ := Option.bind_eq_some_iff.1 h
    obtain ⟨rfl, rfl⟩ := castT_some c1
    cases h
    exact ⟨fun r hr => .inr ⟨rfl, ok_bytealg_IndexByteString _ _ r hr⟩, fun hb => by cases hb⟩
  · cases h


/-! ### 111 internal/stringslite.IndexByte -/
def F_stringslite_IndexByte : FnD := { n := 8, rs := [4] }
set_option maxRecDepth 100000 in
theorem ok_stringslite_IndexByte (s_ : (List UInt8)) (c : UInt8) (r : Int) (h : stringslite_IndexByte s_ c = some r) : APure X0 111 ([.s .str s_, .s .u8 c].map DT.toT) (resT ([.s (.int .i64) r].map DT.toT)) := by
  refine APure_of_straight (F := F_stringslite_IndexByte) (fuel := 3000) (E := E_bytealg_IndexByteString) Yok E_bytealg_IndexByteString_ok mixed Tryd.func111 rfl rfl rfl (by decide) (args := [.s .str s_, .s .u8 c]) (Nat.le_of_ble_eq_true rfl) (by kernel_rfl) (fun r => [.s (.int .i64) r]) ?_ h
  intro goto ret
  unfold stringslite_IndexByte
  simp only [bnd_G, bnd_ite, bnd_bind, bnd_some, -eq_self]
  kernel_rfl
noncomputable def e_stringslite_IndexByte : List DT → Option CallRes
  | [.s t0 y0, .s t1 y1] => (castT (b := .str) y0).bind fun s_ => (castT (b := .u8) y1).bind fun c => some ⟨Int, stringslite_IndexByte s_ c, fun r => .s (.int .i64) r, (0 : Int), true⟩
  | _ => none
noncomputable def E_stringslite_IndexByte : Env := Env.add 111 e_stringslite_IndexByte E_bytealg_IndexByteString
theorem E_stringslite_IndexByte_ok : EnvOk X0 E_stringslite_IndexByte := by
  refine EnvOk.add E_bytealg_IndexByteString_ok (fun args c h => ?_)
  unfold e_stringslite_IndexByte at h
  split at h
  · obtain ⟨v0, c0, h⟩ := Option.bind_eq_some_iff.1 h
    obtain ⟨rfl, rfl⟩ := castT_some c0
    obtain ⟨v1, c1, h⟩ := Option.bind_eq_some_iff.1 h
    obtain ⟨rfl, rfl⟩ := castT_some c1
    cases h
    exact ⟨fun r hr => .inl ⟨by kernel_rfl, ok_stringslite_IndexByte _ _ r hr⟩, fun hb => fun r => noSl_res (by rfl)⟩
  · cases h

/-! ### 109 strings.IndexByte -/
def F_strings_IndexByte : FnD := { n := 8, rs := [4] }
set_option maxRecDepth 100000 in
theorem ok_strings_IndexByte (s_ : (List UInt8)) (c : UInt8) (r : Int) (h : strings_IndexByte s_ c = some r) : APure X0 109 ([.s .str s_, .s .u8 c].map DT.toT) (resT ([.s (.int .i64) r].map DT.toT)) := by
  refine APure_of_straight (F := F_strings_IndexByte) (fuel := 3000) (E := E_stringslite_IndexByte) Yok E_stringslite_IndexByte_ok mixed Tryd.func109 rfl rfl rfl (by decide) (args := [.s .str s_, .s .u8 c]) (Nat.le_of_ble_eq_true rfl) (by kernel_rfl) (fun r => [.s (.int .i64) r]) ?_ h
  intro goto ret
  unfold strings_IndexByte
  simp only [bnd_G, bnd_ite, bnd_bind, bnd_some, -eq_self]
  kernel_rfl
noncomputable def e_strings_IndexByte : List DT → Option CallRes
  | [.s t0 y0, .s t1 y1] => (castT (b := .str) y0).bind fun s_ => (castT (b := .u8) y1).bind fun c => some ⟨Int, strings_IndexByte s_ c, fun r => .s (.int .i64) r, (0 : Int), true⟩
  | _ => none
noncomputable def E_strings_IndexByte : Env := Env.add 109 e_strings_IndexByte E_stringslite_IndexByte
theorem E_strings_IndexByte_ok : EnvOk X0 E_strings_IndexByte := by
  refine EnvOk.add E_stringslite_IndexByte_ok (fun args c h => ?_)
  unfold e_strings_IndexByte at h
  split at h
  · obtain ⟨v0, c0, h⟩ := Option.bind_eq_some_iff.1 h
    obtain ⟨rfl, rfl⟩ := castT_some c0
    obtain ⟨v1, c1, h⟩ := Option.bind_eq_some_iff.1 h
    obtain ⟨rfl, rfl⟩ := castT_some c1
    cases h
    exact ⟨fun r hr => .inl ⟨by kernel_rfl, ok_strings_IndexByte _ _ r hr⟩, fun hb => fun r => noSl_res (by rfl)⟩
  · cases h

/-! ### 102 onceweb/lex.escaped -/
def F_lex_escaped : FnD := { n := 60, rs := [4, 5] }
set_option maxRecDepth 100000 in
theorem ok_lex_escaped (s_ : (List UInt8)) (at_ : Int) (r : (UInt8 × Int)) (h : lex_escaped s_ at_ = some r) : APure X0 102 ([.s .str s_, .s (.int .i64) at_].map DT.toT) (resT ([.s .u8 r.1, .s (.int .i64) r.2].map DT.toT)) := by
  refine APure_of_straight (F := F_lex_escaped) (fuel := 3000) (E := E_strings_IndexByte) Yok E_strings_IndexByte_ok mixed Tryd.func102 rfl rfl rfl (by decide) (args := [.s .str s_, .s (.int .i64) at_]) (Nat.le_of_ble_eq_true rfl) (by kernel_rfl) (fun r => [.s .u8 r.1, .s (.int .i64) r.2]) ?_ h
  intro goto ret
  unfold lex_escaped
  simp only [bnd_G, bnd_ite, bnd_bind, bnd_some, -eq_self]
  kernel_rfl
noncomputable def e_lex_escaped : List DT → Option CallRes
  | [.s t0 y0, .s t1 y1] => (castT (b := .str) y0).bind fun s_ => (castT (b := (.int .i64)) y1).bind fun at_ => some ⟨(UInt8 × Int), lex_escaped s_ at_, fun r => .tup [.s .u8 r.1, .s (.int .i64) r.2], ((0 : UInt8), (0 : Int)), true⟩
  | _ => none
noncomputable def E_lex_escaped : Env := Env.add 102 e_lex_escaped E_strings_IndexByte
theorem E_lex_escaped_ok : EnvOk X0 E_lex_escaped := by
  refine EnvOk.add E_strings_IndexByte_ok (fun args c h => ?_)
  unfold e_lex_escaped at h
  split at h
  · obtain ⟨v0, c0, h⟩ := Option.bind_eq_some_iff.1 h
    obtain ⟨rfl, rfl⟩ := castT_some c0
    obtain ⟨v1, c1, h⟩ := Option.bind_eq_some_iff.1 h
    obtain ⟨rfl, rfl⟩ := castT_some c1
    cases h
    exact ⟨fun r hr => .inl ⟨by kernel_rfl, ok_lex_escaped _ _ r hr⟩, fun hb => fun r => noSl_res (by rfl)⟩
  · cases h

/-! ### 87 onceweb/lex.quoted -/
def F_lex_quoted : FnD := { n := 69, rs := [4, 5, 6], labels := [(5, [0, 1, 7])] }
def lab_lex_quoted : L_lex_quoted → Nat × DSt
  | .l5 s_ at_ out => (5, [(0, .t (.s .str s_)), (1, .t (.s (.int .i64) at_)), (7, .t (.own 5 .u8 out))])
set_option maxRecDepth 100000 in
theorem ok_lex_quoted (s_ : (List UInt8)) (at_ : Int) (r : ((List UInt8) × Int × Bool)) (h : lex_quoted s_ at_ = some r) : APure X0 87 ([.s .str s_, .s (.int .i64) at_].map DT.toT) (resT ([.s .str r.1, .s (.int .i64) r.2.1, .s .bool r.2.2].map DT.toT)) := by
  refine APure_of_machine (F := F_lex_quoted) (fuel := 3000) (E := E_lex_escaped) Yok E_lex_escaped_ok mixed Tryd.func87 rfl rfl rfl (by decide) (args := [.s .str s_, .s (.int .i64) at_]) (Nat.le_of_ble_eq_true rfl) (by kernel_rfl) lab_lex_quoted st_lex_quoted (fun r => [.s .str r.1, .s (.int .i64) r.2.1, .s .bool r.2.2]) ?_ ?_ ?_ h
  · intro l; cases l
    · exact WF_list ⟨trivial, trivial, trivial, trivial⟩
  · intro l goto ret; cases l with
    | l5 s_ at_ out =>
      show _ = push (sg_lex_quoted_5 s_ at_ out) (fun l' => goto (lab_lex_quoted l').1 (lab_lex_quoted l').2) (fun r => ret [.s .str r.1, .s (.int .i64) r.2.1, .s .bool r.2.2])
      unfold sg_lex_quoted_5
      simp only [push_G, push_ite, push_bind, push_inl, push_inr, -eq_self]
      kernel_rfl
  · intro goto ret
    show _ = push (en_lex_quoted s_ at_) (fun l' => goto (lab_lex_quoted l').1 (lab_lex_quoted l').2) (fun r => ret [.s .str r.1, .s (.int .i64) r.2.1, .s .bool r.2.2])
    unfold en_lex_quoted
    simp only [push_G, push_ite, push_bind, push_inl, push_inr, -eq_self]
    kernel_rfl
noncomputable def e_lex_quoted : List DT → Option CallRes
  | [.s t0 y0, .s t1 y1] => (castT (b := .str) y0).bind fun s_ => (castT (b := (.int .i64)) y1).bind fun at_ => some ⟨((List UInt8) × Int × Bool), lex_quoted s_ at_, fun r => .tup [.s .str r.1, .s (.int .i64) r.2.1, .s .bool r.2.2], (([] : List UInt8), (0 : Int), false), true⟩
  | _ => none
noncomputable def E_lex_quoted : Env := Env.add 87 e_lex_quoted E_lex_escaped
theorem E_lex_quoted_ok : EnvOk X0 E_lex_quoted := by
  refine EnvOk.add E_lex_escaped_ok (fun args c h => ?_)
  unfold e_lex_quoted at h
  split at h
  · obtain ⟨v0, c0, h⟩ := Option.bind_eq_some_iff.1 h
    obtain ⟨rfl, rfl⟩ := castT_some c0
    obtain ⟨v1, c1, h⟩ := Option.bind_eq_some_iff.1 h
    obtain ⟨rfl, rfl⟩ := castT_some c1
    cases h
    exact ⟨fun r hr => .inl ⟨by kernel_rfl, ok_lex_quoted _ _ r hr⟩, fun hb => fun r => noSl_res (by rfl)⟩
  · cases h

/-! ### 64 onceweb/lex.Unquote -/
def F_lex_Unquote : FnD := { n := 22, rs := [2, 3] }
set_option maxRecDepth 100000 in
theorem ok_lex_Unquote (s_ : (List UInt8)) (r : ((List UInt8) × Bool)) (h : lex_Unquote s_ = some r) : APure X0 64 ([.s .str s_].map DT.toT) (resT ([.s .str r.1, .s .bool r.2].map DT.toT)) := by
  refine APure_of_straight (F := F_lex_Unquote) (fuel := 3000) (E := E_lex_quoted) Yok E_lex_quoted_ok mixed Tryd.func64 rfl rfl rfl (by decide) (args := [.s .str s_]) (Nat.le_of_ble_eq_true rfl) (by kernel_rfl) (fun r => [.s .str r.1, .s .bool r.2]) ?_ h
  intro goto ret
  unfold lex_Unquote
  simp only [bnd_G, bnd_ite, bnd_bind, bnd_some, -eq_self]
  kernel_rfl
noncomputable def e_lex_Unquote : List DT → Option CallRes
  | [.s t0 y0] => (castT (b := .str) y0).bind fun s_ => some ⟨((List UInt8) × Bool), lex_Unquote s_, fun r => .tup [.s .str r.1, .s .bool r.2], (([] : List UInt8), false), true⟩
  | _ => none
noncomputable def E_lex_Unquote : Env := Env.add 64 e_lex_Unquote E_lex_quoted
theorem E_lex_Unquote_ok : EnvOk X0 E_lex_Unquote := by
  refine EnvOk.add E_lex_quoted_ok (fun args c h => ?_)
  unfold e_lex_Unquote at h
  split at h
  · obtain ⟨v0, c0, h⟩ := Option.bind_eq_some_iff.1 h
    obtain ⟨rfl, rfl⟩ := castT_some c0
    cases h
    exact ⟨fun r hr => .inl ⟨by kernel_rfl, ok_lex_Unquote _ r hr⟩, fun hb => fun r => noSl_res (by rfl)⟩
  · cases h

/-! ### 48 (*onceweb/value.reader).text -/
def F_value_reader_text : FnD := { n := 77, rs := [2], Z := [0], labels := [(2, [0, 3])] }
def Y_value_reader_text : DX := { Y0 with o2 := [75] }
theorem Yok_value_reader_text : DXOk Y_value_reader_text X0 := ⟨Yok.tab, Yok.gl⟩
def lab_value_reader_text : L_value_reader_text → Nat × DSt
  | .l2 r_ r_' r_'' end_ => (2, [(0, .t (.box 57 [.s .str r_, .s (.int .i64) r_', .own 50 tyAtom r_''])), (3, .t (.s (.int .i64) end_))])
set_option maxRecDepth 100000 in
theorem ok_value_reader_text (r_ : (List UInt8)) (r_' : Int) (r_'' : (List tAtom)) (r : (Bool × (List UInt8) × Int × (List tAtom))) (h : value_reader_text r_ r_' r_'' = some r) : ACall X0 48 ([.box 57 [.s .str r_, .s (.int .i64) r_', .own 50 tyAtom r_'']].map DT.toT) (resT ([.s .bool r.1].map DT.toT)) (outsL 0 (.box 57 [.s .str r.2.1, .s (.int .i64) r.2.2.1, .own 50 tyAtom r.2.2.2] : DT).toT 0 1) := by
  unfold value_reader_text at h
  refine ALend_of_machine (F := F_value_reader_text) (fuel := 3000) (E := E_lex_Unquote) (z := 0) Yok_value_reader_text E_lex_Unquote_ok mixed Tryd.func48 rfl rfl rfl (by decide) rfl rfl (by decide) (args := [.box 57 [.s .str r_, .s (.int .i64) r_', .own 50 tyAtom r_'']]) (Nat.le_of_ble_eq_true rfl) (Nat.le_of_ble_eq_true rfl) (by kernel_rfl) lab_value_reader_text (st_value_reader_text) (fun r => [.s .bool r.1]) (fun r => .box 57 [.s .str r.2.1, .s (.int .i64) r.2.2.1, .own 50 tyAtom r.2.2.2]) ?_ ?_ ?_ h rfl
  · intro l; cases l
    · exact WF_list ⟨trivial, trivial, trivial⟩
  · intro l goto ret; cases l with
    | l2 r_ r_' r_'' end_ =>
      show _ = push (sg_value_reader_text_2 r_ r_' r_'' end_) (fun l' => goto (lab_value_reader_text l').1 (lab_value_reader_text l').2) (fun r => ret [.s .bool r.1, .box 57 [.s .str r.2.1, .s (.int .i64) r.2.2.1, .own 50 tyAtom r.2.2.2]])
      unfold sg_value_reader_text_2
      simp only [push_G, push_ite, push_bind, push_inl, push_inr, -eq_self]
      kernel_rfl
  · intro goto ret
    show _ = push (en_value_reader_text r_ r_' r_'') (fun l' => goto (lab_value_reader_text l').1 (lab_value_reader_text l').2) (fun r => ret [.s .bool r.1, .box 57 [.s .str r.2.1, .s (.int .i64) r.2.2.1, .own 50 tyAtom r.2.2.2]])
    unfold en_value_reader_text
    simp only [push_G, push_ite, push_bind, push_inl, push_inr, -eq_self]
    kernel_rfl
noncomputable def e_value_reader_text : List DT → Option CallRes
  | [.tup [.u], .box e0 [.s t1 y1, .s t2 y2, .own e3 t3 y3]] => (beqO e0 57).bind fun _ => (castT (b := .str) y1).bind fun r_ => (castT (b := (.int .i64)) y2).bind fun r_' => (castT (a := .sl 1 t3) (b := .sl 1 tyAtom) y3).bind fun r_'' => (beqO e3 50).bind fun _ => some ⟨(Bool × (List UInt8) × Int × (List tAtom)), value_reader_text r_ r_' r_'', fun r => .tup [.s .bool r.1, .box 57 [.s .str r.2.1, .s (.int .i64) r.2.2.1, .own 50 tyAtom r.2.2.2]], (false, ([] : List UInt8), (0 : Int), ([] : List tAtom)), false⟩
  | _ => none
noncomputable def E_value_reader_text : Env := Env.add2 48 (e_value_reader_text) E_lex_Unquote
theorem E_value_reader_text_ok : EnvOk X0 (E_value_reader_text) := by
  refine EnvOk.add2 E_lex_Unquote_ok (fun args c h => ?_)
  unfold e_value_reader_text at h
  split at h
  · replace h := Option.bind_eq_some_iff.1 h
    obtain ⟨u0, b0, h⟩ := h
    obtain rfl := beqO_some b0
    replace h := Option.bind_eq_some_iff.1 h
    obtain ⟨v1, c1, h⟩ := h
    obtain ⟨rfl, rfl⟩ := castT_some c1
    replace h := Option.bind_eq_some_iff.1 h
    obtain ⟨v2, c2, h⟩ := h
    obtain ⟨rfl, rfl⟩ := castT_some c2
    replace h := Option.bind_eq_some_iff.1 h
    obtain ⟨v3, c3, h⟩ := h
    obtain ⟨rfl, rfl⟩ := castSl_some c3
    replace h := Option.bind_eq_some_iff.1 h
    obtain ⟨u3, b3, h⟩ := h
    obtain rfl := beqO_some b3
    cases h
    intro r hr res out hwr
    cases hwr
    exact ⟨by kernel_rfl, ok_value_reader_text _ _ _ r hr, noSl_res (d := .s .bool r.1) (by rfl), noSl_res (d := .box 57 [.s .str r.2.1, .s (.int .i64) r.2.2.1, .own 50 tyAtom r.2.2.2]) (by rfl), rfl⟩
  · cases h

/-! ### 88 internal/stringslite.HasPrefix -/
def F_stringslite_HasPrefix : FnD := { n := 18, rs := [4] }
set_option maxRecDepth 100000 in
theorem ok_stringslite_HasPrefix (s_ : (List UInt8)) (prefix_ : (List UInt8)) (r : Bool) (h : stringslite_HasPrefix s_ prefix_ = some r) : APure X0 88 ([.s .str s_, .s .str prefix_].map DT.toT) (resT ([.s .bool r].map DT.toT)) := by
  refine APure_of_straight (F := F_stringslite_HasPrefix) (fuel := 3000) (E := E_value_reader_text) Yok E_value_reader_text_ok mixed Tryd.func88 rfl rfl rfl (by decide) (args := [.s .str s_, .s .str prefix_]) (Nat.le_of_ble_eq_true rfl) (by kernel_rfl) (fun r => [.s .bool r]) ?_ h
  intro goto ret
  unfold stringslite_HasPrefix
  simp only [bnd_G, bnd_ite, bnd_bind, bnd_some, -eq_self]
  kernel_rfl
noncomputable def e_stringslite_HasPrefix : List DT → Option CallRes
  | [.s t0 y0, .s t1 y1] => (castT (b := .str) y0).bind fun s_ => (castT (b := .str) y1).bind fun prefix_ => some ⟨Bool, stringslite_HasPrefix s_ prefix_, fun r => .s .bool r, false, true⟩
  | _ => none
noncomputable def E_stringslite_HasPrefix : Env := Env.add 88 e_stringslite_HasPrefix E_value_reader_text
theorem E_stringslite_HasPrefix_ok : EnvOk X0 E_stringslite_HasPrefix := by
  refine EnvOk.add E_value_reader_text_ok (fun args c h => ?_)
  unfold e_stringslite_HasPrefix at h
  split at h
  · obtain ⟨v0, c0, h⟩ := Option.bind_eq_some_iff.1 h
    obtain ⟨rfl, rfl⟩ := castT_some c0
    obtain ⟨v1, c1, h⟩ := Option.bind_eq_some_iff.1 h
    obtain ⟨rfl, rfl⟩ := castT_some c1
    cases h
    exact ⟨fun r hr => .inl ⟨by kernel_rfl, ok_stringslite_HasPrefix _ _ r hr⟩, fun hb => fun r => noSl_res (by rfl)⟩
  · cases h

/-! ### 65 strings.HasPrefix -/
def F_strings_HasPrefix : FnD := { n := 8, rs := [4] }
set_option maxRecDepth 100000 in
theorem ok_strings_HasPrefix (s_ : (List UInt8)) (prefix_ : (List UInt8)) (r : Bool) (h : strings_HasPrefix s_ prefix_ = some r) : APure X0 65 ([.s .str s_, .s .str prefix_].map DT.toT) (resT ([.s .bool r].map DT.toT)) := by
  refine APure_of_straight (F := F_strings_HasPrefix) (fuel := 3000) (E := E_stringslite_HasPrefix) Yok E_stringslite_HasPrefix_ok mixed Tryd.func65 rfl rfl rfl (by decide) (args := [.s .str s_, .s .str prefix_]) (Nat.le_of_ble_eq_true rfl) (by kernel_rfl) (fun r => [.s .bool r]) ?_ h
  intro goto ret
  unfold strings_HasPrefix
  simp only [bnd_G, bnd_ite, bnd_bind, bnd_some, -eq_self]
  kernel_rfl
noncomputable def e_strings_HasPrefix : List DT → Option CallRes
  | [.s t0 y0, .s t1 y1] => (castT (b := .str) y0).bind fun s_ => (castT (b := .str) y1).bind fun prefix_ => some ⟨Bool, strings_HasPrefix s_ prefix_, fun r => .s .bool r, false, true⟩
  | _ => none
noncomputable def E_strings_HasPrefix : Env := Env.add 65 e_strings_HasPrefix E_stringslite_HasPrefix
theorem E_strings_HasPrefix_ok : EnvOk X0 E_strings_HasPrefix := by
  refine EnvOk.add E_stringslite_HasPrefix_ok (fun args c h => ?_)
  unfold e_strings_HasPrefix at h
  split at h
  · obtain ⟨v0, c0, h⟩ := Option.bind_eq_some_iff.1 h
    obtain ⟨rfl, rfl⟩ := castT_some c0
    obtain ⟨v1, c1, h⟩ := Option.bind_eq_some_iff.1 h
    obtain ⟨rfl, rfl⟩ := castT_some c1
    cases h
    exact ⟨fun r hr => .inl ⟨by kernel_rfl, ok_strings_HasPrefix _ _ r hr⟩, fun hb => fun r => noSl_res (by rfl)⟩
  · cases h

/-! ### 49 (*onceweb/value.reader).has -/
def F_value_reader_has : FnD := { n := 28, rs := [4], Z := [0] }
set_option maxRecDepth 100000 in
theorem ok_value_reader_has (r_ : (List UInt8)) (r_' : Int) (r_'' : (List tAtom)) (t_ : (List UInt8)) (r : (Bool × (List UInt8) × Int × (List tAtom))) (h : value_reader_has r_ r_' r_'' t_ = some r) : ACall X0 49 ([.box 57 [.s .str r_, .s (.int .i64) r_', .own 50 tyAtom r_''], .s .str t_].map DT.toT) (resT ([.s .bool r.1].map DT.toT)) (outsL 0 (.box 57 [.s .str r.2.1, .s (.int .i64) r.2.2.1, .own 50 tyAtom r.2.2.2] : DT).toT 0 2) := by
  unfold value_reader_has at h
  refine ALend_of_straight (F := F_value_reader_has) (fuel := 3000) (E := E_strings_HasPrefix) (z := 0) Yok E_strings_HasPrefix_ok mixed Tryd.func49 rfl rfl rfl (by decide) rfl rfl (by decide) (args := [.box 57 [.s .str r_, .s (.int .i64) r_', .own 50 tyAtom r_''], .s .str t_]) (Nat.le_of_ble_eq_true rfl) (Nat.le_of_ble_eq_true rfl) (by kernel_rfl) (fun r => [.s .bool r.1]) (fun r => .box 57 [.s .str r.2.1, .s (.int .i64) r.2.2.1, .own 50 tyAtom r.2.2.2]) ?_ h rfl
  intro goto ret
  unfold en_value_reader_has
  simp only [bnd_G, bnd_ite, bnd_bind, bnd_some, -eq_self]
  kernel_rfl
noncomputable def e_value_reader_has : List DT → Option CallRes
  | [.tup [.u], .box e0 [.s t1 y1, .s t2 y2, .own e3 t3 y3], .s t4 y4] => (beqO e0 57).bind fun _ => (castT (b := .str) y1).bind fun r_ => (castT (b := (.int .i64)) y2).bind fun r_' => (castT (a := .sl 1 t3) (b := .sl 1 tyAtom) y3).bind fun r_'' => (beqO e3 50).bind fun _ => (castT (b := .str) y4).bind fun t_ => some ⟨(Bool × (List UInt8) × Int × (List tAtom)), value_reader_has r_ r_' r_'' t_, fun r => .tup [.s .bool r.1, .box 57 [.s .str r.2.1, .s (.int .i64) r.2.2.1, .own 50 tyAtom r.2.2.2]], (false, ([] : List UInt8), (0 : Int), ([] : List tAtom)), false⟩
  | _ => none
noncomputable def E_value_reader_has : Env := Env.add2 49 (e_value_reader_has) E_strings_HasPrefix
theorem E_value_reader_has_ok : EnvOk X0 (E_value_reader_has) := by
  refine EnvOk.add2 E_strings_HasPrefix_ok (fun args c h => ?_)
  unfold e_value_reader_has at h
  split at h
  · replace h := Option.bind_eq_some_iff.1 h
    obtain ⟨u0, b0, h⟩ := h
    obtain rfl := beqO_some b0
    replace h := Option.bind_eq_some_iff.1 h
    obtain ⟨v1, c1, h⟩ := h
    obtain ⟨rfl, rfl⟩ := castT_some c1
    replace h := Option.bind_eq_some_iff.1 h
    obtain ⟨v2, c2, h⟩ := h
    obtain ⟨rfl, rfl⟩ := castT_some c2
    replace h := Option.bind_eq_some_iff.1 h
    obtain ⟨v3, c3, h⟩ := h
    obtain ⟨rfl, rfl⟩ := castSl_some c3
    replace h := Option.bind_eq_some_iff.1 h
    obtain ⟨u3, b3, h⟩ := h
    obtain rfl := beqO_some b3
    replace h := Option.bind_eq_some_iff.1 h
    obtain ⟨v4, c4, h⟩ := h
    obtain ⟨rfl, rfl⟩ := castT_some c4
    cases h
    intro r hr res out hwr
    cases hwr
    exact ⟨by kernel_rfl, ok_value_reader_has _ _ _ _ r hr, noSl_res (d := .s .bool r.1) (by rfl), noSl_res (d := .box 57 [.s .str r.2.1, .s (.int .i64) r.2.2.1, .own 50 tyAtom r.2.2.2]) (by rfl), rfl⟩
  · cases h

/-! ### 89 onceweb/lex.digit -/
def F_lex_digit : FnD := { n := 9, rs := [2] }
set_option maxRecDepth 100000 in
theorem ok_lex_digit (c : UInt8) (r : Bool) (h : lex_digit c = some r) : APure X0 89 ([.s .u8 c].map DT.toT) (resT ([.s .bool r].map DT.toT)) := by
  refine APure_of_straight (F := F_lex_digit) (fuel := 3000) (E := E_value_reader_has) Yok E_value_reader_has_ok mixed Tryd.func89 rfl rfl rfl (by decide) (args := [.s .u8 c]) (Nat.le_of_ble_eq_true rfl) (by kernel_rfl) (fun r => [.s .bool r]) ?_ h
  intro goto ret
  unfold lex_digit
  simp only [bnd_G, bnd_ite, bnd_bind, bnd_some, -eq_self]
  kernel_rfl
noncomputable def e_lex_digit : List DT → Option CallRes
  | [.s t0 y0] => (castT (b := .u8) y0).bind fun c => some ⟨Bool, lex_digit c, fun r => .s .bool r, false, true⟩
  | _ => none
noncomputable def E_lex_digit : Env := Env.add 89 e_lex_digit E_value_reader_has
theorem E_lex_digit_ok : EnvOk X0 E_lex_digit := by
  refine EnvOk.add E_value_reader_has_ok (fun args c h => ?_)
  unfold e_lex_digit at h
  split at h
  · obtain ⟨v0, c0, h⟩ := Option.bind_eq_some_iff.1 h
    obtain ⟨rfl, rfl⟩ := castT_some c0
    cases h
    exact ⟨fun r hr => .inl ⟨by kernel_rfl, ok_lex_digit _ r hr⟩, fun hb => fun r => noSl_res (by rfl)⟩
  · cases h

/-! ### 66 onceweb/lex.Number -/
def F_lex_Number : FnD := { n := 40, rs := [2, 3], labels := [(5, [0, 4, 19, 20])] }
def lab_lex_Number : L_lex_Number → Nat × DSt
  | .l5 s_ n x19 x20 => (5, [(0, .t (.s .str s_)), (4, .t (.s (.int .i64) n)), (19, .t (.s (.int .i64) x19)), (20, .t (.s (.int .i64) x20))])
set_option maxRecDepth 100000 in
theorem ok_lex_Number (s_ : (List UInt8)) (r : (Int × Bool)) (h : lex_Number s_ = some r) : APure X0 66 ([.s .str s_].map DT.toT) (resT ([.s (.int .i64) r.1, .s .bool r.2].map DT.toT)) := by
  refine APure_of_machine (F := F_lex_Number) (fuel := 3000) (E := E_lex_digit) Yok E_lex_digit_ok mixed Tryd.func66 rfl rfl rfl (by decide) (args := [.s .str s_]) (Nat.le_of_ble_eq_true rfl) (by kernel_rfl) lab_lex_Number st_lex_Number (fun r => [.s (.int .i64) r.1, .s .bool r.2]) ?_ ?_ ?_ h
  · intro l; cases l
    · exact WF_list ⟨trivial, trivial, trivial, trivial, trivial⟩
  · intro l goto ret; cases l with
    | l5 s_ n x19 x20 =>
      show _ = push (sg_lex_Number_5 s_ n x19 x20) (fun l' => goto (lab_lex_Number l').1 (lab_lex_Number l').2) (fun r => ret [.s (.int .i64) r.1, .s .bool r.2])
      unfold sg_lex_Number_5
      simp only [push_G, push_ite, push_bind, push_inl, push_inr, -eq_self]
      kernel_rfl
  · intro goto ret
    show _ = push (en_lex_Number s_) (fun l' => goto (lab_lex_Number l').1 (lab_lex_Number l').2) (fun r => ret [.s (.int .i64) r.1, .s .bool r.2])
    unfold en_lex_Number
    simp only [push_G, push_ite, push_bind, push_inl, push_inr, -eq_self]
    kernel_rfl
noncomputable def e_lex_Number : List DT → Option CallRes
  | [.s t0 y0] => (castT (b := .str) y0).bind fun s_ => some ⟨(Int × Bool), lex_Number s_, fun r => .tup [.s (.int .i64) r.1, .s .bool r.2], ((0 : Int), false), true⟩
  | _ => none
noncomputable def E_lex_Number : Env := Env.add 66 e_lex_Number E_lex_digit
theorem E_lex_Number_ok : EnvOk X0 E_lex_Number := by
  refine EnvOk.add E_lex_digit_ok (fun args c h => ?_)
  unfold e_lex_Number at h
  split at h
  · obtain ⟨v0, c0, h⟩ := Option.bind_eq_some_iff.1 h
    obtain ⟨rfl, rfl⟩ := castT_some c0
    cases h
    exact ⟨fun r hr => .inl ⟨by kernel_rfl, ok_lex_Number _ r hr⟩, fun hb => fun r => noSl_res (by rfl)⟩
  · cases h

/-! ### 51 (*onceweb/value.reader).number -/
def F_value_reader_number : FnD := { n := 83, rs := [2], Z := [0], labels := [(3, [0, 3, 4])] }
def Y_value_reader_number : DX := { Y0 with o2 := [8, 81] }
theorem Yok_value_reader_number : DXOk Y_value_reader_number X0 := ⟨Yok.tab, Yok.gl⟩
def lab_value_reader_number : L_value_reader_number → Nat × DSt
  | .l3 r_ r_' r_'' neg from_ => (3, [(0, .t (.box 57 [.s .str r_, .s (.int .i64) r_', .own 50 tyAtom r_''])), (3, .t (.s .bool neg)), (4, .t (.s (.int .i64) from_))])
set_option maxRecDepth 100000 in
theorem ok_value_reader_number (r_ : (List UInt8)) (r_' : Int) (r_'' : (List tAtom)) (r : (Bool × (List UInt8) × Int × (List tAtom))) (h : value_reader_number r_ r_' r_'' = some r) : ACall X0 51 ([.box 57 [.s .str r_, .s (.int .i64) r_', .own 50 tyAtom r_'']].map DT.toT) (resT ([.s .bool r.1].map DT.toT)) (outsL 0 (.box 57 [.s .str r.2.1, .s (.int .i64) r.2.2.1, .own 50 tyAtom r.2.2.2] : DT).toT 0 1) := by
  unfold value_reader_number at h
  refine ALend_of_machine (F := F_value_reader_number) (fuel := 3000) (E := E_lex_Number) (z := 0) Yok_value_reader_number E_lex_Number_ok mixed Tryd.func51 rfl rfl rfl (by decide) rfl rfl (by decide) (args := [.box 57 [.s .str r_, .s (.int .i64) r_', .own 50 tyAtom r_'']]) (Nat.le_of_ble_eq_true rfl) (Nat.le_of_ble_eq_true rfl) (by kernel_rfl) lab_value_reader_number (st_value_reader_number) (fun r => [.s .bool r.1]) (fun r => .box 57 [.s .str r.2.1, .s (.int .i64) r.2.2.1, .own 50 tyAtom r.2.2.2]) ?_ ?_ ?_ h rfl
  · intro l; cases l
    · exact WF_list ⟨trivial, trivial, trivial, trivial⟩
  · intro l goto ret; cases l with
    | l3 r_ r_' r_'' neg from_ =>
      show _ = push (sg_value_reader_number_3 r_ r_' r_'' neg from_) (fun l' => goto (lab_value_reader_number l').1 (lab_value_reader_number l').2) (fun r => ret [.s .bool r.1, .box 57 [.s .str r.2.1, .s (.int .i64) r.2.2.1, .own 50 tyAtom r.2.2.2]])
      unfold sg_value_reader_number_3
      simp only [push_G, push_ite, push_bind, push_inl, push_inr, -eq_self]
      kernel_rfl
  · intro goto ret
    show _ = push (en_value_reader_number r_ r_' r_'') (fun l' => goto (lab_value_reader_number l').1 (lab_value_reader_number l').2) (fun r => ret [.s .bool r.1, .box 57 [.s .str r.2.1, .s (.int .i64) r.2.2.1, .own 50 tyAtom r.2.2.2]])
    unfold en_value_reader_number
    simp only [push_G, push_ite, push_bind, push_inl, push_inr, -eq_self]
    kernel_rfl
noncomputable def e_value_reader_number : List DT → Option CallRes
  | [.tup [.u], .box e0 [.s t1 y1, .s t2 y2, .own e3 t3 y3]] => (beqO e0 57).bind fun _ => (castT (b := .str) y1).bind fun r_ => (castT (b := (.int .i64)) y2).bind fun r_' => (castT (a := .sl 1 t3) (b := .sl 1 tyAtom) y3).bind fun r_'' => (beqO e3 50).bind fun _ => some ⟨(Bool × (List UInt8) × Int × (List tAtom)), value_reader_number r_ r_' r_'', fun r => .tup [.s .bool r.1, .box 57 [.s .str r.2.1, .s (.int .i64) r.2.2.1, .own 50 tyAtom r.2.2.2]], (false, ([] : List UInt8), (0 : Int), ([] : List tAtom)), false⟩
  | _ => none
noncomputable def E_value_reader_number : Env := Env.add2 51 (e_value_reader_number) E_lex_Number
theorem E_value_reader_number_ok : EnvOk X0 (E_value_reader_number) := by
  refine EnvOk.add2 E_lex_Number_ok (fun args c h => ?_)
  unfold e_value_reader_number at h
  split at h
  · replace h := Option.bind_eq_some_iff.1 h
    obtain ⟨u0, b0, h⟩ := h
    obtain rfl := beqO_some b0
    replace h := Option.bind_eq_some_iff.1 h
    obtain ⟨v1, c1, h⟩ := h
    obtain ⟨rfl, rfl⟩ := castT_some c1
    replace h := Option.bind_eq_some_iff.1 h
    obtain ⟨v2, c2, h⟩ := h
    obtain ⟨rfl, rfl⟩ := castT_some c2
    replace h := Option.bind_eq_some_iff.1 h
    obtain ⟨v3, c3, h⟩ := h
    obtain ⟨rfl, rfl⟩ := castSl_some c3
    replace h := Option.bind_eq_some_iff.1 h
    obtain ⟨u3, b3, h⟩ := h
    obtain rfl := beqO_some b3
    cases h
    intro r hr res out hwr
    cases hwr
    exact ⟨by kernel_rfl, ok_value_reader_number _ _ _ r hr, noSl_res (d := .s .bool r.1) (by rfl), noSl_res (d := .box 57 [.s .str r.2.1, .s (.int .i64) r.2.2.1, .own 50 tyAtom r.2.2.2]) (by rfl), rfl⟩
  · cases h

/-! ### 27 (*onceweb/value.reader).value -/
def F_value_reader_value : FnD := { n := 67, rs := [4], Z := [0], labels := [(9, [0, 1, 5])] }
def Y_value_reader_value : DX := { Y0 with o2 := [32, 43, 49, 56, 64, 66] }
theorem Yok_value_reader_value : DXOk Y_value_reader_value X0 := ⟨Yok.tab, Yok.gl⟩
def lab_value_reader_value : L_value_reader_value → Nat × DSt
  | .l9 r_ r_' r_'' deep n => (9, [(0, .t (.box 57 [.s .str r_, .s (.int .i64) r_', .own 50 tyAtom r_''])), (1, .t (.s (.int .i64) deep)), (5, .t (.s (.int .i64) n))])
noncomputable def e_value_reader_value_n (fu_ : Nat) : List DT → Option CallRes
  | [.tup [.u], .box e0 [.s t1 y1, .s t2 y2, .own e3 t3 y3], .s t4 y4] => (beqO e0 57).bind fun _ => (castT (b := .str) y1).bind fun r_ => (castT (b := (.int .i64)) y2).bind fun r_' => (castT (a := .sl 1 t3) (b := .sl 1 tyAtom) y3).bind fun r_'' => (beqO e3 50).bind fun _ => (castT (b := (.int .i64)) y4).bind fun deep => some ⟨(Bool × (List UInt8) × Int × (List tAtom)), value_reader_value_n fu_ r_ r_' r_'' deep, fun r => .tup [.s .bool r.1, .box 57 [.s .str r.2.1, .s (.int .i64) r.2.2.1, .own 50 tyAtom r.2.2.2]], (false, ([] : List UInt8), (0 : Int), ([] : List tAtom)), false⟩
  | _ => none
noncomputable def E_value_reader_value_n (fu_ : Nat) : Env := Env.add2 27 (e_value_reader_value_n fu_) E_value_reader_number
theorem E_value_reader_value_n_ok (fu_ : Nat) (ih : ∀ (r_ : (List UInt8)) (r_' : Int) (r_'' : (List tAtom)) (deep : Int) (r : (Bool × (List UInt8) × Int × (List tAtom))), value_reader_value_n fu_ r_ r_' r_'' deep = some r → ACall X0 27 ([.box 57 [.s .str r_, .s (.int .i64) r_', .own 50 tyAtom r_''], .s (.int .i64) deep].map DT.toT) (resT ([.s .bool r.1].map DT.toT)) (outsL 0 (.box 57 [.s .str r.2.1, .s (.int .i64) r.2.2.1, .own 50 tyAtom r.2.2.2] : DT).toT 0 2)) : EnvOk X0 (E_value_reader_value_n fu_) := by
  refine EnvOk.add2 E_value_reader_number_ok (fun args c h => ?_)
  unfold e_value_reader_value_n at h
  split at h
  · replace h := Option.bind_eq_some_iff.1 h
    obtain ⟨u0, b0, h⟩ := h
    obtain rfl := beqO_some b0
    replace h := Option.bind_eq_some_iff.1 h
    obtain ⟨v1, c1, h⟩ := h
    obtain ⟨rfl, rfl⟩ := castT_some c1
    replace h := Option.bind_eq_some_iff.1 h
    obtain ⟨v2, c2, h⟩ := h
    obtain ⟨rfl, rfl⟩ := castT_some c2
    replace h := Option.bind_eq_some_iff.1 h
    obtain ⟨v3, c3, h⟩ := h
    obtain ⟨rfl, rfl⟩ := castSl_some c3
    replace h := Option.bind_eq_some_iff.1 h
    obtain ⟨u3, b3, h⟩ := h
    obtain rfl := beqO_some b3
    replace h := Option.bind_eq_some_iff.1 h
    obtain ⟨v4, c4, h⟩ := h
    obtain ⟨rfl, rfl⟩ := castT_some c4
    cases h
    intro r hr res out hwr
    cases hwr
    exact ⟨by kernel_rfl, ih _ _ _ _ r hr, noSl_res (d := .s .bool r.1) (by rfl), noSl_res (d := .box 57 [.s .str r.2.1, .s (.int .i64) r.2.2.1, .own 50 tyAtom r.2.2.2]) (by rfl), rfl⟩
  · cases h
set_option maxRecDepth 100000 in
theorem ok_value_reader_value_n : ∀ (fu_ : Nat) (r_ : (List UInt8)) (r_' : Int) (r_'' : (List tAtom)) (deep : Int) (r : (Bool × (List UInt8) × Int × (List tAtom))) (h : value_reader_value_n fu_ r_ r_' r_'' deep = some r), ACall X0 27 ([.box 57 [.s .str r_, .s (.int .i64) r_', .own 50 tyAtom r_''], .s (.int .i64) deep].map DT.toT) (resT ([.s .bool r.1].map DT.toT)) (outsL 0 (.box 57 [.s .str r.2.1, .s (.int .i64) r.2.2.1, .own 50 tyAtom r.2.2.2] : DT).toT 0 2)
  | 0, r_, r_', r_'', deep, r, h => by unfold value_reader_value_n at h; cases h
  | fu_ + 1, r_, r_', r_'', deep, r, h => by
    unfold value_reader_value_n at h
    refine ALend_of_machine (F := F_value_reader_value) (fuel := 3000) (E := (E_value_reader_value_n fu_)) (z := 0) Yok_value_reader_value (E_value_reader_value_n_ok fu_ (ok_value_reader_value_n fu_)) mixed Tryd.func27 rfl rfl rfl (by decide) rfl rfl (by decide) (args := [.box 57 [.s .str r_, .s (.int .i64) r_', .own 50 tyAtom r_''], .s (.int .i64) deep]) (Nat.le_of_ble_eq_true rfl) (Nat.le_of_ble_eq_true rfl) (by kernel_rfl) lab_value_reader_value (st_value_reader_value (value_reader_value_n fu_)) (fun r => [.s .bool r.1]) (fun r => .box 57 [.s .str r.2.1, .s (.int .i64) r.2.2.1, .own 50 tyAtom r.2.2.2]) ?_ ?_ ?_ h rfl
    · intro l; cases l
      · exact WF_list ⟨trivial, trivial, trivial, trivial⟩
    · intro l goto ret; cases l with
      | l9 r_ r_' r_'' deep n =>
        show _ = push (sg_value_reader_value_9 (value_reader_value_n fu_) r_ r_' r_'' deep n) (fun l' => goto (lab_value_reader_value l').1 (lab_value_reader_value l').2) (fun r => ret [.s .bool r.1, .box 57 [.s .str r.2.1, .s (.int .i64) r.2.2.1, .own 50 tyAtom r.2.2.2]])
        unfold sg_value_reader_value_9
        simp only [push_G, push_ite, push_bind, push_inl, push_inr, -eq_self]
        kernel_rfl
    · intro goto ret
      show _ = push (en_value_reader_value (value_reader_value_n fu_) r_ r_' r_'' deep) (fun l' => goto (lab_value_reader_value l').1 (lab_value_reader_value l').2) (fun r => ret [.s .bool r.1, .box 57 [.s .str r.2.1, .s (.int .i64) r.2.2.1, .own 50 tyAtom r.2.2.2]])
      unfold en_value_reader_value
      simp only [push_G, push_ite, push_bind, push_inl, push_inr, -eq_self]
      kernel_rfl
theorem ok_value_reader_value (r_ : (List UInt8)) (r_' : Int) (r_'' : (List tAtom)) (deep : Int) (r : (Bool × (List UInt8) × Int × (List tAtom))) (h : value_reader_value r_ r_' r_'' deep = some r) : ACall X0 27 ([.box 57 [.s .str r_, .s (.int .i64) r_', .own 50 tyAtom r_''], .s (.int .i64) deep].map DT.toT) (resT ([.s .bool r.1].map DT.toT)) (outsL 0 (.box 57 [.s .str r.2.1, .s (.int .i64) r.2.2.1, .own 50 tyAtom r.2.2.2] : DT).toT 0 2) := ok_value_reader_value_n 40 r_ r_' r_'' deep r h
noncomputable def e_value_reader_value : List DT → Option CallRes
  | [.tup [.u], .box e0 [.s t1 y1, .s t2 y2, .own e3 t3 y3], .s t4 y4] => (beqO e0 57).bind fun _ => (castT (b := .str) y1).bind fun r_ => (castT (b := (.int .i64)) y2).bind fun r_' => (castT (a := .sl 1 t3) (b := .sl 1 tyAtom) y3).bind fun r_'' => (beqO e3 50).bind fun _ => (castT (b := (.int .i64)) y4).bind fun deep => some ⟨(Bool × (List UInt8) × Int × (List tAtom)), value_reader_value r_ r_' r_'' deep, fun r => .tup [.s .bool r.1, .box 57 [.s .str r.2.1, .s (.int .i64) r.2.2.1, .own 50 tyAtom r.2.2.2]], (false, ([] : List UInt8), (0 : Int), ([] : List tAtom)), false⟩
  | _ => none
noncomputable def E_value_reader_value : Env := Env.add2 27 (e_value_reader_value) E_value_reader_number
theorem E_value_reader_value_ok : EnvOk X0 (E_value_reader_value) := by
  refine EnvOk.add2 E_value_reader_number_ok (fun args c h => ?_)
  unfold e_value_reader_value at h
  split at h
  · replace h := Option.bind_eq_some_iff.1 h
    obtain ⟨u0, b0, h⟩ := h
    obtain rfl := beqO_some b0
    replace h := Option.bind_eq_some_iff.1 h
    obtain ⟨v1, c1, h⟩ := h
    obtain ⟨rfl, rfl⟩ := castT_some c1
    replace h := Option.bind_eq_some_iff.1 h
    obtain ⟨v2, c2, h⟩ := h
    obtain ⟨rfl, rfl⟩ := castT_some c2
    replace h := Option.bind_eq_some_iff.1 h
    obtain ⟨v3, c3, h⟩ := h
    obtain ⟨rfl, rfl⟩ := castSl_some c3
    replace h := Option.bind_eq_some_iff.1 h
    obtain ⟨u3, b3, h⟩ := h
    obtain rfl := beqO_some b3
    replace h := Option.bind_eq_some_iff.1 h
    obtain ⟨v4, c4, h⟩ := h
    obtain ⟨rfl, rfl⟩ := castT_some c4
    cases h
    intro r hr res out hwr
    cases hwr
    exact ⟨by kernel_rfl, ok_value_reader_value _ _ _ _ r hr, noSl_res (d := .s .bool r.1) (by rfl), noSl_res (d := .box 57 [.s .str r.2.1, .s (.int .i64) r.2.2.1, .own 50 tyAtom r.2.2.2]) (by rfl), rfl⟩
  · cases h

/-! ### 11 onceweb/value.Parse -/
def F_value_Parse : FnD := { n := 27, rs := [2, 3] }
def Y_value_Parse : DX := { Y0 with o2 := [2, 9, 12] }
theorem Yok_value_Parse : DXOk Y_value_Parse X0 := ⟨Yok.tab, Yok.gl⟩
set_option maxRecDepth 100000 in
theorem ok_value_Parse (s_ : (List UInt8)) (r : ((List tAtom) × Int)) (h : value_Parse s_ = some r) : APure X0 11 ([.s .str s_].map DT.toT) (resT ([.own 50 tyAtom r.1, .s (.int .i64) r.2].map DT.toT)) := by
  refine APure_of_straight (F := F_value_Parse) (fuel := 3000) (E := E_value_reader_value) Yok_value_Parse E_value_reader_value_ok mixed Tryd.func11 rfl rfl rfl (by decide) (args := [.s .str s_]) (Nat.le_of_ble_eq_true rfl) (by kernel_rfl) (fun r => [.own 50 tyAtom r.1, .s (.int .i64) r.2]) ?_ h
  intro goto ret
  unfold value_Parse
  simp only [bnd_G, bnd_ite, bnd_bind, bnd_some, -eq_self]
  kernel_rfl
noncomputable def e_value_Parse : List DT → Option CallRes
  | [.s t0 y0] => (castT (b := .str) y0).bind fun s_ => some ⟨((List tAtom) × Int), value_Parse s_, fun r => .tup [.own 50 tyAtom r.1, .s (.int .i64) r.2], (([] : List tAtom), (0 : Int)), true⟩
  | _ => none
noncomputable def E_value_Parse : Env := Env.add 11 e_value_Parse E_value_reader_value
theorem E_value_Parse_ok : EnvOk X0 E_value_Parse := by
  refine EnvOk.add E_value_reader_value_ok (fun args c h => ?_)
  unfold e_value_Parse at h
  split at h
  · obtain ⟨v0, c0, h⟩ := Option.bind_eq_some_iff.1 h
    obtain ⟨rfl, rfl⟩ := castT_some c0
    cases h
    exact ⟨fun r hr => .inl ⟨by kernel_rfl, ok_value_Parse _ r hr⟩, fun hb => fun r => noSl_res (by rfl)⟩
  · cases h

/-! ### 90 onceweb/oncewebref01.hex -/
def F_ref01_hex : FnD := { n := 22, rs := [2] }
set_option maxRecDepth 100000 in
theorem ok_ref01_hex (c : UInt8) (r : Int) (h : ref01_hex c = some r) : APure X0 90 ([.s .u8 c].map DT.toT) (resT ([.s (.int .i64) r].map DT.toT)) := by
  refine APure_of_straight (F := F_ref01_hex) (fuel := 3000) (E := E_value_Parse) Yok E_value_Parse_ok mixed Tryd.func90 rfl rfl rfl (by decide) (args := [.s .u8 c]) (Nat.le_of_ble_eq_true rfl) (by kernel_rfl) (fun r => [.s (.int .i64) r]) ?_ h
  intro goto ret
  unfold ref01_hex
  simp only [bnd_G, bnd_ite, bnd_bind, bnd_some, -eq_self]
  kernel_rfl
noncomputable def e_ref01_hex : List DT → Option CallRes
  | [.s t0 y0] => (castT (b := .u8) y0).bind fun c => some ⟨Int, ref01_hex c, fun r => .s (.int .i64) r, (0 : Int), true⟩
  | _ => none
noncomputable def E_ref01_hex : Env := Env.add 90 e_ref01_hex E_value_Parse
theorem E_ref01_hex_ok : EnvOk X0 E_ref01_hex := by
  refine EnvOk.add E_value_Parse_ok (fun args c h => ?_)
  unfold e_ref01_hex at h
  split at h
  · obtain ⟨v0, c0, h⟩ := Option.bind_eq_some_iff.1 h
    obtain ⟨rfl, rfl⟩ := castT_some c0
    cases h
    exact ⟨fun r hr => .inl ⟨by kernel_rfl, ok_ref01_hex _ r hr⟩, fun hb => fun r => noSl_res (by rfl)⟩
  · cases h

end Go.Eng
