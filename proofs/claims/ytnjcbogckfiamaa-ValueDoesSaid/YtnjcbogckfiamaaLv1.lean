/- A part of the proof: Lv1. -/
import Derived.Test.YtnjcbogckfiamaaLvd
import Derived.Test.YtnjcbogckfiamaaD4
import Derived.Test.YtnjcbogckfiamaaRows
namespace Go.Eng
open Go.Proofs Go.RowKit
set_option linter.unusedVariables false
set_option linter.unusedSimpArgs false

def globs : List (Nat × Glob) := []
noncomputable def X0 : Ctx := mkCtx Try.prog 0 globs (by kernel_rfl)
theorem mixed : X0.P.follows .mixedOrders = true := by kernel_rfl
def Y0 : DX := { tab := [(3, { ty := (.int .i64) }), (4, { ty := .bool }), (9, { ty := .str }), (22, { ty := (.sl 1 (.sl 4 tyAtom)), sl := some (24, (.sl 4 tyAtom), 24) }), (24, { ty := (.sl 4 tyAtom), sl := some (48, tyAtom, 40) }), (48, { ty := tyAtom, fs := [(.int .i64), (.int .i64), (.int .i64), .str], eq := true }), (52, { ty := (.sl 2 tywhole), sl := some (68, tywhole, 16) }), (55, { ty := (.sl 1 (.int .i64)), sl := some (3, (.int .i64), 8) }), (62, { ty := .opq, fn := true }), (68, { ty := tywhole, fs := [(.int .i64), (.int .i64)], eq := true }), (75, { ty := (.sl 1 (.sl 4 tyAtom)), sl := some (24, (.sl 4 tyAtom), 24) }), (82, { ty := (.int .u64) })], gl := globs }
theorem td_3 : TDOk Try.prog 3 { ty := (.int .i64) } where
  row := .inr (by kernel_rfl)
  und := .inr (by kernel_rfl)
  sli := .inl rfl
  slt := by kernel_rfl
  bye := .inl rfl
  fld := .inl rfl
  lay := .inl rfl
  rowT := .inl rfl
  arr := .inl rfl
  fsz := by kernel_rfl
  eqv := .inl rfl
  zer := .inr (by kernel_rfl)
  fnv := .inl rfl
theorem td_4 : TDOk Try.prog 4 { ty := .bool } where
  row := .inr (by kernel_rfl)
  und := .inr (by kernel_rfl)
  sli := .inl rfl
  slt := by kernel_rfl
  bye := .inl rfl
  fld := .inl rfl
  lay := .inl rfl
  rowT := .inl rfl
  arr := .inl rfl
  fsz := by kernel_rfl
  eqv := .inl rfl
  zer := .inr (by kernel_rfl)
  fnv := .inl rfl
theorem td_9 : TDOk Try.prog 9 { ty := .str } where
  row := .inr (by kernel_rfl)
  und := .inr (by kernel_rfl)
  sli := .inl rfl
  slt := by kernel_rfl
  bye := .inl rfl
  fld := .inl rfl
  lay := .inl rfl
  rowT := .inl rfl
  arr := .inl rfl
  fsz := by kernel_rfl
  eqv := .inl rfl
  zer := .inr (by kernel_rfl)
  fnv := .inl rfl
theorem td_22 : TDOk Try.prog 22 { ty := (.sl 1 (.sl 4 tyAtom)), sl := some (24, (.sl 4 tyAtom), 24) } where
  row := .inr (by kernel_rfl)
  und := .inl rfl
  sli := .inr (by kernel_rfl)
  slt := by kernel_rfl
  bye := .inl rfl
  fld := .inl rfl
  lay := .inl rfl
  rowT := .inl rfl
  arr := .inl rfl
  fsz := by kernel_rfl
  eqv := .inl rfl
  zer := .inr (by kernel_rfl)
  fnv := .inl rfl
theorem td_24 : TDOk Try.prog 24 { ty := (.sl 4 tyAtom), sl := some (48, tyAtom, 40) } where
  row := .inr (by kernel_rfl)
  und := .inl rfl
  sli := .inr (by kernel_rfl)
  slt := by kernel_rfl
  bye := .inl rfl
  fld := .inl rfl
  lay := .inl rfl
  rowT := .inl rfl
  arr := .inl rfl
  fsz := by kernel_rfl
  eqv := .inl rfl
  zer := .inr (by kernel_rfl)
  fnv := .inl rfl
theorem td_48 : TDOk Try.prog 48 { ty := tyAtom, fs := [(.int .i64), (.int .i64), (.int .i64), .str], eq := true } where
  row := .inr (by kernel_rfl)
  und := .inl rfl
  sli := .inl rfl
  slt := by kernel_rfl
  bye := .inl rfl
  fld := .inr (by kernel_rfl)
  lay := .inr (by kernel_rfl)
  rowT := .inr rfl
  arr := .inl rfl
  fsz := by kernel_rfl
  eqv := .inr (by kernel_rfl)
  zer := .inr (by kernel_rfl)
  fnv := .inl rfl
theorem td_52 : TDOk Try.prog 52 { ty := (.sl 2 tywhole), sl := some (68, tywhole, 16) } where
  row := .inr (by kernel_rfl)
  und := .inl rfl
  sli := .inr (by kernel_rfl)
  slt := by kernel_rfl
  bye := .inl rfl
  fld := .inl rfl
  lay := .inl rfl
  rowT := .inl rfl
  arr := .inl rfl
  fsz := by kernel_rfl
  eqv := .inl rfl
  zer := .inr (by kernel_rfl)
  fnv := .inl rfl
theorem td_55 : TDOk Try.prog 55 { ty := (.sl 1 (.int .i64)), sl := some (3, (.int .i64), 8) } where
  row := .inr (by kernel_rfl)
  und := .inl rfl
  sli := .inr (by kernel_rfl)
  slt := by kernel_rfl
  bye := .inl rfl
  fld := .inl rfl
  lay := .inl rfl
  rowT := .inl rfl
  arr := .inl rfl
  fsz := by kernel_rfl
  eqv := .inl rfl
  zer := .inr (by kernel_rfl)
  fnv := .inl rfl
theorem td_62 : TDOk Try.prog 62 { ty := .opq, fn := true } where
  row := .inl rfl
  und := .inl rfl
  sli := .inl rfl
  slt := by kernel_rfl
  bye := .inl rfl
  fld := .inl rfl
  lay := .inl rfl
  rowT := .inl rfl
  arr := .inl rfl
  fsz := by kernel_rfl
  eqv := .inl rfl
  zer := .inl rfl
  fnv := .inr (by kernel_rfl)
theorem td_68 : TDOk Try.prog 68 { ty := tywhole, fs := [(.int .i64), (.int .i64)], eq := true } where
  row := .inr (by kernel_rfl)
  und := .inl rfl
  sli := .inl rfl
  slt := by kernel_rfl
  bye := .inl rfl
  fld := .inr (by kernel_rfl)
  lay := .inr (by kernel_rfl)
  rowT := .inr rfl
  arr := .inl rfl
  fsz := by kernel_rfl
  eqv := .inr (by kernel_rfl)
  zer := .inr (by kernel_rfl)
  fnv := .inl rfl
theorem td_75 : TDOk Try.prog 75 { ty := (.sl 1 (.sl 4 tyAtom)), sl := some (24, (.sl 4 tyAtom), 24) } where
  row := .inr (by kernel_rfl)
  und := .inl rfl
  sli := .inr (by kernel_rfl)
  slt := by kernel_rfl
  bye := .inl rfl
  fld := .inl rfl
  lay := .inl rfl
  rowT := .inl rfl
  arr := .inl rfl
  fsz := by kernel_rfl
  eqv := .inl rfl
  zer := .inr (by kernel_rfl)
  fnv := .inl rfl
theorem td_82 : TDOk Try.prog 82 { ty := (.int .u64) } where
  row := .inr (by kernel_rfl)
  und := .inr (by kernel_rfl)
  sli := .inl rfl
  slt := by kernel_rfl
  bye := .inl rfl
  fld := .inl rfl
  lay := .inl rfl
  rowT := .inl rfl
  arr := .inl rfl
  fsz := by kernel_rfl
  eqv := .inl rfl
  zer := .inr (by kernel_rfl)
  fnv := .inl rfl
theorem Yok : DXOk Y0 X0 where
  tab := List.forall_mem_cons.2 ⟨td_3, List.forall_mem_cons.2 ⟨td_4, List.forall_mem_cons.2 ⟨td_9, List.forall_mem_cons.2 ⟨td_22, List.forall_mem_cons.2 ⟨td_24, List.forall_mem_cons.2 ⟨td_48, List.forall_mem_cons.2 ⟨td_52, List.forall_mem_cons.2 ⟨td_55, List.forall_mem_cons.2 ⟨td_62, List.forall_mem_cons.2 ⟨td_68, List.forall_mem_cons.2 ⟨td_75, List.forall_mem_cons.2 ⟨td_82, (fun _ h => by cases h)⟩⟩⟩⟩⟩⟩⟩⟩⟩⟩⟩⟩
  gl := fun _ => rfl

/-! ### 6 onceweb/value.Int -/
def F_value_Int : FnD := { n := 13, rs := [2, 3] }
set_option maxRecDepth 100000 in
theorem ok_value_Int (n : Int) (r : ((List tAtom) × Int)) (h : value_Int n = some r) : APure X0 6 ([.s (.int .i64) n].map DT.toT) (resT ([.own 48 tyAtom r.1, .s (.int .i64) r.2].map DT.toT)) := by
  refine APure_of_straight (F := F_value_Int) (fuel := 3000) (E := E_0) Yok E_0_ok mixed Try.func6 rfl rfl rfl (by decide) (args := [.s (.int .i64) n]) (Nat.le_of_ble_eq_true rfl) (by kernel_rfl) (fun r => [.own 48 tyAtom r.1, .s (.int .i64) r.2]) ?_ h
  intro goto ret
  unfold value_Int
  simp only [bnd_G, bnd_ite, bnd_bind, bnd_some, -eq_self]
  kernel_rfl
noncomputable def e_value_Int : List DT → Option CallRes
  | [.s t0 y0] => (castT (b := (.int .i64)) y0).bind fun n => some ⟨((List tAtom) × Int), value_Int n, fun r => .tup [.own 48 tyAtom r.1, .s (.int .i64) r.2], (([] : List tAtom), (0 : Int)), true⟩
  | _ => none
noncomputable def E_value_Int : Env := Env.add 6 e_value_Int E_0
theorem E_value_Int_ok : EnvOk X0 E_value_Int := by
  refine EnvOk.add E_0_ok (fun args c h => ?_)
  unfold e_value_Int at h
  split at h
  · obtain ⟨v0, c0, h⟩ := Option.bind_eq_some_iff.1 h
    obtain ⟨rfl, rfl⟩ := castT_some c0
    cases h
    exact ⟨fun r hr => .inl ⟨by kernel_rfl, ok_value_Int _ r hr⟩, fun hb => fun r => noSl_res (by rfl)⟩
  · cases h

/-! ### 7 onceweb/oncewebref07.Int -/
def F_ref07_Int : FnD := { n := 13, rs := [2, 3] }
set_option maxRecDepth 100000 in
theorem ok_ref07_Int (n : Int) (r : ((List tAtom) × Int)) (h : ref07_Int n = some r) : APure X0 7 ([.s (.int .i64) n].map DT.toT) (resT ([.own 48 tyAtom r.1, .s (.int .i64) r.2].map DT.toT)) := by
  refine APure_of_straight (F := F_ref07_Int) (fuel := 3000) (E := E_value_Int) Yok E_value_Int_ok mixed Try.func7 rfl rfl rfl (by decide) (args := [.s (.int .i64) n]) (Nat.le_of_ble_eq_true rfl) (by kernel_rfl) (fun r => [.own 48 tyAtom r.1, .s (.int .i64) r.2]) ?_ h
  intro goto ret
  unfold ref07_Int
  simp only [bnd_G, bnd_ite, bnd_bind, bnd_some, -eq_self]
  kernel_rfl
noncomputable def e_ref07_Int : List DT → Option CallRes
  | [.s t0 y0] => (castT (b := (.int .i64)) y0).bind fun n => some ⟨((List tAtom) × Int), ref07_Int n, fun r => .tup [.own 48 tyAtom r.1, .s (.int .i64) r.2], (([] : List tAtom), (0 : Int)), true⟩
  | _ => none
noncomputable def E_ref07_Int : Env := Env.add 7 e_ref07_Int E_value_Int
theorem E_ref07_Int_ok : EnvOk X0 E_ref07_Int := by
  refine EnvOk.add E_value_Int_ok (fun args c h => ?_)
  unfold e_ref07_Int at h
  split at h
  · obtain ⟨v0, c0, h⟩ := Option.bind_eq_some_iff.1 h
    obtain ⟨rfl, rfl⟩ := castT_some c0
    cases h
    exact ⟨fun r hr => .inl ⟨by kernel_rfl, ok_ref07_Int _ r hr⟩, fun hb => fun r => noSl_res (by rfl)⟩
  · cases h

/-! ### 8 onceweb/oncewebbase.SameValue -/
def F_base_SameValue : FnD := { n := 26, rs := [4], labels := [(4, [0, 1, 5])] }
def lab_base_SameValue : L_base_SameValue → Nat × DSt
  | .l4 a b i => (4, [(0, .t (.s (.sl 4 tyAtom) a)), (1, .t (.s (.sl 4 tyAtom) b)), (5, .t (.s (.int .i64) i))])
set_option maxRecDepth 100000 in
theorem ok_base_SameValue (a : (List tAtom)) (b : (List tAtom)) (r : Bool) (h : base_SameValue a b = some r) : APure X0 8 ([.s (.sl 4 tyAtom) a, .s (.sl 4 tyAtom) b].map DT.toT) (resT ([.s .bool r].map DT.toT)) := by
  refine APure_of_machine (F := F_base_SameValue) (fuel := 3000) (E := E_ref07_Int) Yok E_ref07_Int_ok mixed Try.func8 rfl rfl rfl (by decide) (args := [.s (.sl 4 tyAtom) a, .s (.sl 4 tyAtom) b]) (Nat.le_of_ble_eq_true rfl) (by kernel_rfl) lab_base_SameValue st_base_SameValue (fun r => [.s .bool r]) ?_ ?_ ?_ h
  · intro l; cases l
    · exact WF_list ⟨trivial, trivial, trivial, trivial⟩
  · intro l goto ret; cases l with
    | l4 a b i =>
      show _ = push (sg_base_SameValue_4 a b i) (fun l' => goto (lab_base_SameValue l').1 (lab_base_SameValue l').2) (fun r => ret [.s .bool r])
      unfold sg_base_SameValue_4
      simp only [push_G, push_ite, push_bind, push_inl, push_inr, -eq_self]
      kernel_rfl
  · intro goto ret
    show _ = push (en_base_SameValue a b) (fun l' => goto (lab_base_SameValue l').1 (lab_base_SameValue l').2) (fun r => ret [.s .bool r])
    unfold en_base_SameValue
    simp only [push_G, push_ite, push_bind, push_inl, push_inr, -eq_self]
    kernel_rfl
noncomputable def e_base_SameValue : List DT → Option CallRes
  | [.s t0 y0, .s t1 y1] => (castT (b := (.sl 4 tyAtom)) y0).bind fun a => (castT (b := (.sl 4 tyAtom)) y1).bind fun b => some ⟨Bool, base_SameValue a b, fun r => .s .bool r, false, true⟩
  | _ => none
noncomputable def E_base_SameValue : Env := Env.add 8 e_base_SameValue E_ref07_Int
theorem E_base_SameValue_ok : EnvOk X0 E_base_SameValue := by
  refine EnvOk.add E_ref07_Int_ok (fun args c h => ?_)
  unfold e_base_SameValue at h
  split at h
  · obtain ⟨v0, c0, h⟩ := Option.bind_eq_some_iff.1 h
    obtain ⟨rfl, rfl⟩ := castT_some c0
    obtain ⟨v1, c1, h⟩ := Option.bind_eq_some_iff.1 h
    obtain ⟨rfl, rfl⟩ := castT_some c1
    cases h
    exact ⟨fun r hr => .inl ⟨by kernel_rfl, ok_base_SameValue _ _ r hr⟩, fun hb => fun r => noSl_res (by rfl)⟩
  · cases h

/-! ### 9 onceweb/value.Text -/
def F_value_Text : FnD := { n := 10, rs := [2, 3] }
set_option maxRecDepth 100000 in
theorem ok_value_Text (s_ : (List UInt8)) (r : ((List tAtom) × Int)) (h : value_Text s_ = some r) : APure X0 9 ([.s .str s_].map DT.toT) (resT ([.own 48 tyAtom r.1, .s (.int .i64) r.2].map DT.toT)) := by
  refine APure_of_straight (F := F_value_Text) (fuel := 3000) (E := E_base_SameValue) Yok E_base_SameValue_ok mixed Try.func9 rfl rfl rfl (by decide) (args := [.s .str s_]) (Nat.le_of_ble_eq_true rfl) (by kernel_rfl) (fun r => [.own 48 tyAtom r.1, .s (.int .i64) r.2]) ?_ h
  intro goto ret
  unfold value_Text
  simp only [bnd_G, bnd_ite, bnd_bind, bnd_some, -eq_self]
  kernel_rfl
noncomputable def e_value_Text : List DT → Option CallRes
  | [.s t0 y0] => (castT (b := .str) y0).bind fun s_ => some ⟨((List tAtom) × Int), value_Text s_, fun r => .tup [.own 48 tyAtom r.1, .s (.int .i64) r.2], (([] : List tAtom), (0 : Int)), true⟩
  | _ => none
noncomputable def E_value_Text : Env := Env.add 9 e_value_Text E_base_SameValue
theorem E_value_Text_ok : EnvOk X0 E_value_Text := by
  refine EnvOk.add E_base_SameValue_ok (fun args c h => ?_)
  unfold e_value_Text at h
  split at h
  · obtain ⟨v0, c0, h⟩ := Option.bind_eq_some_iff.1 h
    obtain ⟨rfl, rfl⟩ := castT_some c0
    cases h
    exact ⟨fun r hr => .inl ⟨by kernel_rfl, ok_value_Text _ r hr⟩, fun hb => fun r => noSl_res (by rfl)⟩
  · cases h

/-! ### 10 onceweb/oncewebref07.Text -/
def F_ref07_Text : FnD := { n := 10, rs := [2, 3] }
set_option maxRecDepth 100000 in
theorem ok_ref07_Text (s_ : (List UInt8)) (r : ((List tAtom) × Int)) (h : ref07_Text s_ = some r) : APure X0 10 ([.s .str s_].map DT.toT) (resT ([.own 48 tyAtom r.1, .s (.int .i64) r.2].map DT.toT)) := by
  refine APure_of_straight (F := F_ref07_Text) (fuel := 3000) (E := E_value_Text) Yok E_value_Text_ok mixed Try.func10 rfl rfl rfl (by decide) (args := [.s .str s_]) (Nat.le_of_ble_eq_true rfl) (by kernel_rfl) (fun r => [.own 48 tyAtom r.1, .s (.int .i64) r.2]) ?_ h
  intro goto ret
  unfold ref07_Text
  simp only [bnd_G, bnd_ite, bnd_bind, bnd_some, -eq_self]
  kernel_rfl
noncomputable def e_ref07_Text : List DT → Option CallRes
  | [.s t0 y0] => (castT (b := .str) y0).bind fun s_ => some ⟨((List tAtom) × Int), ref07_Text s_, fun r => .tup [.own 48 tyAtom r.1, .s (.int .i64) r.2], (([] : List tAtom), (0 : Int)), true⟩
  | _ => none
noncomputable def E_ref07_Text : Env := Env.add 10 e_ref07_Text E_value_Text
theorem E_ref07_Text_ok : EnvOk X0 E_ref07_Text := by
  refine EnvOk.add E_value_Text_ok (fun args c h => ?_)
  unfold e_ref07_Text at h
  split at h
  · obtain ⟨v0, c0, h⟩ := Option.bind_eq_some_iff.1 h
    obtain ⟨rfl, rfl⟩ := castT_some c0
    cases h
    exact ⟨fun r hr => .inl ⟨by kernel_rfl, ok_ref07_Text _ r hr⟩, fun hb => fun r => noSl_res (by rfl)⟩
  · cases h

/-! ### 21 onceweb/oncewebbase.CopyValue -/
def F_base_CopyValue : FnD := { n := 6, rs := [2] }
set_option maxRecDepth 100000 in
theorem ok_base_CopyValue (v : (List tAtom)) (r : (List tAtom)) (h : base_CopyValue v = some r) : APure X0 21 ([.s (.sl 4 tyAtom) v].map DT.toT) (resT ([.own 48 tyAtom r].map DT.toT)) := by
  refine APure_of_straight (F := F_base_CopyValue) (fuel := 3000) (E := E_ref07_Text) Yok E_ref07_Text_ok mixed Try.func21 rfl rfl rfl (by decide) (args := [.s (.sl 4 tyAtom) v]) (Nat.le_of_ble_eq_true rfl) (by kernel_rfl) (fun r => [.own 48 tyAtom r]) ?_ h
  intro goto ret
  unfold base_CopyValue
  simp only [bnd_G, bnd_ite, bnd_bind, bnd_some, -eq_self]
  kernel_rfl
noncomputable def e_base_CopyValue : List DT → Option CallRes
  | [.s t0 y0] => (castT (b := (.sl 4 tyAtom)) y0).bind fun v => some ⟨(List tAtom), base_CopyValue v, fun r => .own 48 tyAtom r, ([] : List tAtom), true⟩
  | _ => none
noncomputable def E_base_CopyValue : Env := Env.add 21 e_base_CopyValue E_ref07_Text
theorem E_base_CopyValue_ok : EnvOk X0 E_base_CopyValue := by
  refine EnvOk.add E_ref07_Text_ok (fun args c h => ?_)
  unfold e_base_CopyValue at h
  split at h
  · obtain ⟨v0, c0, h⟩ := Option.bind_eq_some_iff.1 h
    obtain ⟨rfl, rfl⟩ := castT_some c0
    cases h
    exact ⟨fun r hr => .inl ⟨by kernel_rfl, ok_base_CopyValue _ r hr⟩, fun hb => fun r => noSl_res (by rfl)⟩
  · cases h

/-! ### 11 onceweb/onceweblaw07.copied -/
def F_law07_copied : FnD := { n := 21, rs := [2], labels := [(3, [0, 3, 4])] }
def lab_law07_copied : L_law07_copied → Nat × DSt
  | .l3 l out i => (3, [(0, .t (.s (.sl 1 (.sl 4 tyAtom)) l)), (3, .t (.own 24 (.sl 4 tyAtom) out)), (4, .t (.s (.int .i64) i))])
set_option maxRecDepth 100000 in
theorem ok_law07_copied (l : (List (List tAtom))) (r : (List (List tAtom))) (h : law07_copied l = some r) : APure X0 11 ([.s (.sl 1 (.sl 4 tyAtom)) l].map DT.toT) (resT ([.own 24 (.sl 4 tyAtom) r].map DT.toT)) := by
  refine APure_of_machine (F := F_law07_copied) (fuel := 3000) (E := E_base_CopyValue) Yok E_base_CopyValue_ok mixed Try.func11 rfl rfl rfl (by decide) (args := [.s (.sl 1 (.sl 4 tyAtom)) l]) (Nat.le_of_ble_eq_true rfl) (by kernel_rfl) lab_law07_copied st_law07_copied (fun r => [.own 24 (.sl 4 tyAtom) r]) ?_ ?_ ?_ h
  · intro l; cases l
    · exact WF_list ⟨trivial, trivial, trivial, trivial⟩
  · intro l goto ret; cases l with
    | l3 l out i =>
      show _ = push (sg_law07_copied_3 l out i) (fun l' => goto (lab_law07_copied l').1 (lab_law07_copied l').2) (fun r => ret [.own 24 (.sl 4 tyAtom) r])
      unfold sg_law07_copied_3
      simp only [push_G, push_ite, push_bind, push_inl, push_inr, -eq_self]
      kernel_rfl
  · intro goto ret
    show _ = push (en_law07_copied l) (fun l' => goto (lab_law07_copied l').1 (lab_law07_copied l').2) (fun r => ret [.own 24 (.sl 4 tyAtom) r])
    unfold en_law07_copied
    simp only [push_G, push_ite, push_bind, push_inl, push_inr, -eq_self]
    kernel_rfl
noncomputable def e_law07_copied : List DT → Option CallRes
  | [.s t0 y0] => (castT (b := (.sl 1 (.sl 4 tyAtom))) y0).bind fun l => some ⟨(List (List tAtom)), law07_copied l, fun r => .own 24 (.sl 4 tyAtom) r, ([] : List (List tAtom)), false⟩
  | _ => none
noncomputable def E_law07_copied : Env := Env.add 11 e_law07_copied E_base_CopyValue
theorem E_law07_copied_ok : EnvOk X0 E_law07_copied := by
  refine EnvOk.add E_base_CopyValue_ok (fun args c h => ?_)
  unfold e_law07_copied at h
  split at h
  · obtain ⟨v0, c0, h⟩ := Option.bind_eq_some_iff.1 h
    obtain ⟨rfl, rfl⟩ := castT_some c0
    cases h
    exact ⟨fun r hr => .inl ⟨by kernel_rfl, ok_law07_copied _ r hr⟩, fun hb => by cases hb⟩
  · cases h

/-! ### 45 onceweb/value.well -/
def F_value_well : FnD := { n := 56, rs := [2] }
set_option maxRecDepth 100000 in
theorem ok_value_well (a : tAtom) (r : Bool) (h : value_well a = some r) : APure X0 45 ([.s tyAtom a].map DT.toT) (resT ([.s .bool r].map DT.toT)) := by
  refine APure_of_straight (F := F_value_well) (fuel := 3000) (E := E_law07_copied) Yok E_law07_copied_ok mixed Try.func45 rfl rfl rfl (by decide) (args := [.s tyAtom a]) (Nat.le_of_ble_eq_true rfl) (by kernel_rfl) (fun r => [.s .bool r]) ?_ h
  intro goto ret
  unfold value_well
  simp only [bnd_G, bnd_ite, bnd_bind, bnd_some, -eq_self]
  kernel_rfl
noncomputable def e_value_well : List DT → Option CallRes
  | [.s t0 y0] => (castT (b := tyAtom) y0).bind fun a => some ⟨Bool, value_well a, fun r => .s .bool r, false, true⟩
  | _ => none
noncomputable def E_value_well : Env := Env.add 45 e_value_well E_law07_copied
theorem E_value_well_ok : EnvOk X0 E_value_well := by
  refine EnvOk.add E_law07_copied_ok (fun args c h => ?_)
  unfold e_value_well at h
  split at h
  · obtain ⟨v0, c0, h⟩ := Option.bind_eq_some_iff.1 h
    obtain ⟨rfl, rfl⟩ := castT_some c0
    cases h
    exact ⟨fun r hr => .inl ⟨by kernel_rfl, ok_value_well _ r hr⟩, fun hb => fun r => noSl_res (by rfl)⟩
  · cases h

/-! ### 33 onceweb/value.wholes -/
def F_value_wholes : FnD := { n := 80, rs := [2, 3], labels := [(3, [4, 5, 16, 17, 18]), (10, [4, 5, 6, 8, 9, 16, 17, 18, 42, 43, 44])] }
def lab_value_wholes : L_value_wholes → Nat × DSt
  | .l3 out stack x16 x17 x18 => (3, [(4, .t (.own 68 tywhole out)), (5, .t (.own 68 tywhole stack)), (16, .t (.s (.sl 4 tyAtom) x16)), (17, .t (.s (.int .i64) x17)), (18, .t (.s (.int .i64) x18))])
  | .l10 out stack i k w w' x16 x17 x18 x42 x42' x43 x44 => (10, [(4, .t (.own 68 tywhole out)), (5, .t (.own 68 tywhole stack)), (6, .t (.s (.int .i64) i)), (8, .t (.s (.int .i64) k)), (9, .t (.box 68 [.s (.int .i64) w, .s (.int .i64) w'])), (16, .t (.s (.sl 4 tyAtom) x16)), (17, .t (.s (.int .i64) x17)), (18, .t (.s (.int .i64) x18)), (42, .ref 5 none x42 x42' .mid), (43, .t (.s (.int .i64) x43)), (44, .t (.s (.int .i64) x44))])
set_option maxRecDepth 100000 in
theorem ok_value_wholes (v : (List tAtom)) (r : ((List twhole) × Bool)) (h : value_wholes v = some r) : APure X0 33 ([.s (.sl 4 tyAtom) v].map DT.toT) (resT ([.own 68 tywhole r.1, .s .bool r.2].map DT.toT)) := by
  refine APure_of_machine (F := F_value_wholes) (fuel := 3000) (E := E_value_well) Yok E_value_well_ok mixed Try.func33 rfl rfl rfl (by decide) (args := [.s (.sl 4 tyAtom) v]) (Nat.le_of_ble_eq_true rfl) (by kernel_rfl) lab_value_wholes st_value_wholes (fun r => [.own 68 tywhole r.1, .s .bool r.2]) ?_ ?_ ?_ h
  · intro l; cases l
    · exact WF_list ⟨trivial, trivial, trivial, trivial, trivial, trivial⟩
    · exact WF_list ⟨trivial, trivial, trivial, trivial, trivial, trivial, trivial, trivial, .inl rfl, trivial, trivial, trivial⟩
  · intro l goto ret; cases l with
    | l3 out stack x16 x17 x18 =>
      show _ = push (sg_value_wholes_3 out stack x16 x17 x18) (fun l' => goto (lab_value_wholes l').1 (lab_value_wholes l').2) (fun r => ret [.own 68 tywhole r.1, .s .bool r.2])
      unfold sg_value_wholes_3
      simp only [push_G, push_ite, push_bind, push_inl, push_inr, -eq_self]
      kernel_rfl
    | l10 out stack i k w w' x16 x17 x18 x42 x42' x43 x44 =>
      show _ = push (sg_value_wholes_10 out stack i k w w' x16 x17 x18 x42 x42' x43 x44) (fun l' => goto (lab_value_wholes l').1 (lab_value_wholes l').2) (fun r => ret [.own 68 tywhole r.1, .s .bool r.2])
      unfold sg_value_wholes_10
      simp only [push_G, push_ite, push_bind, push_inl, push_inr, -eq_self]
      kernel_rfl
  · intro goto ret
    show _ = push (en_value_wholes v) (fun l' => goto (lab_value_wholes l').1 (lab_value_wholes l').2) (fun r => ret [.own 68 tywhole r.1, .s .bool r.2])
    unfold en_value_wholes
    simp only [push_G, push_ite, push_bind, push_inl, push_inr, -eq_self]
    kernel_rfl
noncomputable def e_value_wholes : List DT → Option CallRes
  | [.s t0 y0] => (castT (b := (.sl 4 tyAtom)) y0).bind fun v => some ⟨((List twhole) × Bool), value_wholes v, fun r => .tup [.own 68 tywhole r.1, .s .bool r.2], (([] : List twhole), false), true⟩
  | _ => none
noncomputable def E_value_wholes : Env := Env.add 33 e_value_wholes E_value_well
theorem E_value_wholes_ok : EnvOk X0 E_value_wholes := by
  refine EnvOk.add E_value_well_ok (fun args c h => ?_)
  unfold e_value_wholes at h
  split at h
  · obtain ⟨v0, c0, h⟩ := Option.bind_eq_some_iff.1 h
    obtain ⟨rfl, rfl⟩ := castT_some c0
    cases h
    exact ⟨fun r hr => .inl ⟨by kernel_rfl, ok_value_wholes _ r hr⟩, fun hb => fun r => noSl_res (by rfl)⟩
  · cases h

/-! ### 15 onceweb/value.Check -/
def F_value_Check : FnD := { n := 15, rs := [2] }
set_option maxRecDepth 100000 in
theorem ok_value_Check (v : (List tAtom)) (r : Int) (h : value_Check v = some r) : APure X0 15 ([.s (.sl 4 tyAtom) v].map DT.toT) (resT ([.s (.int .i64) r].map DT.toT)) := by
  refine APure_of_straight (F := F_value_Check) (fuel := 3000) (E := E_value_wholes) Yok E_value_wholes_ok mixed Try.func15 rfl rfl rfl (by decide) (args := [.s (.sl 4 tyAtom) v]) (Nat.le_of_ble_eq_true rfl) (by kernel_rfl) (fun r => [.s (.int .i64) r]) ?_ h
  intro goto ret
  unfold value_Check
  simp only [bnd_G, bnd_ite, bnd_bind, bnd_some, -eq_self]
  kernel_rfl
noncomputable def e_value_Check : List DT → Option CallRes
  | [.s t0 y0] => (castT (b := (.sl 4 tyAtom)) y0).bind fun v => some ⟨Int, value_Check v, fun r => .s (.int .i64) r, (0 : Int), true⟩
  | _ => none
noncomputable def E_value_Check : Env := Env.add 15 e_value_Check E_value_wholes
theorem E_value_Check_ok : EnvOk X0 E_value_Check := by
  refine EnvOk.add E_value_wholes_ok (fun args c h => ?_)
  unfold e_value_Check at h
  split at h
  · obtain ⟨v0, c0, h⟩ := Option.bind_eq_some_iff.1 h
    obtain ⟨rfl, rfl⟩ := castT_some c0
    cases h
    exact ⟨fun r hr => .inl ⟨by kernel_rfl, ok_value_Check _ r hr⟩, fun hb => fun r => noSl_res (by rfl)⟩
  · cases h

/-! ### 29 onceweb/value.first -/
def F_value_first : FnD := { n := 18, rs := [2], labels := [(2, [6, 7, 8])] }
def lab_value_first : L_value_first → Nat × DSt
  | .l2 x6 x7 x8 => (2, [(6, .t (.s (.sl 1 (.sl 4 tyAtom)) x6)), (7, .t (.s (.int .i64) x7)), (8, .t (.s (.int .i64) x8))])
set_option maxRecDepth 100000 in
theorem ok_value_first (l : (List (List tAtom))) (r : Int) (h : value_first l = some r) : APure X0 29 ([.s (.sl 1 (.sl 4 tyAtom)) l].map DT.toT) (resT ([.s (.int .i64) r].map DT.toT)) := by
  refine APure_of_machine (F := F_value_first) (fuel := 3000) (E := E_value_Check) Yok E_value_Check_ok mixed Try.func29 rfl rfl rfl (by decide) (args := [.s (.sl 1 (.sl 4 tyAtom)) l]) (Nat.le_of_ble_eq_true rfl) (by kernel_rfl) lab_value_first st_value_first (fun r => [.s (.int .i64) r]) ?_ ?_ ?_ h
  · intro l; cases l
    · exact WF_list ⟨trivial, trivial, trivial, trivial⟩
  · intro l goto ret; cases l with
    | l2 x6 x7 x8 =>
      show _ = push (sg_value_first_2 x6 x7 x8) (fun l' => goto (lab_value_first l').1 (lab_value_first l').2) (fun r => ret [.s (.int .i64) r])
      unfold sg_value_first_2
      simp only [push_G, push_ite, push_bind, push_inl, push_inr, -eq_self]
      kernel_rfl
  · intro goto ret
    show _ = push (en_value_first l) (fun l' => goto (lab_value_first l').1 (lab_value_first l').2) (fun r => ret [.s (.int .i64) r])
    unfold en_value_first
    simp only [push_G, push_ite, push_bind, push_inl, push_inr, -eq_self]
    kernel_rfl
noncomputable def e_value_first : List DT → Option CallRes
  | [.s t0 y0] => (castT (b := (.sl 1 (.sl 4 tyAtom))) y0).bind fun l => some ⟨Int, value_first l, fun r => .s (.int .i64) r, (0 : Int), true⟩
  | _ => none
noncomputable def E_value_first : Env := Env.add 29 e_value_first E_value_Check
theorem E_value_first_ok : EnvOk X0 E_value_first := by
  refine EnvOk.add E_value_Check_ok (fun args c h => ?_)
  unfold e_value_first at h
  split at h
  · obtain ⟨v0, c0, h⟩ := Option.bind_eq_some_iff.1 h
    obtain ⟨rfl, rfl⟩ := castT_some c0
    cases h
    exact ⟨fun r hr => .inl ⟨by kernel_rfl, ok_value_first _ r hr⟩, fun hb => fun r => noSl_res (by rfl)⟩
  · cases h

/-! ### 30 onceweb/value.made -/
def F_value_made : FnD := { n := 33, rs := [2, 3], labels := [(3, [0, 4, 7, 8, 9])] }
def lab_value_made : L_value_made → Nat × DSt
  | .l3 l out x7 x8 x9 => (3, [(0, .t (.s (.sl 1 (.sl 4 tyAtom)) l)), (4, .t (.own 48 tyAtom out)), (7, .t (.s (.sl 1 (.sl 4 tyAtom)) x7)), (8, .t (.s (.int .i64) x8)), (9, .t (.s (.int .i64) x9))])
set_option maxRecDepth 100000 in
theorem ok_value_made (l : (List (List tAtom))) (r : ((List tAtom) × Bool)) (h : value_made l = some r) : APure X0 30 ([.s (.sl 1 (.sl 4 tyAtom)) l].map DT.toT) (resT ([.own 48 tyAtom r.1, .s .bool r.2].map DT.toT)) := by
  refine APure_of_machine (F := F_value_made) (fuel := 3000) (E := E_value_first) Yok E_value_first_ok mixed Try.func30 rfl rfl rfl (by decide) (args := [.s (.sl 1 (.sl 4 tyAtom)) l]) (Nat.le_of_ble_eq_true rfl) (by kernel_rfl) lab_value_made st_value_made (fun r => [.own 48 tyAtom r.1, .s .bool r.2]) ?_ ?_ ?_ h
  · intro l; cases l
    · exact WF_list ⟨trivial, trivial, trivial, trivial, trivial, trivial⟩
  · intro l goto ret; cases l with
    | l3 l out x7 x8 x9 =>
      show _ = push (sg_value_made_3 l out x7 x8 x9) (fun l' => goto (lab_value_made l').1 (lab_value_made l').2) (fun r => ret [.own 48 tyAtom r.1, .s .bool r.2])
      unfold sg_value_made_3
      simp only [push_G, push_ite, push_bind, push_inl, push_inr, -eq_self]
      kernel_rfl
  · intro goto ret
    show _ = push (en_value_made l) (fun l' => goto (lab_value_made l').1 (lab_value_made l').2) (fun r => ret [.own 48 tyAtom r.1, .s .bool r.2])
    unfold en_value_made
    simp only [push_G, push_ite, push_bind, push_inl, push_inr, -eq_self]
    kernel_rfl
noncomputable def e_value_made : List DT → Option CallRes
  | [.s t0 y0] => (castT (b := (.sl 1 (.sl 4 tyAtom))) y0).bind fun l => some ⟨((List tAtom) × Bool), value_made l, fun r => .tup [.own 48 tyAtom r.1, .s .bool r.2], (([] : List tAtom), false), true⟩
  | _ => none
noncomputable def E_value_made : Env := Env.add 30 e_value_made E_value_first
theorem E_value_made_ok : EnvOk X0 E_value_made := by
  refine EnvOk.add E_value_first_ok (fun args c h => ?_)
  unfold e_value_made at h
  split at h
  · obtain ⟨v0, c0, h⟩ := Option.bind_eq_some_iff.1 h
    obtain ⟨rfl, rfl⟩ := castT_some c0
    cases h
    exact ⟨fun r hr => .inl ⟨by kernel_rfl, ok_value_made _ r hr⟩, fun hb => fun r => noSl_res (by rfl)⟩
  · cases h

/-! ### 12 onceweb/value.List -/
def F_value_List : FnD := { n := 23, rs := [2, 3] }
set_option maxRecDepth 100000 in
theorem ok_value_List (l : (List (List tAtom))) (r : ((List tAtom) × Int)) (h : value_List l = some r) : APure X0 12 ([.s (.sl 1 (.sl 4 tyAtom)) l].map DT.toT) (resT ([.own 48 tyAtom r.1, .s (.int .i64) r.2].map DT.toT)) := by
  refine APure_of_straight (F := F_value_List) (fuel := 3000) (E := E_value_made) Yok E_value_made_ok mixed Try.func12 rfl rfl rfl (by decide) (args := [.s (.sl 1 (.sl 4 tyAtom)) l]) (Nat.le_of_ble_eq_true rfl) (by kernel_rfl) (fun r => [.own 48 tyAtom r.1, .s (.int .i64) r.2]) ?_ h
  intro goto ret
  unfold value_List
  simp only [bnd_G, bnd_ite, bnd_bind, bnd_some, -eq_self]
  kernel_rfl
noncomputable def e_value_List : List DT → Option CallRes
  | [.s t0 y0] => (castT (b := (.sl 1 (.sl 4 tyAtom))) y0).bind fun l => some ⟨((List tAtom) × Int), value_List l, fun r => .tup [.own 48 tyAtom r.1, .s (.int .i64) r.2], (([] : List tAtom), (0 : Int)), true⟩
  | _ => none
noncomputable def E_value_List : Env := Env.add 12 e_value_List E_value_made
theorem E_value_List_ok : EnvOk X0 E_value_List := by
  refine EnvOk.add E_value_made_ok (fun args c h => ?_)
  unfold e_value_List at h
  split at h
  · obtain ⟨v0, c0, h⟩ := Option.bind_eq_some_iff.1 h
    obtain ⟨rfl, rfl⟩ := castT_some c0
    cases h
    exact ⟨fun r hr => .inl ⟨by kernel_rfl, ok_value_List _ r hr⟩, fun hb => fun r => noSl_res (by rfl)⟩
  · cases h

/-! ### 46 onceweb/oncewebref07.atom -/
def F_ref07_atom : FnD := { n := 56, rs := [2] }
set_option maxRecDepth 100000 in
theorem ok_ref07_atom (a : tAtom) (r : Bool) (h : ref07_atom a = some r) : APure X0 46 ([.s tyAtom a].map DT.toT) (resT ([.s .bool r].map DT.toT)) := by
  refine APure_of_straight (F := F_ref07_atom) (fuel := 3000) (E := E_value_List) Yok E_value_List_ok mixed Try.func46 rfl rfl rfl (by decide) (args := [.s tyAtom a]) (Nat.le_of_ble_eq_true rfl) (by kernel_rfl) (fun r => [.s .bool r]) ?_ h
  intro goto ret
  unfold ref07_atom
  simp only [bnd_G, bnd_ite, bnd_bind, bnd_some, -eq_self]
  kernel_rfl
noncomputable def e_ref07_atom : List DT → Option CallRes
  | [.s t0 y0] => (castT (b := tyAtom) y0).bind fun a => some ⟨Bool, ref07_atom a, fun r => .s .bool r, false, true⟩
  | _ => none
noncomputable def E_ref07_atom : Env := Env.add 46 e_ref07_atom E_value_List
theorem E_ref07_atom_ok : EnvOk X0 E_ref07_atom := by
  refine EnvOk.add E_value_List_ok (fun args c h => ?_)
  unfold e_ref07_atom at h
  split at h
  · obtain ⟨v0, c0, h⟩ := Option.bind_eq_some_iff.1 h
    obtain ⟨rfl, rfl⟩ := castT_some c0
    cases h
    exact ⟨fun r hr => .inl ⟨by kernel_rfl, ok_ref07_atom _ r hr⟩, fun hb => fun r => noSl_res (by rfl)⟩
  · cases h

/-! ### 34 onceweb/oncewebref07.begins -/
def F_ref07_begins : FnD := { n := 96, rs := [2, 3, 4], labels := [(5, [0, 5, 6, 7, 8]), (15, [0, 5, 6, 7, 8, 9, 10, 11, 12]), (20, [0, 5, 6, 7, 8, 10, 11])] }
def lab_ref07_begins : L_ref07_begins → Nat × DSt
  | .l5 v from_ stack deep i => (5, [(0, .t (.s (.sl 4 tyAtom) v)), (5, .t (.own 3 (.int .i64) from_)), (6, .t (.own 3 (.int .i64) stack)), (7, .t (.own 3 (.int .i64) deep)), (8, .t (.s (.int .i64) i))])
  | .l15 v from_ stack deep i n b d k => (15, [(0, .t (.s (.sl 4 tyAtom) v)), (5, .t (.own 3 (.int .i64) from_)), (6, .t (.own 3 (.int .i64) stack)), (7, .t (.own 3 (.int .i64) deep)), (8, .t (.s (.int .i64) i)), (9, .t (.s (.int .i64) n)), (10, .t (.s (.int .i64) b)), (11, .t (.s (.int .i64) d)), (12, .t (.s (.int .i64) k))])
  | .l20 v from_ stack deep i b d => (20, [(0, .t (.s (.sl 4 tyAtom) v)), (5, .t (.own 3 (.int .i64) from_)), (6, .t (.own 3 (.int .i64) stack)), (7, .t (.own 3 (.int .i64) deep)), (8, .t (.s (.int .i64) i)), (10, .t (.s (.int .i64) b)), (11, .t (.s (.int .i64) d))])
set_option maxRecDepth 100000 in
theorem ok_ref07_begins (v : (List tAtom)) (r : ((List Int) × Int × Bool)) (h : ref07_begins v = some r) : APure X0 34 ([.s (.sl 4 tyAtom) v].map DT.toT) (resT ([.own 3 (.int .i64) r.1, .s (.int .i64) r.2.1, .s .bool r.2.2].map DT.toT)) := by
  refine APure_of_machine (F := F_ref07_begins) (fuel := 3000) (E := E_ref07_atom) Yok E_ref07_atom_ok mixed Try.func34 rfl rfl rfl (by decide) (args := [.s (.sl 4 tyAtom) v]) (Nat.le_of_ble_eq_true rfl) (by kernel_rfl) lab_ref07_begins st_ref07_begins (fun r => [.own 3 (.int .i64) r.1, .s (.int .i64) r.2.1, .s .bool r.2.2]) ?_ ?_ ?_ h
  · intro l; cases l
    · exact WF_list ⟨trivial, trivial, trivial, trivial, trivial, trivial⟩
    · exact WF_list ⟨trivial, trivial, trivial, trivial, trivial, trivial, trivial, trivial, trivial, trivial⟩
    · exact WF_list ⟨trivial, trivial, trivial, trivial, trivial, trivial, trivial, trivial⟩
  · intro l goto ret; cases l with
    | l5 v from_ stack deep i =>
      show _ = push (sg_ref07_begins_5 v from_ stack deep i) (fun l' => goto (lab_ref07_begins l').1 (lab_ref07_begins l').2) (fun r => ret [.own 3 (.int .i64) r.1, .s (.int .i64) r.2.1, .s .bool r.2.2])
      unfold sg_ref07_begins_5
      simp only [push_G, push_ite, push_bind, push_inl, push_inr, -eq_self]
      kernel_rfl
    | l15 v from_ stack deep i n b d k =>
      show _ = push (sg_ref07_begins_15 v from_ stack deep i n b d k) (fun l' => goto (lab_ref07_begins l').1 (lab_ref07_begins l').2) (fun r => ret [.own 3 (.int .i64) r.1, .s (.int .i64) r.2.1, .s .bool r.2.2])
      unfold sg_ref07_begins_15
      simp only [push_G, push_ite, push_bind, push_inl, push_inr, -eq_self]
      kernel_rfl
    | l20 v from_ stack deep i b d =>
      show _ = push (sg_ref07_begins_20 v from_ stack deep i b d) (fun l' => goto (lab_ref07_begins l').1 (lab_ref07_begins l').2) (fun r => ret [.own 3 (.int .i64) r.1, .s (.int .i64) r.2.1, .s .bool r.2.2])
      unfold sg_ref07_begins_20
      simp only [push_G, push_ite, push_bind, push_inl, push_inr, -eq_self]
      kernel_rfl
  · intro goto ret
    show _ = push (en_ref07_begins v) (fun l' => goto (lab_ref07_begins l').1 (lab_ref07_begins l').2) (fun r => ret [.own 3 (.int .i64) r.1, .s (.int .i64) r.2.1, .s .bool r.2.2])
    unfold en_ref07_begins
    simp only [push_G, push_ite, push_bind, push_inl, push_inr, -eq_self]
    kernel_rfl
noncomputable def e_ref07_begins : List DT → Option CallRes
  | [.s t0 y0] => (castT (b := (.sl 4 tyAtom)) y0).bind fun v => some ⟨((List Int) × Int × Bool), ref07_begins v, fun r => .tup [.own 3 (.int .i64) r.1, .s (.int .i64) r.2.1, .s .bool r.2.2], (([] : List Int), (0 : Int), false), true⟩
  | _ => none
noncomputable def E_ref07_begins : Env := Env.add 34 e_ref07_begins E_ref07_atom
theorem E_ref07_begins_ok : EnvOk X0 E_ref07_begins := by
  refine EnvOk.add E_ref07_atom_ok (fun args c h => ?_)
  unfold e_ref07_begins at h
  split at h
  · obtain ⟨v0, c0, h⟩ := Option.bind_eq_some_iff.1 h
    obtain ⟨rfl, rfl⟩ := castT_some c0
    cases h
    exact ⟨fun r hr => .inl ⟨by kernel_rfl, ok_ref07_begins _ r hr⟩, fun hb => fun r => noSl_res (by rfl)⟩
  · cases h

/-! ### 16 onceweb/oncewebref07.Check -/
def F_ref07_Check : FnD := { n := 21, rs := [2] }
set_option maxRecDepth 100000 in
theorem ok_ref07_Check (v : (List tAtom)) (r : Int) (h : ref07_Check v = some r) : APure X0 16 ([.s (.sl 4 tyAtom) v].map DT.toT) (resT ([.s (.int .i64) r].map DT.toT)) := by
  refine APure_of_straight (F := F_ref07_Check) (fuel := 3000) (E := E_ref07_begins) Yok E_ref07_begins_ok mixed Try.func16 rfl rfl rfl (by decide) (args := [.s (.sl 4 tyAtom) v]) (Nat.le_of_ble_eq_true rfl) (by kernel_rfl) (fun r => [.s (.int .i64) r]) ?_ h
  intro goto ret
  unfold ref07_Check
  simp only [bnd_G, bnd_ite, bnd_bind, bnd_some, -eq_self]
  kernel_rfl
noncomputable def e_ref07_Check : List DT → Option CallRes
  | [.s t0 y0] => (castT (b := (.sl 4 tyAtom)) y0).bind fun v => some ⟨Int, ref07_Check v, fun r => .s (.int .i64) r, (0 : Int), true⟩
  | _ => none
noncomputable def E_ref07_Check : Env := Env.add 16 e_ref07_Check E_ref07_begins
theorem E_ref07_Check_ok : EnvOk X0 E_ref07_Check := by
  refine EnvOk.add E_ref07_begins_ok (fun args c h => ?_)
  unfold e_ref07_Check at h
  split at h
  · obtain ⟨v0, c0, h⟩ := Option.bind_eq_some_iff.1 h
    obtain ⟨rfl, rfl⟩ := castT_some c0
    cases h
    exact ⟨fun r hr => .inl ⟨by kernel_rfl, ok_ref07_Check _ r hr⟩, fun hb => fun r => noSl_res (by rfl)⟩
  · cases h

/-! ### 31 onceweb/oncewebref07.first -/
def F_ref07_first : FnD := { n := 19, rs := [2], labels := [(2, [0, 3])] }
def lab_ref07_first : L_ref07_first → Nat × DSt
  | .l2 l i => (2, [(0, .t (.s (.sl 1 (.sl 4 tyAtom)) l)), (3, .t (.s (.int .i64) i))])
set_option maxRecDepth 100000 in
theorem ok_ref07_first (l : (List (List tAtom))) (r : Int) (h : ref07_first l = some r) : APure X0 31 ([.s (.sl 1 (.sl 4 tyAtom)) l].map DT.toT) (resT ([.s (.int .i64) r].map DT.toT)) := by
  refine APure_of_machine (F := F_ref07_first) (fuel := 3000) (E := E_ref07_Check) Yok E_ref07_Check_ok mixed Try.func31 rfl rfl rfl (by decide) (args := [.s (.sl 1 (.sl 4 tyAtom)) l]) (Nat.le_of_ble_eq_true rfl) (by kernel_rfl) lab_ref07_first st_ref07_first (fun r => [.s (.int .i64) r]) ?_ ?_ ?_ h
  · intro l; cases l
    · exact WF_list ⟨trivial, trivial, trivial⟩
  · intro l goto ret; cases l with
    | l2 l i =>
      show _ = push (sg_ref07_first_2 l i) (fun l' => goto (lab_ref07_first l').1 (lab_ref07_first l').2) (fun r => ret [.s (.int .i64) r])
      unfold sg_ref07_first_2
      simp only [push_G, push_ite, push_bind, push_inl, push_inr, -eq_self]
      kernel_rfl
  · intro goto ret
    show _ = push (en_ref07_first l) (fun l' => goto (lab_ref07_first l').1 (lab_ref07_first l').2) (fun r => ret [.s (.int .i64) r])
    unfold en_ref07_first
    simp only [push_G, push_ite, push_bind, push_inl, push_inr, -eq_self]
    kernel_rfl
noncomputable def e_ref07_first : List DT → Option CallRes
  | [.s t0 y0] => (castT (b := (.sl 1 (.sl 4 tyAtom))) y0).bind fun l => some ⟨Int, ref07_first l, fun r => .s (.int .i64) r, (0 : Int), true⟩
  | _ => none
noncomputable def E_ref07_first : Env := Env.add 31 e_ref07_first E_ref07_Check
theorem E_ref07_first_ok : EnvOk X0 E_ref07_first := by
  refine EnvOk.add E_ref07_Check_ok (fun args c h => ?_)
  unfold e_ref07_first at h
  split at h
  · obtain ⟨v0, c0, h⟩ := Option.bind_eq_some_iff.1 h
    obtain ⟨rfl, rfl⟩ := castT_some c0
    cases h
    exact ⟨fun r hr => .inl ⟨by kernel_rfl, ok_ref07_first _ r hr⟩, fun hb => fun r => noSl_res (by rfl)⟩
  · cases h

/-! ### 32 onceweb/oncewebref07.made -/
def F_ref07_made : FnD := { n := 38, rs := [2, 3], labels := [(3, [0, 4, 5])] }
def lab_ref07_made : L_ref07_made → Nat × DSt
  | .l3 l out i => (3, [(0, .t (.s (.sl 1 (.sl 4 tyAtom)) l)), (4, .t (.own 48 tyAtom out)), (5, .t (.s (.int .i64) i))])
set_option maxRecDepth 100000 in
theorem ok_ref07_made (l : (List (List tAtom))) (r : ((List tAtom) × Bool)) (h : ref07_made l = some r) : APure X0 32 ([.s (.sl 1 (.sl 4 tyAtom)) l].map DT.toT) (resT ([.own 48 tyAtom r.1, .s .bool r.2].map DT.toT)) := by
  refine APure_of_machine (F := F_ref07_made) (fuel := 3000) (E := E_ref07_first) Yok E_ref07_first_ok mixed Try.func32 rfl rfl rfl (by decide) (args := [.s (.sl 1 (.sl 4 tyAtom)) l]) (Nat.le_of_ble_eq_true rfl) (by kernel_rfl) lab_ref07_made st_ref07_made (fun r => [.own 48 tyAtom r.1, .s .bool r.2]) ?_ ?_ ?_ h
  · intro l; cases l
    · exact WF_list ⟨trivial, trivial, trivial, trivial⟩
  · intro l goto ret; cases l with
    | l3 l out i =>
      show _ = push (sg_ref07_made_3 l out i) (fun l' => goto (lab_ref07_made l').1 (lab_ref07_made l').2) (fun r => ret [.own 48 tyAtom r.1, .s .bool r.2])
      unfold sg_ref07_made_3
      simp only [push_G, push_ite, push_bind, push_inl, push_inr, -eq_self]
      kernel_rfl
  · intro goto ret
    show _ = push (en_ref07_made l) (fun l' => goto (lab_ref07_made l').1 (lab_ref07_made l').2) (fun r => ret [.own 48 tyAtom r.1, .s .bool r.2])
    unfold en_ref07_made
    simp only [push_G, push_ite, push_bind, push_inl, push_inr, -eq_self]
    kernel_rfl
noncomputable def e_ref07_made : List DT → Option CallRes
  | [.s t0 y0] => (castT (b := (.sl 1 (.sl 4 tyAtom))) y0).bind fun l => some ⟨((List tAtom) × Bool), ref07_made l, fun r => .tup [.own 48 tyAtom r.1, .s .bool r.2], (([] : List tAtom), false), true⟩
  | _ => none
noncomputable def E_ref07_made : Env := Env.add 32 e_ref07_made E_ref07_first
theorem E_ref07_made_ok : EnvOk X0 E_ref07_made := by
  refine EnvOk.add E_ref07_first_ok (fun args c h => ?_)
  unfold e_ref07_made at h
  split at h
  · obtain ⟨v0, c0, h⟩ := Option.bind_eq_some_iff.1 h
    obtain ⟨rfl, rfl⟩ := castT_some c0
    cases h
    exact ⟨fun r hr => .inl ⟨by kernel_rfl, ok_ref07_made _ r hr⟩, fun hb => fun r => noSl_res (by rfl)⟩
  · cases h

/-! ### 13 onceweb/oncewebref07.List -/
def F_ref07_List : FnD := { n := 23, rs := [2, 3] }
set_option maxRecDepth 100000 in
theorem ok_ref07_List (l : (List (List tAtom))) (r : ((List tAtom) × Int)) (h : ref07_List l = some r) : APure X0 13 ([.s (.sl 1 (.sl 4 tyAtom)) l].map DT.toT) (resT ([.own 48 tyAtom r.1, .s (.int .i64) r.2].map DT.toT)) := by
  refine APure_of_straight (F := F_ref07_List) (fuel := 3000) (E := E_ref07_made) Yok E_ref07_made_ok mixed Try.func13 rfl rfl rfl (by decide) (args := [.s (.sl 1 (.sl 4 tyAtom)) l]) (Nat.le_of_ble_eq_true rfl) (by kernel_rfl) (fun r => [.own 48 tyAtom r.1, .s (.int .i64) r.2]) ?_ h
  intro goto ret
  unfold ref07_List
  simp only [bnd_G, bnd_ite, bnd_bind, bnd_some, -eq_self]
  kernel_rfl
noncomputable def e_ref07_List : List DT → Option CallRes
  | [.s t0 y0] => (castT (b := (.sl 1 (.sl 4 tyAtom))) y0).bind fun l => some ⟨((List tAtom) × Int), ref07_List l, fun r => .tup [.own 48 tyAtom r.1, .s (.int .i64) r.2], (([] : List tAtom), (0 : Int)), true⟩
  | _ => none
noncomputable def E_ref07_List : Env := Env.add 13 e_ref07_List E_ref07_made
theorem E_ref07_List_ok : EnvOk X0 E_ref07_List := by
  refine EnvOk.add E_ref07_made_ok (fun args c h => ?_)
  unfold e_ref07_List at h
  split at h
  · obtain ⟨v0, c0, h⟩ := Option.bind_eq_some_iff.1 h
    obtain ⟨rfl, rfl⟩ := castT_some c0
    cases h
    exact ⟨fun r hr => .inl ⟨by kernel_rfl, ok_ref07_List _ r hr⟩, fun hb => fun r => noSl_res (by rfl)⟩
  · cases h

/-! ### 14 law07_spoil: it writes over what it is lent -/
def c_law07_spoil : List Value := valsT tyAtom (((-7 : Int), (0 : Int), (0 : Int), ([] : List UInt8), ()) : tAtom)
theorem info_law07_spoil : ∃ inf, Try.prog.info? 48 = some inf ∧ inf.size = c_law07_spoil.length := by
  refine ⟨(Try.prog.info? 48).getD default, ?_, by kernel_rfl⟩
  kernel_rfl
set_option maxRecDepth 100000 in
theorem walk_law07_spoil (w : World) (g n cap : Nat) (cur : Array Value) (e : TypeId) (hg : w.heap[g]? = some (.cells cur e (0, 0))) (hcur : cur.size = cap * c_law07_spoil.length) (hn : n ≤ cap) (hcap : cap ≤ maxLen) :
    Calls Try.prog 14 #[.slice (some ⟨g, 0, none⟩) n cap] w fun e' w' => e' = .returned (.tuple #[]) ∧ But g w w' ∧ ∃ cur' : Array Value, w'.heap[g]? = some (.cells cur' e (0, 0)) ∧ cur'.toList = rowsOf c_law07_spoil cap := by
  obtain ⟨inf, hinf, hsz⟩ := info_law07_spoil
  have hcm : (cap : Int) ≤ 9223372036854775807 := by unfold maxLen at hcap; omega
  go_enter Try.func14, Try.ntmps14
  go_wp2
  refine spoil_loop (n := 17) (s0 := 0) (s2 := 2) (c := 10) (g := g) (cap := cap) (cs := c_law07_spoil) (e := e) ?_ ?_ ?_ ⟨rfl, rfl, rfl⟩ hg hcur ?_
  · intro tmps w i Q hs hQ
    refine spoil_head (ts := 24) (te := 48) (ti := 3) (s0 := 0) (s2 := 2) (d1 := 7) (d2 := 8) (d3 := 9) (d4 := 10) rfl rfl rfl rfl rfl rfl rfl rfl rfl rfl rfl rfl (by rw [hs.size]; decide) hs.sl hs.ix (by kernel_rfl) (fun t' h1 h2 h3 => hQ t' ⟨by rw [h1, hs.size], by rw [h3 0 (by decide) (by decide) (by decide) (by decide), hs.sl], by rw [h3 2 (by decide) (by decide) (by decide) (by decide), hs.ix]⟩ h2)
  · intro tmps w i Q cur hs hi hg hcur hQ
    refine spoil_body (ts := 24) (te := 48) (s0 := 0) (s2 := 2) (d1 := 13) (d2 := 14) (d3 := 15) (d4 := 16) rfl rfl rfl rfl rfl rfl rfl rfl rfl rfl rfl rfl rfl rfl rfl (by rw [hs.size]; decide) hs.sl hs.ix hi (by kernel_rfl) hinf hsz (by kernel_rfl) (by decide) (fun ev w => by kernel_rfl) hg hcur (fun t' h1 h2 => hQ t' ⟨by rw [h1, hs.size], by rw [h2 0 (by decide) (by decide) (by decide) (by decide), hs.sl], by rw [h2 2 (by decide) (by decide) (by decide) (by decide), hs.ix]⟩)
  · intro tmps w i Q hs hi hQ
    refine spoil_tail (s2 := 2) (d1 := 11) (d2 := 12) rfl rfl rfl rfl rfl rfl rfl rfl rfl (by rw [hs.size]; decide) hs.ix (by omega) (fun t' h1 h2 h3 => hQ t' ⟨by rw [h1, hs.size], by rw [h3 0 (by decide) (by decide) (by decide), hs.sl], h2⟩)
  · intro tmps' cur' w' h1 h2 h3 h4
    simp only [Exit.inBlock, if_true]
    exact ⟨rfl, .tuple #[], by kernel_rfl, rfl, h1, cur', h2, h3⟩
set_option maxRecDepth 100000 in
theorem nil_law07_spoil (w : World) : Calls Try.prog 14 #[.slice none 0 0] w fun e' w' => e' = .returned (.tuple #[]) ∧ w' = w := by
  go_enter Try.func14, Try.ntmps14
  go_wp2
  refine wp_loop_once ?_
  go_wp2
  exact ⟨rfl, .tuple #[], by kernel_rfl, rfl, rfl⟩
theorem ok_law07_spoil (l : List tAtom) : ACall X0 14 [(DT.own 48 tyAtom l).toT] (.tup []) [(DT.own 48 tyAtom (List.replicate l.length (((-7 : Int), (0 : Int), (0 : Int), ([] : List UInt8), ()) : tAtom))).toT] :=
  spoil_call (X := X0) (t := tyAtom) (((-7 : Int), (0 : Int), (0 : Int), ([] : List UInt8), ()) : tAtom) rfl rfl nil_law07_spoil (fun w g n cap cur hg hcur hn hcap => walk_law07_spoil w g n cap cur 48 hg hcur hn hcap) l
noncomputable def e_law07_spoil : List DT → Option CallRes
  | [.tup [.own e t l]] => (castT (a := .sl 1 t) (b := .sl 1 tyAtom) l).bind fun l => match Nat.beq e 48 with
    | true => some ⟨List tAtom, some (List.replicate (l : List tAtom).length (((-7 : Int), (0 : Int), (0 : Int), ([] : List UInt8), ()) : tAtom)), fun r => .own 48 tyAtom r, [], false⟩
    | false => none
  | _ => none
noncomputable def E_law07_spoil : Env := Env.add 14 e_law07_spoil E_ref07_List
theorem E_law07_spoil_ok : EnvOk X0 E_law07_spoil := by
  refine EnvOk.add E_ref07_List_ok (fun args c h => ?_)
  unfold e_law07_spoil at h
  split at h
  · rename_i e t l
    obtain ⟨l1, c1, h⟩ := Option.bind_eq_some_iff.1 h
    obtain ⟨q0, q1⟩ := castT_some c1
    injection q0 with _ q0
    subst q0
    subst q1
    split at h
    · rename_i h0
      have h0 := Nat.eq_of_beq_eq_true h0
      subst h0
      cases h
      intro r hr l' hl'
      cases hr
      cases hl'
      exact ⟨by kernel_rfl, ok_law07_spoil _, rfl⟩
    · cases h
  · cases h


/-! ### 35 onceweb/value.top -/
def F_value_top : FnD := { n := 9, rs := [2], cl := [(2, 48)] }
set_option maxRecDepth 100000 in
theorem ok_value_top (v : (List tAtom)) (r : tAtom) (h : value_top v = some r) : APure X0 35 ([.s (.sl 4 tyAtom) v].map DT.toT) (resT ([.s tyAtom r].map DT.toT)) := by
  refine APure_of_straight (F := F_value_top) (fuel := 3000) (E := E_law07_spoil) Yok E_law07_spoil_ok mixed Try.func35 rfl rfl rfl (by decide) (args := [.s (.sl 4 tyAtom) v]) (Nat.le_of_ble_eq_true rfl) (by kernel_rfl) (fun r => [.s tyAtom r]) ?_ h
  intro goto ret
  unfold value_top
  simp only [bnd_G, bnd_ite, bnd_bind, bnd_some, -eq_self]
  kernel_rfl
noncomputable def e_value_top : List DT → Option CallRes
  | [.s t0 y0] => (castT (b := (.sl 4 tyAtom)) y0).bind fun v => some ⟨tAtom, value_top v, fun r => .s tyAtom r, dAtom, true⟩
  | _ => none
noncomputable def E_value_top : Env := Env.add 35 e_value_top E_law07_spoil
theorem E_value_top_ok : EnvOk X0 E_value_top := by
  refine EnvOk.add E_law07_spoil_ok (fun args c h => ?_)
  unfold e_value_top at h
  split at h
  · obtain ⟨v0, c0, h⟩ := Option.bind_eq_some_iff.1 h
    obtain ⟨rfl, rfl⟩ := castT_some c0
    cases h
    exact ⟨fun r hr => .inl ⟨by kernel_rfl, ok_value_top _ r hr⟩, fun hb => fun r => noSl_res (by rfl)⟩
  · cases h

/-! ### 36 onceweb/value.members -/
def F_value_members : FnD := { n := 44, rs := [2], labels := [(5, [0, 3, 5, 6, 7])] }
def lab_value_members : L_value_members → Nat × DSt
  | .l5 v w out end_ i => (5, [(0, .t (.s (.sl 4 tyAtom) v)), (3, .t (.own 68 tywhole w)), (5, .t (.own 24 (.sl 4 tyAtom) out)), (6, .t (.s (.int .i64) end_)), (7, .t (.s (.int .i64) i))])
set_option maxRecDepth 100000 in
theorem ok_value_members (v : (List tAtom)) (r : (List (List tAtom))) (h : value_members v = some r) : APure X0 36 ([.s (.sl 4 tyAtom) v].map DT.toT) (resT ([.own 24 (.sl 4 tyAtom) r].map DT.toT)) := by
  refine APure_of_machine (F := F_value_members) (fuel := 3000) (E := E_value_top) Yok E_value_top_ok mixed Try.func36 rfl rfl rfl (by decide) (args := [.s (.sl 4 tyAtom) v]) (Nat.le_of_ble_eq_true rfl) (by kernel_rfl) lab_value_members st_value_members (fun r => [.own 24 (.sl 4 tyAtom) r]) ?_ ?_ ?_ h
  · intro l; cases l
    · exact WF_list ⟨trivial, trivial, trivial, trivial, trivial, trivial⟩
  · intro l goto ret; cases l with
    | l5 v w out end_ i =>
      show _ = push (sg_value_members_5 v w out end_ i) (fun l' => goto (lab_value_members l').1 (lab_value_members l').2) (fun r => ret [.own 24 (.sl 4 tyAtom) r])
      unfold sg_value_members_5
      simp only [push_G, push_ite, push_bind, push_inl, push_inr, -eq_self]
      kernel_rfl
  · intro goto ret
    show _ = push (en_value_members v) (fun l' => goto (lab_value_members l').1 (lab_value_members l').2) (fun r => ret [.own 24 (.sl 4 tyAtom) r])
    unfold en_value_members
    simp only [push_G, push_ite, push_bind, push_inl, push_inr, -eq_self]
    kernel_rfl
noncomputable def e_value_members : List DT → Option CallRes
  | [.s t0 y0] => (castT (b := (.sl 4 tyAtom)) y0).bind fun v => some ⟨(List (List tAtom)), value_members v, fun r => .own 24 (.sl 4 tyAtom) r, ([] : List (List tAtom)), false⟩
  | _ => none
noncomputable def E_value_members : Env := Env.add 36 e_value_members E_value_top
theorem E_value_members_ok : EnvOk X0 E_value_members := by
  refine EnvOk.add E_value_top_ok (fun args c h => ?_)
  unfold e_value_members at h
  split at h
  · obtain ⟨v0, c0, h⟩ := Option.bind_eq_some_iff.1 h
    obtain ⟨rfl, rfl⟩ := castT_some c0
    cases h
    exact ⟨fun r hr => .inl ⟨by kernel_rfl, ok_value_members _ r hr⟩, fun hb => by cases hb⟩
  · cases h

/-! ### 37 slices_Clone -/
def F_slices_Clone : FnD := { n := 8, rs := [2], labels := [(1, [0])] }
set_option maxRecDepth 100000 in
theorem ok_slices_Clone (s_ : List tAtom) (r : List tAtom) (h : slices_Clone s_ = some r) : APure X0 37 ([.s (.sl 4 tyAtom) s_].map DT.toT) (resT ([.own 48 tyAtom r].map DT.toT)) := by
  obtain ⟨hG, h⟩ := G_some h
  cases h
  refine APure_of_nil (e := 48) (F := F_slices_Clone) (fuel := 3000) (E := E_0) (ty := tyAtom) (l := s_) (id := 1) (s0 := 0) (d1 := 3) (d2 := 4) (st1 := [(0, .t (.s (.sl 4 tyAtom) s_))]) Yok E_0_ok mixed Try.func37 rfl rfl rfl (by decide) (args := [.s (.sl 4 tyAtom) s_]) (Nat.le_of_ble_eq_true rfl) (by kernel_rfl) rfl rfl rfl rfl rfl rfl rfl (by kernel_rfl) rfl (by kernel_rfl) (by kernel_rfl) (WF_list ⟨trivial, trivial⟩) (fun goto ret => by kernel_rfl) (fun b hb goto ret hret => ?_)
  cases b with
  | false =>
    refine Eq.trans (b := G ((([] : List tAtom).length + s_.length) * 40 ≤ 140737488355328) (ret [.own 48 tyAtom s_])) (by kernel_rfl) ?_
    rw [G_pos hG, hret]
  | true =>
    obtain rfl := hb rfl
    exact Eq.trans (b := ret [.own 48 tyAtom []]) (by kernel_rfl) hret
noncomputable def e_slices_Clone : List DT → Option CallRes
  | [.s t0 y0] => (castT (b := (.sl 4 tyAtom)) y0).bind fun s_ => some ⟨List tAtom, slices_Clone s_, fun r => .own 48 tyAtom r, [], true⟩
  | _ => none
noncomputable def E_slices_Clone : Env := Env.add 37 e_slices_Clone E_value_members
theorem E_slices_Clone_ok : EnvOk X0 E_slices_Clone := by
  refine EnvOk.add E_value_members_ok (fun args c h => ?_)
  unfold e_slices_Clone at h
  split at h
  · obtain ⟨v0, c0, h⟩ := Option.bind_eq_some_iff.1 h
    obtain ⟨rfl, rfl⟩ := castT_some c0
    cases h
    exact ⟨fun r hr => .inl ⟨by kernel_rfl, ok_slices_Clone _ r hr⟩, fun hb => fun r => noSl_res (by rfl)⟩
  · cases h


/-! ### 17 onceweb/value.Members -/
def F_value_Members : FnD := { n := 33, rs := [2, 3], labels := [(8, [5, 19, 20])] }
def Y_value_Members : DX := { Y0 with o2 := [2, 5] }
theorem Yok_value_Members : DXOk Y_value_Members X0 := ⟨Yok.tab, Yok.gl⟩
def lab_value_Members : L_value_Members → Nat × DSt
  | .l8 out x19 x20 => (8, [(5, .t (.own2 24 48 tyAtom out)), (19, .t (.s (.int .i64) x19)), (20, .t (.s (.int .i64) x20))])
set_option maxRecDepth 100000 in
theorem ok_value_Members (v : (List tAtom)) (r : ((List (Bool × List tAtom)) × Int)) (h : value_Members v = some r) : APure X0 17 ([.s (.sl 4 tyAtom) v].map DT.toT) (resT ([.own2 24 48 tyAtom r.1, .s (.int .i64) r.2].map DT.toT)) := by
  refine APure_of_machine (F := F_value_Members) (fuel := 3000) (E := E_slices_Clone) Yok_value_Members E_slices_Clone_ok mixed Try.func17 rfl rfl rfl (by decide) (args := [.s (.sl 4 tyAtom) v]) (Nat.le_of_ble_eq_true rfl) (by kernel_rfl) lab_value_Members st_value_Members (fun r => [.own2 24 48 tyAtom r.1, .s (.int .i64) r.2]) ?_ ?_ ?_ h
  · intro l; cases l
    · exact WF_list ⟨trivial, trivial, trivial, trivial⟩
  · intro l goto ret; cases l with
    | l8 out x19 x20 =>
      show _ = push (sg_value_Members_8 out x19 x20) (fun l' => goto (lab_value_Members l').1 (lab_value_Members l').2) (fun r => ret [.own2 24 48 tyAtom r.1, .s (.int .i64) r.2])
      unfold sg_value_Members_8
      simp only [push_G, push_ite, push_bind, push_inl, push_inr, -eq_self]
      kernel_rfl
  · intro goto ret
    show _ = push (en_value_Members v) (fun l' => goto (lab_value_Members l').1 (lab_value_Members l').2) (fun r => ret [.own2 24 48 tyAtom r.1, .s (.int .i64) r.2])
    unfold en_value_Members
    simp only [push_G, push_ite, push_bind, push_inl, push_inr, -eq_self]
    kernel_rfl
noncomputable def e_value_Members : List DT → Option CallRes
  | [.s t0 y0] => (castT (b := (.sl 4 tyAtom)) y0).bind fun v => some ⟨((List (Bool × List tAtom)) × Int), value_Members v, fun r => .tup [.own2 24 48 tyAtom r.1, .s (.int .i64) r.2], ([], (0 : Int)), false⟩
  | _ => none
noncomputable def E_value_Members : Env := Env.add 17 e_value_Members E_slices_Clone
theorem E_value_Members_ok : EnvOk X0 E_value_Members := by
  refine EnvOk.add E_slices_Clone_ok (fun args c h => ?_)
  unfold e_value_Members at h
  split at h
  · obtain ⟨v0, c0, h⟩ := Option.bind_eq_some_iff.1 h
    obtain ⟨rfl, rfl⟩ := castT_some c0
    cases h
    exact ⟨fun r hr => .inl ⟨by kernel_rfl, ok_value_Members _ r hr⟩, fun hb => by cases hb⟩
  · cases h

/-! ### 38 onceweb/oncewebref07.whole -/
def F_ref07_whole : FnD := { n := 9, rs := [2], cl := [(2, 48)] }
set_option maxRecDepth 100000 in
theorem ok_ref07_whole (v : (List tAtom)) (r : tAtom) (h : ref07_whole v = some r) : APure X0 38 ([.s (.sl 4 tyAtom) v].map DT.toT) (resT ([.s tyAtom r].map DT.toT)) := by
  refine APure_of_straight (F := F_ref07_whole) (fuel := 3000) (E := E_value_Members) Yok E_value_Members_ok mixed Try.func38 rfl rfl rfl (by decide) (args := [.s (.sl 4 tyAtom) v]) (Nat.le_of_ble_eq_true rfl) (by kernel_rfl) (fun r => [.s tyAtom r]) ?_ h
  intro goto ret
  unfold ref07_whole
  simp only [bnd_G, bnd_ite, bnd_bind, bnd_some, -eq_self]
  kernel_rfl
noncomputable def e_ref07_whole : List DT → Option CallRes
  | [.s t0 y0] => (castT (b := (.sl 4 tyAtom)) y0).bind fun v => some ⟨tAtom, ref07_whole v, fun r => .s tyAtom r, dAtom, true⟩
  | _ => none
noncomputable def E_ref07_whole : Env := Env.add 38 e_ref07_whole E_value_Members
theorem E_ref07_whole_ok : EnvOk X0 E_ref07_whole := by
  refine EnvOk.add E_value_Members_ok (fun args c h => ?_)
  unfold e_ref07_whole at h
  split at h
  · obtain ⟨v0, c0, h⟩ := Option.bind_eq_some_iff.1 h
    obtain ⟨rfl, rfl⟩ := castT_some c0
    cases h
    exact ⟨fun r hr => .inl ⟨by kernel_rfl, ok_ref07_whole _ r hr⟩, fun hb => fun r => noSl_res (by rfl)⟩
  · cases h

/-! ### 39 onceweb/oncewebref07.members -/
def F_ref07_members : FnD := { n := 48, rs := [2], labels := [(6, [0, 3, 7, 8, 9])] }
def lab_ref07_members : L_ref07_members → Nat × DSt
  | .l6 v from_ out k i => (6, [(0, .t (.s (.sl 4 tyAtom) v)), (3, .t (.own 3 (.int .i64) from_)), (7, .t (.own 24 (.sl 4 tyAtom) out)), (8, .t (.s (.int .i64) k)), (9, .t (.s (.int .i64) i))])
set_option maxRecDepth 100000 in
theorem ok_ref07_members (v : (List tAtom)) (r : (List (List tAtom))) (h : ref07_members v = some r) : APure X0 39 ([.s (.sl 4 tyAtom) v].map DT.toT) (resT ([.own 24 (.sl 4 tyAtom) r].map DT.toT)) := by
  refine APure_of_machine (F := F_ref07_members) (fuel := 3000) (E := E_ref07_whole) Yok E_ref07_whole_ok mixed Try.func39 rfl rfl rfl (by decide) (args := [.s (.sl 4 tyAtom) v]) (Nat.le_of_ble_eq_true rfl) (by kernel_rfl) lab_ref07_members st_ref07_members (fun r => [.own 24 (.sl 4 tyAtom) r]) ?_ ?_ ?_ h
  · intro l; cases l
    · exact WF_list ⟨trivial, trivial, trivial, trivial, trivial, trivial⟩
  · intro l goto ret; cases l with
    | l6 v from_ out k i =>
      show _ = push (sg_ref07_members_6 v from_ out k i) (fun l' => goto (lab_ref07_members l').1 (lab_ref07_members l').2) (fun r => ret [.own 24 (.sl 4 tyAtom) r])
      unfold sg_ref07_members_6
      simp only [push_G, push_ite, push_bind, push_inl, push_inr, -eq_self]
      kernel_rfl
  · intro goto ret
    show _ = push (en_ref07_members v) (fun l' => goto (lab_ref07_members l').1 (lab_ref07_members l').2) (fun r => ret [.own 24 (.sl 4 tyAtom) r])
    unfold en_ref07_members
    simp only [push_G, push_ite, push_bind, push_inl, push_inr, -eq_self]
    kernel_rfl
noncomputable def e_ref07_members : List DT → Option CallRes
  | [.s t0 y0] => (castT (b := (.sl 4 tyAtom)) y0).bind fun v => some ⟨(List (List tAtom)), ref07_members v, fun r => .own 24 (.sl 4 tyAtom) r, ([] : List (List tAtom)), false⟩
  | _ => none
noncomputable def E_ref07_members : Env := Env.add 39 e_ref07_members E_ref07_whole
theorem E_ref07_members_ok : EnvOk X0 E_ref07_members := by
  refine EnvOk.add E_ref07_whole_ok (fun args c h => ?_)
  unfold e_ref07_members at h
  split at h
  · obtain ⟨v0, c0, h⟩ := Option.bind_eq_some_iff.1 h
    obtain ⟨rfl, rfl⟩ := castT_some c0
    cases h
    exact ⟨fun r hr => .inl ⟨by kernel_rfl, ok_ref07_members _ r hr⟩, fun hb => by cases hb⟩
  · cases h

/-! ### 18 onceweb/oncewebref07.Members -/
def F_ref07_Members : FnD := { n := 16, rs := [2, 3] }
set_option maxRecDepth 100000 in
theorem ok_ref07_Members (v : (List tAtom)) (r : ((List (List tAtom)) × Int)) (h : ref07_Members v = some r) : APure X0 18 ([.s (.sl 4 tyAtom) v].map DT.toT) (resT ([.own 24 (.sl 4 tyAtom) r.1, .s (.int .i64) r.2].map DT.toT)) := by
  refine APure_of_straight (F := F_ref07_Members) (fuel := 3000) (E := E_ref07_members) Yok E_ref07_members_ok mixed Try.func18 rfl rfl rfl (by decide) (args := [.s (.sl 4 tyAtom) v]) (Nat.le_of_ble_eq_true rfl) (by kernel_rfl) (fun r => [.own 24 (.sl 4 tyAtom) r.1, .s (.int .i64) r.2]) ?_ h
  intro goto ret
  unfold ref07_Members
  simp only [bnd_G, bnd_ite, bnd_bind, bnd_some, -eq_self]
  kernel_rfl
noncomputable def e_ref07_Members : List DT → Option CallRes
  | [.s t0 y0] => (castT (b := (.sl 4 tyAtom)) y0).bind fun v => some ⟨((List (List tAtom)) × Int), ref07_Members v, fun r => .tup [.own 24 (.sl 4 tyAtom) r.1, .s (.int .i64) r.2], (([] : List (List tAtom)), (0 : Int)), false⟩
  | _ => none
noncomputable def E_ref07_Members : Env := Env.add 18 e_ref07_Members E_ref07_members
theorem E_ref07_Members_ok : EnvOk X0 E_ref07_Members := by
  refine EnvOk.add E_ref07_members_ok (fun args c h => ?_)
  unfold e_ref07_Members at h
  split at h
  · obtain ⟨v0, c0, h⟩ := Option.bind_eq_some_iff.1 h
    obtain ⟨rfl, rfl⟩ := castT_some c0
    cases h
    exact ⟨fun r hr => .inl ⟨by kernel_rfl, ok_ref07_Members _ r hr⟩, fun hb => by cases hb⟩
  · cases h

/-! ### 19 onceweb/onceweblaw07.values -/
def F_law07_values : FnD := { n := 27, rs := [4], labels := [(4, [0, 1, 5])] }
def lab_law07_values : L_law07_values → Nat × DSt
  | .l4 a b i => (4, [(0, .t (.s (.sl 1 (.sl 4 tyAtom)) a)), (1, .t (.s (.sl 1 (.sl 4 tyAtom)) b)), (5, .t (.s (.int .i64) i))])
set_option maxRecDepth 100000 in
theorem ok_law07_values (a : (List (List tAtom))) (b : (List (List tAtom))) (r : Bool) (h : law07_values a b = some r) : APure X0 19 ([.s (.sl 1 (.sl 4 tyAtom)) a, .s (.sl 1 (.sl 4 tyAtom)) b].map DT.toT) (resT ([.s .bool r].map DT.toT)) := by
  refine APure_of_machine (F := F_law07_values) (fuel := 3000) (E := E_ref07_Members) Yok E_ref07_Members_ok mixed Try.func19 rfl rfl rfl (by decide) (args := [.s (.sl 1 (.sl 4 tyAtom)) a, .s (.sl 1 (.sl 4 tyAtom)) b]) (Nat.le_of_ble_eq_true rfl) (by kernel_rfl) lab_law07_values st_law07_values (fun r => [.s .bool r]) ?_ ?_ ?_ h
  · intro l; cases l
    · exact WF_list ⟨trivial, trivial, trivial, trivial⟩
  · intro l goto ret; cases l with
    | l4 a b i =>
      show _ = push (sg_law07_values_4 a b i) (fun l' => goto (lab_law07_values l').1 (lab_law07_values l').2) (fun r => ret [.s .bool r])
      unfold sg_law07_values_4
      simp only [push_G, push_ite, push_bind, push_inl, push_inr, -eq_self]
      kernel_rfl
  · intro goto ret
    show _ = push (en_law07_values a b) (fun l' => goto (lab_law07_values l').1 (lab_law07_values l').2) (fun r => ret [.s .bool r])
    unfold en_law07_values
    simp only [push_G, push_ite, push_bind, push_inl, push_inr, -eq_self]
    kernel_rfl
noncomputable def e_law07_values : List DT → Option CallRes
  | [.s t0 y0, .s t1 y1] => (castT (b := (.sl 1 (.sl 4 tyAtom))) y0).bind fun a => (castT (b := (.sl 1 (.sl 4 tyAtom))) y1).bind fun b => some ⟨Bool, law07_values a b, fun r => .s .bool r, false, true⟩
  | _ => none
noncomputable def E_law07_values : Env := Env.add 19 e_law07_values E_ref07_Members
theorem E_law07_values_ok : EnvOk X0 E_law07_values := by
  refine EnvOk.add E_ref07_Members_ok (fun args c h => ?_)
  unfold e_law07_values at h
  split at h
  · obtain ⟨v0, c0, h⟩ := Option.bind_eq_some_iff.1 h
    obtain ⟨rfl, rfl⟩ := castT_some c0
    obtain ⟨v1, c1, h⟩ := Option.bind_eq_some_iff.1 h
    obtain ⟨rfl, rfl⟩ := castT_some c1
    cases h
    exact ⟨fun r hr => .inl ⟨by kernel_rfl, ok_law07_values _ _ r hr⟩, fun hb => fun r => noSl_res (by rfl)⟩
  · cases h

/-! ### 3 onceweb/onceweblaw07.ValueMakes -/
def F_law07_ValueMakes : FnD := { n := 135, rs := [6], labels := [(16, [2, 11, 12]), (25, [2, 11, 12, 13, 17])] }
def Y_law07_ValueMakes : DX := { Y0 with o2 := [130] }
theorem Yok_law07_ValueMakes : DXOk Y_law07_ValueMakes X0 := ⟨Yok.tab, Yok.gl⟩
def lab_law07_ValueMakes : L_law07_ValueMakes → Nat × DSt
  | .l16 l own i => (16, [(2, .t (.s (.sl 1 (.sl 4 tyAtom)) l)), (11, .t (.own 24 (.sl 4 tyAtom) own)), (12, .t (.s (.int .i64) i))])
  | .l25 l own i p k => (25, [(2, .t (.s (.sl 1 (.sl 4 tyAtom)) l)), (11, .t (.own 24 (.sl 4 tyAtom) own)), (12, .t (.s (.int .i64) i)), (13, .t (.own2 24 48 tyAtom p)), (17, .t (.s (.int .i64) k))])
set_option maxRecDepth 100000 in
theorem ok_law07_ValueMakes (n : Int) (s_ : (List UInt8)) (l : (List (List tAtom))) (r : Bool) (h : law07_ValueMakes n s_ l = some r) : APure X0 3 ([.s (.int .i64) n, .s .str s_, .s (.sl 1 (.sl 4 tyAtom)) l].map DT.toT) (resT ([.s .bool r].map DT.toT)) := by
  refine APure_of_machine (F := F_law07_ValueMakes) (fuel := 3000) (E := E_law07_values) Yok_law07_ValueMakes E_law07_values_ok mixed Try.func3 rfl rfl rfl (by decide) (args := [.s (.int .i64) n, .s .str s_, .s (.sl 1 (.sl 4 tyAtom)) l]) (Nat.le_of_ble_eq_true rfl) (by kernel_rfl) lab_law07_ValueMakes st_law07_ValueMakes (fun r => [.s .bool r]) ?_ ?_ ?_ h
  · intro l; cases l
    · exact WF_list ⟨trivial, trivial, trivial, trivial⟩
    · exact WF_list ⟨trivial, trivial, trivial, trivial, trivial, trivial⟩
  · intro l goto ret; cases l with
    | l16 l own i =>
      show _ = push (sg_law07_ValueMakes_16 l own i) (fun l' => goto (lab_law07_ValueMakes l').1 (lab_law07_ValueMakes l').2) (fun r => ret [.s .bool r])
      unfold sg_law07_ValueMakes_16
      simp only [push_G, push_ite, push_bind, push_inl, push_inr, -eq_self]
      kernel_rfl
    | l25 l own i p k =>
      show _ = push (sg_law07_ValueMakes_25 l own i p k) (fun l' => goto (lab_law07_ValueMakes l').1 (lab_law07_ValueMakes l').2) (fun r => ret [.s .bool r])
      unfold sg_law07_ValueMakes_25
      simp only [push_G, push_ite, push_bind, push_inl, push_inr, -eq_self]
      kernel_rfl
  · intro goto ret
    show _ = push (en_law07_ValueMakes n s_ l) (fun l' => goto (lab_law07_ValueMakes l').1 (lab_law07_ValueMakes l').2) (fun r => ret [.s .bool r])
    unfold en_law07_ValueMakes
    simp only [push_G, push_ite, push_bind, push_inl, push_inr, -eq_self]
    kernel_rfl
noncomputable def e_law07_ValueMakes : List DT → Option CallRes
  | [.s t0 y0, .s t1 y1, .s t2 y2] => (castT (b := (.int .i64)) y0).bind fun n => (castT (b := .str) y1).bind fun s_ => (castT (b := (.sl 1 (.sl 4 tyAtom))) y2).bind fun l => some ⟨Bool, law07_ValueMakes n s_ l, fun r => .s .bool r, false, true⟩
  | _ => none
noncomputable def E_law07_ValueMakes : Env := Env.add 3 e_law07_ValueMakes E_law07_values
theorem E_law07_ValueMakes_ok : EnvOk X0 E_law07_ValueMakes := by
  refine EnvOk.add E_law07_values_ok (fun args c h => ?_)
  unfold e_law07_ValueMakes at h
  split at h
  · obtain ⟨v0, c0, h⟩ := Option.bind_eq_some_iff.1 h
    obtain ⟨rfl, rfl⟩ := castT_some c0
    obtain ⟨v1, c1, h⟩ := Option.bind_eq_some_iff.1 h
    obtain ⟨rfl, rfl⟩ := castT_some c1
    obtain ⟨v2, c2, h⟩ := Option.bind_eq_some_iff.1 h
    obtain ⟨rfl, rfl⟩ := castT_some c2
    cases h
    exact ⟨fun r hr => .inl ⟨by kernel_rfl, ok_law07_ValueMakes _ _ _ r hr⟩, fun hb => fun r => noSl_res (by rfl)⟩
  · cases h

/-! ### 63 cmp.isNaN[int] -/
def F_cmp_isNaN : FnD := { n := 6, rs := [2] }
set_option maxRecDepth 100000 in
theorem ok_cmp_isNaN (x : Int) (r : Bool) (h : cmp_isNaN x = some r) : APure X0 63 ([.s (.int .i64) x].map DT.toT) (resT ([.s .bool r].map DT.toT)) := by
  refine APure_of_straight (F := F_cmp_isNaN) (fuel := 3000) (E := E_law07_ValueMakes) Yok E_law07_ValueMakes_ok mixed Try.func63 rfl rfl rfl (by decide) (args := [.s (.int .i64) x]) (Nat.le_of_ble_eq_true rfl) (by kernel_rfl) (fun r => [.s .bool r]) ?_ h
  intro goto ret
  unfold cmp_isNaN
  simp only [bnd_G, bnd_ite, bnd_bind, bnd_some, -eq_self]
  kernel_rfl
noncomputable def e_cmp_isNaN : List DT → Option CallRes
  | [.s t0 y0] => (castT (b := (.int .i64)) y0).bind fun x => some ⟨Bool, cmp_isNaN x, fun r => .s .bool r, false, true⟩
  | _ => none
noncomputable def E_cmp_isNaN : Env := Env.add 63 e_cmp_isNaN E_law07_ValueMakes
theorem E_cmp_isNaN_ok : EnvOk X0 E_cmp_isNaN := by
  refine EnvOk.add E_law07_ValueMakes_ok (fun args c h => ?_)
  unfold e_cmp_isNaN at h
  split at h
  · obtain ⟨v0, c0, h⟩ := Option.bind_eq_some_iff.1 h
    obtain ⟨rfl, rfl⟩ := castT_some c0
    cases h
    exact ⟨fun r hr => .inl ⟨by kernel_rfl, ok_cmp_isNaN _ r hr⟩, fun hb => fun r => noSl_res (by rfl)⟩
  · cases h

/-! ### 47 cmp.Compare[int] -/
def F_cmp_Compare : FnD := { n := 20, rs := [4] }
set_option maxRecDepth 100000 in
theorem ok_cmp_Compare (x : Int) (y : Int) (r : Int) (h : cmp_Compare x y = some r) : APure X0 47 ([.s (.int .i64) x, .s (.int .i64) y].map DT.toT) (resT ([.s (.int .i64) r].map DT.toT)) := by
  refine APure_of_straight (F := F_cmp_Compare) (fuel := 3000) (E := E_cmp_isNaN) Yok E_cmp_isNaN_ok mixed Try.func47 rfl rfl rfl (by decide) (args := [.s (.int .i64) x, .s (.int .i64) y]) (Nat.le_of_ble_eq_true rfl) (by kernel_rfl) (fun r => [.s (.int .i64) r]) ?_ h
  intro goto ret
  unfold cmp_Compare
  simp only [bnd_G, bnd_ite, bnd_bind, bnd_some, -eq_self]
  kernel_rfl
noncomputable def e_cmp_Compare : List DT → Option CallRes
  | [.s t0 y0, .s t1 y1] => (castT (b := (.int .i64)) y0).bind fun x => (castT (b := (.int .i64)) y1).bind fun y => some ⟨Int, cmp_Compare x y, fun r => .s (.int .i64) r, (0 : Int), true⟩
  | _ => none
noncomputable def E_cmp_Compare : Env := Env.add 47 e_cmp_Compare E_cmp_isNaN
theorem E_cmp_Compare_ok : EnvOk X0 E_cmp_Compare := by
  refine EnvOk.add E_cmp_isNaN_ok (fun args c h => ?_)
  unfold e_cmp_Compare at h
  split at h
  · obtain ⟨v0, c0, h⟩ := Option.bind_eq_some_iff.1 h
    obtain ⟨rfl, rfl⟩ := castT_some c0
    obtain ⟨v1, c1, h⟩ := Option.bind_eq_some_iff.1 h
    obtain ⟨rfl, rfl⟩ := castT_some c1
    cases h
    exact ⟨fun r hr => .inl ⟨by kernel_rfl, ok_cmp_Compare _ _ r hr⟩, fun hb => fun r => noSl_res (by rfl)⟩
  · cases h

/-! ### 71 bytealg_abigen_runtime_cmpstring: in no text -/
set_option maxRecDepth 100000 in
theorem ok_bytealg_abigen_runtime_cmpstring (a b : List UInt8) (r : Int) (h : bytealg_abigen_runtime_cmpstring a b = some r) : AExt X0 71 ([.s .str a, .s .str b].map DT.toT) (DT.s (.int .i64) r).toT := by
  cases h
  have := AExt_compareString (X := X0) (f := 71) Try.func71 (by decide +kernel) (by decide +kernel) (by kernel_rfl) (by kernel_rfl) (mkS a) (mkS b)
  rw [bl_mkS, bl_mkS] at this
  exact this
noncomputable def e_bytealg_abigen_runtime_cmpstring : List DT → Option CallRes
  | [.s t0 y0, .s t1 y1] => (castT (b := .str) y0).bind fun a => (castT (b := .str) y1).bind fun b => some ⟨Int, bytealg_abigen_runtime_cmpstring a b, fun r => .s (.int .i64) r, (0 : Int), false⟩
  | _ => none
noncomputable def E_bytealg_abigen_runtime_cmpstring : Env := Env.add 71 e_bytealg_abigen_runtime_cmpstring E_cmp_Compare
theorem E_bytealg_abigen_runtime_cmpstring_ok : EnvOk X0 E_bytealg_abigen_runtime_cmpstring := by
  refine EnvOk.add E_cmp_Compare_ok (fun args c h => ?_)
  unfold e_bytealg_abigen_runtime_cmpstring at h
  split at h
  · obtain ⟨v0, c0, h⟩ := Option.bind_eq_some_iff.1 h
    obtain ⟨rfl, rfl⟩ := castT_some c0
    obtain ⟨v1, c1, h⟩ := Option.bind_eq_some_iff.1 h
    obtain ⟨rfl, rfl⟩ := castT_some c1
    cases h
    exact ⟨fun r hr => .inr ⟨rfl, ok_bytealg_abigen_runtime_cmpstring _ _ r hr⟩, fun hb => by cases hb⟩
  · cases h


/-! ### 64 internal/bytealg.CompareString -/
def F_bytealg_CompareString : FnD := { n := 8, rs := [4] }
set_option maxRecDepth 100000 in
theorem ok_bytealg_CompareString (a : (List UInt8)) (b : (List UInt8)) (r : Int) (h : bytealg_CompareString a b = some r) : APure X0 64 ([.s .str a, .s .str b].map DT.toT) (resT ([.s (.int .i64) r].map DT.toT)) := by
  refine APure_of_straight (F := F_bytealg_CompareString) (fuel := 3000) (E := E_bytealg_abigen_runtime_cmpstring) Yok E_bytealg_abigen_runtime_cmpstring_ok mixed Try.func64 rfl rfl rfl (by decide) (args := [.s .str a, .s .str b]) (Nat.le_of_ble_eq_true rfl) (by kernel_rfl) (fun r => [.s (.int .i64) r]) ?_ h
  intro goto ret
  unfold bytealg_CompareString
  simp only [bnd_G, bnd_ite, bnd_bind, bnd_some, -eq_self]
  kernel_rfl
noncomputable def e_bytealg_CompareString : List DT → Option CallRes
  | [.s t0 y0, .s t1 y1] => (castT (b := .str) y0).bind fun a => (castT (b := .str) y1).bind fun b => some ⟨Int, bytealg_CompareString a b, fun r => .s (.int .i64) r, (0 : Int), true⟩
  | _ => none
noncomputable def E_bytealg_CompareString : Env := Env.add 64 e_bytealg_CompareString E_bytealg_abigen_runtime_cmpstring
theorem E_bytealg_CompareString_ok : EnvOk X0 E_bytealg_CompareString := by
  refine EnvOk.add E_bytealg_abigen_runtime_cmpstring_ok (fun args c h => ?_)
  unfold e_bytealg_CompareString at h
  split at h
  · obtain ⟨v0, c0, h⟩ := Option.bind_eq_some_iff.1 h
    obtain ⟨rfl, rfl⟩ := castT_some c0
    obtain ⟨v1, c1, h⟩ := Option.bind_eq_some_iff.1 h
    obtain ⟨rfl, rfl⟩ := castT_some c1
    cases h
    exact ⟨fun r hr => .inl ⟨by kernel_rfl, ok_bytealg_CompareString _ _ r hr⟩, fun hb => fun r => noSl_res (by rfl)⟩
  · cases h

/-! ### 48 strings.Compare -/
def F_strings_Compare : FnD := { n := 8, rs := [4] }
set_option maxRecDepth 100000 in
theorem ok_strings_Compare (a : (List UInt8)) (b : (List UInt8)) (r : Int) (h : strings_Compare a b = some r) : APure X0 48 ([.s .str a, .s .str b].map DT.toT) (resT ([.s (.int .i64) r].map DT.toT)) := by
  refine APure_of_straight (F := F_strings_Compare) (fuel := 3000) (E := E_bytealg_CompareString) Yok E_bytealg_CompareString_ok mixed Try.func48 rfl rfl rfl (by decide) (args := [.s .str a, .s .str b]) (Nat.le_of_ble_eq_true rfl) (by kernel_rfl) (fun r => [.s (.int .i64) r]) ?_ h
  intro goto ret
  unfold strings_Compare
  simp only [bnd_G, bnd_ite, bnd_bind, bnd_some, -eq_self]
  kernel_rfl
noncomputable def e_strings_Compare : List DT → Option CallRes
  | [.s t0 y0, .s t1 y1] => (castT (b := .str) y0).bind fun a => (castT (b := .str) y1).bind fun b => some ⟨Int, strings_Compare a b, fun r => .s (.int .i64) r, (0 : Int), true⟩
  | _ => none
noncomputable def E_strings_Compare : Env := Env.add 48 e_strings_Compare E_bytealg_CompareString
theorem E_strings_Compare_ok : EnvOk X0 E_strings_Compare := by
  refine EnvOk.add E_bytealg_CompareString_ok (fun args c h => ?_)
  unfold e_strings_Compare at h
  split at h
  · obtain ⟨v0, c0, h⟩ := Option.bind_eq_some_iff.1 h
    obtain ⟨rfl, rfl⟩ := castT_some c0
    obtain ⟨v1, c1, h⟩ := Option.bind_eq_some_iff.1 h
    obtain ⟨rfl, rfl⟩ := castT_some c1
    cases h
    exact ⟨fun r hr => .inl ⟨by kernel_rfl, ok_strings_Compare _ _ r hr⟩, fun hb => fun r => noSl_res (by rfl)⟩
  · cases h

/-! ### 49 slices.CompareFunc[[]onceweb/api.Value,[]onceweb/api.Value,onceweb/api.Value,onceweb/api.Value] -/
def F_slices_CompareFunc : FnD := { n := 39, rs := [6], labels := [(2, [0, 1, 2, 11, 12, 13])] }
def lab_slices_CompareFunc : L_slices_CompareFunc → Nat × DSt
  | .l2 s1 s2 cmp x11 x12 x13 => (2, [(0, .t (.s (.sl 1 (.sl 4 tyAtom)) s1)), (1, .t (.s (.sl 1 (.sl 4 tyAtom)) s2)), (2, .t (.s .opq cmp)), (11, .t (.s (.sl 1 (.sl 4 tyAtom)) x11)), (12, .t (.s (.int .i64) x12)), (13, .t (.s (.int .i64) x13))])
noncomputable def ed_slices_CompareFunc (dyn : Value → (List tAtom) → (List tAtom) → Option Int) : List DT → Option CallRes
  | [.tup [.u, .s tv yv], .s t0 y0, .s t1 y1] => (castT (b := .opq) yv).bind fun v_ => (castT (b := (.sl 4 tyAtom)) y0).bind fun a0 => (castT (b := (.sl 4 tyAtom)) y1).bind fun a1 => some ⟨Int, dyn v_ a0 a1, fun r_ => (.s (.int .i64) r_ : DT), (0 : Int), true⟩
  | _ => none
theorem ed_slices_CompareFunc_ok (dyn : Value → (List tAtom) → (List tAtom) → Option Int) (hd : ∀ (v_ : Value) (a0 : (List tAtom)) (a1 : (List tAtom)) (r_ : Int), dyn v_ a0 a1 = some r_ → DynC X0 v_ (([.s (.sl 4 tyAtom) a0, .s (.sl 4 tyAtom) a1] : List DT).map DT.toT) (.s (.int .i64) r_ : DT).toT) : ∀ (g : FuncId) (args : List DT) (c : CallRes), ed_slices_CompareFunc dyn args = some c → CallOk X0 g args c := by
  intro g args c h
  unfold ed_slices_CompareFunc at h
  split at h
  · obtain ⟨vv, cv, h⟩ := Option.bind_eq_some_iff.1 h
    obtain ⟨rfl, rfl⟩ := castT_some cv
    obtain ⟨v0, c0, h⟩ := Option.bind_eq_some_iff.1 h
    obtain ⟨rfl, rfl⟩ := castT_some c0
    obtain ⟨v1, c1, h⟩ := Option.bind_eq_some_iff.1 h
    obtain ⟨rfl, rfl⟩ := castT_some c1
    cases h
    exact ⟨fun r hr => hd _ _ _ r hr, fun hb => fun r => noSl_res (by rfl)⟩
  · cases h
set_option maxRecDepth 100000 in
theorem ok_slices_CompareFunc (dyn : Value → (List tAtom) → (List tAtom) → Option Int) (hd : ∀ (v_ : Value) (a0 : (List tAtom)) (a1 : (List tAtom)) (r_ : Int), dyn v_ a0 a1 = some r_ → DynC X0 v_ (([.s (.sl 4 tyAtom) a0, .s (.sl 4 tyAtom) a1] : List DT).map DT.toT) (.s (.int .i64) r_ : DT).toT) (s1 : (List (List tAtom))) (s2 : (List (List tAtom))) (cmp : Value) (r : Int) (h : slices_CompareFunc dyn s1 s2 cmp = some r) : APure X0 49 ([.s (.sl 1 (.sl 4 tyAtom)) s1, .s (.sl 1 (.sl 4 tyAtom)) s2, .s .opq cmp].map DT.toT) (resT ([.s (.int .i64) r].map DT.toT)) := by
  unfold slices_CompareFunc at h
  refine APure_of_machine (F := F_slices_CompareFunc) (fuel := 3000) (E := (Env.addD (ed_slices_CompareFunc dyn) E_strings_Compare)) Yok (EnvOk.addD E_strings_Compare_ok (ed_slices_CompareFunc_ok dyn hd)) mixed Try.func49 rfl rfl rfl (by decide) (args := [.s (.sl 1 (.sl 4 tyAtom)) s1, .s (.sl 1 (.sl 4 tyAtom)) s2, .s .opq cmp]) (Nat.le_of_ble_eq_true rfl) (by kernel_rfl) lab_slices_CompareFunc (st_slices_CompareFunc dyn) (fun r => [.s (.int .i64) r]) ?_ ?_ ?_ h
  · intro l; cases l
    · exact WF_list ⟨trivial, trivial, trivial, trivial, trivial, trivial, trivial⟩
  · intro l goto ret; cases l with
    | l2 s1 s2 cmp x11 x12 x13 =>
      show _ = push (sg_slices_CompareFunc_2 dyn s1 s2 cmp x11 x12 x13) (fun l' => goto (lab_slices_CompareFunc l').1 (lab_slices_CompareFunc l').2) (fun r => ret [.s (.int .i64) r])
      unfold sg_slices_CompareFunc_2
      simp only [push_G, push_ite, push_bind, push_inl, push_inr, -eq_self]
      kernel_rfl
  · intro goto ret
    show _ = push (en_slices_CompareFunc dyn s1 s2 cmp) (fun l' => goto (lab_slices_CompareFunc l').1 (lab_slices_CompareFunc l').2) (fun r => ret [.s (.int .i64) r])
    unfold en_slices_CompareFunc
    simp only [push_G, push_ite, push_bind, push_inl, push_inr, -eq_self]
    kernel_rfl
noncomputable def e_slices_CompareFunc (dyn : Value → (List tAtom) → (List tAtom) → Option Int) : List DT → Option CallRes
  | [.s t0 y0, .s t1 y1, .s t2 y2] => (castT (b := (.sl 1 (.sl 4 tyAtom))) y0).bind fun s1 => (castT (b := (.sl 1 (.sl 4 tyAtom))) y1).bind fun s2 => (castT (b := .opq) y2).bind fun cmp => some ⟨Int, slices_CompareFunc dyn s1 s2 cmp, fun r => .s (.int .i64) r, (0 : Int), true⟩
  | _ => none
theorem he_slices_CompareFunc (dyn : Value → (List tAtom) → (List tAtom) → Option Int) (hd : ∀ (v_ : Value) (a0 : (List tAtom)) (a1 : (List tAtom)) (r_ : Int), dyn v_ a0 a1 = some r_ → DynC X0 v_ (([.s (.sl 4 tyAtom) a0, .s (.sl 4 tyAtom) a1] : List DT).map DT.toT) (.s (.int .i64) r_ : DT).toT) : ∀ (args : List DT) (c : CallRes), e_slices_CompareFunc dyn args = some c → CallOk X0 49 args c := by
  intro args c h
  unfold e_slices_CompareFunc at h
  split at h
  · obtain ⟨v0, c0, h⟩ := Option.bind_eq_some_iff.1 h
    obtain ⟨rfl, rfl⟩ := castT_some c0
    obtain ⟨v1, c1, h⟩ := Option.bind_eq_some_iff.1 h
    obtain ⟨rfl, rfl⟩ := castT_some c1
    obtain ⟨v2, c2, h⟩ := Option.bind_eq_some_iff.1 h
    obtain ⟨rfl, rfl⟩ := castT_some c2
    cases h
    exact ⟨fun r hr => .inl ⟨by kernel_rfl, ok_slices_CompareFunc dyn hd _ _ _ r hr⟩, fun hb => fun r => noSl_res (by rfl)⟩
  · cases h

/-! ### 40 onceweb/value.compare -/
def F_value_compare : FnD := { n := 45, rs := [4] }
noncomputable def e_value_compare_n (n : Nat) : List DT → Option CallRes
  | [.s t0 y0, .s t1 y1] => (castT (b := (.sl 4 tyAtom)) y0).bind fun a => (castT (b := (.sl 4 tyAtom)) y1).bind fun b => some ⟨Int, value_compare_n n a b, fun r => .s (.int .i64) r, (0 : Int), true⟩
  | _ => none
noncomputable def E_value_compare_n (n : Nat) : Env := Env.add 40 (e_value_compare_n n) E_strings_Compare
theorem E_value_compare_n_ok (n : Nat) (ih : ∀ (a : (List tAtom)) (b : (List tAtom)) (r : Int), value_compare_n n a b = some r → APure X0 40 ([.s (.sl 4 tyAtom) a, .s (.sl 4 tyAtom) b].map DT.toT) (resT ([.s (.int .i64) r].map DT.toT))) : EnvOk X0 (E_value_compare_n n) := by
  refine EnvOk.add E_strings_Compare_ok (fun args c h => ?_)
  unfold e_value_compare_n at h
  split at h
  · obtain ⟨v0, c0, h⟩ := Option.bind_eq_some_iff.1 h
    obtain ⟨rfl, rfl⟩ := castT_some c0
    obtain ⟨v1, c1, h⟩ := Option.bind_eq_some_iff.1 h
    obtain ⟨rfl, rfl⟩ := castT_some c1
    cases h
    exact ⟨fun r hr => .inl ⟨by kernel_rfl, ih _ _ r hr⟩, fun hb => fun r => noSl_res (by rfl)⟩
  · cases h
set_option maxRecDepth 100000 in
theorem ok_value_compare_n : ∀ (n : Nat) (a : (List tAtom)) (b : (List tAtom)) (r : Int) (h : value_compare_n n a b = some r), APure X0 40 ([.s (.sl 4 tyAtom) a, .s (.sl 4 tyAtom) b].map DT.toT) (resT ([.s (.int .i64) r].map DT.toT))
  | 0, a, b, r, h => by unfold value_compare_n at h; cases h
  | n + 1, a, b, r, h => by
    unfold value_compare_n at h
    refine APure_of_straight (F := F_value_compare) (fuel := 3000) (E := (Env.add 49 (e_slices_CompareFunc (fun v_ a0 a1 => if fnIs v_ 40 = true then (value_compare_n n) a0 a1 else none)) (E_value_compare_n n))) Yok (EnvOk.add (E_value_compare_n_ok n (ok_value_compare_n n)) (he_slices_CompareFunc (fun v_ a0 a1 => if fnIs v_ 40 = true then (value_compare_n n) a0 a1 else none) (fun v_ a0 a1 r_ h => dyn_or h (fun hv hx => ⟨40, fnIs_spec hv, by kernel_rfl, ok_value_compare_n n a0 a1 r_ hx⟩) (fun h => by cases h)))) mixed Try.func40 rfl rfl rfl (by decide) (args := [.s (.sl 4 tyAtom) a, .s (.sl 4 tyAtom) b]) (Nat.le_of_ble_eq_true rfl) (by kernel_rfl) (fun r => [.s (.int .i64) r]) ?_ h
    intro goto ret
    unfold en_value_compare
    simp only [bnd_G, bnd_ite, bnd_bind, bnd_some, -eq_self]
    kernel_rfl
theorem ok_value_compare (a : (List tAtom)) (b : (List tAtom)) (r : Int) (h : value_compare a b = some r) : APure X0 40 ([.s (.sl 4 tyAtom) a, .s (.sl 4 tyAtom) b].map DT.toT) (resT ([.s (.int .i64) r].map DT.toT)) := ok_value_compare_n 64 a b r h
noncomputable def e_value_compare : List DT → Option CallRes
  | [.s t0 y0, .s t1 y1] => (castT (b := (.sl 4 tyAtom)) y0).bind fun a => (castT (b := (.sl 4 tyAtom)) y1).bind fun b => some ⟨Int, value_compare a b, fun r => .s (.int .i64) r, (0 : Int), true⟩
  | _ => none
noncomputable def E_value_compare : Env := Env.add 40 (e_value_compare) E_strings_Compare
theorem E_value_compare_ok : EnvOk X0 (E_value_compare) := by
  refine EnvOk.add E_strings_Compare_ok (fun args c h => ?_)
  unfold e_value_compare at h
  split at h
  · obtain ⟨v0, c0, h⟩ := Option.bind_eq_some_iff.1 h
    obtain ⟨rfl, rfl⟩ := castT_some c0
    obtain ⟨v1, c1, h⟩ := Option.bind_eq_some_iff.1 h
    obtain ⟨rfl, rfl⟩ := castT_some c1
    cases h
    exact ⟨fun r hr => .inl ⟨by kernel_rfl, ok_value_compare _ _ r hr⟩, fun hb => fun r => noSl_res (by rfl)⟩
  · cases h

/-! ### 20 onceweb/value.Compare -/
def F_value_Compare : FnD := { n := 21, rs := [4, 5] }
set_option maxRecDepth 100000 in
theorem ok_value_Compare (a : (List tAtom)) (b : (List tAtom)) (r : (Int × Int)) (h : value_Compare a b = some r) : APure X0 20 ([.s (.sl 4 tyAtom) a, .s (.sl 4 tyAtom) b].map DT.toT) (resT ([.s (.int .i64) r.1, .s (.int .i64) r.2].map DT.toT)) := by
  refine APure_of_straight (F := F_value_Compare) (fuel := 3000) (E := E_value_compare) Yok E_value_compare_ok mixed Try.func20 rfl rfl rfl (by decide) (args := [.s (.sl 4 tyAtom) a, .s (.sl 4 tyAtom) b]) (Nat.le_of_ble_eq_true rfl) (by kernel_rfl) (fun r => [.s (.int .i64) r.1, .s (.int .i64) r.2]) ?_ h
  intro goto ret
  unfold value_Compare
  simp only [bnd_G, bnd_ite, bnd_bind, bnd_some, -eq_self]
  kernel_rfl
noncomputable def e_value_Compare : List DT → Option CallRes
  | [.s t0 y0, .s t1 y1] => (castT (b := (.sl 4 tyAtom)) y0).bind fun a => (castT (b := (.sl 4 tyAtom)) y1).bind fun b => some ⟨(Int × Int), value_Compare a b, fun r => .tup [.s (.int .i64) r.1, .s (.int .i64) r.2], ((0 : Int), (0 : Int)), true⟩
  | _ => none
noncomputable def E_value_Compare : Env := Env.add 20 e_value_Compare E_value_compare
theorem E_value_Compare_ok : EnvOk X0 E_value_Compare := by
  refine EnvOk.add E_value_compare_ok (fun args c h => ?_)
  unfold e_value_Compare at h
  split at h
  · obtain ⟨v0, c0, h⟩ := Option.bind_eq_some_iff.1 h
    obtain ⟨rfl, rfl⟩ := castT_some c0
    obtain ⟨v1, c1, h⟩ := Option.bind_eq_some_iff.1 h
    obtain ⟨rfl, rfl⟩ := castT_some c1
    cases h
    exact ⟨fun r hr => .inl ⟨by kernel_rfl, ok_value_Compare _ _ r hr⟩, fun hb => fun r => noSl_res (by rfl)⟩
  · cases h

/-! ### 50 onceweb/oncewebref07.sign -/
def F_ref07_sign : FnD := { n := 7, rs := [2] }
set_option maxRecDepth 100000 in
theorem ok_ref07_sign (n : Int) (r : Int) (h : ref07_sign n = some r) : APure X0 50 ([.s (.int .i64) n].map DT.toT) (resT ([.s (.int .i64) r].map DT.toT)) := by
  refine APure_of_straight (F := F_ref07_sign) (fuel := 3000) (E := E_value_Compare) Yok E_value_Compare_ok mixed Try.func50 rfl rfl rfl (by decide) (args := [.s (.int .i64) n]) (Nat.le_of_ble_eq_true rfl) (by kernel_rfl) (fun r => [.s (.int .i64) r]) ?_ h
  intro goto ret
  unfold ref07_sign
  simp only [bnd_G, bnd_ite, bnd_bind, bnd_some, -eq_self]
  kernel_rfl
noncomputable def e_ref07_sign : List DT → Option CallRes
  | [.s t0 y0] => (castT (b := (.int .i64)) y0).bind fun n => some ⟨Int, ref07_sign n, fun r => .s (.int .i64) r, (0 : Int), true⟩
  | _ => none
noncomputable def E_ref07_sign : Env := Env.add 50 e_ref07_sign E_value_Compare
theorem E_ref07_sign_ok : EnvOk X0 E_ref07_sign := by
  refine EnvOk.add E_value_Compare_ok (fun args c h => ?_)
  unfold e_ref07_sign at h
  split at h
  · obtain ⟨v0, c0, h⟩ := Option.bind_eq_some_iff.1 h
    obtain ⟨rfl, rfl⟩ := castT_some c0
    cases h
    exact ⟨fun r hr => .inl ⟨by kernel_rfl, ok_ref07_sign _ r hr⟩, fun hb => fun r => noSl_res (by rfl)⟩
  · cases h

/-! ### 41 onceweb/oncewebref07.compare -/
def F_ref07_compare : FnD := { n := 82, rs := [4], labels := [(15, [7, 8, 9])] }
def lab_ref07_compare : L_ref07_compare → Nat × DSt
  | .l15 p q i => (15, [(7, .t (.own 24 (.sl 4 tyAtom) p)), (8, .t (.own 24 (.sl 4 tyAtom) q)), (9, .t (.s (.int .i64) i))])
noncomputable def e_ref07_compare_n (n : Nat) : List DT → Option CallRes
  | [.s t0 y0, .s t1 y1] => (castT (b := (.sl 4 tyAtom)) y0).bind fun a => (castT (b := (.sl 4 tyAtom)) y1).bind fun b => some ⟨Int, ref07_compare_n n a b, fun r => .s (.int .i64) r, (0 : Int), true⟩
  | _ => none
noncomputable def E_ref07_compare_n (n : Nat) : Env := Env.add 41 (e_ref07_compare_n n) E_ref07_sign
theorem E_ref07_compare_n_ok (n : Nat) (ih : ∀ (a : (List tAtom)) (b : (List tAtom)) (r : Int), ref07_compare_n n a b = some r → APure X0 41 ([.s (.sl 4 tyAtom) a, .s (.sl 4 tyAtom) b].map DT.toT) (resT ([.s (.int .i64) r].map DT.toT))) : EnvOk X0 (E_ref07_compare_n n) := by
  refine EnvOk.add E_ref07_sign_ok (fun args c h => ?_)
  unfold e_ref07_compare_n at h
  split at h
  · obtain ⟨v0, c0, h⟩ := Option.bind_eq_some_iff.1 h
    obtain ⟨rfl, rfl⟩ := castT_some c0
    obtain ⟨v1, c1, h⟩ := Option.bind_eq_some_iff.1 h
    obtain ⟨rfl, rfl⟩ := castT_some c1
    cases h
    exact ⟨fun r hr => .inl ⟨by kernel_rfl, ih _ _ r hr⟩, fun hb => fun r => noSl_res (by rfl)⟩
  · cases h
set_option maxRecDepth 100000 in
theorem ok_ref07_compare_n : ∀ (n : Nat) (a : (List tAtom)) (b : (List tAtom)) (r : Int) (h : ref07_compare_n n a b = some r), APure X0 41 ([.s (.sl 4 tyAtom) a, .s (.sl 4 tyAtom) b].map DT.toT) (resT ([.s (.int .i64) r].map DT.toT))
  | 0, a, b, r, h => by unfold ref07_compare_n at h; cases h
  | n + 1, a, b, r, h => by
    unfold ref07_compare_n at h
    refine APure_of_machine (F := F_ref07_compare) (fuel := 3000) (E := (E_ref07_compare_n n)) Yok (E_ref07_compare_n_ok n (ok_ref07_compare_n n)) mixed Try.func41 rfl rfl rfl (by decide) (args := [.s (.sl 4 tyAtom) a, .s (.sl 4 tyAtom) b]) (Nat.le_of_ble_eq_true rfl) (by kernel_rfl) lab_ref07_compare (st_ref07_compare (ref07_compare_n n)) (fun r => [.s (.int .i64) r]) ?_ ?_ ?_ h
    · intro l; cases l
      · exact WF_list ⟨trivial, trivial, trivial, trivial⟩
    · intro l goto ret; cases l with
      | l15 p q i =>
        show _ = push (sg_ref07_compare_15 (ref07_compare_n n) p q i) (fun l' => goto (lab_ref07_compare l').1 (lab_ref07_compare l').2) (fun r => ret [.s (.int .i64) r])
        unfold sg_ref07_compare_15
        simp only [push_G, push_ite, push_bind, push_inl, push_inr, -eq_self]
        kernel_rfl
    · intro goto ret
      show _ = push (en_ref07_compare (ref07_compare_n n) a b) (fun l' => goto (lab_ref07_compare l').1 (lab_ref07_compare l').2) (fun r => ret [.s (.int .i64) r])
      unfold en_ref07_compare
      simp only [push_G, push_ite, push_bind, push_inl, push_inr, -eq_self]
      kernel_rfl
theorem ok_ref07_compare (a : (List tAtom)) (b : (List tAtom)) (r : Int) (h : ref07_compare a b = some r) : APure X0 41 ([.s (.sl 4 tyAtom) a, .s (.sl 4 tyAtom) b].map DT.toT) (resT ([.s (.int .i64) r].map DT.toT)) := ok_ref07_compare_n 64 a b r h
noncomputable def e_ref07_compare : List DT → Option CallRes
  | [.s t0 y0, .s t1 y1] => (castT (b := (.sl 4 tyAtom)) y0).bind fun a => (castT (b := (.sl 4 tyAtom)) y1).bind fun b => some ⟨Int, ref07_compare a b, fun r => .s (.int .i64) r, (0 : Int), true⟩
  | _ => none
noncomputable def E_ref07_compare : Env := Env.add 41 (e_ref07_compare) E_ref07_sign
theorem E_ref07_compare_ok : EnvOk X0 (E_ref07_compare) := by
  refine EnvOk.add E_ref07_sign_ok (fun args c h => ?_)
  unfold e_ref07_compare at h
  split at h
  · obtain ⟨v0, c0, h⟩ := Option.bind_eq_some_iff.1 h
    obtain ⟨rfl, rfl⟩ := castT_some c0
    obtain ⟨v1, c1, h⟩ := Option.bind_eq_some_iff.1 h
    obtain ⟨rfl, rfl⟩ := castT_some c1
    cases h
    exact ⟨fun r hr => .inl ⟨by kernel_rfl, ok_ref07_compare _ _ r hr⟩, fun hb => fun r => noSl_res (by rfl)⟩
  · cases h

/-! ### 22 onceweb/oncewebref07.Compare -/
def F_ref07_Compare : FnD := { n := 19, rs := [4, 5], labels := [(4, [0, 1, 6])] }
def lab_ref07_Compare : L_ref07_Compare → Nat × DSt
  | .l4 a b e => (4, [(0, .t (.s (.sl 4 tyAtom) a)), (1, .t (.s (.sl 4 tyAtom) b)), (6, .t (.s (.int .i64) e))])
set_option maxRecDepth 100000 in
theorem ok_ref07_Compare (a : (List tAtom)) (b : (List tAtom)) (r : (Int × Int)) (h : ref07_Compare a b = some r) : APure X0 22 ([.s (.sl 4 tyAtom) a, .s (.sl 4 tyAtom) b].map DT.toT) (resT ([.s (.int .i64) r.1, .s (.int .i64) r.2].map DT.toT)) := by
  refine APure_of_machine (F := F_ref07_Compare) (fuel := 3000) (E := E_ref07_compare) Yok E_ref07_compare_ok mixed Try.func22 rfl rfl rfl (by decide) (args := [.s (.sl 4 tyAtom) a, .s (.sl 4 tyAtom) b]) (Nat.le_of_ble_eq_true rfl) (by kernel_rfl) lab_ref07_Compare st_ref07_Compare (fun r => [.s (.int .i64) r.1, .s (.int .i64) r.2]) ?_ ?_ ?_ h
  · intro l; cases l
    · exact WF_list ⟨trivial, trivial, trivial, trivial⟩
  · intro l goto ret; cases l with
    | l4 a b e =>
      show _ = push (sg_ref07_Compare_4 a b e) (fun l' => goto (lab_ref07_Compare l').1 (lab_ref07_Compare l').2) (fun r => ret [.s (.int .i64) r.1, .s (.int .i64) r.2])
      unfold sg_ref07_Compare_4
      simp only [push_G, push_ite, push_bind, push_inl, push_inr, -eq_self]
      kernel_rfl
  · intro goto ret
    show _ = push (en_ref07_Compare a b) (fun l' => goto (lab_ref07_Compare l').1 (lab_ref07_Compare l').2) (fun r => ret [.s (.int .i64) r.1, .s (.int .i64) r.2])
    unfold en_ref07_Compare
    simp only [push_G, push_ite, push_bind, push_inl, push_inr, -eq_self]
    kernel_rfl
noncomputable def e_ref07_Compare : List DT → Option CallRes
  | [.s t0 y0, .s t1 y1] => (castT (b := (.sl 4 tyAtom)) y0).bind fun a => (castT (b := (.sl 4 tyAtom)) y1).bind fun b => some ⟨(Int × Int), ref07_Compare a b, fun r => .tup [.s (.int .i64) r.1, .s (.int .i64) r.2], ((0 : Int), (0 : Int)), true⟩
  | _ => none
noncomputable def E_ref07_Compare : Env := Env.add 22 e_ref07_Compare E_ref07_compare
theorem E_ref07_Compare_ok : EnvOk X0 E_ref07_Compare := by
  refine EnvOk.add E_ref07_compare_ok (fun args c h => ?_)
  unfold e_ref07_Compare at h
  split at h
  · obtain ⟨v0, c0, h⟩ := Option.bind_eq_some_iff.1 h
    obtain ⟨rfl, rfl⟩ := castT_some c0
    obtain ⟨v1, c1, h⟩ := Option.bind_eq_some_iff.1 h
    obtain ⟨rfl, rfl⟩ := castT_some c1
    cases h
    exact ⟨fun r hr => .inl ⟨by kernel_rfl, ok_ref07_Compare _ _ r hr⟩, fun hb => fun r => noSl_res (by rfl)⟩
  · cases h

end Go.Eng
