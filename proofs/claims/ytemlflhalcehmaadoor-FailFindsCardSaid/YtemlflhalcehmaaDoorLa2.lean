/- A part of the proof: La2. -/
import Derived.Test.YtemlflhalcehmaaDoorLa1
import Derived.Test.YtemlflhalcehmaaDoorHs
namespace Go.Eng
open Go.Proofs Go.RowKit
set_option linter.unusedVariables false
set_option linter.unusedSimpArgs false

/-! ### 49 onceweb/oncewebref03.parts -/
def F_ref03_parts : FnD := { n := 43, rs := [4], labels := [(5, [5, 7, 8, 9])] }
def lab_ref03_parts : L_ref03_parts → Nat × DSt
  | .l5 from_ out k i => (5, [(5, .t (.own 3 (.int .i64) from_)), (7, .t (.own 3 (.int .i64) out)), (8, .t (.s (.int .i64) k)), (9, .t (.s (.int .i64) i))])
set_option maxRecDepth 100000 in
theorem ok_ref03_parts (f : (List tCrack)) (at_ : Int) (r : (List Int)) (h : ref03_parts f at_ = some r) : APure X0 49 ([.s (.sl 3 tyCrack) f, .s (.int .i64) at_].map DT.toT) (resT ([.own 3 (.int .i64) r].map DT.toT)) := by
  refine APure_of_machine (F := F_ref03_parts) (fuel := 3000) (E := E_fail_Parts) Yok E_fail_Parts_ok mixed Tryd.func49 rfl rfl rfl (by decide) (args := [.s (.sl 3 tyCrack) f, .s (.int .i64) at_]) (Nat.le_of_ble_eq_true rfl) (by kernel_rfl) lab_ref03_parts st_ref03_parts (fun r => [.own 3 (.int .i64) r]) ?_ ?_ ?_ h
  · intro l; cases l
    · exact WF_list ⟨trivial, trivial, trivial, trivial, trivial⟩
  · intro l goto ret; cases l with
    | l5 from_ out k i =>
      show _ = push (sg_ref03_parts_5 from_ out k i) (fun l' => goto (lab_ref03_parts l').1 (lab_ref03_parts l').2) (fun r => ret [.own 3 (.int .i64) r])
      unfold sg_ref03_parts_5
      simp only [push_G, push_ite, push_bind, push_inl, push_inr]
      kernel_rfl
  · intro goto ret
    show _ = push (en_ref03_parts f at_) (fun l' => goto (lab_ref03_parts l').1 (lab_ref03_parts l').2) (fun r => ret [.own 3 (.int .i64) r])
    unfold en_ref03_parts
    simp only [push_G, push_ite, push_bind, push_inl, push_inr]
    kernel_rfl
noncomputable def e_ref03_parts : List DT → Option CallRes
  | [.s t0 y0, .s t1 y1] => (castT (b := (.sl 3 tyCrack)) y0).bind fun f => (castT (b := (.int .i64)) y1).bind fun at_ => some ⟨(List Int), ref03_parts f at_, fun r => .own 3 (.int .i64) r, ([] : List Int), true⟩
  | _ => none
noncomputable def E_ref03_parts : Env := Env.add 49 e_ref03_parts E_fail_Parts
theorem E_ref03_parts_ok : EnvOk X0 E_ref03_parts := by
  refine EnvOk.add E_fail_Parts_ok (fun args c h => ?_)
  unfold e_ref03_parts at h
  split at h
  · obtain ⟨v0, c0, h⟩ := Option.bind_eq_some_iff.1 h
    obtain ⟨rfl, rfl⟩ := castT_some c0
    obtain ⟨v1, c1, h⟩ := Option.bind_eq_some_iff.1 h
    obtain ⟨rfl, rfl⟩ := castT_some c1
    cases h
    exact ⟨fun r hr => .inl ⟨by kernel_rfl, ok_ref03_parts _ _ r hr⟩, fun hb => fun r => noSl_res (by rfl)⟩
  · cases h

/-! ### 18 onceweb/oncewebref03.Parts -/
def F_ref03_Parts : FnD := { n := 23, rs := [4, 5] }
set_option maxRecDepth 100000 in
theorem ok_ref03_Parts (f : (List tCrack)) (at_ : Int) (r : ((List Int) × Int)) (h : ref03_Parts f at_ = some r) : APure X0 18 ([.s (.sl 3 tyCrack) f, .s (.int .i64) at_].map DT.toT) (resT ([.own 3 (.int .i64) r.1, .s (.int .i64) r.2].map DT.toT)) := by
  refine APure_of_straight (F := F_ref03_Parts) (fuel := 3000) (E := E_ref03_parts) Yok E_ref03_parts_ok mixed Tryd.func18 rfl rfl rfl (by decide) (args := [.s (.sl 3 tyCrack) f, .s (.int .i64) at_]) (Nat.le_of_ble_eq_true rfl) (by kernel_rfl) (fun r => [.own 3 (.int .i64) r.1, .s (.int .i64) r.2]) ?_ h
  intro goto ret
  unfold ref03_Parts
  simp only [bnd_G, bnd_ite, bnd_bind, bnd_some]
  kernel_rfl
noncomputable def e_ref03_Parts : List DT → Option CallRes
  | [.s t0 y0, .s t1 y1] => (castT (b := (.sl 3 tyCrack)) y0).bind fun f => (castT (b := (.int .i64)) y1).bind fun at_ => some ⟨((List Int) × Int), ref03_Parts f at_, fun r => .tup [.own 3 (.int .i64) r.1, .s (.int .i64) r.2], (([] : List Int), (0 : Int)), true⟩
  | _ => none
noncomputable def E_ref03_Parts : Env := Env.add 18 e_ref03_Parts E_ref03_parts
theorem E_ref03_Parts_ok : EnvOk X0 E_ref03_Parts := by
  refine EnvOk.add E_ref03_parts_ok (fun args c h => ?_)
  unfold e_ref03_Parts at h
  split at h
  · obtain ⟨v0, c0, h⟩ := Option.bind_eq_some_iff.1 h
    obtain ⟨rfl, rfl⟩ := castT_some c0
    obtain ⟨v1, c1, h⟩ := Option.bind_eq_some_iff.1 h
    obtain ⟨rfl, rfl⟩ := castT_some c1
    cases h
    exact ⟨fun r hr => .inl ⟨by kernel_rfl, ok_ref03_Parts _ _ r hr⟩, fun hb => fun r => noSl_res (by rfl)⟩
  · cases h

/-! ### 19 onceweb/oncewebbase.SameInts -/
def F_base_SameInts : FnD := { n := 26, rs := [4], labels := [(4, [0, 1, 5])] }
def lab_base_SameInts : L_base_SameInts → Nat × DSt
  | .l4 a b i => (4, [(0, .t (.s (.sl 1 (.int .i64)) a)), (1, .t (.s (.sl 1 (.int .i64)) b)), (5, .t (.s (.int .i64) i))])
set_option maxRecDepth 100000 in
theorem ok_base_SameInts (a : (List Int)) (b : (List Int)) (r : Bool) (h : base_SameInts a b = some r) : APure X0 19 ([.s (.sl 1 (.int .i64)) a, .s (.sl 1 (.int .i64)) b].map DT.toT) (resT ([.s .bool r].map DT.toT)) := by
  refine APure_of_machine (F := F_base_SameInts) (fuel := 3000) (E := E_ref03_Parts) Yok E_ref03_Parts_ok mixed Tryd.func19 rfl rfl rfl (by decide) (args := [.s (.sl 1 (.int .i64)) a, .s (.sl 1 (.int .i64)) b]) (Nat.le_of_ble_eq_true rfl) (by kernel_rfl) lab_base_SameInts st_base_SameInts (fun r => [.s .bool r]) ?_ ?_ ?_ h
  · intro l; cases l
    · exact WF_list ⟨trivial, trivial, trivial, trivial⟩
  · intro l goto ret; cases l with
    | l4 a b i =>
      show _ = push (sg_base_SameInts_4 a b i) (fun l' => goto (lab_base_SameInts l').1 (lab_base_SameInts l').2) (fun r => ret [.s .bool r])
      unfold sg_base_SameInts_4
      simp only [push_G, push_ite, push_bind, push_inl, push_inr]
      kernel_rfl
  · intro goto ret
    show _ = push (en_base_SameInts a b) (fun l' => goto (lab_base_SameInts l').1 (lab_base_SameInts l').2) (fun r => ret [.s .bool r])
    unfold en_base_SameInts
    simp only [push_G, push_ite, push_bind, push_inl, push_inr]
    kernel_rfl
noncomputable def e_base_SameInts : List DT → Option CallRes
  | [.s t0 y0, .s t1 y1] => (castT (b := (.sl 1 (.int .i64))) y0).bind fun a => (castT (b := (.sl 1 (.int .i64))) y1).bind fun b => some ⟨Bool, base_SameInts a b, fun r => .s .bool r, false, true⟩
  | _ => none
noncomputable def E_base_SameInts : Env := Env.add 19 e_base_SameInts E_ref03_Parts
theorem E_base_SameInts_ok : EnvOk X0 E_base_SameInts := by
  refine EnvOk.add E_ref03_Parts_ok (fun args c h => ?_)
  unfold e_base_SameInts at h
  split at h
  · obtain ⟨v0, c0, h⟩ := Option.bind_eq_some_iff.1 h
    obtain ⟨rfl, rfl⟩ := castT_some c0
    obtain ⟨v1, c1, h⟩ := Option.bind_eq_some_iff.1 h
    obtain ⟨rfl, rfl⟩ := castT_some c1
    cases h
    exact ⟨fun r hr => .inl ⟨by kernel_rfl, ok_base_SameInts _ _ r hr⟩, fun hb => fun r => noSl_res (by rfl)⟩
  · cases h

/-! ### 20 onceweb/fail.Leaves -/
def F_fail_Leaves : FnD := { n := 29, rs := [2, 3], labels := [(6, [5, 13, 14, 15])] }
def Y_fail_Leaves : DX := { Y0 with o2 := [2, 5, 25] }
theorem Yok_fail_Leaves : DXOk Y_fail_Leaves X0 := ⟨Yok.tab, Yok.gl⟩
def lab_fail_Leaves : L_fail_Leaves → Nat × DSt
  | .l6 out x13 x14 x15 => (6, [(5, .t (.own2 23 60 tyCrack out)), (13, .t (.s (.sl 3 tyCrack) x13)), (14, .t (.s (.int .i64) x14)), (15, .t (.s (.int .i64) x15))])
set_option maxRecDepth 100000 in
theorem ok_fail_Leaves (f : (List tCrack)) (r : ((List (Bool × List tCrack)) × Int)) (h : fail_Leaves f = some r) : APure X0 20 ([.s (.sl 3 tyCrack) f].map DT.toT) (resT ([.own2 23 60 tyCrack r.1, .s (.int .i64) r.2].map DT.toT)) := by
  refine APure_of_machine (F := F_fail_Leaves) (fuel := 3000) (E := E_base_SameInts) Yok_fail_Leaves E_base_SameInts_ok mixed Tryd.func20 rfl rfl rfl (by decide) (args := [.s (.sl 3 tyCrack) f]) (Nat.le_of_ble_eq_true rfl) (by kernel_rfl) lab_fail_Leaves st_fail_Leaves (fun r => [.own2 23 60 tyCrack r.1, .s (.int .i64) r.2]) ?_ ?_ ?_ h
  · intro l; cases l
    · exact WF_list ⟨trivial, trivial, trivial, trivial, trivial⟩
  · intro l goto ret; cases l with
    | l6 out x13 x14 x15 =>
      show _ = push (sg_fail_Leaves_6 out x13 x14 x15) (fun l' => goto (lab_fail_Leaves l').1 (lab_fail_Leaves l').2) (fun r => ret [.own2 23 60 tyCrack r.1, .s (.int .i64) r.2])
      unfold sg_fail_Leaves_6
      simp only [push_G, push_ite, push_bind, push_inl, push_inr, -eq_self]
      kernel_rfl
  · intro goto ret
    show _ = push (en_fail_Leaves f) (fun l' => goto (lab_fail_Leaves l').1 (lab_fail_Leaves l').2) (fun r => ret [.own2 23 60 tyCrack r.1, .s (.int .i64) r.2])
    unfold en_fail_Leaves
    simp only [push_G, push_ite, push_bind, push_inl, push_inr, -eq_self]
    kernel_rfl
noncomputable def e_fail_Leaves : List DT → Option CallRes
  | [.s t0 y0] => (castT (b := (.sl 3 tyCrack)) y0).bind fun f => some ⟨((List (Bool × List tCrack)) × Int), fail_Leaves f, fun r => .tup [.own2 23 60 tyCrack r.1, .s (.int .i64) r.2], ([], (0 : Int)), false⟩
  | _ => none
noncomputable def E_fail_Leaves : Env := Env.add 20 e_fail_Leaves E_base_SameInts
theorem E_fail_Leaves_ok : EnvOk X0 E_fail_Leaves := by
  refine EnvOk.add E_base_SameInts_ok (fun args c h => ?_)
  unfold e_fail_Leaves at h
  split at h
  · obtain ⟨v0, c0, h⟩ := Option.bind_eq_some_iff.1 h
    obtain ⟨rfl, rfl⟩ := castT_some c0
    cases h
    exact ⟨fun r hr => .inl ⟨by kernel_rfl, ok_fail_Leaves _ r hr⟩, fun hb => by cases hb⟩
  · cases h

/-! ### 21 onceweb/oncewebref03.Leaves -/
def F_ref03_Leaves : FnD := { n := 34, rs := [2, 3], labels := [(6, [0, 5, 6])] }
def lab_ref03_Leaves : L_ref03_Leaves → Nat × DSt
  | .l6 f out i => (6, [(0, .t (.s (.sl 3 tyCrack) f)), (5, .t (.own 23 (.sl 3 tyCrack) out)), (6, .t (.s (.int .i64) i))])
set_option maxRecDepth 100000 in
theorem ok_ref03_Leaves (f : (List tCrack)) (r : ((List (List tCrack)) × Int)) (h : ref03_Leaves f = some r) : APure X0 21 ([.s (.sl 3 tyCrack) f].map DT.toT) (resT ([.own 23 (.sl 3 tyCrack) r.1, .s (.int .i64) r.2].map DT.toT)) := by
  refine APure_of_machine (F := F_ref03_Leaves) (fuel := 3000) (E := E_fail_Leaves) Yok E_fail_Leaves_ok mixed Tryd.func21 rfl rfl rfl (by decide) (args := [.s (.sl 3 tyCrack) f]) (Nat.le_of_ble_eq_true rfl) (by kernel_rfl) lab_ref03_Leaves st_ref03_Leaves (fun r => [.own 23 (.sl 3 tyCrack) r.1, .s (.int .i64) r.2]) ?_ ?_ ?_ h
  · intro l; cases l
    · exact WF_list ⟨trivial, trivial, trivial, trivial⟩
  · intro l goto ret; cases l with
    | l6 f out i =>
      show _ = push (sg_ref03_Leaves_6 f out i) (fun l' => goto (lab_ref03_Leaves l').1 (lab_ref03_Leaves l').2) (fun r => ret [.own 23 (.sl 3 tyCrack) r.1, .s (.int .i64) r.2])
      unfold sg_ref03_Leaves_6
      simp only [push_G, push_ite, push_bind, push_inl, push_inr]
      kernel_rfl
  · intro goto ret
    show _ = push (en_ref03_Leaves f) (fun l' => goto (lab_ref03_Leaves l').1 (lab_ref03_Leaves l').2) (fun r => ret [.own 23 (.sl 3 tyCrack) r.1, .s (.int .i64) r.2])
    unfold en_ref03_Leaves
    simp only [push_G, push_ite, push_bind, push_inl, push_inr]
    kernel_rfl
noncomputable def e_ref03_Leaves : List DT → Option CallRes
  | [.s t0 y0] => (castT (b := (.sl 3 tyCrack)) y0).bind fun f => some ⟨((List (List tCrack)) × Int), ref03_Leaves f, fun r => .tup [.own 23 (.sl 3 tyCrack) r.1, .s (.int .i64) r.2], (([] : List (List tCrack)), (0 : Int)), false⟩
  | _ => none
noncomputable def E_ref03_Leaves : Env := Env.add 21 e_ref03_Leaves E_fail_Leaves
theorem E_ref03_Leaves_ok : EnvOk X0 E_ref03_Leaves := by
  refine EnvOk.add E_fail_Leaves_ok (fun args c h => ?_)
  unfold e_ref03_Leaves at h
  split at h
  · obtain ⟨v0, c0, h⟩ := Option.bind_eq_some_iff.1 h
    obtain ⟨rfl, rfl⟩ := castT_some c0
    cases h
    exact ⟨fun r hr => .inl ⟨by kernel_rfl, ok_ref03_Leaves _ r hr⟩, fun hb => by cases hb⟩
  · cases h

/-! ### 23 onceweb/fail.Path -/
def F_fail_Path : FnD := { n := 38, rs := [2, 3], labels := [(7, [0, 5, 6]), (9, [0, 5, 6])] }
def lab_fail_Path : L_fail_Path → Nat × DSt
  | .l7 f out at_ => (7, [(0, .t (.s (.sl 3 tyCrack) f)), (5, .t (.own 9 .str out)), (6, .t (.s (.int .i64) at_))])
  | .l9 f out at_ => (9, [(0, .t (.s (.sl 3 tyCrack) f)), (5, .t (.own 9 .str out)), (6, .t (.s (.int .i64) at_))])
set_option maxRecDepth 100000 in
theorem ok_fail_Path (f : (List tCrack)) (r : ((List (List UInt8)) × Int)) (h : fail_Path f = some r) : APure X0 23 ([.s (.sl 3 tyCrack) f].map DT.toT) (resT ([.own 9 .str r.1, .s (.int .i64) r.2].map DT.toT)) := by
  refine APure_of_machine (F := F_fail_Path) (fuel := 3000) (E := E_ref03_Leaves) Yok E_ref03_Leaves_ok mixed Tryd.func23 rfl rfl rfl (by decide) (args := [.s (.sl 3 tyCrack) f]) (Nat.le_of_ble_eq_true rfl) (by kernel_rfl) lab_fail_Path st_fail_Path (fun r => [.own 9 .str r.1, .s (.int .i64) r.2]) ?_ ?_ ?_ h
  · intro l; cases l
    · exact WF_list ⟨trivial, trivial, trivial, trivial⟩
    · exact WF_list ⟨trivial, trivial, trivial, trivial⟩
  · intro l goto ret; cases l with
    | l7 f out at_ =>
      show _ = push (sg_fail_Path_7 f out at_) (fun l' => goto (lab_fail_Path l').1 (lab_fail_Path l').2) (fun r => ret [.own 9 .str r.1, .s (.int .i64) r.2])
      unfold sg_fail_Path_7
      simp only [push_G, push_ite, push_bind, push_inl, push_inr]
      kernel_rfl
    | l9 f out at_ =>
      show _ = push (sg_fail_Path_9 f out at_) (fun l' => goto (lab_fail_Path l').1 (lab_fail_Path l').2) (fun r => ret [.own 9 .str r.1, .s (.int .i64) r.2])
      unfold sg_fail_Path_9
      simp only [push_G, push_ite, push_bind, push_inl, push_inr]
      kernel_rfl
  · intro goto ret
    show _ = push (en_fail_Path f) (fun l' => goto (lab_fail_Path l').1 (lab_fail_Path l').2) (fun r => ret [.own 9 .str r.1, .s (.int .i64) r.2])
    unfold en_fail_Path
    simp only [push_G, push_ite, push_bind, push_inl, push_inr]
    kernel_rfl
noncomputable def e_fail_Path : List DT → Option CallRes
  | [.s t0 y0] => (castT (b := (.sl 3 tyCrack)) y0).bind fun f => some ⟨((List (List UInt8)) × Int), fail_Path f, fun r => .tup [.own 9 .str r.1, .s (.int .i64) r.2], (([] : List (List UInt8)), (0 : Int)), true⟩
  | _ => none
noncomputable def E_fail_Path : Env := Env.add 23 e_fail_Path E_ref03_Leaves
theorem E_fail_Path_ok : EnvOk X0 E_fail_Path := by
  refine EnvOk.add E_ref03_Leaves_ok (fun args c h => ?_)
  unfold e_fail_Path at h
  split at h
  · obtain ⟨v0, c0, h⟩ := Option.bind_eq_some_iff.1 h
    obtain ⟨rfl, rfl⟩ := castT_some c0
    cases h
    exact ⟨fun r hr => .inl ⟨by kernel_rfl, ok_fail_Path _ r hr⟩, fun hb => fun r => noSl_res (by rfl)⟩
  · cases h

/-! ### 24 onceweb/oncewebref03.Path -/
def F_ref03_Path : FnD := { n := 39, rs := [2, 3], labels := [(7, [0, 5, 6]), (9, [0, 5, 6])] }
def lab_ref03_Path : L_ref03_Path → Nat × DSt
  | .l7 f out at_ => (7, [(0, .t (.s (.sl 3 tyCrack) f)), (5, .t (.own 9 .str out)), (6, .t (.s (.int .i64) at_))])
  | .l9 f out at_ => (9, [(0, .t (.s (.sl 3 tyCrack) f)), (5, .t (.own 9 .str out)), (6, .t (.s (.int .i64) at_))])
set_option maxRecDepth 100000 in
theorem ok_ref03_Path (f : (List tCrack)) (r : ((List (List UInt8)) × Int)) (h : ref03_Path f = some r) : APure X0 24 ([.s (.sl 3 tyCrack) f].map DT.toT) (resT ([.own 9 .str r.1, .s (.int .i64) r.2].map DT.toT)) := by
  refine APure_of_machine (F := F_ref03_Path) (fuel := 3000) (E := E_fail_Path) Yok E_fail_Path_ok mixed Tryd.func24 rfl rfl rfl (by decide) (args := [.s (.sl 3 tyCrack) f]) (Nat.le_of_ble_eq_true rfl) (by kernel_rfl) lab_ref03_Path st_ref03_Path (fun r => [.own 9 .str r.1, .s (.int .i64) r.2]) ?_ ?_ ?_ h
  · intro l; cases l
    · exact WF_list ⟨trivial, trivial, trivial, trivial⟩
    · exact WF_list ⟨trivial, trivial, trivial, trivial⟩
  · intro l goto ret; cases l with
    | l7 f out at_ =>
      show _ = push (sg_ref03_Path_7 f out at_) (fun l' => goto (lab_ref03_Path l').1 (lab_ref03_Path l').2) (fun r => ret [.own 9 .str r.1, .s (.int .i64) r.2])
      unfold sg_ref03_Path_7
      simp only [push_G, push_ite, push_bind, push_inl, push_inr]
      kernel_rfl
    | l9 f out at_ =>
      show _ = push (sg_ref03_Path_9 f out at_) (fun l' => goto (lab_ref03_Path l').1 (lab_ref03_Path l').2) (fun r => ret [.own 9 .str r.1, .s (.int .i64) r.2])
      unfold sg_ref03_Path_9
      simp only [push_G, push_ite, push_bind, push_inl, push_inr]
      kernel_rfl
  · intro goto ret
    show _ = push (en_ref03_Path f) (fun l' => goto (lab_ref03_Path l').1 (lab_ref03_Path l').2) (fun r => ret [.own 9 .str r.1, .s (.int .i64) r.2])
    unfold en_ref03_Path
    simp only [push_G, push_ite, push_bind, push_inl, push_inr]
    kernel_rfl
noncomputable def e_ref03_Path : List DT → Option CallRes
  | [.s t0 y0] => (castT (b := (.sl 3 tyCrack)) y0).bind fun f => some ⟨((List (List UInt8)) × Int), ref03_Path f, fun r => .tup [.own 9 .str r.1, .s (.int .i64) r.2], (([] : List (List UInt8)), (0 : Int)), true⟩
  | _ => none
noncomputable def E_ref03_Path : Env := Env.add 24 e_ref03_Path E_fail_Path
theorem E_ref03_Path_ok : EnvOk X0 E_ref03_Path := by
  refine EnvOk.add E_fail_Path_ok (fun args c h => ?_)
  unfold e_ref03_Path at h
  split at h
  · obtain ⟨v0, c0, h⟩ := Option.bind_eq_some_iff.1 h
    obtain ⟨rfl, rfl⟩ := castT_some c0
    cases h
    exact ⟨fun r hr => .inl ⟨by kernel_rfl, ok_ref03_Path _ r hr⟩, fun hb => fun r => noSl_res (by rfl)⟩
  · cases h

/-! ### 25 onceweb/oncewebbase.SameTexts -/
def F_base_SameTexts : FnD := { n := 26, rs := [4], labels := [(4, [0, 1, 5])] }
def lab_base_SameTexts : L_base_SameTexts → Nat × DSt
  | .l4 a b i => (4, [(0, .t (.s (.sl 1 .str) a)), (1, .t (.s (.sl 1 .str) b)), (5, .t (.s (.int .i64) i))])
set_option maxRecDepth 100000 in
theorem ok_base_SameTexts (a : (List (List UInt8))) (b : (List (List UInt8))) (r : Bool) (h : base_SameTexts a b = some r) : APure X0 25 ([.s (.sl 1 .str) a, .s (.sl 1 .str) b].map DT.toT) (resT ([.s .bool r].map DT.toT)) := by
  refine APure_of_machine (F := F_base_SameTexts) (fuel := 3000) (E := E_ref03_Path) Yok E_ref03_Path_ok mixed Tryd.func25 rfl rfl rfl (by decide) (args := [.s (.sl 1 .str) a, .s (.sl 1 .str) b]) (Nat.le_of_ble_eq_true rfl) (by kernel_rfl) lab_base_SameTexts st_base_SameTexts (fun r => [.s .bool r]) ?_ ?_ ?_ h
  · intro l; cases l
    · exact WF_list ⟨trivial, trivial, trivial, trivial⟩
  · intro l goto ret; cases l with
    | l4 a b i =>
      show _ = push (sg_base_SameTexts_4 a b i) (fun l' => goto (lab_base_SameTexts l').1 (lab_base_SameTexts l').2) (fun r => ret [.s .bool r])
      unfold sg_base_SameTexts_4
      simp only [push_G, push_ite, push_bind, push_inl, push_inr]
      kernel_rfl
  · intro goto ret
    show _ = push (en_base_SameTexts a b) (fun l' => goto (lab_base_SameTexts l').1 (lab_base_SameTexts l').2) (fun r => ret [.s .bool r])
    unfold en_base_SameTexts
    simp only [push_G, push_ite, push_bind, push_inl, push_inr]
    kernel_rfl
noncomputable def e_base_SameTexts : List DT → Option CallRes
  | [.s t0 y0, .s t1 y1] => (castT (b := (.sl 1 .str)) y0).bind fun a => (castT (b := (.sl 1 .str)) y1).bind fun b => some ⟨Bool, base_SameTexts a b, fun r => .s .bool r, false, true⟩
  | _ => none
noncomputable def E_base_SameTexts : Env := Env.add 25 e_base_SameTexts E_ref03_Path
theorem E_base_SameTexts_ok : EnvOk X0 E_base_SameTexts := by
  refine EnvOk.add E_ref03_Path_ok (fun args c h => ?_)
  unfold e_base_SameTexts at h
  split at h
  · obtain ⟨v0, c0, h⟩ := Option.bind_eq_some_iff.1 h
    obtain ⟨rfl, rfl⟩ := castT_some c0
    obtain ⟨v1, c1, h⟩ := Option.bind_eq_some_iff.1 h
    obtain ⟨rfl, rfl⟩ := castT_some c1
    cases h
    exact ⟨fun r hr => .inl ⟨by kernel_rfl, ok_base_SameTexts _ _ r hr⟩, fun hb => fun r => noSl_res (by rfl)⟩
  · cases h

/-! ### 4 onceweb/onceweblaw03.FailParts -/
def F_law03_FailParts : FnD := { n := 102, rs := [4], labels := [(11, [0, 5, 10, 11, 12])] }
def Y_law03_FailParts : DX := { Y0 with o2 := [67, 77] }
theorem Yok_law03_FailParts : DXOk Y_law03_FailParts X0 := ⟨Yok.tab, Yok.gl⟩
def lab_law03_FailParts : L_law03_FailParts → Nat × DSt
  | .l11 f own l m i => (11, [(0, .t (.s (.sl 3 tyCrack) f)), (5, .t (.s (.sl 3 tyCrack) own)), (10, .t (.own2 23 60 tyCrack l)), (11, .t (.own 23 (.sl 3 tyCrack) m)), (12, .t (.s (.int .i64) i))])
set_option maxRecDepth 100000 in
theorem ok_law03_FailParts (f : (List tCrack)) (at_ : Int) (r : Bool) (h : law03_FailParts f at_ = some r) : APure X0 4 ([.s (.sl 3 tyCrack) f, .s (.int .i64) at_].map DT.toT) (resT ([.s .bool r].map DT.toT)) := by
  refine APure_of_machine (F := F_law03_FailParts) (fuel := 3000) (E := E_base_SameTexts) Yok_law03_FailParts E_base_SameTexts_ok mixed Tryd.func4 rfl rfl rfl (by decide) (args := [.s (.sl 3 tyCrack) f, .s (.int .i64) at_]) (Nat.le_of_ble_eq_true rfl) (by kernel_rfl) lab_law03_FailParts st_law03_FailParts (fun r => [.s .bool r]) ?_ ?_ ?_ h
  · intro l; cases l
    · exact WF_list ⟨trivial, trivial, trivial, trivial, trivial, trivial⟩
  · intro l goto ret; cases l with
    | l11 f own l m i =>
      show _ = push (sg_law03_FailParts_11 f own l m i) (fun l' => goto (lab_law03_FailParts l').1 (lab_law03_FailParts l').2) (fun r => ret [.s .bool r])
      unfold sg_law03_FailParts_11
      simp only [push_G, push_ite, push_bind, push_inl, push_inr, -eq_self]
      kernel_rfl
  · intro goto ret
    show _ = push (en_law03_FailParts f at_) (fun l' => goto (lab_law03_FailParts l').1 (lab_law03_FailParts l').2) (fun r => ret [.s .bool r])
    unfold en_law03_FailParts
    simp only [push_G, push_ite, push_bind, push_inl, push_inr, -eq_self]
    kernel_rfl
noncomputable def e_law03_FailParts : List DT → Option CallRes
  | [.s t0 y0, .s t1 y1] => (castT (b := (.sl 3 tyCrack)) y0).bind fun f => (castT (b := (.int .i64)) y1).bind fun at_ => some ⟨Bool, law03_FailParts f at_, fun r => .s .bool r, false, true⟩
  | _ => none
noncomputable def E_law03_FailParts : Env := Env.add 4 e_law03_FailParts E_base_SameTexts
theorem E_law03_FailParts_ok : EnvOk X0 E_law03_FailParts := by
  refine EnvOk.add E_base_SameTexts_ok (fun args c h => ?_)
  unfold e_law03_FailParts at h
  split at h
  · obtain ⟨v0, c0, h⟩ := Option.bind_eq_some_iff.1 h
    obtain ⟨rfl, rfl⟩ := castT_some c0
    obtain ⟨v1, c1, h⟩ := Option.bind_eq_some_iff.1 h
    obtain ⟨rfl, rfl⟩ := castT_some c1
    cases h
    exact ⟨fun r hr => .inl ⟨by kernel_rfl, ok_law03_FailParts _ _ r hr⟩, fun hb => fun r => noSl_res (by rfl)⟩
  · cases h

/-! ### 55 slices.Equal[onceweb/api.Fail,onceweb/api.Crack] -/
def F_slices_Equal : FnD := { n := 26, rs := [4], labels := [(4, [0, 1, 12, 13])] }
def lab_slices_Equal : L_slices_Equal → Nat × DSt
  | .l4 s1 s2 x12 x13 => (4, [(0, .t (.s (.sl 3 tyCrack) s1)), (1, .t (.s (.sl 3 tyCrack) s2)), (12, .t (.s (.int .i64) x12)), (13, .t (.s (.int .i64) x13))])
set_option maxRecDepth 100000 in
theorem ok_slices_Equal (s1 : (List tCrack)) (s2 : (List tCrack)) (r : Bool) (h : slices_Equal s1 s2 = some r) : APure X0 55 ([.s (.sl 3 tyCrack) s1, .s (.sl 3 tyCrack) s2].map DT.toT) (resT ([.s .bool r].map DT.toT)) := by
  refine APure_of_machine (F := F_slices_Equal) (fuel := 3000) (E := E_law03_FailParts) Yok E_law03_FailParts_ok mixed Tryd.func55 rfl rfl rfl (by decide) (args := [.s (.sl 3 tyCrack) s1, .s (.sl 3 tyCrack) s2]) (Nat.le_of_ble_eq_true rfl) (by kernel_rfl) lab_slices_Equal st_slices_Equal (fun r => [.s .bool r]) ?_ ?_ ?_ h
  · intro l; cases l
    · exact WF_list ⟨trivial, trivial, trivial, trivial, trivial⟩
  · intro l goto ret; cases l with
    | l4 s1 s2 x12 x13 =>
      show _ = push (sg_slices_Equal_4 s1 s2 x12 x13) (fun l' => goto (lab_slices_Equal l').1 (lab_slices_Equal l').2) (fun r => ret [.s .bool r])
      unfold sg_slices_Equal_4
      simp only [push_G, push_ite, push_bind, push_inl, push_inr]
      kernel_rfl
  · intro goto ret
    show _ = push (en_slices_Equal s1 s2) (fun l' => goto (lab_slices_Equal l').1 (lab_slices_Equal l').2) (fun r => ret [.s .bool r])
    unfold en_slices_Equal
    simp only [push_G, push_ite, push_bind, push_inl, push_inr]
    kernel_rfl
noncomputable def e_slices_Equal : List DT → Option CallRes
  | [.s t0 y0, .s t1 y1] => (castT (b := (.sl 3 tyCrack)) y0).bind fun s1 => (castT (b := (.sl 3 tyCrack)) y1).bind fun s2 => some ⟨Bool, slices_Equal s1 s2, fun r => .s .bool r, false, true⟩
  | _ => none
noncomputable def E_slices_Equal : Env := Env.add 55 e_slices_Equal E_law03_FailParts
theorem E_slices_Equal_ok : EnvOk X0 E_slices_Equal := by
  refine EnvOk.add E_law03_FailParts_ok (fun args c h => ?_)
  unfold e_slices_Equal at h
  split at h
  · obtain ⟨v0, c0, h⟩ := Option.bind_eq_some_iff.1 h
    obtain ⟨rfl, rfl⟩ := castT_some c0
    obtain ⟨v1, c1, h⟩ := Option.bind_eq_some_iff.1 h
    obtain ⟨rfl, rfl⟩ := castT_some c1
    cases h
    exact ⟨fun r hr => .inl ⟨by kernel_rfl, ok_slices_Equal _ _ r hr⟩, fun hb => fun r => noSl_res (by rfl)⟩
  · cases h

/-! ### 32 onceweb/fail.Is -/
def F_fail_Is : FnD := { n := 42, rs := [4, 5], labels := [(9, [0, 1, 8, 27, 28, 29])] }
def lab_fail_Is : L_fail_Is → Nat × DSt
  | .l9 f g from_ x28 x29 => (9, [(0, .t (.s (.sl 3 tyCrack) f)), (1, .t (.s (.sl 3 tyCrack) g)), (8, .t (.own 3 (.int .i64) from_)), (27, .ref 8 none 0 from_.length .all), (28, .t (.s (.int .i64) x28)), (29, .t (.s (.int .i64) x29))])
set_option maxRecDepth 100000 in
theorem ok_fail_Is (f : (List tCrack)) (g : (List tCrack)) (r : (Bool × Int)) (h : fail_Is f g = some r) : APure X0 32 ([.s (.sl 3 tyCrack) f, .s (.sl 3 tyCrack) g].map DT.toT) (resT ([.s .bool r.1, .s (.int .i64) r.2].map DT.toT)) := by
  refine APure_of_machine (F := F_fail_Is) (fuel := 3000) (E := E_slices_Equal) Yok E_slices_Equal_ok mixed Tryd.func32 rfl rfl rfl (by decide) (args := [.s (.sl 3 tyCrack) f, .s (.sl 3 tyCrack) g]) (Nat.le_of_ble_eq_true rfl) (by kernel_rfl) lab_fail_Is st_fail_Is (fun r => [.s .bool r.1, .s (.int .i64) r.2]) ?_ ?_ ?_ h
  · intro l; cases l
    · exact WF_list ⟨trivial, trivial, trivial, .inr ⟨_, _, _, rfl, rfl, rfl⟩, trivial, trivial, trivial⟩
  · intro l goto ret; cases l with
    | l9 f g from_ x28 x29 =>
      show _ = push (sg_fail_Is_9 f g from_ x28 x29) (fun l' => goto (lab_fail_Is l').1 (lab_fail_Is l').2) (fun r => ret [.s .bool r.1, .s (.int .i64) r.2])
      unfold sg_fail_Is_9
      simp only [push_G, push_ite, push_bind, push_inl, push_inr]
      kernel_rfl
  · intro goto ret
    show _ = push (en_fail_Is f g) (fun l' => goto (lab_fail_Is l').1 (lab_fail_Is l').2) (fun r => ret [.s .bool r.1, .s (.int .i64) r.2])
    unfold en_fail_Is
    simp only [push_G, push_ite, push_bind, push_inl, push_inr]
    kernel_rfl
noncomputable def e_fail_Is : List DT → Option CallRes
  | [.s t0 y0, .s t1 y1] => (castT (b := (.sl 3 tyCrack)) y0).bind fun f => (castT (b := (.sl 3 tyCrack)) y1).bind fun g => some ⟨(Bool × Int), fail_Is f g, fun r => .tup [.s .bool r.1, .s (.int .i64) r.2], (false, (0 : Int)), true⟩
  | _ => none
noncomputable def E_fail_Is : Env := Env.add 32 e_fail_Is E_slices_Equal
theorem E_fail_Is_ok : EnvOk X0 E_fail_Is := by
  refine EnvOk.add E_slices_Equal_ok (fun args c h => ?_)
  unfold e_fail_Is at h
  split at h
  · obtain ⟨v0, c0, h⟩ := Option.bind_eq_some_iff.1 h
    obtain ⟨rfl, rfl⟩ := castT_some c0
    obtain ⟨v1, c1, h⟩ := Option.bind_eq_some_iff.1 h
    obtain ⟨rfl, rfl⟩ := castT_some c1
    cases h
    exact ⟨fun r hr => .inl ⟨by kernel_rfl, ok_fail_Is _ _ r hr⟩, fun hb => fun r => noSl_res (by rfl)⟩
  · cases h

/-! ### 33 onceweb/oncewebref03.Is -/
def F_ref03_Is : FnD := { n := 40, rs := [4, 5], labels := [(4, [0, 1, 6]), (8, [0, 1, 7, 9])] }
def lab_ref03_Is : L_ref03_Is → Nat × DSt
  | .l4 f g e => (4, [(0, .t (.s (.sl 3 tyCrack) f)), (1, .t (.s (.sl 3 tyCrack) g)), (6, .t (.s (.int .i64) e))])
  | .l8 f g from_ i => (8, [(0, .t (.s (.sl 3 tyCrack) f)), (1, .t (.s (.sl 3 tyCrack) g)), (7, .t (.own 3 (.int .i64) from_)), (9, .t (.s (.int .i64) i))])
set_option maxRecDepth 100000 in
theorem ok_ref03_Is (f : (List tCrack)) (g : (List tCrack)) (r : (Bool × Int)) (h : ref03_Is f g = some r) : APure X0 33 ([.s (.sl 3 tyCrack) f, .s (.sl 3 tyCrack) g].map DT.toT) (resT ([.s .bool r.1, .s (.int .i64) r.2].map DT.toT)) := by
  refine APure_of_machine (F := F_ref03_Is) (fuel := 3000) (E := E_fail_Is) Yok E_fail_Is_ok mixed Tryd.func33 rfl rfl rfl (by decide) (args := [.s (.sl 3 tyCrack) f, .s (.sl 3 tyCrack) g]) (Nat.le_of_ble_eq_true rfl) (by kernel_rfl) lab_ref03_Is st_ref03_Is (fun r => [.s .bool r.1, .s (.int .i64) r.2]) ?_ ?_ ?_ h
  · intro l; cases l
    · exact WF_list ⟨trivial, trivial, trivial, trivial⟩
    · exact WF_list ⟨trivial, trivial, trivial, trivial, trivial⟩
  · intro l goto ret; cases l with
    | l4 f g e =>
      show _ = push (sg_ref03_Is_4 f g e) (fun l' => goto (lab_ref03_Is l').1 (lab_ref03_Is l').2) (fun r => ret [.s .bool r.1, .s (.int .i64) r.2])
      unfold sg_ref03_Is_4
      simp only [push_G, push_ite, push_bind, push_inl, push_inr]
      kernel_rfl
    | l8 f g from_ i =>
      show _ = push (sg_ref03_Is_8 f g from_ i) (fun l' => goto (lab_ref03_Is l').1 (lab_ref03_Is l').2) (fun r => ret [.s .bool r.1, .s (.int .i64) r.2])
      unfold sg_ref03_Is_8
      simp only [push_G, push_ite, push_bind, push_inl, push_inr]
      kernel_rfl
  · intro goto ret
    show _ = push (en_ref03_Is f g) (fun l' => goto (lab_ref03_Is l').1 (lab_ref03_Is l').2) (fun r => ret [.s .bool r.1, .s (.int .i64) r.2])
    unfold en_ref03_Is
    simp only [push_G, push_ite, push_bind, push_inl, push_inr]
    kernel_rfl
noncomputable def e_ref03_Is : List DT → Option CallRes
  | [.s t0 y0, .s t1 y1] => (castT (b := (.sl 3 tyCrack)) y0).bind fun f => (castT (b := (.sl 3 tyCrack)) y1).bind fun g => some ⟨(Bool × Int), ref03_Is f g, fun r => .tup [.s .bool r.1, .s (.int .i64) r.2], (false, (0 : Int)), true⟩
  | _ => none
noncomputable def E_ref03_Is : Env := Env.add 33 e_ref03_Is E_fail_Is
theorem E_ref03_Is_ok : EnvOk X0 E_ref03_Is := by
  refine EnvOk.add E_fail_Is_ok (fun args c h => ?_)
  unfold e_ref03_Is at h
  split at h
  · obtain ⟨v0, c0, h⟩ := Option.bind_eq_some_iff.1 h
    obtain ⟨rfl, rfl⟩ := castT_some c0
    obtain ⟨v1, c1, h⟩ := Option.bind_eq_some_iff.1 h
    obtain ⟨rfl, rfl⟩ := castT_some c1
    cases h
    exact ⟨fun r hr => .inl ⟨by kernel_rfl, ok_ref03_Is _ _ r hr⟩, fun hb => fun r => noSl_res (by rfl)⟩
  · cases h

/-! ### 34 fail_Has: by hand -/
noncomputable def e_fail_Has : List DT → Option CallRes
  | [.s t0 y0, .s t1 y1] => (castT (b := (.sl 3 tyCrack)) y0).bind fun f => (castT (b := (.int .i64)) y1).bind fun kind => some ⟨(Bool × Int), fail_Has f kind, fun r => .tup [.s .bool r.1, .s (.int .i64) r.2], (false, (0 : Int)), true⟩
  | _ => none
noncomputable def E_fail_Has : Env := Env.add 34 e_fail_Has E_ref03_Is
theorem E_fail_Has_ok : EnvOk X0 E_fail_Has := by
  refine EnvOk.add E_ref03_Is_ok (fun args c h => ?_)
  unfold e_fail_Has at h
  split at h
  · obtain ⟨v0, c0, h⟩ := Option.bind_eq_some_iff.1 h
    obtain ⟨rfl, rfl⟩ := castT_some c0
    obtain ⟨v1, c1, h⟩ := Option.bind_eq_some_iff.1 h
    obtain ⟨rfl, rfl⟩ := castT_some c1
    cases h
    exact ⟨fun r hr => .inl ⟨by kernel_rfl, ok_fail_Has _ _ r hr⟩, fun hb => fun r => noSl_res (by rfl)⟩
  · cases h

/-! ### 35 onceweb/oncewebref03.Has -/
def F_ref03_Has : FnD := { n := 32, rs := [4, 5], labels := [(7, [0, 1, 7])] }
def lab_ref03_Has : L_ref03_Has → Nat × DSt
  | .l7 f kind i => (7, [(0, .t (.s (.sl 3 tyCrack) f)), (1, .t (.s (.int .i64) kind)), (7, .t (.s (.int .i64) i))])
set_option maxRecDepth 100000 in
theorem ok_ref03_Has (f : (List tCrack)) (kind : Int) (r : (Bool × Int)) (h : ref03_Has f kind = some r) : APure X0 35 ([.s (.sl 3 tyCrack) f, .s (.int .i64) kind].map DT.toT) (resT ([.s .bool r.1, .s (.int .i64) r.2].map DT.toT)) := by
  refine APure_of_machine (F := F_ref03_Has) (fuel := 3000) (E := E_fail_Has) Yok E_fail_Has_ok mixed Tryd.func35 rfl rfl rfl (by decide) (args := [.s (.sl 3 tyCrack) f, .s (.int .i64) kind]) (Nat.le_of_ble_eq_true rfl) (by kernel_rfl) lab_ref03_Has st_ref03_Has (fun r => [.s .bool r.1, .s (.int .i64) r.2]) ?_ ?_ ?_ h
  · intro l; cases l
    · exact WF_list ⟨trivial, trivial, trivial, trivial⟩
  · intro l goto ret; cases l with
    | l7 f kind i =>
      show _ = push (sg_ref03_Has_7 f kind i) (fun l' => goto (lab_ref03_Has l').1 (lab_ref03_Has l').2) (fun r => ret [.s .bool r.1, .s (.int .i64) r.2])
      unfold sg_ref03_Has_7
      simp only [push_G, push_ite, push_bind, push_inl, push_inr]
      kernel_rfl
  · intro goto ret
    show _ = push (en_ref03_Has f kind) (fun l' => goto (lab_ref03_Has l').1 (lab_ref03_Has l').2) (fun r => ret [.s .bool r.1, .s (.int .i64) r.2])
    unfold en_ref03_Has
    simp only [push_G, push_ite, push_bind, push_inl, push_inr]
    kernel_rfl
noncomputable def e_ref03_Has : List DT → Option CallRes
  | [.s t0 y0, .s t1 y1] => (castT (b := (.sl 3 tyCrack)) y0).bind fun f => (castT (b := (.int .i64)) y1).bind fun kind => some ⟨(Bool × Int), ref03_Has f kind, fun r => .tup [.s .bool r.1, .s (.int .i64) r.2], (false, (0 : Int)), true⟩
  | _ => none
noncomputable def E_ref03_Has : Env := Env.add 35 e_ref03_Has E_fail_Has
theorem E_ref03_Has_ok : EnvOk X0 E_ref03_Has := by
  refine EnvOk.add E_fail_Has_ok (fun args c h => ?_)
  unfold e_ref03_Has at h
  split at h
  · obtain ⟨v0, c0, h⟩ := Option.bind_eq_some_iff.1 h
    obtain ⟨rfl, rfl⟩ := castT_some c0
    obtain ⟨v1, c1, h⟩ := Option.bind_eq_some_iff.1 h
    obtain ⟨rfl, rfl⟩ := castT_some c1
    cases h
    exact ⟨fun r hr => .inl ⟨by kernel_rfl, ok_ref03_Has _ _ r hr⟩, fun hb => fun r => noSl_res (by rfl)⟩
  · cases h

/-! ### 58 onceweb/fail.ahead -/
def F_fail_ahead_o : FnD := { n := 31, rs := [8], labels := [(3, [0, 1, 3, 18, 19, 20])] }
def Y_fail_ahead_o : DX := { Y0 with o2 := [28] }
theorem Yok_fail_ahead_o : DXOk Y_fail_ahead_o X0 := ⟨Yok.tab, Yok.gl⟩
def lab_fail_ahead_o : L_fail_ahead_o → Nat × DSt
  | .l3 f from_ out x18 x19 x20 => (3, [(0, .t (.s (.sl 3 tyCrack) f)), (1, .t (.s (.sl 1 (.int .i64)) from_)), (3, .t (.own 3 (.int .i64) out)), (18, .t (.own 3 (.int .i64) x18)), (19, .t (.s (.int .i64) x19)), (20, .t (.s (.int .i64) x20))])
noncomputable def e_fail_ahead_o_n (n : Nat) : List DT → Option CallRes
  | [.tup [.u], .s t0 y0, .s t1 y1, .s t2 y2, .own e3 t3 y3] => (castT (b := (.sl 3 tyCrack)) y0).bind fun f => (castT (b := (.sl 1 (.int .i64))) y1).bind fun from_ => (castT (b := (.int .i64)) y2).bind fun at_ => (castT (a := .sl 1 t3) (b := .sl 1 (.int .i64)) y3).bind fun out => match Nat.beq e3 3 with
    | false => none
    | true => some ⟨(List Int), fail_ahead_o_n n f from_ at_ out, fun r => .tup [.own 3 (.int .i64) r, .u], ([] : List Int), false⟩
  | _ => none
noncomputable def E_fail_ahead_o_n (n : Nat) : Env := Env.add2 58 (e_fail_ahead_o_n n) E_ref03_Has
theorem E_fail_ahead_o_n_ok (n : Nat) (ih : ∀ (f : (List tCrack)) (from_ : (List Int)) (at_ : Int) (out : (List Int)) (r : (List Int)), fail_ahead_o_n n f from_ at_ out = some r → APure X0 58 ([.s (.sl 3 tyCrack) f, .s (.sl 1 (.int .i64)) from_, .s (.int .i64) at_, .own 3 (.int .i64) out].map DT.toT) (resT ([.own 3 (.int .i64) r].map DT.toT))) : EnvOk X0 (E_fail_ahead_o_n n) := by
  refine EnvOk.add2 E_ref03_Has_ok (fun args c h => ?_)
  unfold e_fail_ahead_o_n at h
  split at h
  · obtain ⟨v0, c0, h⟩ := Option.bind_eq_some_iff.1 h
    obtain ⟨rfl, rfl⟩ := castT_some c0
    obtain ⟨v1, c1, h⟩ := Option.bind_eq_some_iff.1 h
    obtain ⟨rfl, rfl⟩ := castT_some c1
    obtain ⟨v2, c2, h⟩ := Option.bind_eq_some_iff.1 h
    obtain ⟨rfl, rfl⟩ := castT_some c2
    obtain ⟨v3, c3, h⟩ := Option.bind_eq_some_iff.1 h
    obtain ⟨q3, p3⟩ := castT_some c3
    injection q3 with _ q3
    subst q3
    subst p3
    split at h
    · cases h
    rename_i b3
    have b3 := Nat.eq_of_beq_eq_true b3
    subst b3
    cases h
    intro r hr res out hwr
    cases hwr
    exact ⟨by kernel_rfl, ih _ _ _ _ r hr, noSl_res (d := .own 3 (.int .i64) r) (by rfl), noSl_res (d := .u) (by rfl), rfl⟩
  · cases h
set_option maxRecDepth 100000 in
theorem ok_fail_ahead_o_n : ∀ (n : Nat) (f : (List tCrack)) (from_ : (List Int)) (at_ : Int) (out : (List Int)) (r : (List Int)) (h : fail_ahead_o_n n f from_ at_ out = some r), APure X0 58 ([.s (.sl 3 tyCrack) f, .s (.sl 1 (.int .i64)) from_, .s (.int .i64) at_, .own 3 (.int .i64) out].map DT.toT) (resT ([.own 3 (.int .i64) r].map DT.toT))
  | 0, f, from_, at_, out, r, h => by unfold fail_ahead_o_n at h; cases h
  | n + 1, f, from_, at_, out, r, h => by
    unfold fail_ahead_o_n at h
    refine APure_of_machine (F := F_fail_ahead_o) (fuel := 3000) (E := (E_fail_ahead_o_n n)) Yok_fail_ahead_o (E_fail_ahead_o_n_ok n (ok_fail_ahead_o_n n)) mixed Tryd.func58 rfl rfl rfl (by decide) (args := [.s (.sl 3 tyCrack) f, .s (.sl 1 (.int .i64)) from_, .s (.int .i64) at_, .own 3 (.int .i64) out]) (Nat.le_of_ble_eq_true rfl) (by kernel_rfl) lab_fail_ahead_o (st_fail_ahead_o (fail_ahead_o_n n)) (fun r => [.own 3 (.int .i64) r]) ?_ ?_ ?_ h
    · intro l; cases l
      · exact WF_list ⟨trivial, trivial, trivial, trivial, trivial, trivial, trivial⟩
    · intro l goto ret; cases l with
      | l3 f from_ out x18 x19 x20 =>
        show _ = push (sg_fail_ahead_o_3 (fail_ahead_o_n n) f from_ out x18 x19 x20) (fun l' => goto (lab_fail_ahead_o l').1 (lab_fail_ahead_o l').2) (fun r => ret [.own 3 (.int .i64) r])
        unfold sg_fail_ahead_o_3
        simp only [push_G, push_ite, push_bind, push_inl, push_inr, -eq_self]
        kernel_rfl
    · intro goto ret
      show _ = push (en_fail_ahead_o (fail_ahead_o_n n) f from_ at_ out) (fun l' => goto (lab_fail_ahead_o l').1 (lab_fail_ahead_o l').2) (fun r => ret [.own 3 (.int .i64) r])
      unfold en_fail_ahead_o
      simp only [push_G, push_ite, push_bind, push_inl, push_inr, -eq_self]
      kernel_rfl
theorem ok_fail_ahead_o (f : (List tCrack)) (from_ : (List Int)) (at_ : Int) (out : (List Int)) (r : (List Int)) (h : fail_ahead_o f from_ at_ out = some r) : APure X0 58 ([.s (.sl 3 tyCrack) f, .s (.sl 1 (.int .i64)) from_, .s (.int .i64) at_, .own 3 (.int .i64) out].map DT.toT) (resT ([.own 3 (.int .i64) r].map DT.toT)) := ok_fail_ahead_o_n 4096 f from_ at_ out r h
noncomputable def e_fail_ahead_o : List DT → Option CallRes
  | [.tup [.u], .s t0 y0, .s t1 y1, .s t2 y2, .own e3 t3 y3] => (castT (b := (.sl 3 tyCrack)) y0).bind fun f => (castT (b := (.sl 1 (.int .i64))) y1).bind fun from_ => (castT (b := (.int .i64)) y2).bind fun at_ => (castT (a := .sl 1 t3) (b := .sl 1 (.int .i64)) y3).bind fun out => match Nat.beq e3 3 with
    | false => none
    | true => some ⟨(List Int), fail_ahead_o f from_ at_ out, fun r => .tup [.own 3 (.int .i64) r, .u], ([] : List Int), false⟩
  | _ => none
noncomputable def E_fail_ahead_o : Env := Env.add2 58 (e_fail_ahead_o) E_ref03_Has
theorem E_fail_ahead_o_ok : EnvOk X0 (E_fail_ahead_o) := by
  refine EnvOk.add2 E_ref03_Has_ok (fun args c h => ?_)
  unfold e_fail_ahead_o at h
  split at h
  · obtain ⟨v0, c0, h⟩ := Option.bind_eq_some_iff.1 h
    obtain ⟨rfl, rfl⟩ := castT_some c0
    obtain ⟨v1, c1, h⟩ := Option.bind_eq_some_iff.1 h
    obtain ⟨rfl, rfl⟩ := castT_some c1
    obtain ⟨v2, c2, h⟩ := Option.bind_eq_some_iff.1 h
    obtain ⟨rfl, rfl⟩ := castT_some c2
    obtain ⟨v3, c3, h⟩ := Option.bind_eq_some_iff.1 h
    obtain ⟨q3, p3⟩ := castT_some c3
    injection q3 with _ q3
    subst q3
    subst p3
    split at h
    · cases h
    rename_i b3
    have b3 := Nat.eq_of_beq_eq_true b3
    subst b3
    cases h
    intro r hr res out hwr
    cases hwr
    exact ⟨by kernel_rfl, ok_fail_ahead_o _ _ _ _ r hr, noSl_res (d := .own 3 (.int .i64) r) (by rfl), noSl_res (d := .u) (by rfl), rfl⟩
  · cases h

/-! ### 36 onceweb/fail.First -/
def F_fail_First : FnD := { n := 52, rs := [4, 5], labels := [(8, [0, 1, 7, 29, 30, 31])], shares := [(7, [7])] }
def Y_fail_First : DX := { Y0 with o2 := [29] }
theorem Yok_fail_First : DXOk Y_fail_First X0 := ⟨Yok.tab, Yok.gl⟩
def lab_fail_First : L_fail_First → Nat × DSt
  | .l8 f kind from_ x29 x30 x31 => (8, [(0, .t (.s (.sl 3 tyCrack) f)), (1, .t (.s (.int .i64) kind)), (7, .t (.s (.sl 1 (.int .i64)) from_)), (29, .t (.own 3 (.int .i64) x29)), (30, .t (.s (.int .i64) x30)), (31, .t (.s (.int .i64) x31))])
set_option maxRecDepth 100000 in
theorem ok_fail_First (f : (List tCrack)) (kind : Int) (r : ((List tCrack) × Int)) (h : fail_First f kind = some r) : APure X0 36 ([.s (.sl 3 tyCrack) f, .s (.int .i64) kind].map DT.toT) (resT ([.own 60 tyCrack r.1, .s (.int .i64) r.2].map DT.toT)) := by
  refine APure_of_machine (F := F_fail_First) (fuel := 3000) (E := E_fail_ahead_o) Yok_fail_First E_fail_ahead_o_ok mixed Tryd.func36 rfl rfl rfl (by decide) (args := [.s (.sl 3 tyCrack) f, .s (.int .i64) kind]) (Nat.le_of_ble_eq_true rfl) (by kernel_rfl) lab_fail_First st_fail_First (fun r => [.own 60 tyCrack r.1, .s (.int .i64) r.2]) ?_ ?_ ?_ h
  · intro l; cases l
    · exact WF_list ⟨trivial, trivial, trivial, trivial, trivial, trivial, trivial⟩
  · intro l goto ret; cases l with
    | l8 f kind from_ x29 x30 x31 =>
      show _ = push (sg_fail_First_8 f kind from_ x29 x30 x31) (fun l' => goto (lab_fail_First l').1 (lab_fail_First l').2) (fun r => ret [.own 60 tyCrack r.1, .s (.int .i64) r.2])
      unfold sg_fail_First_8
      simp only [push_G, push_ite, push_bind, push_inl, push_inr, -eq_self]
      kernel_rfl
  · intro goto ret
    show _ = push (en_fail_First f kind) (fun l' => goto (lab_fail_First l').1 (lab_fail_First l').2) (fun r => ret [.own 60 tyCrack r.1, .s (.int .i64) r.2])
    unfold en_fail_First
    simp only [push_G, push_ite, push_bind, push_inl, push_inr, -eq_self]
    kernel_rfl
noncomputable def e_fail_First : List DT → Option CallRes
  | [.s t0 y0, .s t1 y1] => (castT (b := (.sl 3 tyCrack)) y0).bind fun f => (castT (b := (.int .i64)) y1).bind fun kind => some ⟨((List tCrack) × Int), fail_First f kind, fun r => .tup [.own 60 tyCrack r.1, .s (.int .i64) r.2], (([] : List tCrack), (0 : Int)), true⟩
  | _ => none
noncomputable def E_fail_First : Env := Env.add 36 e_fail_First E_fail_ahead_o
theorem E_fail_First_ok : EnvOk X0 E_fail_First := by
  refine EnvOk.add E_fail_ahead_o_ok (fun args c h => ?_)
  unfold e_fail_First at h
  split at h
  · obtain ⟨v0, c0, h⟩ := Option.bind_eq_some_iff.1 h
    obtain ⟨rfl, rfl⟩ := castT_some c0
    obtain ⟨v1, c1, h⟩ := Option.bind_eq_some_iff.1 h
    obtain ⟨rfl, rfl⟩ := castT_some c1
    cases h
    exact ⟨fun r hr => .inl ⟨by kernel_rfl, ok_fail_First _ _ r hr⟩, fun hb => fun r => noSl_res (by rfl)⟩
  · cases h

/-! ### 59 onceweb/oncewebref03.sub -/
def F_ref03_sub : FnD := { n := 21, rs := [4] }
set_option maxRecDepth 100000 in
theorem ok_ref03_sub (f : (List tCrack)) (at_ : Int) (r : (List tCrack)) (h : ref03_sub f at_ = some r) : APure X0 59 ([.s (.sl 3 tyCrack) f, .s (.int .i64) at_].map DT.toT) (resT ([.own 60 tyCrack r].map DT.toT)) := by
  refine APure_of_straight (F := F_ref03_sub) (fuel := 3000) (E := E_fail_First) Yok E_fail_First_ok mixed Tryd.func59 rfl rfl rfl (by decide) (args := [.s (.sl 3 tyCrack) f, .s (.int .i64) at_]) (Nat.le_of_ble_eq_true rfl) (by kernel_rfl) (fun r => [.own 60 tyCrack r]) ?_ h
  intro goto ret
  unfold ref03_sub
  simp only [bnd_G, bnd_ite, bnd_bind, bnd_some]
  kernel_rfl
noncomputable def e_ref03_sub : List DT → Option CallRes
  | [.s t0 y0, .s t1 y1] => (castT (b := (.sl 3 tyCrack)) y0).bind fun f => (castT (b := (.int .i64)) y1).bind fun at_ => some ⟨(List tCrack), ref03_sub f at_, fun r => .own 60 tyCrack r, ([] : List tCrack), true⟩
  | _ => none
noncomputable def E_ref03_sub : Env := Env.add 59 e_ref03_sub E_fail_First
theorem E_ref03_sub_ok : EnvOk X0 E_ref03_sub := by
  refine EnvOk.add E_fail_First_ok (fun args c h => ?_)
  unfold e_ref03_sub at h
  split at h
  · obtain ⟨v0, c0, h⟩ := Option.bind_eq_some_iff.1 h
    obtain ⟨rfl, rfl⟩ := castT_some c0
    obtain ⟨v1, c1, h⟩ := Option.bind_eq_some_iff.1 h
    obtain ⟨rfl, rfl⟩ := castT_some c1
    cases h
    exact ⟨fun r hr => .inl ⟨by kernel_rfl, ok_ref03_sub _ _ r hr⟩, fun hb => fun r => noSl_res (by rfl)⟩
  · cases h

/-! ### 37 onceweb/oncewebref03.First -/
def F_ref03_First : FnD := { n := 68, rs := [4, 5], labels := [(7, [0, 1, 8]), (14, [0, 1, 8, 10, 11])] }
def lab_ref03_First : L_ref03_First → Nat × DSt
  | .l7 f kind todo => (7, [(0, .t (.s (.sl 3 tyCrack) f)), (1, .t (.s (.int .i64) kind)), (8, .t (.own 3 (.int .i64) todo))])
  | .l14 f kind todo p i => (14, [(0, .t (.s (.sl 3 tyCrack) f)), (1, .t (.s (.int .i64) kind)), (8, .t (.own 3 (.int .i64) todo)), (10, .t (.own 3 (.int .i64) p)), (11, .t (.s (.int .i64) i))])
set_option maxRecDepth 100000 in
theorem ok_ref03_First (f : (List tCrack)) (kind : Int) (r : ((List tCrack) × Int)) (h : ref03_First f kind = some r) : APure X0 37 ([.s (.sl 3 tyCrack) f, .s (.int .i64) kind].map DT.toT) (resT ([.own 60 tyCrack r.1, .s (.int .i64) r.2].map DT.toT)) := by
  refine APure_of_machine (F := F_ref03_First) (fuel := 3000) (E := E_ref03_sub) Yok E_ref03_sub_ok mixed Tryd.func37 rfl rfl rfl (by decide) (args := [.s (.sl 3 tyCrack) f, .s (.int .i64) kind]) (Nat.le_of_ble_eq_true rfl) (by kernel_rfl) lab_ref03_First st_ref03_First (fun r => [.own 60 tyCrack r.1, .s (.int .i64) r.2]) ?_ ?_ ?_ h
  · intro l; cases l
    · exact WF_list ⟨trivial, trivial, trivial, trivial⟩
    · exact WF_list ⟨trivial, trivial, trivial, trivial, trivial, trivial⟩
  · intro l goto ret; cases l with
    | l7 f kind todo =>
      show _ = push (sg_ref03_First_7 f kind todo) (fun l' => goto (lab_ref03_First l').1 (lab_ref03_First l').2) (fun r => ret [.own 60 tyCrack r.1, .s (.int .i64) r.2])
      unfold sg_ref03_First_7
      simp only [push_G, push_ite, push_bind, push_inl, push_inr]
      kernel_rfl
    | l14 f kind todo p i =>
      show _ = push (sg_ref03_First_14 f kind todo p i) (fun l' => goto (lab_ref03_First l').1 (lab_ref03_First l').2) (fun r => ret [.own 60 tyCrack r.1, .s (.int .i64) r.2])
      unfold sg_ref03_First_14
      simp only [push_G, push_ite, push_bind, push_inl, push_inr]
      kernel_rfl
  · intro goto ret
    show _ = push (en_ref03_First f kind) (fun l' => goto (lab_ref03_First l').1 (lab_ref03_First l').2) (fun r => ret [.own 60 tyCrack r.1, .s (.int .i64) r.2])
    unfold en_ref03_First
    simp only [push_G, push_ite, push_bind, push_inl, push_inr]
    kernel_rfl
noncomputable def e_ref03_First : List DT → Option CallRes
  | [.s t0 y0, .s t1 y1] => (castT (b := (.sl 3 tyCrack)) y0).bind fun f => (castT (b := (.int .i64)) y1).bind fun kind => some ⟨((List tCrack) × Int), ref03_First f kind, fun r => .tup [.own 60 tyCrack r.1, .s (.int .i64) r.2], (([] : List tCrack), (0 : Int)), true⟩
  | _ => none
noncomputable def E_ref03_First : Env := Env.add 37 e_ref03_First E_ref03_sub
theorem E_ref03_First_ok : EnvOk X0 E_ref03_First := by
  refine EnvOk.add E_ref03_sub_ok (fun args c h => ?_)
  unfold e_ref03_First at h
  split at h
  · obtain ⟨v0, c0, h⟩ := Option.bind_eq_some_iff.1 h
    obtain ⟨rfl, rfl⟩ := castT_some c0
    obtain ⟨v1, c1, h⟩ := Option.bind_eq_some_iff.1 h
    obtain ⟨rfl, rfl⟩ := castT_some c1
    cases h
    exact ⟨fun r hr => .inl ⟨by kernel_rfl, ok_ref03_First _ _ r hr⟩, fun hb => fun r => noSl_res (by rfl)⟩
  · cases h

/-! ### 6 onceweb/onceweblaw03.FailFinds -/
def F_law03_FailFinds : FnD := { n := 90, rs := [6] }
set_option maxRecDepth 100000 in
theorem ok_law03_FailFinds (f : (List tCrack)) (g : (List tCrack)) (kind : Int) (r : Bool) (h : law03_FailFinds f g kind = some r) : APure X0 6 ([.s (.sl 3 tyCrack) f, .s (.sl 3 tyCrack) g, .s (.int .i64) kind].map DT.toT) (resT ([.s .bool r].map DT.toT)) := by
  refine APure_of_straight (F := F_law03_FailFinds) (fuel := 3000) (E := E_ref03_First) Yok E_ref03_First_ok mixed Tryd.func6 rfl rfl rfl (by decide) (args := [.s (.sl 3 tyCrack) f, .s (.sl 3 tyCrack) g, .s (.int .i64) kind]) (Nat.le_of_ble_eq_true rfl) (by kernel_rfl) (fun r => [.s .bool r]) ?_ h
  intro goto ret
  unfold law03_FailFinds
  simp only [bnd_G, bnd_ite, bnd_bind, bnd_some]
  kernel_rfl
noncomputable def e_law03_FailFinds : List DT → Option CallRes
  | [.s t0 y0, .s t1 y1, .s t2 y2] => (castT (b := (.sl 3 tyCrack)) y0).bind fun f => (castT (b := (.sl 3 tyCrack)) y1).bind fun g => (castT (b := (.int .i64)) y2).bind fun kind => some ⟨Bool, law03_FailFinds f g kind, fun r => .s .bool r, false, true⟩
  | _ => none
noncomputable def E_law03_FailFinds : Env := Env.add 6 e_law03_FailFinds E_ref03_First
theorem E_law03_FailFinds_ok : EnvOk X0 E_law03_FailFinds := by
  refine EnvOk.add E_ref03_First_ok (fun args c h => ?_)
  unfold e_law03_FailFinds at h
  split at h
  · obtain ⟨v0, c0, h⟩ := Option.bind_eq_some_iff.1 h
    obtain ⟨rfl, rfl⟩ := castT_some c0
    obtain ⟨v1, c1, h⟩ := Option.bind_eq_some_iff.1 h
    obtain ⟨rfl, rfl⟩ := castT_some c1
    obtain ⟨v2, c2, h⟩ := Option.bind_eq_some_iff.1 h
    obtain ⟨rfl, rfl⟩ := castT_some c2
    cases h
    exact ⟨fun r hr => .inl ⟨by kernel_rfl, ok_law03_FailFinds _ _ _ r hr⟩, fun hb => fun r => noSl_res (by rfl)⟩
  · cases h

/-! ### 60 onceweb/lex.Quote -/
def F_lex_Quote : FnD := { n := 63, rs := [2], labels := [(4, [0, 3, 14, 15])] }
def lab_lex_Quote : L_lex_Quote → Nat × DSt
  | .l4 s_ out x14 x15 => (4, [(0, .t (.s .str s_)), (3, .t (.own 5 .u8 out)), (14, .t (.s (.int .i64) x14)), (15, .t (.s (.int .i64) x15))])
set_option maxRecDepth 100000 in
theorem ok_lex_Quote (s_ : (List UInt8)) (r : (List UInt8)) (h : lex_Quote s_ = some r) : APure X0 60 ([.s .str s_].map DT.toT) (resT ([.s .str r].map DT.toT)) := by
  refine APure_of_machine (F := F_lex_Quote) (fuel := 3000) (E := E_law03_FailFinds) Yok E_law03_FailFinds_ok mixed Tryd.func60 rfl rfl rfl (by decide) (args := [.s .str s_]) (Nat.le_of_ble_eq_true rfl) (by kernel_rfl) lab_lex_Quote st_lex_Quote (fun r => [.s .str r]) ?_ ?_ ?_ h
  · intro l; cases l
    · exact WF_list ⟨trivial, trivial, trivial, trivial, trivial⟩
  · intro l goto ret; cases l with
    | l4 s_ out x14 x15 =>
      show _ = push (sg_lex_Quote_4 s_ out x14 x15) (fun l' => goto (lab_lex_Quote l').1 (lab_lex_Quote l').2) (fun r => ret [.s .str r])
      unfold sg_lex_Quote_4
      simp only [push_G, push_ite, push_bind, push_inl, push_inr]
      kernel_rfl
  · intro goto ret
    show _ = push (en_lex_Quote s_) (fun l' => goto (lab_lex_Quote l').1 (lab_lex_Quote l').2) (fun r => ret [.s .str r])
    unfold en_lex_Quote
    simp only [push_G, push_ite, push_bind, push_inl, push_inr]
    kernel_rfl
noncomputable def e_lex_Quote : List DT → Option CallRes
  | [.s t0 y0] => (castT (b := .str) y0).bind fun s_ => some ⟨(List UInt8), lex_Quote s_, fun r => .s .str r, ([] : List UInt8), true⟩
  | _ => none
noncomputable def E_lex_Quote : Env := Env.add 60 e_lex_Quote E_law03_FailFinds
theorem E_lex_Quote_ok : EnvOk X0 E_lex_Quote := by
  refine EnvOk.add E_law03_FailFinds_ok (fun args c h => ?_)
  unfold e_lex_Quote at h
  split at h
  · obtain ⟨v0, c0, h⟩ := Option.bind_eq_some_iff.1 h
    obtain ⟨rfl, rfl⟩ := castT_some c0
    cases h
    exact ⟨fun r hr => .inl ⟨by kernel_rfl, ok_lex_Quote _ r hr⟩, fun hb => fun r => noSl_res (by rfl)⟩
  · cases h

/-! ### 62 onceweb/oncewebref01.Quote -/
def F_ref01_Quote : FnD := { n := 60, rs := [2], labels := [(4, [0, 3, 4, 5])] }
def lab_ref01_Quote : L_ref01_Quote → Nat × DSt
  | .l4 s_ digits out i => (4, [(0, .t (.s .str s_)), (3, .t (.s .str digits)), (4, .t (.own 5 .u8 out)), (5, .t (.s (.int .i64) i))])
set_option maxRecDepth 100000 in
theorem ok_ref01_Quote (s_ : (List UInt8)) (r : (List UInt8)) (h : ref01_Quote s_ = some r) : APure X0 62 ([.s .str s_].map DT.toT) (resT ([.s .str r].map DT.toT)) := by
  refine APure_of_machine (F := F_ref01_Quote) (fuel := 3000) (E := E_lex_Quote) Yok E_lex_Quote_ok mixed Tryd.func62 rfl rfl rfl (by decide) (args := [.s .str s_]) (Nat.le_of_ble_eq_true rfl) (by kernel_rfl) lab_ref01_Quote st_ref01_Quote (fun r => [.s .str r]) ?_ ?_ ?_ h
  · intro l; cases l
    · exact WF_list ⟨trivial, trivial, trivial, trivial, trivial⟩
  · intro l goto ret; cases l with
    | l4 s_ digits out i =>
      show _ = push (sg_ref01_Quote_4 s_ digits out i) (fun l' => goto (lab_ref01_Quote l').1 (lab_ref01_Quote l').2) (fun r => ret [.s .str r])
      unfold sg_ref01_Quote_4
      simp only [push_G, push_ite, push_bind, push_inl, push_inr]
      kernel_rfl
  · intro goto ret
    show _ = push (en_ref01_Quote s_) (fun l' => goto (lab_ref01_Quote l').1 (lab_ref01_Quote l').2) (fun r => ret [.s .str r])
    unfold en_ref01_Quote
    simp only [push_G, push_ite, push_bind, push_inl, push_inr]
    kernel_rfl
noncomputable def e_ref01_Quote : List DT → Option CallRes
  | [.s t0 y0] => (castT (b := .str) y0).bind fun s_ => some ⟨(List UInt8), ref01_Quote s_, fun r => .s .str r, ([] : List UInt8), true⟩
  | _ => none
noncomputable def E_ref01_Quote : Env := Env.add 62 e_ref01_Quote E_lex_Quote
theorem E_ref01_Quote_ok : EnvOk X0 E_ref01_Quote := by
  refine EnvOk.add E_lex_Quote_ok (fun args c h => ?_)
  unfold e_ref01_Quote at h
  split at h
  · obtain ⟨v0, c0, h⟩ := Option.bind_eq_some_iff.1 h
    obtain ⟨rfl, rfl⟩ := castT_some c0
    cases h
    exact ⟨fun r hr => .inl ⟨by kernel_rfl, ok_ref01_Quote _ r hr⟩, fun hb => fun r => noSl_res (by rfl)⟩
  · cases h

/-! ### 39 onceweb/oncewebref03.Print -/
def F_ref03_Print : FnD := { n := 131, rs := [2, 3], labels := [(6, [0, 5, 6]), (13, [0, 5, 6, 7, 8, 9, 10]), (19, [0, 5, 6, 7, 8, 9])] }
def lab_ref03_Print : L_ref03_Print → Nat × DSt
  | .l6 f stack i => (6, [(0, .t (.s (.sl 3 tyCrack) f)), (5, .t (.own 9 .str stack)), (6, .t (.s (.int .i64) i))])
  | .l13 f stack i c c' c'' s_ inner k => (13, [(0, .t (.s (.sl 3 tyCrack) f)), (5, .t (.own 9 .str stack)), (6, .t (.s (.int .i64) i)), (7, .t (.box 60 [.s (.int .i64) c, .s (.int .i64) c', .s .str c''])), (8, .t (.s .str s_)), (9, .t (.s .str inner)), (10, .t (.s (.int .i64) k))])
  | .l19 f stack i c c' c'' s_ inner => (19, [(0, .t (.s (.sl 3 tyCrack) f)), (5, .t (.own 9 .str stack)), (6, .t (.s (.int .i64) i)), (7, .t (.box 60 [.s (.int .i64) c, .s (.int .i64) c', .s .str c''])), (8, .t (.s .str s_)), (9, .t (.s .str inner))])
set_option maxRecDepth 100000 in
theorem ok_ref03_Print (f : (List tCrack)) (r : ((List UInt8) × Int)) (h : ref03_Print f = some r) : APure X0 39 ([.s (.sl 3 tyCrack) f].map DT.toT) (resT ([.s .str r.1, .s (.int .i64) r.2].map DT.toT)) := by
  refine APure_of_machine (F := F_ref03_Print) (fuel := 3000) (E := E_ref01_Quote) Yok E_ref01_Quote_ok mixed Tryd.func39 rfl rfl rfl (by decide) (args := [.s (.sl 3 tyCrack) f]) (Nat.le_of_ble_eq_true rfl) (by kernel_rfl) lab_ref03_Print st_ref03_Print (fun r => [.s .str r.1, .s (.int .i64) r.2]) ?_ ?_ ?_ h
  · intro l; cases l
    · exact WF_list ⟨trivial, trivial, trivial, trivial⟩
    · exact WF_list ⟨trivial, trivial, trivial, trivial, trivial, trivial, trivial, trivial⟩
    · exact WF_list ⟨trivial, trivial, trivial, trivial, trivial, trivial, trivial⟩
  · intro l goto ret; cases l with
    | l6 f stack i =>
      show _ = push (sg_ref03_Print_6 f stack i) (fun l' => goto (lab_ref03_Print l').1 (lab_ref03_Print l').2) (fun r => ret [.s .str r.1, .s (.int .i64) r.2])
      unfold sg_ref03_Print_6
      simp only [push_G, push_ite, push_bind, push_inl, push_inr]
      kernel_rfl
    | l13 f stack i c c' c'' s_ inner k =>
      show _ = push (sg_ref03_Print_13 f stack i c c' c'' s_ inner k) (fun l' => goto (lab_ref03_Print l').1 (lab_ref03_Print l').2) (fun r => ret [.s .str r.1, .s (.int .i64) r.2])
      unfold sg_ref03_Print_13
      simp only [push_G, push_ite, push_bind, push_inl, push_inr]
      kernel_rfl
    | l19 f stack i c c' c'' s_ inner =>
      show _ = push (sg_ref03_Print_19 f stack i c c' c'' s_ inner) (fun l' => goto (lab_ref03_Print l').1 (lab_ref03_Print l').2) (fun r => ret [.s .str r.1, .s (.int .i64) r.2])
      unfold sg_ref03_Print_19
      simp only [push_G, push_ite, push_bind, push_inl, push_inr]
      kernel_rfl
  · intro goto ret
    show _ = push (en_ref03_Print f) (fun l' => goto (lab_ref03_Print l').1 (lab_ref03_Print l').2) (fun r => ret [.s .str r.1, .s (.int .i64) r.2])
    unfold en_ref03_Print
    simp only [push_G, push_ite, push_bind, push_inl, push_inr]
    kernel_rfl
noncomputable def e_ref03_Print : List DT → Option CallRes
  | [.s t0 y0] => (castT (b := (.sl 3 tyCrack)) y0).bind fun f => some ⟨((List UInt8) × Int), ref03_Print f, fun r => .tup [.s .str r.1, .s (.int .i64) r.2], (([] : List UInt8), (0 : Int)), true⟩
  | _ => none
noncomputable def E_ref03_Print : Env := Env.add 39 e_ref03_Print E_ref01_Quote
theorem E_ref03_Print_ok : EnvOk X0 E_ref03_Print := by
  refine EnvOk.add E_ref01_Quote_ok (fun args c h => ?_)
  unfold e_ref03_Print at h
  split at h
  · obtain ⟨v0, c0, h⟩ := Option.bind_eq_some_iff.1 h
    obtain ⟨rfl, rfl⟩ := castT_some c0
    cases h
    exact ⟨fun r hr => .inl ⟨by kernel_rfl, ok_ref03_Print _ r hr⟩, fun hb => fun r => noSl_res (by rfl)⟩
  · cases h

/-! ### 98 internal/stringslite.HasPrefix -/
def F_stringslite_HasPrefix : FnD := { n := 18, rs := [4] }
set_option maxRecDepth 100000 in
theorem ok_stringslite_HasPrefix (s_ : (List UInt8)) (prefix_ : (List UInt8)) (r : Bool) (h : stringslite_HasPrefix s_ prefix_ = some r) : APure X0 98 ([.s .str s_, .s .str prefix_].map DT.toT) (resT ([.s .bool r].map DT.toT)) := by
  refine APure_of_straight (F := F_stringslite_HasPrefix) (fuel := 3000) (E := E_ref03_Print) Yok E_ref03_Print_ok mixed Tryd.func98 rfl rfl rfl (by decide) (args := [.s .str s_, .s .str prefix_]) (Nat.le_of_ble_eq_true rfl) (by kernel_rfl) (fun r => [.s .bool r]) ?_ h
  intro goto ret
  unfold stringslite_HasPrefix
  simp only [bnd_G, bnd_ite, bnd_bind, bnd_some]
  kernel_rfl
noncomputable def e_stringslite_HasPrefix : List DT → Option CallRes
  | [.s t0 y0, .s t1 y1] => (castT (b := .str) y0).bind fun s_ => (castT (b := .str) y1).bind fun prefix_ => some ⟨Bool, stringslite_HasPrefix s_ prefix_, fun r => .s .bool r, false, true⟩
  | _ => none
noncomputable def E_stringslite_HasPrefix : Env := Env.add 98 e_stringslite_HasPrefix E_ref03_Print
theorem E_stringslite_HasPrefix_ok : EnvOk X0 E_stringslite_HasPrefix := by
  refine EnvOk.add E_ref03_Print_ok (fun args c h => ?_)
  unfold e_stringslite_HasPrefix at h
  split at h
  · obtain ⟨v0, c0, h⟩ := Option.bind_eq_some_iff.1 h
    obtain ⟨rfl, rfl⟩ := castT_some c0
    obtain ⟨v1, c1, h⟩ := Option.bind_eq_some_iff.1 h
    obtain ⟨rfl, rfl⟩ := castT_some c1
    cases h
    exact ⟨fun r hr => .inl ⟨by kernel_rfl, ok_stringslite_HasPrefix _ _ r hr⟩, fun hb => fun r => noSl_res (by rfl)⟩
  · cases h

/-! ### 93 strings.HasPrefix -/
def F_strings_HasPrefix : FnD := { n := 8, rs := [4] }
set_option maxRecDepth 100000 in
theorem ok_strings_HasPrefix (s_ : (List UInt8)) (prefix_ : (List UInt8)) (r : Bool) (h : strings_HasPrefix s_ prefix_ = some r) : APure X0 93 ([.s .str s_, .s .str prefix_].map DT.toT) (resT ([.s .bool r].map DT.toT)) := by
  refine APure_of_straight (F := F_strings_HasPrefix) (fuel := 3000) (E := E_stringslite_HasPrefix) Yok E_stringslite_HasPrefix_ok mixed Tryd.func93 rfl rfl rfl (by decide) (args := [.s .str s_, .s .str prefix_]) (Nat.le_of_ble_eq_true rfl) (by kernel_rfl) (fun r => [.s .bool r]) ?_ h
  intro goto ret
  unfold strings_HasPrefix
  simp only [bnd_G, bnd_ite, bnd_bind, bnd_some]
  kernel_rfl
noncomputable def e_strings_HasPrefix : List DT → Option CallRes
  | [.s t0 y0, .s t1 y1] => (castT (b := .str) y0).bind fun s_ => (castT (b := .str) y1).bind fun prefix_ => some ⟨Bool, strings_HasPrefix s_ prefix_, fun r => .s .bool r, false, true⟩
  | _ => none
noncomputable def E_strings_HasPrefix : Env := Env.add 93 e_strings_HasPrefix E_stringslite_HasPrefix
theorem E_strings_HasPrefix_ok : EnvOk X0 E_strings_HasPrefix := by
  refine EnvOk.add E_stringslite_HasPrefix_ok (fun args c h => ?_)
  unfold e_strings_HasPrefix at h
  split at h
  · obtain ⟨v0, c0, h⟩ := Option.bind_eq_some_iff.1 h
    obtain ⟨rfl, rfl⟩ := castT_some c0
    obtain ⟨v1, c1, h⟩ := Option.bind_eq_some_iff.1 h
    obtain ⟨rfl, rfl⟩ := castT_some c1
    cases h
    exact ⟨fun r hr => .inl ⟨by kernel_rfl, ok_strings_HasPrefix _ _ r hr⟩, fun hb => fun r => noSl_res (by rfl)⟩
  · cases h

/-! ### 105 bytealg_IndexByteString: in no text -/
set_option maxRecDepth 100000 in
theorem ok_bytealg_IndexByteString (s_ : List UInt8) (c : UInt8) (r : Int) (h : bytealg_IndexByteString s_ c = some r) : AExt X0 105 ([.s .str s_, .s .u8 c].map DT.toT) (DT.s (.int .i64) r).toT := by
  cases h
  have := AExt_indexByteString (X := X0) (f := 105) Tryd.func105 (by decide +kernel) (by decide +kernel) (by kernel_rfl) (by kernel_rfl) (mkS s_) (c.toNat : Int)
  rw [bl_mkS, show ((c.toNat : Int).toNat.toUInt8) = c from by simp] at this
  exact this
noncomputable def e_bytealg_IndexByteString : List DT → Option CallRes
  | [.s t0 y0, .s t1 y1] => (castT (b := .str) y0).bind fun s_ => (castT (b := .u8) y1).bind fun c => some ⟨Int, bytealg_IndexByteString s_ c, fun r => .s (.int .i64) r, (0 : Int), false⟩
  | _ => none
noncomputable def E_bytealg_IndexByteString : Env := Env.add 105 e_bytealg_IndexByteString E_strings_HasPrefix
theorem E_bytealg_IndexByteString_ok : EnvOk X0 E_bytealg_IndexByteString := by
  refine EnvOk.add E_strings_HasPrefix_ok (fun args c h => ?_)
  unfold e_bytealg_IndexByteString at h
  split at h
  · obtain ⟨v0, c0, h⟩ := Option.bind_eq_some_iff.1 h
    obtain ⟨rfl, rfl⟩ := castT_some c0
    obtain ⟨v1, c1, h⟩ := Option.bind_eq_some_iff.1 h
    obtain ⟨rfl, rfl⟩ := castT_some c1
    cases h
    exact ⟨fun r hr => .inr ⟨rfl, ok_bytealg_IndexByteString _ _ r hr⟩, fun hb => by cases hb⟩
  · cases h


/-! ### 104 internal/stringslite.IndexByte -/
def F_stringslite_IndexByte : FnD := { n := 8, rs := [4] }
set_option maxRecDepth 100000 in
theorem ok_stringslite_IndexByte (s_ : (List UInt8)) (c : UInt8) (r : Int) (h : stringslite_IndexByte s_ c = some r) : APure X0 104 ([.s .str s_, .s .u8 c].map DT.toT) (resT ([.s (.int .i64) r].map DT.toT)) := by
  refine APure_of_straight (F := F_stringslite_IndexByte) (fuel := 3000) (E := E_bytealg_IndexByteString) Yok E_bytealg_IndexByteString_ok mixed Tryd.func104 rfl rfl rfl (by decide) (args := [.s .str s_, .s .u8 c]) (Nat.le_of_ble_eq_true rfl) (by kernel_rfl) (fun r => [.s (.int .i64) r]) ?_ h
  intro goto ret
  unfold stringslite_IndexByte
  simp only [bnd_G, bnd_ite, bnd_bind, bnd_some]
  kernel_rfl
noncomputable def e_stringslite_IndexByte : List DT → Option CallRes
  | [.s t0 y0, .s t1 y1] => (castT (b := .str) y0).bind fun s_ => (castT (b := .u8) y1).bind fun c => some ⟨Int, stringslite_IndexByte s_ c, fun r => .s (.int .i64) r, (0 : Int), true⟩
  | _ => none
noncomputable def E_stringslite_IndexByte : Env := Env.add 104 e_stringslite_IndexByte E_bytealg_IndexByteString
theorem E_stringslite_IndexByte_ok : EnvOk X0 E_stringslite_IndexByte := by
  refine EnvOk.add E_bytealg_IndexByteString_ok (fun args c h => ?_)
  unfold e_stringslite_IndexByte at h
  split at h
  · obtain ⟨v0, c0, h⟩ := Option.bind_eq_some_iff.1 h
    obtain ⟨rfl, rfl⟩ := castT_some c0
    obtain ⟨v1, c1, h⟩ := Option.bind_eq_some_iff.1 h
    obtain ⟨rfl, rfl⟩ := castT_some c1
    cases h
    exact ⟨fun r hr => .inl ⟨by kernel_rfl, ok_stringslite_IndexByte _ _ r hr⟩, fun hb => fun r => noSl_res (by rfl)⟩
  · cases h

/-! ### 103 strings.IndexByte -/
def F_strings_IndexByte : FnD := { n := 8, rs := [4] }
set_option maxRecDepth 100000 in
theorem ok_strings_IndexByte (s_ : (List UInt8)) (c : UInt8) (r : Int) (h : strings_IndexByte s_ c = some r) : APure X0 103 ([.s .str s_, .s .u8 c].map DT.toT) (resT ([.s (.int .i64) r].map DT.toT)) := by
  refine APure_of_straight (F := F_strings_IndexByte) (fuel := 3000) (E := E_stringslite_IndexByte) Yok E_stringslite_IndexByte_ok mixed Tryd.func103 rfl rfl rfl (by decide) (args := [.s .str s_, .s .u8 c]) (Nat.le_of_ble_eq_true rfl) (by kernel_rfl) (fun r => [.s (.int .i64) r]) ?_ h
  intro goto ret
  unfold strings_IndexByte
  simp only [bnd_G, bnd_ite, bnd_bind, bnd_some]
  kernel_rfl
noncomputable def e_strings_IndexByte : List DT → Option CallRes
  | [.s t0 y0, .s t1 y1] => (castT (b := .str) y0).bind fun s_ => (castT (b := .u8) y1).bind fun c => some ⟨Int, strings_IndexByte s_ c, fun r => .s (.int .i64) r, (0 : Int), true⟩
  | _ => none
noncomputable def E_strings_IndexByte : Env := Env.add 103 e_strings_IndexByte E_stringslite_IndexByte
theorem E_strings_IndexByte_ok : EnvOk X0 E_strings_IndexByte := by
  refine EnvOk.add E_stringslite_IndexByte_ok (fun args c h => ?_)
  unfold e_strings_IndexByte at h
  split at h
  · obtain ⟨v0, c0, h⟩ := Option.bind_eq_some_iff.1 h
    obtain ⟨rfl, rfl⟩ := castT_some c0
    obtain ⟨v1, c1, h⟩ := Option.bind_eq_some_iff.1 h
    obtain ⟨rfl, rfl⟩ := castT_some c1
    cases h
    exact ⟨fun r hr => .inl ⟨by kernel_rfl, ok_strings_IndexByte _ _ r hr⟩, fun hb => fun r => noSl_res (by rfl)⟩
  · cases h

/-! ### 101 onceweb/lex.escaped -/
def F_lex_escaped : FnD := { n := 60, rs := [4, 5] }
set_option maxRecDepth 100000 in
theorem ok_lex_escaped (s_ : (List UInt8)) (at_ : Int) (r : (UInt8 × Int)) (h : lex_escaped s_ at_ = some r) : APure X0 101 ([.s .str s_, .s (.int .i64) at_].map DT.toT) (resT ([.s .u8 r.1, .s (.int .i64) r.2].map DT.toT)) := by
  refine APure_of_straight (F := F_lex_escaped) (fuel := 3000) (E := E_strings_IndexByte) Yok E_strings_IndexByte_ok mixed Tryd.func101 rfl rfl rfl (by decide) (args := [.s .str s_, .s (.int .i64) at_]) (Nat.le_of_ble_eq_true rfl) (by kernel_rfl) (fun r => [.s .u8 r.1, .s (.int .i64) r.2]) ?_ h
  intro goto ret
  unfold lex_escaped
  simp only [bnd_G, bnd_ite, bnd_bind, bnd_some]
  kernel_rfl
noncomputable def e_lex_escaped : List DT → Option CallRes
  | [.s t0 y0, .s t1 y1] => (castT (b := .str) y0).bind fun s_ => (castT (b := (.int .i64)) y1).bind fun at_ => some ⟨(UInt8 × Int), lex_escaped s_ at_, fun r => .tup [.s .u8 r.1, .s (.int .i64) r.2], ((0 : UInt8), (0 : Int)), true⟩
  | _ => none
noncomputable def E_lex_escaped : Env := Env.add 101 e_lex_escaped E_strings_IndexByte
theorem E_lex_escaped_ok : EnvOk X0 E_lex_escaped := by
  refine EnvOk.add E_strings_IndexByte_ok (fun args c h => ?_)
  unfold e_lex_escaped at h
  split at h
  · obtain ⟨v0, c0, h⟩ := Option.bind_eq_some_iff.1 h
    obtain ⟨rfl, rfl⟩ := castT_some c0
    obtain ⟨v1, c1, h⟩ := Option.bind_eq_some_iff.1 h
    obtain ⟨rfl, rfl⟩ := castT_some c1
    cases h
    exact ⟨fun r hr => .inl ⟨by kernel_rfl, ok_lex_escaped _ _ r hr⟩, fun hb => fun r => noSl_res (by rfl)⟩
  · cases h

/-! ### 99 onceweb/lex.quoted -/
def F_lex_quoted : FnD := { n := 69, rs := [4, 5, 6], labels := [(5, [0, 1, 7])] }
def lab_lex_quoted : L_lex_quoted → Nat × DSt
  | .l5 s_ at_ out => (5, [(0, .t (.s .str s_)), (1, .t (.s (.int .i64) at_)), (7, .t (.own 5 .u8 out))])
set_option maxRecDepth 100000 in
theorem ok_lex_quoted (s_ : (List UInt8)) (at_ : Int) (r : ((List UInt8) × Int × Bool)) (h : lex_quoted s_ at_ = some r) : APure X0 99 ([.s .str s_, .s (.int .i64) at_].map DT.toT) (resT ([.s .str r.1, .s (.int .i64) r.2.1, .s .bool r.2.2].map DT.toT)) := by
  refine APure_of_machine (F := F_lex_quoted) (fuel := 3000) (E := E_lex_escaped) Yok E_lex_escaped_ok mixed Tryd.func99 rfl rfl rfl (by decide) (args := [.s .str s_, .s (.int .i64) at_]) (Nat.le_of_ble_eq_true rfl) (by kernel_rfl) lab_lex_quoted st_lex_quoted (fun r => [.s .str r.1, .s (.int .i64) r.2.1, .s .bool r.2.2]) ?_ ?_ ?_ h
  · intro l; cases l
    · exact WF_list ⟨trivial, trivial, trivial, trivial⟩
  · intro l goto ret; cases l with
    | l5 s_ at_ out =>
      show _ = push (sg_lex_quoted_5 s_ at_ out) (fun l' => goto (lab_lex_quoted l').1 (lab_lex_quoted l').2) (fun r => ret [.s .str r.1, .s (.int .i64) r.2.1, .s .bool r.2.2])
      unfold sg_lex_quoted_5
      simp only [push_G, push_ite, push_bind, push_inl, push_inr]
      kernel_rfl
  · intro goto ret
    show _ = push (en_lex_quoted s_ at_) (fun l' => goto (lab_lex_quoted l').1 (lab_lex_quoted l').2) (fun r => ret [.s .str r.1, .s (.int .i64) r.2.1, .s .bool r.2.2])
    unfold en_lex_quoted
    simp only [push_G, push_ite, push_bind, push_inl, push_inr]
    kernel_rfl
noncomputable def e_lex_quoted : List DT → Option CallRes
  | [.s t0 y0, .s t1 y1] => (castT (b := .str) y0).bind fun s_ => (castT (b := (.int .i64)) y1).bind fun at_ => some ⟨((List UInt8) × Int × Bool), lex_quoted s_ at_, fun r => .tup [.s .str r.1, .s (.int .i64) r.2.1, .s .bool r.2.2], (([] : List UInt8), (0 : Int), false), true⟩
  | _ => none
noncomputable def E_lex_quoted : Env := Env.add 99 e_lex_quoted E_lex_escaped
theorem E_lex_quoted_ok : EnvOk X0 E_lex_quoted := by
  refine EnvOk.add E_lex_escaped_ok (fun args c h => ?_)
  unfold e_lex_quoted at h
  split at h
  · obtain ⟨v0, c0, h⟩ := Option.bind_eq_some_iff.1 h
    obtain ⟨rfl, rfl⟩ := castT_some c0
    obtain ⟨v1, c1, h⟩ := Option.bind_eq_some_iff.1 h
    obtain ⟨rfl, rfl⟩ := castT_some c1
    cases h
    exact ⟨fun r hr => .inl ⟨by kernel_rfl, ok_lex_quoted _ _ r hr⟩, fun hb => fun r => noSl_res (by rfl)⟩
  · cases h

/-! ### 94 onceweb/lex.Unquote -/
def F_lex_Unquote : FnD := { n := 22, rs := [2, 3] }
set_option maxRecDepth 100000 in
theorem ok_lex_Unquote (s_ : (List UInt8)) (r : ((List UInt8) × Bool)) (h : lex_Unquote s_ = some r) : APure X0 94 ([.s .str s_].map DT.toT) (resT ([.s .str r.1, .s .bool r.2].map DT.toT)) := by
  refine APure_of_straight (F := F_lex_Unquote) (fuel := 3000) (E := E_lex_quoted) Yok E_lex_quoted_ok mixed Tryd.func94 rfl rfl rfl (by decide) (args := [.s .str s_]) (Nat.le_of_ble_eq_true rfl) (by kernel_rfl) (fun r => [.s .str r.1, .s .bool r.2]) ?_ h
  intro goto ret
  unfold lex_Unquote
  simp only [bnd_G, bnd_ite, bnd_bind, bnd_some]
  kernel_rfl
noncomputable def e_lex_Unquote : List DT → Option CallRes
  | [.s t0 y0] => (castT (b := .str) y0).bind fun s_ => some ⟨((List UInt8) × Bool), lex_Unquote s_, fun r => .tup [.s .str r.1, .s .bool r.2], (([] : List UInt8), false), true⟩
  | _ => none
noncomputable def E_lex_Unquote : Env := Env.add 94 e_lex_Unquote E_lex_quoted
theorem E_lex_Unquote_ok : EnvOk X0 E_lex_Unquote := by
  refine EnvOk.add E_lex_quoted_ok (fun args c h => ?_)
  unfold e_lex_Unquote at h
  split at h
  · obtain ⟨v0, c0, h⟩ := Option.bind_eq_some_iff.1 h
    obtain ⟨rfl, rfl⟩ := castT_some c0
    cases h
    exact ⟨fun r hr => .inl ⟨by kernel_rfl, ok_lex_Unquote _ r hr⟩, fun hb => fun r => noSl_res (by rfl)⟩
  · cases h

/-! ### 84 onceweb/oncewebref03.word -/
def F_ref03_word : FnD := { n := 49, rs := [4, 5], labels := [(2, [0, 1, 6])] }
def lab_ref03_word : L_ref03_word → Nat × DSt
  | .l2 s_ at_ end_ => (2, [(0, .t (.s .str s_)), (1, .t (.s (.int .i64) at_)), (6, .t (.s (.int .i64) end_))])
set_option maxRecDepth 100000 in
theorem ok_ref03_word (s_ : (List UInt8)) (at_ : Int) (r : ((List UInt8) × Int)) (h : ref03_word s_ at_ = some r) : APure X0 84 ([.s .str s_, .s (.int .i64) at_].map DT.toT) (resT ([.s .str r.1, .s (.int .i64) r.2].map DT.toT)) := by
  refine APure_of_machine (F := F_ref03_word) (fuel := 3000) (E := E_lex_Unquote) Yok E_lex_Unquote_ok mixed Tryd.func84 rfl rfl rfl (by decide) (args := [.s .str s_, .s (.int .i64) at_]) (Nat.le_of_ble_eq_true rfl) (by kernel_rfl) lab_ref03_word st_ref03_word (fun r => [.s .str r.1, .s (.int .i64) r.2]) ?_ ?_ ?_ h
  · intro l; cases l
    · exact WF_list ⟨trivial, trivial, trivial, trivial⟩
  · intro l goto ret; cases l with
    | l2 s_ at_ end_ =>
      show _ = push (sg_ref03_word_2 s_ at_ end_) (fun l' => goto (lab_ref03_word l').1 (lab_ref03_word l').2) (fun r => ret [.s .str r.1, .s (.int .i64) r.2])
      unfold sg_ref03_word_2
      simp only [push_G, push_ite, push_bind, push_inl, push_inr]
      kernel_rfl
  · intro goto ret
    show _ = push (en_ref03_word s_ at_) (fun l' => goto (lab_ref03_word l').1 (lab_ref03_word l').2) (fun r => ret [.s .str r.1, .s (.int .i64) r.2])
    unfold en_ref03_word
    simp only [push_G, push_ite, push_bind, push_inl, push_inr]
    kernel_rfl
noncomputable def e_ref03_word : List DT → Option CallRes
  | [.s t0 y0, .s t1 y1] => (castT (b := .str) y0).bind fun s_ => (castT (b := (.int .i64)) y1).bind fun at_ => some ⟨((List UInt8) × Int), ref03_word s_ at_, fun r => .tup [.s .str r.1, .s (.int .i64) r.2], (([] : List UInt8), (0 : Int)), true⟩
  | _ => none
noncomputable def E_ref03_word : Env := Env.add 84 e_ref03_word E_lex_Unquote
theorem E_ref03_word_ok : EnvOk X0 E_ref03_word := by
  refine EnvOk.add E_lex_Unquote_ok (fun args c h => ?_)
  unfold e_ref03_word at h
  split at h
  · obtain ⟨v0, c0, h⟩ := Option.bind_eq_some_iff.1 h
    obtain ⟨rfl, rfl⟩ := castT_some c0
    obtain ⟨v1, c1, h⟩ := Option.bind_eq_some_iff.1 h
    obtain ⟨rfl, rfl⟩ := castT_some c1
    cases h
    exact ⟨fun r hr => .inl ⟨by kernel_rfl, ok_ref03_word _ _ r hr⟩, fun hb => fun r => noSl_res (by rfl)⟩
  · cases h

/-! ### 87 onceweb/oncewebref03.begin -/
def F_ref03_begin : FnD := { n := 25, rs := [6] }
set_option maxRecDepth 100000 in
theorem ok_ref03_begin (s_ : (List UInt8)) (at_ : Int) (w : (List UInt8)) (r : Bool) (h : ref03_begin s_ at_ w = some r) : APure X0 87 ([.s .str s_, .s (.int .i64) at_, .s .str w].map DT.toT) (resT ([.s .bool r].map DT.toT)) := by
  refine APure_of_straight (F := F_ref03_begin) (fuel := 3000) (E := E_ref03_word) Yok E_ref03_word_ok mixed Tryd.func87 rfl rfl rfl (by decide) (args := [.s .str s_, .s (.int .i64) at_, .s .str w]) (Nat.le_of_ble_eq_true rfl) (by kernel_rfl) (fun r => [.s .bool r]) ?_ h
  intro goto ret
  unfold ref03_begin
  simp only [bnd_G, bnd_ite, bnd_bind, bnd_some]
  kernel_rfl
noncomputable def e_ref03_begin : List DT → Option CallRes
  | [.s t0 y0, .s t1 y1, .s t2 y2] => (castT (b := .str) y0).bind fun s_ => (castT (b := (.int .i64)) y1).bind fun at_ => (castT (b := .str) y2).bind fun w => some ⟨Bool, ref03_begin s_ at_ w, fun r => .s .bool r, false, true⟩
  | _ => none
noncomputable def E_ref03_begin : Env := Env.add 87 e_ref03_begin E_ref03_word
theorem E_ref03_begin_ok : EnvOk X0 E_ref03_begin := by
  refine EnvOk.add E_ref03_word_ok (fun args c h => ?_)
  unfold e_ref03_begin at h
  split at h
  · obtain ⟨v0, c0, h⟩ := Option.bind_eq_some_iff.1 h
    obtain ⟨rfl, rfl⟩ := castT_some c0
    obtain ⟨v1, c1, h⟩ := Option.bind_eq_some_iff.1 h
    obtain ⟨rfl, rfl⟩ := castT_some c1
    obtain ⟨v2, c2, h⟩ := Option.bind_eq_some_iff.1 h
    obtain ⟨rfl, rfl⟩ := castT_some c2
    cases h
    exact ⟨fun r hr => .inl ⟨by kernel_rfl, ok_ref03_begin _ _ _ r hr⟩, fun hb => fun r => noSl_res (by rfl)⟩
  · cases h

/-! ### 102 onceweb/oncewebref01.hex -/
def F_ref01_hex : FnD := { n := 22, rs := [2] }
set_option maxRecDepth 100000 in
theorem ok_ref01_hex (c : UInt8) (r : Int) (h : ref01_hex c = some r) : APure X0 102 ([.s .u8 c].map DT.toT) (resT ([.s (.int .i64) r].map DT.toT)) := by
  refine APure_of_straight (F := F_ref01_hex) (fuel := 3000) (E := E_ref03_begin) Yok E_ref03_begin_ok mixed Tryd.func102 rfl rfl rfl (by decide) (args := [.s .u8 c]) (Nat.le_of_ble_eq_true rfl) (by kernel_rfl) (fun r => [.s (.int .i64) r]) ?_ h
  intro goto ret
  unfold ref01_hex
  simp only [bnd_G, bnd_ite, bnd_bind, bnd_some]
  kernel_rfl
noncomputable def e_ref01_hex : List DT → Option CallRes
  | [.s t0 y0] => (castT (b := .u8) y0).bind fun c => some ⟨Int, ref01_hex c, fun r => .s (.int .i64) r, (0 : Int), true⟩
  | _ => none
noncomputable def E_ref01_hex : Env := Env.add 102 e_ref01_hex E_ref03_begin
theorem E_ref01_hex_ok : EnvOk X0 E_ref01_hex := by
  refine EnvOk.add E_ref03_begin_ok (fun args c h => ?_)
  unfold e_ref01_hex at h
  split at h
  · obtain ⟨v0, c0, h⟩ := Option.bind_eq_some_iff.1 h
    obtain ⟨rfl, rfl⟩ := castT_some c0
    cases h
    exact ⟨fun r hr => .inl ⟨by kernel_rfl, ok_ref01_hex _ r hr⟩, fun hb => fun r => noSl_res (by rfl)⟩
  · cases h

/-! ### 100 onceweb/oncewebref01.quoted -/
def F_ref01_quoted : FnD := { n := 158, rs := [4, 5, 6], labels := [(5, [0, 7, 8])] }
def lab_ref01_quoted : L_ref01_quoted → Nat × DSt
  | .l5 s_ out i => (5, [(0, .t (.s .str s_)), (7, .t (.own 5 .u8 out)), (8, .t (.s (.int .i64) i))])
set_option maxRecDepth 100000 in
theorem ok_ref01_quoted (s_ : (List UInt8)) (at_ : Int) (r : (Int × (List UInt8) × Bool)) (h : ref01_quoted s_ at_ = some r) : APure X0 100 ([.s .str s_, .s (.int .i64) at_].map DT.toT) (resT ([.s (.int .i64) r.1, .s .str r.2.1, .s .bool r.2.2].map DT.toT)) := by
  refine APure_of_machine (F := F_ref01_quoted) (fuel := 3000) (E := E_ref01_hex) Yok E_ref01_hex_ok mixed Tryd.func100 rfl rfl rfl (by decide) (args := [.s .str s_, .s (.int .i64) at_]) (Nat.le_of_ble_eq_true rfl) (by kernel_rfl) lab_ref01_quoted st_ref01_quoted (fun r => [.s (.int .i64) r.1, .s .str r.2.1, .s .bool r.2.2]) ?_ ?_ ?_ h
  · intro l; cases l
    · exact WF_list ⟨trivial, trivial, trivial, trivial⟩
  · intro l goto ret; cases l with
    | l5 s_ out i =>
      show _ = push (sg_ref01_quoted_5 s_ out i) (fun l' => goto (lab_ref01_quoted l').1 (lab_ref01_quoted l').2) (fun r => ret [.s (.int .i64) r.1, .s .str r.2.1, .s .bool r.2.2])
      unfold sg_ref01_quoted_5
      simp only [push_G, push_ite, push_bind, push_inl, push_inr]
      kernel_rfl
  · intro goto ret
    show _ = push (en_ref01_quoted s_ at_) (fun l' => goto (lab_ref01_quoted l').1 (lab_ref01_quoted l').2) (fun r => ret [.s (.int .i64) r.1, .s .str r.2.1, .s .bool r.2.2])
    unfold en_ref01_quoted
    simp only [push_G, push_ite, push_bind, push_inl, push_inr]
    kernel_rfl
noncomputable def e_ref01_quoted : List DT → Option CallRes
  | [.s t0 y0, .s t1 y1] => (castT (b := .str) y0).bind fun s_ => (castT (b := (.int .i64)) y1).bind fun at_ => some ⟨(Int × (List UInt8) × Bool), ref01_quoted s_ at_, fun r => .tup [.s (.int .i64) r.1, .s .str r.2.1, .s .bool r.2.2], ((0 : Int), ([] : List UInt8), false), true⟩
  | _ => none
noncomputable def E_ref01_quoted : Env := Env.add 100 e_ref01_quoted E_ref01_hex
theorem E_ref01_quoted_ok : EnvOk X0 E_ref01_quoted := by
  refine EnvOk.add E_ref01_hex_ok (fun args c h => ?_)
  unfold e_ref01_quoted at h
  split at h
  · obtain ⟨v0, c0, h⟩ := Option.bind_eq_some_iff.1 h
    obtain ⟨rfl, rfl⟩ := castT_some c0
    obtain ⟨v1, c1, h⟩ := Option.bind_eq_some_iff.1 h
    obtain ⟨rfl, rfl⟩ := castT_some c1
    cases h
    exact ⟨fun r hr => .inl ⟨by kernel_rfl, ok_ref01_quoted _ _ r hr⟩, fun hb => fun r => noSl_res (by rfl)⟩
  · cases h

/-! ### 95 onceweb/oncewebref01.Unquote -/
def F_ref01_Unquote : FnD := { n := 22, rs := [2, 3] }
set_option maxRecDepth 100000 in
theorem ok_ref01_Unquote (s_ : (List UInt8)) (r : ((List UInt8) × Bool)) (h : ref01_Unquote s_ = some r) : APure X0 95 ([.s .str s_].map DT.toT) (resT ([.s .str r.1, .s .bool r.2].map DT.toT)) := by
  refine APure_of_straight (F := F_ref01_Unquote) (fuel := 3000) (E := E_ref01_quoted) Yok E_ref01_quoted_ok mixed Tryd.func95 rfl rfl rfl (by decide) (args := [.s .str s_]) (Nat.le_of_ble_eq_true rfl) (by kernel_rfl) (fun r => [.s .str r.1, .s .bool r.2]) ?_ h
  intro goto ret
  unfold ref01_Unquote
  simp only [bnd_G, bnd_ite, bnd_bind, bnd_some]
  kernel_rfl
noncomputable def e_ref01_Unquote : List DT → Option CallRes
  | [.s t0 y0] => (castT (b := .str) y0).bind fun s_ => some ⟨((List UInt8) × Bool), ref01_Unquote s_, fun r => .tup [.s .str r.1, .s .bool r.2], (([] : List UInt8), false), true⟩
  | _ => none
noncomputable def E_ref01_Unquote : Env := Env.add 95 e_ref01_Unquote E_ref01_quoted
theorem E_ref01_Unquote_ok : EnvOk X0 E_ref01_Unquote := by
  refine EnvOk.add E_ref01_quoted_ok (fun args c h => ?_)
  unfold e_ref01_Unquote at h
  split at h
  · obtain ⟨v0, c0, h⟩ := Option.bind_eq_some_iff.1 h
    obtain ⟨rfl, rfl⟩ := castT_some c0
    cases h
    exact ⟨fun r hr => .inl ⟨by kernel_rfl, ok_ref01_Unquote _ r hr⟩, fun hb => fun r => noSl_res (by rfl)⟩
  · cases h

/-! ### 86 onceweb/oncewebref03.text -/
def F_ref03_text : FnD := { n := 57, rs := [4, 5, 6], labels := [(4, [0, 1, 7])] }
def lab_ref03_text : L_ref03_text → Nat × DSt
  | .l4 s_ at_ end_ => (4, [(0, .t (.s .str s_)), (1, .t (.s (.int .i64) at_)), (7, .t (.s (.int .i64) end_))])
set_option maxRecDepth 100000 in
theorem ok_ref03_text (s_ : (List UInt8)) (at_ : Int) (r : ((List UInt8) × Int × Bool)) (h : ref03_text s_ at_ = some r) : APure X0 86 ([.s .str s_, .s (.int .i64) at_].map DT.toT) (resT ([.s .str r.1, .s (.int .i64) r.2.1, .s .bool r.2.2].map DT.toT)) := by
  refine APure_of_machine (F := F_ref03_text) (fuel := 3000) (E := E_ref01_Unquote) Yok E_ref01_Unquote_ok mixed Tryd.func86 rfl rfl rfl (by decide) (args := [.s .str s_, .s (.int .i64) at_]) (Nat.le_of_ble_eq_true rfl) (by kernel_rfl) lab_ref03_text st_ref03_text (fun r => [.s .str r.1, .s (.int .i64) r.2.1, .s .bool r.2.2]) ?_ ?_ ?_ h
  · intro l; cases l
    · exact WF_list ⟨trivial, trivial, trivial, trivial⟩
  · intro l goto ret; cases l with
    | l4 s_ at_ end_ =>
      show _ = push (sg_ref03_text_4 s_ at_ end_) (fun l' => goto (lab_ref03_text l').1 (lab_ref03_text l').2) (fun r => ret [.s .str r.1, .s (.int .i64) r.2.1, .s .bool r.2.2])
      unfold sg_ref03_text_4
      simp only [push_G, push_ite, push_bind, push_inl, push_inr]
      kernel_rfl
  · intro goto ret
    show _ = push (en_ref03_text s_ at_) (fun l' => goto (lab_ref03_text l').1 (lab_ref03_text l').2) (fun r => ret [.s .str r.1, .s (.int .i64) r.2.1, .s .bool r.2.2])
    unfold en_ref03_text
    simp only [push_G, push_ite, push_bind, push_inl, push_inr]
    kernel_rfl
noncomputable def e_ref03_text : List DT → Option CallRes
  | [.s t0 y0, .s t1 y1] => (castT (b := .str) y0).bind fun s_ => (castT (b := (.int .i64)) y1).bind fun at_ => some ⟨((List UInt8) × Int × Bool), ref03_text s_ at_, fun r => .tup [.s .str r.1, .s (.int .i64) r.2.1, .s .bool r.2.2], (([] : List UInt8), (0 : Int), false), true⟩
  | _ => none
noncomputable def E_ref03_text : Env := Env.add 86 e_ref03_text E_ref01_Unquote
theorem E_ref03_text_ok : EnvOk X0 E_ref03_text := by
  refine EnvOk.add E_ref01_Unquote_ok (fun args c h => ?_)
  unfold e_ref03_text at h
  split at h
  · obtain ⟨v0, c0, h⟩ := Option.bind_eq_some_iff.1 h
    obtain ⟨rfl, rfl⟩ := castT_some c0
    obtain ⟨v1, c1, h⟩ := Option.bind_eq_some_iff.1 h
    obtain ⟨rfl, rfl⟩ := castT_some c1
    cases h
    exact ⟨fun r hr => .inl ⟨by kernel_rfl, ok_ref03_text _ _ r hr⟩, fun hb => fun r => noSl_res (by rfl)⟩
  · cases h

end Go.Eng
