/- A part of the proof: La2. -/
import Derived.Test.YtnkkbcofijcpbaaDoorLa1
import Derived.Test.YtnkkbcofijcpbaaDoorHs
import Derived.Test.YtnkkbcofijcpbaaDoorPrs
namespace Go.Eng
open Go.Proofs Go.RowKit
set_option linter.unusedVariables false
set_option linter.unusedSimpArgs false
set_option maxRecDepth 8000
noncomputable def e_fail_Parse : List DT → Option CallRes
  | [.s t0 y0] => (castT (b := .str) y0).bind fun s_ => some ⟨((List tCrack) × Int), fail_Parse s_, fun r => .tup [.s (.sl 3 tyCrack) r.1, .s (.int .i64) r.2], (([] : List tCrack), (0 : Int)), false⟩
  | _ => none
noncomputable def E_fail_Parse : Env := Env.add 42 e_fail_Parse E_fail_reader_fail
theorem E_fail_Parse_ok : EnvOk X0 E_fail_Parse := by
  refine EnvOk.add E_fail_reader_fail_ok (fun args c h => ?_)
  unfold e_fail_Parse at h
  split at h
  · obtain ⟨v0, c0, h⟩ := Option.bind_eq_some_iff.1 h
    obtain ⟨rfl, rfl⟩ := castT_some c0
    cases h
    exact ⟨fun r hr => .inl ⟨by kernel_rfl, ok_fail_Parse _ r hr⟩, fun hb => by cases hb⟩
  · cases h
def F_law03_works : FnD := { n := 51, rs := [0] }
set_option maxRecDepth 100000 in
theorem ok_law03_works  (r : Bool) (h : law03_works  = some r) : APure X0 44 ([].map DT.toT) (resT ([.s .bool r].map DT.toT)) := by
  refine APure_of_straight (F := F_law03_works) (fuel := 3000) (E := E_fail_Parse) Yok E_fail_Parse_ok mixed Tryd.func44 rfl rfl rfl (by decide) (args := []) (Nat.le_of_ble_eq_true rfl) (by kernel_rfl) (fun r => [.s .bool r]) ?_ h
  intro goto ret
  unfold law03_works
  simp only [bnd_G, bnd_ite, bnd_bind, bnd_some, -eq_self]
  kernel_rfl
noncomputable def e_law03_works : List DT → Option CallRes
  | [] => some ⟨Bool, law03_works , fun r => .s .bool r, false, true⟩
  | _ => none
noncomputable def E_law03_works : Env := Env.add 44 e_law03_works E_fail_Parse
theorem E_law03_works_ok : EnvOk X0 E_law03_works := by
  refine EnvOk.add E_fail_Parse_ok (fun args c h => ?_)
  unfold e_law03_works at h
  split at h
  · cases h
    exact ⟨fun r hr => .inl ⟨by kernel_rfl, ok_law03_works r hr⟩, fun hb => fun r => noSl_res (by rfl)⟩
  · cases h
def F_law03_is : FnD := { n := 18, rs := [4] }
set_option maxRecDepth 100000 in
theorem ok_law03_is (f : (List tCrack)) (g : (List tCrack)) (r : Bool) (h : law03_is f g = some r) : APure X0 45 ([.s (.sl 3 tyCrack) f, .s (.sl 3 tyCrack) g].map DT.toT) (resT ([.s .bool r].map DT.toT)) := by
  refine APure_of_straight (F := F_law03_is) (fuel := 3000) (E := E_law03_works) Yok E_law03_works_ok mixed Tryd.func45 rfl rfl rfl (by decide) (args := [.s (.sl 3 tyCrack) f, .s (.sl 3 tyCrack) g]) (Nat.le_of_ble_eq_true rfl) (by kernel_rfl) (fun r => [.s .bool r]) ?_ h
  intro goto ret
  unfold law03_is
  simp only [bnd_G, bnd_ite, bnd_bind, bnd_some, -eq_self]
  kernel_rfl
noncomputable def e_law03_is : List DT → Option CallRes
  | [.s t0 y0, .s t1 y1] => (castT (b := (.sl 3 tyCrack)) y0).bind fun f => (castT (b := (.sl 3 tyCrack)) y1).bind fun g => some ⟨Bool, law03_is f g, fun r => .s .bool r, false, true⟩
  | _ => none
noncomputable def E_law03_is : Env := Env.add 45 e_law03_is E_law03_works
theorem E_law03_is_ok : EnvOk X0 E_law03_is := by
  refine EnvOk.add E_law03_works_ok (fun args c h => ?_)
  unfold e_law03_is at h
  split at h
  · obtain ⟨v0, c0, h⟩ := Option.bind_eq_some_iff.1 h
    obtain ⟨rfl, rfl⟩ := castT_some c0
    obtain ⟨v1, c1, h⟩ := Option.bind_eq_some_iff.1 h
    obtain ⟨rfl, rfl⟩ := castT_some c1
    cases h
    exact ⟨fun r hr => .inl ⟨by kernel_rfl, ok_law03_is _ _ r hr⟩, fun hb => fun r => noSl_res (by rfl)⟩
  · cases h
def F_law03_FailHolds : FnD := { n := 109, rs := [6] }
set_option maxRecDepth 100000 in
theorem ok_law03_FailHolds (f : (List tCrack)) (g : (List tCrack)) (name : (List UInt8)) (r : Bool) (h : law03_FailHolds f g name = some r) : APure X0 9 ([.s (.sl 3 tyCrack) f, .s (.sl 3 tyCrack) g, .s .str name].map DT.toT) (resT ([.s .bool r].map DT.toT)) := by
  refine APure_of_straight (F := F_law03_FailHolds) (fuel := 3000) (E := E_law03_is) Yok E_law03_is_ok mixed Tryd.func9 rfl rfl rfl (by decide) (args := [.s (.sl 3 tyCrack) f, .s (.sl 3 tyCrack) g, .s .str name]) (Nat.le_of_ble_eq_true rfl) (by kernel_rfl) (fun r => [.s .bool r]) ?_ h
  intro goto ret
  unfold law03_FailHolds
  simp only [bnd_G, bnd_ite, bnd_bind, bnd_some, -eq_self]
  kernel_rfl
noncomputable def e_law03_FailHolds : List DT → Option CallRes
  | [.s t0 y0, .s t1 y1, .s t2 y2] => (castT (b := (.sl 3 tyCrack)) y0).bind fun f => (castT (b := (.sl 3 tyCrack)) y1).bind fun g => (castT (b := .str) y2).bind fun name => some ⟨Bool, law03_FailHolds f g name, fun r => .s .bool r, false, true⟩
  | _ => none
noncomputable def E_law03_FailHolds : Env := Env.add 9 e_law03_FailHolds E_law03_is
theorem E_law03_FailHolds_ok : EnvOk X0 E_law03_FailHolds := by
  refine EnvOk.add E_law03_is_ok (fun args c h => ?_)
  unfold e_law03_FailHolds at h
  split at h
  · obtain ⟨v0, c0, h⟩ := Option.bind_eq_some_iff.1 h
    obtain ⟨rfl, rfl⟩ := castT_some c0
    obtain ⟨v1, c1, h⟩ := Option.bind_eq_some_iff.1 h
    obtain ⟨rfl, rfl⟩ := castT_some c1
    obtain ⟨v2, c2, h⟩ := Option.bind_eq_some_iff.1 h
    obtain ⟨rfl, rfl⟩ := castT_some c2
    cases h
    exact ⟨fun r hr => .inl ⟨by kernel_rfl, ok_law03_FailHolds _ _ _ r hr⟩, fun hb => fun r => noSl_res (by rfl)⟩
  · cases h
def F_fail_Deep : FnD := { n := 52, rs := [2, 3], labels := [(6, [5, 18, 19, 20]), (10, [5, 8, 9, 18, 19, 20, 31, 32, 33])] }
def lab_fail_Deep : L_fail_Deep → Nat × DSt
  | .l6 stack x18 x19 x20 => (6, [(5, .t (.own 3 (.int .i64) stack)), (18, .t (.s (.sl 3 tyCrack) x18)), (19, .t (.s (.int .i64) x19)), (20, .t (.s (.int .i64) x20))])
  | .l10 stack k n x18 x19 x20 x31 x31' x32 x33 => (10, [(5, .t (.own 3 (.int .i64) stack)), (8, .t (.s (.int .i64) k)), (9, .t (.s (.int .i64) n)), (18, .t (.s (.sl 3 tyCrack) x18)), (19, .t (.s (.int .i64) x19)), (20, .t (.s (.int .i64) x20)), (31, .ref 5 none x31 x31' .mid), (32, .t (.s (.int .i64) x32)), (33, .t (.s (.int .i64) x33))])
set_option maxRecDepth 100000 in
theorem ok_fail_Deep (f : (List tCrack)) (r : (Int × Int)) (h : fail_Deep f = some r) : APure X0 12 ([.s (.sl 3 tyCrack) f].map DT.toT) (resT ([.s (.int .i64) r.1, .s (.int .i64) r.2].map DT.toT)) := by
  refine APure_of_machine (F := F_fail_Deep) (fuel := 3000) (E := E_law03_FailHolds) Yok E_law03_FailHolds_ok mixed Tryd.func12 rfl rfl rfl (by decide) (args := [.s (.sl 3 tyCrack) f]) (Nat.le_of_ble_eq_true rfl) (by kernel_rfl) lab_fail_Deep st_fail_Deep (fun r => [.s (.int .i64) r.1, .s (.int .i64) r.2]) ?_ ?_ ?_ h
  · intro l; cases l
    · exact WF_list ⟨trivial, trivial, trivial, trivial, trivial⟩
    · exact WF_list ⟨trivial, trivial, trivial, trivial, trivial, trivial, .inl rfl, trivial, trivial, trivial⟩
  · intro l goto ret; cases l with
    | l6 stack x18 x19 x20 =>
      show _ = push (sg_fail_Deep_6 stack x18 x19 x20) (fun l' => goto (lab_fail_Deep l').1 (lab_fail_Deep l').2) (fun r => ret [.s (.int .i64) r.1, .s (.int .i64) r.2])
      unfold sg_fail_Deep_6
      simp only [push_G, push_ite, push_bind, push_inl, push_inr, -eq_self]
      kernel_rfl
    | l10 stack k n x18 x19 x20 x31 x31' x32 x33 =>
      show _ = push (sg_fail_Deep_10 stack k n x18 x19 x20 x31 x31' x32 x33) (fun l' => goto (lab_fail_Deep l').1 (lab_fail_Deep l').2) (fun r => ret [.s (.int .i64) r.1, .s (.int .i64) r.2])
      unfold sg_fail_Deep_10
      simp only [push_G, push_ite, push_bind, push_inl, push_inr, -eq_self]
      kernel_rfl
  · intro goto ret
    show _ = push (en_fail_Deep f) (fun l' => goto (lab_fail_Deep l').1 (lab_fail_Deep l').2) (fun r => ret [.s (.int .i64) r.1, .s (.int .i64) r.2])
    unfold en_fail_Deep
    simp only [push_G, push_ite, push_bind, push_inl, push_inr, -eq_self]
    kernel_rfl
noncomputable def e_fail_Deep : List DT → Option CallRes
  | [.s t0 y0] => (castT (b := (.sl 3 tyCrack)) y0).bind fun f => some ⟨(Int × Int), fail_Deep f, fun r => .tup [.s (.int .i64) r.1, .s (.int .i64) r.2], ((0 : Int), (0 : Int)), true⟩
  | _ => none
noncomputable def E_fail_Deep : Env := Env.add 12 e_fail_Deep E_law03_FailHolds
theorem E_fail_Deep_ok : EnvOk X0 E_fail_Deep := by
  refine EnvOk.add E_law03_FailHolds_ok (fun args c h => ?_)
  unfold e_fail_Deep at h
  split at h
  · obtain ⟨v0, c0, h⟩ := Option.bind_eq_some_iff.1 h
    obtain ⟨rfl, rfl⟩ := castT_some c0
    cases h
    exact ⟨fun r hr => .inl ⟨by kernel_rfl, ok_fail_Deep _ r hr⟩, fun hb => fun r => noSl_res (by rfl)⟩
  · cases h
def F_fail_Leaves : FnD := { n := 29, rs := [2, 3], labels := [(6, [5, 13, 14, 15])] }
def Y_fail_Leaves : DX := { Y0 with o2 := [2, 5, 25] }
theorem Yok_fail_Leaves : DXOk Y_fail_Leaves X0 := ⟨Yok.tab, Yok.gl⟩
def lab_fail_Leaves : L_fail_Leaves → Nat × DSt
  | .l6 out x13 x14 x15 => (6, [(5, .t (.own2 23 60 tyCrack out)), (13, .t (.s (.sl 3 tyCrack) x13)), (14, .t (.s (.int .i64) x14)), (15, .t (.s (.int .i64) x15))])
set_option maxRecDepth 100000 in
theorem ok_fail_Leaves (f : (List tCrack)) (r : ((List (Bool × List tCrack)) × Int)) (h : fail_Leaves f = some r) : APure X0 22 ([.s (.sl 3 tyCrack) f].map DT.toT) (resT ([.own2 23 60 tyCrack r.1, .s (.int .i64) r.2].map DT.toT)) := by
  refine APure_of_machine (F := F_fail_Leaves) (fuel := 3000) (E := E_fail_Deep) Yok_fail_Leaves E_fail_Deep_ok mixed Tryd.func22 rfl rfl rfl (by decide) (args := [.s (.sl 3 tyCrack) f]) (Nat.le_of_ble_eq_true rfl) (by kernel_rfl) lab_fail_Leaves st_fail_Leaves (fun r => [.own2 23 60 tyCrack r.1, .s (.int .i64) r.2]) ?_ ?_ ?_ h
  · intro l; cases l
    · exact WF_list ⟨trivial, trivial, trivial, trivial, trivial⟩
  · intro l goto ret; cases l with
    | l6 out x13 x14 x15 =>
      show _ = push (sg_fail_Leaves_6 out x13 x14 x15) (fun l' => goto (lab_fail_Leaves l').1 (lab_fail_Leaves l').2) (fun r => ret [.own2 23 60 tyCrack r.1, .s (.int .i64) r.2])
      unfold sg_fail_Leaves_6
      simp only [push_G, push_ite, push_bind, push_inl, push_inr, -eq_self]
      kernel_rfl
  · intro goto ret
    show _ = push (en_fail_Leaves f) (fun l' => goto (lab_fail_Leaves l').1 (lab_fail_Leaves l').2) (fun r => ret [.own2 23 60 tyCrack r.1, .s (.int .i64) r.2])
    unfold en_fail_Leaves
    simp only [push_G, push_ite, push_bind, push_inl, push_inr, -eq_self]
    kernel_rfl
noncomputable def e_fail_Leaves : List DT → Option CallRes
  | [.s t0 y0] => (castT (b := (.sl 3 tyCrack)) y0).bind fun f => some ⟨((List (Bool × List tCrack)) × Int), fail_Leaves f, fun r => .tup [.own2 23 60 tyCrack r.1, .s (.int .i64) r.2], ([], (0 : Int)), false⟩
  | _ => none
noncomputable def E_fail_Leaves : Env := Env.add 22 e_fail_Leaves E_fail_Deep
theorem E_fail_Leaves_ok : EnvOk X0 E_fail_Leaves := by
  refine EnvOk.add E_fail_Deep_ok (fun args c h => ?_)
  unfold e_fail_Leaves at h
  split at h
  · obtain ⟨v0, c0, h⟩ := Option.bind_eq_some_iff.1 h
    obtain ⟨rfl, rfl⟩ := castT_some c0
    cases h
    exact ⟨fun r hr => .inl ⟨by kernel_rfl, ok_fail_Leaves _ r hr⟩, fun hb => by cases hb⟩
  · cases h
noncomputable def e_fail_Has : List DT → Option CallRes
  | [.s t0 y0, .s t1 y1] => (castT (b := (.sl 3 tyCrack)) y0).bind fun f => (castT (b := (.int .i64)) y1).bind fun kind => some ⟨(Bool × Int), fail_Has f kind, fun r => .tup [.s .bool r.1, .s (.int .i64) r.2], (false, (0 : Int)), true⟩
  | _ => none
noncomputable def E_fail_Has : Env := Env.add 36 e_fail_Has E_fail_Leaves
theorem E_fail_Has_ok : EnvOk X0 E_fail_Has := by
  refine EnvOk.add E_fail_Leaves_ok (fun args c h => ?_)
  unfold e_fail_Has at h
  split at h
  · obtain ⟨v0, c0, h⟩ := Option.bind_eq_some_iff.1 h
    obtain ⟨rfl, rfl⟩ := castT_some c0
    obtain ⟨v1, c1, h⟩ := Option.bind_eq_some_iff.1 h
    obtain ⟨rfl, rfl⟩ := castT_some c1
    cases h
    exact ⟨fun r hr => .inl ⟨by kernel_rfl, ok_fail_Has _ _ r hr⟩, fun hb => fun r => noSl_res (by rfl)⟩
  · cases h
def F_law03_FailAgrees : FnD := { n := 142, rs := [4], labels := [(12, [0, 9, 10])] }
def lab_law03_FailAgrees : L_law03_FailAgrees → Nat × DSt
  | .l12 f n i => (12, [(0, .t (.s (.sl 3 tyCrack) f)), (9, .t (.s (.int .i64) n)), (10, .t (.s (.int .i64) i))])
set_option maxRecDepth 100000 in
theorem ok_law03_FailAgrees (f : (List tCrack)) (kind : Int) (r : Bool) (h : law03_FailAgrees f kind = some r) : APure X0 10 ([.s (.sl 3 tyCrack) f, .s (.int .i64) kind].map DT.toT) (resT ([.s .bool r].map DT.toT)) := by
  refine APure_of_machine (F := F_law03_FailAgrees) (fuel := 3000) (E := E_fail_Has) Yok E_fail_Has_ok mixed Tryd.func10 rfl rfl rfl (by decide) (args := [.s (.sl 3 tyCrack) f, .s (.int .i64) kind]) (Nat.le_of_ble_eq_true rfl) (by kernel_rfl) lab_law03_FailAgrees st_law03_FailAgrees (fun r => [.s .bool r]) ?_ ?_ ?_ h
  · intro l; cases l
    · exact WF_list ⟨trivial, trivial, trivial, trivial⟩
  · intro l goto ret; cases l with
    | l12 f n i =>
      show _ = push (sg_law03_FailAgrees_12 f n i) (fun l' => goto (lab_law03_FailAgrees l').1 (lab_law03_FailAgrees l').2) (fun r => ret [.s .bool r])
      unfold sg_law03_FailAgrees_12
      simp only [push_G, push_ite, push_bind, push_inl, push_inr, -eq_self]
      kernel_rfl
  · intro goto ret
    show _ = push (en_law03_FailAgrees f kind) (fun l' => goto (lab_law03_FailAgrees l').1 (lab_law03_FailAgrees l').2) (fun r => ret [.s .bool r])
    unfold en_law03_FailAgrees
    simp only [push_G, push_ite, push_bind, push_inl, push_inr, -eq_self]
    kernel_rfl
end Go.Eng
