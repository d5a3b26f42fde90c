/- A part of the proof: La2. -/
import Derived.Test.YtnkkbcofijcpbaaDoorLa1
import Derived.Test.YtnkkbcofijcpbaaDoorPrs
namespace Go.Eng
open Go.Proofs Go.RowKit
set_option linter.unusedVariables false
set_option linter.unusedSimpArgs false
set_option maxRecDepth 8000
noncomputable def e_fail_Parse : List DT → Option CallRes
  | [.s t0 y0] => (castT (b := .str) y0).bind fun s_ => some ⟨((List tCrack) × Int), fail_Parse s_, fun r => .tup [.s (.sl 3 tyCrack) r.1, .s (.int .i64) r.2], (([] : List tCrack), (0 : Int)), false⟩
  | _ => none
noncomputable def E_fail_Parse : Env := Env.add 42 e_fail_Parse E_fail_reader_fail
theorem E_fail_Parse_ok : EnvOk X0 E_fail_Parse := by
  refine EnvOk.add E_fail_reader_fail_ok (fun args c h => ?_)
  unfold e_fail_Parse at h
  split at h
  · obtain ⟨v0, c0, h⟩ := Option.bind_eq_some_iff.1 h
    obtain ⟨rfl, rfl⟩ := castT_some c0
    cases h
    exact ⟨fun r hr => .inl ⟨by kernel_rfl, ok_fail_Parse _ r hr⟩, fun hb => by cases hb⟩
  · cases h
def F_slices_Equal : FnD := { n := 26, rs := [4], labels := [(4, [0, 1, 12, 13])] }
def lab_slices_Equal : L_slices_Equal → Nat × DSt
  | .l4 s1 s2 x12 x13 => (4, [(0, .t (.s (.sl 3 tyCrack) s1)), (1, .t (.s (.sl 3 tyCrack) s2)), (12, .t (.s (.int .i64) x12)), (13, .t (.s (.int .i64) x13))])
set_option maxRecDepth 100000 in
theorem ok_slices_Equal (s1 : (List tCrack)) (s2 : (List tCrack)) (r : Bool) (h : slices_Equal s1 s2 = some r) : APure X0 58 ([.s (.sl 3 tyCrack) s1, .s (.sl 3 tyCrack) s2].map DT.toT) (resT ([.s .bool r].map DT.toT)) := by
  refine APure_of_machine (F := F_slices_Equal) (fuel := 3000) (E := E_fail_Parse) Yok E_fail_Parse_ok mixed Tryd.func58 rfl rfl rfl (by decide) (args := [.s (.sl 3 tyCrack) s1, .s (.sl 3 tyCrack) s2]) (Nat.le_of_ble_eq_true rfl) (by kernel_rfl) lab_slices_Equal st_slices_Equal (fun r => [.s .bool r]) ?_ ?_ ?_ h
  · intro l; cases l
    · exact WF_list ⟨trivial, trivial, trivial, trivial, trivial⟩
  · intro l goto ret; cases l with
    | l4 s1 s2 x12 x13 =>
      show _ = push (sg_slices_Equal_4 s1 s2 x12 x13) (fun l' => goto (lab_slices_Equal l').1 (lab_slices_Equal l').2) (fun r => ret [.s .bool r])
      unfold sg_slices_Equal_4
      simp only [push_G, push_ite, push_bind, push_inl, push_inr, -eq_self]
      kernel_rfl
  · intro goto ret
    show _ = push (en_slices_Equal s1 s2) (fun l' => goto (lab_slices_Equal l').1 (lab_slices_Equal l').2) (fun r => ret [.s .bool r])
    unfold en_slices_Equal
    simp only [push_G, push_ite, push_bind, push_inl, push_inr, -eq_self]
    kernel_rfl
noncomputable def e_slices_Equal : List DT → Option CallRes
  | [.s t0 y0, .s t1 y1] => (castT (b := (.sl 3 tyCrack)) y0).bind fun s1 => (castT (b := (.sl 3 tyCrack)) y1).bind fun s2 => some ⟨Bool, slices_Equal s1 s2, fun r => .s .bool r, false, true⟩
  | _ => none
noncomputable def E_slices_Equal : Env := Env.add 58 e_slices_Equal E_fail_Parse
theorem E_slices_Equal_ok : EnvOk X0 E_slices_Equal := by
  refine EnvOk.add E_fail_Parse_ok (fun args c h => ?_)
  unfold e_slices_Equal at h
  split at h
  · obtain ⟨v0, c0, h⟩ := Option.bind_eq_some_iff.1 h
    obtain ⟨rfl, rfl⟩ := castT_some c0
    obtain ⟨v1, c1, h⟩ := Option.bind_eq_some_iff.1 h
    obtain ⟨rfl, rfl⟩ := castT_some c1
    cases h
    exact ⟨fun r hr => .inl ⟨by kernel_rfl, ok_slices_Equal _ _ r hr⟩, fun hb => fun r => noSl_res (by rfl)⟩
  · cases h
def F_fail_Is : FnD := { n := 42, rs := [4, 5], labels := [(9, [0, 1, 8, 27, 28, 29])] }
def lab_fail_Is : L_fail_Is → Nat × DSt
  | .l9 f g from_ x28 x29 => (9, [(0, .t (.s (.sl 3 tyCrack) f)), (1, .t (.s (.sl 3 tyCrack) g)), (8, .t (.own 3 (.int .i64) from_)), (27, .ref 8 none 0 from_.length .all), (28, .t (.s (.int .i64) x28)), (29, .t (.s (.int .i64) x29))])
set_option maxRecDepth 100000 in
theorem ok_fail_Is (f : (List tCrack)) (g : (List tCrack)) (r : (Bool × Int)) (h : fail_Is f g = some r) : APure X0 34 ([.s (.sl 3 tyCrack) f, .s (.sl 3 tyCrack) g].map DT.toT) (resT ([.s .bool r.1, .s (.int .i64) r.2].map DT.toT)) := by
  refine APure_of_machine (F := F_fail_Is) (fuel := 3000) (E := E_slices_Equal) Yok E_slices_Equal_ok mixed Tryd.func34 rfl rfl rfl (by decide) (args := [.s (.sl 3 tyCrack) f, .s (.sl 3 tyCrack) g]) (Nat.le_of_ble_eq_true rfl) (by kernel_rfl) lab_fail_Is st_fail_Is (fun r => [.s .bool r.1, .s (.int .i64) r.2]) ?_ ?_ ?_ h
  · intro l; cases l
    · exact WF_list ⟨trivial, trivial, trivial, .inr ⟨_, _, _, rfl, rfl, rfl⟩, trivial, trivial, trivial⟩
  · intro l goto ret; cases l with
    | l9 f g from_ x28 x29 =>
      show _ = push (sg_fail_Is_9 f g from_ x28 x29) (fun l' => goto (lab_fail_Is l').1 (lab_fail_Is l').2) (fun r => ret [.s .bool r.1, .s (.int .i64) r.2])
      unfold sg_fail_Is_9
      simp only [push_G, push_ite, push_bind, push_inl, push_inr, -eq_self]
      kernel_rfl
  · intro goto ret
    show _ = push (en_fail_Is f g) (fun l' => goto (lab_fail_Is l').1 (lab_fail_Is l').2) (fun r => ret [.s .bool r.1, .s (.int .i64) r.2])
    unfold en_fail_Is
    simp only [push_G, push_ite, push_bind, push_inl, push_inr, -eq_self]
    kernel_rfl
noncomputable def e_fail_Is : List DT → Option CallRes
  | [.s t0 y0, .s t1 y1] => (castT (b := (.sl 3 tyCrack)) y0).bind fun f => (castT (b := (.sl 3 tyCrack)) y1).bind fun g => some ⟨(Bool × Int), fail_Is f g, fun r => .tup [.s .bool r.1, .s (.int .i64) r.2], (false, (0 : Int)), true⟩
  | _ => none
noncomputable def E_fail_Is : Env := Env.add 34 e_fail_Is E_slices_Equal
theorem E_fail_Is_ok : EnvOk X0 E_fail_Is := by
  refine EnvOk.add E_slices_Equal_ok (fun args c h => ?_)
  unfold e_fail_Is at h
  split at h
  · obtain ⟨v0, c0, h⟩ := Option.bind_eq_some_iff.1 h
    obtain ⟨rfl, rfl⟩ := castT_some c0
    obtain ⟨v1, c1, h⟩ := Option.bind_eq_some_iff.1 h
    obtain ⟨rfl, rfl⟩ := castT_some c1
    cases h
    exact ⟨fun r hr => .inl ⟨by kernel_rfl, ok_fail_Is _ _ r hr⟩, fun hb => fun r => noSl_res (by rfl)⟩
  · cases h
def F_law03_works : FnD := { n := 51, rs := [0] }
set_option maxRecDepth 100000 in
theorem ok_law03_works  (r : Bool) (h : law03_works  = some r) : APure X0 44 ([].map DT.toT) (resT ([.s .bool r].map DT.toT)) := by
  refine APure_of_straight (F := F_law03_works) (fuel := 3000) (E := E_fail_Is) Yok E_fail_Is_ok mixed Tryd.func44 rfl rfl rfl (by decide) (args := []) (Nat.le_of_ble_eq_true rfl) (by kernel_rfl) (fun r => [.s .bool r]) ?_ h
  intro goto ret
  unfold law03_works
  simp only [bnd_G, bnd_ite, bnd_bind, bnd_some, -eq_self]
  kernel_rfl
noncomputable def e_law03_works : List DT → Option CallRes
  | [] => some ⟨Bool, law03_works , fun r => .s .bool r, false, true⟩
  | _ => none
noncomputable def E_law03_works : Env := Env.add 44 e_law03_works E_fail_Is
theorem E_law03_works_ok : EnvOk X0 E_law03_works := by
  refine EnvOk.add E_fail_Is_ok (fun args c h => ?_)
  unfold e_law03_works at h
  split at h
  · cases h
    exact ⟨fun r hr => .inl ⟨by kernel_rfl, ok_law03_works r hr⟩, fun hb => fun r => noSl_res (by rfl)⟩
  · cases h
def F_law03_FailBack : FnD := { n := 59, rs := [4], labels := [(8, [1])] }
def lab_law03_FailBack : L_law03_FailBack → Nat × DSt
  | .l8 s_ => (8, [(1, .t (.s .str s_))])
set_option maxRecDepth 100000 in
theorem ok_law03_FailBack (f : (List tCrack)) (s_ : (List UInt8)) (r : Bool) (h : law03_FailBack f s_ = some r) : APure X0 8 ([.s (.sl 3 tyCrack) f, .s .str s_].map DT.toT) (resT ([.s .bool r].map DT.toT)) := by
  refine APure_of_machine (F := F_law03_FailBack) (fuel := 3000) (E := E_law03_works) Yok E_law03_works_ok mixed Tryd.func8 rfl rfl rfl (by decide) (args := [.s (.sl 3 tyCrack) f, .s .str s_]) (Nat.le_of_ble_eq_true rfl) (by kernel_rfl) lab_law03_FailBack st_law03_FailBack (fun r => [.s .bool r]) ?_ ?_ ?_ h
  · intro l; cases l
    · exact WF_list ⟨trivial, trivial⟩
  · intro l goto ret; cases l with
    | l8 s_ =>
      show _ = push (sg_law03_FailBack_8 s_) (fun l' => goto (lab_law03_FailBack l').1 (lab_law03_FailBack l').2) (fun r => ret [.s .bool r])
      unfold sg_law03_FailBack_8
      simp only [push_G, push_ite, push_bind, push_inl, push_inr, -eq_self]
      kernel_rfl
  · intro goto ret
    show _ = push (en_law03_FailBack f s_) (fun l' => goto (lab_law03_FailBack l').1 (lab_law03_FailBack l').2) (fun r => ret [.s .bool r])
    unfold en_law03_FailBack
    simp only [push_G, push_ite, push_bind, push_inl, push_inr, -eq_self]
    kernel_rfl
end Go.Eng
