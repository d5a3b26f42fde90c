/- A part of the proof: Lv2. -/
import Derived.Test.YtnjcbogckfiamaaLv1
namespace Go.Eng
open Go.Proofs Go.RowKit
set_option linter.unusedVariables false
set_option linter.unusedSimpArgs false

/-! ### 52 (onceweb/value.args).list -/
def F_value_args_list : FnD := { n := 8, rs := [2, 3] }
set_option maxRecDepth 100000 in
theorem ok_value_args_list (a : (List (List tAtom))) (r : ((List tAtom) × Bool)) (h : value_args_list a = some r) : APure X0 52 ([.s (.sl 1 (.sl 4 tyAtom)) a].map DT.toT) (resT ([.own 48 tyAtom r.1, .s .bool r.2].map DT.toT)) := by
  refine APure_of_straight (F := F_value_args_list) (fuel := 3000) (E := E_ref07_Compare) Yok E_ref07_Compare_ok mixed Try.func52 rfl rfl rfl (by decide) (args := [.s (.sl 1 (.sl 4 tyAtom)) a]) (Nat.le_of_ble_eq_true rfl) (by kernel_rfl) (fun r => [.own 48 tyAtom r.1, .s .bool r.2]) ?_ h
  intro goto ret
  unfold value_args_list
  simp only [bnd_G, bnd_ite, bnd_bind, bnd_some, -eq_self]
  kernel_rfl
noncomputable def e_value_args_list : List DT → Option CallRes
  | [.s t0 y0] => (castT (b := (.sl 1 (.sl 4 tyAtom))) y0).bind fun a => some ⟨((List tAtom) × Bool), value_args_list a, fun r => .tup [.own 48 tyAtom r.1, .s .bool r.2], (([] : List tAtom), false), true⟩
  | _ => none
noncomputable def E_value_args_list : Env := Env.add 52 e_value_args_list E_ref07_Compare
theorem E_value_args_list_ok : EnvOk X0 E_value_args_list := by
  refine EnvOk.add E_ref07_Compare_ok (fun args c h => ?_)
  unfold e_value_args_list at h
  split at h
  · obtain ⟨v0, c0, h⟩ := Option.bind_eq_some_iff.1 h
    obtain ⟨rfl, rfl⟩ := castT_some c0
    cases h
    exact ⟨fun r hr => .inl ⟨by kernel_rfl, ok_value_args_list _ r hr⟩, fun hb => fun r => noSl_res (by rfl)⟩
  · cases h

/-! ### 76 slices.IndexFunc[onceweb/value.args,onceweb/api.Value] -/
def F_slices_IndexFunc : FnD := { n := 19, rs := [4], labels := [(2, [0, 1, 7, 8])] }
def lab_slices_IndexFunc : L_slices_IndexFunc → Nat × DSt
  | .l2 s_ f x7 x8 => (2, [(0, .t (.s (.sl 1 (.sl 4 tyAtom)) s_)), (1, .t (.s .opq f)), (7, .t (.s (.int .i64) x7)), (8, .t (.s (.int .i64) x8))])
noncomputable def ed_slices_IndexFunc (dyn : Value → (List tAtom) → Option Bool) : List DT → Option CallRes
  | [.tup [.u, .s tv yv], .s t0 y0] => (castT (b := .opq) yv).bind fun v_ => (castT (b := (.sl 4 tyAtom)) y0).bind fun a0 => some ⟨Bool, dyn v_ a0, fun r_ => (.s .bool r_ : DT), false, true⟩
  | _ => none
theorem ed_slices_IndexFunc_ok (dyn : Value → (List tAtom) → Option Bool) (hd : ∀ (v_ : Value) (a0 : (List tAtom)) (r_ : Bool), dyn v_ a0 = some r_ → DynC X0 v_ (([.s (.sl 4 tyAtom) a0] : List DT).map DT.toT) (.s .bool r_ : DT).toT) : ∀ (g : FuncId) (args : List DT) (c : CallRes), ed_slices_IndexFunc dyn args = some c → CallOk X0 g args c := by
  intro g args c h
  unfold ed_slices_IndexFunc at h
  split at h
  · obtain ⟨vv, cv, h⟩ := Option.bind_eq_some_iff.1 h
    obtain ⟨rfl, rfl⟩ := castT_some cv
    obtain ⟨v0, c0, h⟩ := Option.bind_eq_some_iff.1 h
    obtain ⟨rfl, rfl⟩ := castT_some c0
    cases h
    exact ⟨fun r hr => hd _ _ r hr, fun hb => fun r => noSl_res (by rfl)⟩
  · cases h
set_option maxRecDepth 100000 in
theorem ok_slices_IndexFunc (dyn : Value → (List tAtom) → Option Bool) (hd : ∀ (v_ : Value) (a0 : (List tAtom)) (r_ : Bool), dyn v_ a0 = some r_ → DynC X0 v_ (([.s (.sl 4 tyAtom) a0] : List DT).map DT.toT) (.s .bool r_ : DT).toT) (s_ : (List (List tAtom))) (f : Value) (r : Int) (h : slices_IndexFunc dyn s_ f = some r) : APure X0 76 ([.s (.sl 1 (.sl 4 tyAtom)) s_, .s .opq f].map DT.toT) (resT ([.s (.int .i64) r].map DT.toT)) := by
  unfold slices_IndexFunc at h
  refine APure_of_machine (F := F_slices_IndexFunc) (fuel := 3000) (E := (Env.addD (ed_slices_IndexFunc dyn) E_value_args_list)) Yok (EnvOk.addD E_value_args_list_ok (ed_slices_IndexFunc_ok dyn hd)) mixed Try.func76 rfl rfl rfl (by decide) (args := [.s (.sl 1 (.sl 4 tyAtom)) s_, .s .opq f]) (Nat.le_of_ble_eq_true rfl) (by kernel_rfl) lab_slices_IndexFunc (st_slices_IndexFunc dyn) (fun r => [.s (.int .i64) r]) ?_ ?_ ?_ h
  · intro l; cases l
    · exact WF_list ⟨trivial, trivial, trivial, trivial, trivial⟩
  · intro l goto ret; cases l with
    | l2 s_ f x7 x8 =>
      show _ = push (sg_slices_IndexFunc_2 dyn s_ f x7 x8) (fun l' => goto (lab_slices_IndexFunc l').1 (lab_slices_IndexFunc l').2) (fun r => ret [.s (.int .i64) r])
      unfold sg_slices_IndexFunc_2
      simp only [push_G, push_ite, push_bind, push_inl, push_inr, -eq_self]
      kernel_rfl
  · intro goto ret
    show _ = push (en_slices_IndexFunc dyn s_ f) (fun l' => goto (lab_slices_IndexFunc l').1 (lab_slices_IndexFunc l').2) (fun r => ret [.s (.int .i64) r])
    unfold en_slices_IndexFunc
    simp only [push_G, push_ite, push_bind, push_inl, push_inr, -eq_self]
    kernel_rfl
noncomputable def e_slices_IndexFunc (dyn : Value → (List tAtom) → Option Bool) : List DT → Option CallRes
  | [.s t0 y0, .s t1 y1] => (castT (b := (.sl 1 (.sl 4 tyAtom))) y0).bind fun s_ => (castT (b := .opq) y1).bind fun f => some ⟨Int, slices_IndexFunc dyn s_ f, fun r => .s (.int .i64) r, (0 : Int), true⟩
  | _ => none
theorem he_slices_IndexFunc (dyn : Value → (List tAtom) → Option Bool) (hd : ∀ (v_ : Value) (a0 : (List tAtom)) (r_ : Bool), dyn v_ a0 = some r_ → DynC X0 v_ (([.s (.sl 4 tyAtom) a0] : List DT).map DT.toT) (.s .bool r_ : DT).toT) : ∀ (args : List DT) (c : CallRes), e_slices_IndexFunc dyn args = some c → CallOk X0 76 args c := by
  intro args c h
  unfold e_slices_IndexFunc at h
  split at h
  · obtain ⟨v0, c0, h⟩ := Option.bind_eq_some_iff.1 h
    obtain ⟨rfl, rfl⟩ := castT_some c0
    obtain ⟨v1, c1, h⟩ := Option.bind_eq_some_iff.1 h
    obtain ⟨rfl, rfl⟩ := castT_some c1
    cases h
    exact ⟨fun r hr => .inl ⟨by kernel_rfl, ok_slices_IndexFunc dyn hd _ _ r hr⟩, fun hb => fun r => noSl_res (by rfl)⟩
  · cases h

/-! ### 73 slices.ContainsFunc[onceweb/value.args,onceweb/api.Value] -/
def F_slices_ContainsFunc : FnD := { n := 9, rs := [4] }
noncomputable def ed_slices_ContainsFunc (dyn : Value → (List tAtom) → Option Bool) : List DT → Option CallRes
  | [.tup [.u, .s tv yv], .s t0 y0] => (castT (b := .opq) yv).bind fun v_ => (castT (b := (.sl 4 tyAtom)) y0).bind fun a0 => some ⟨Bool, dyn v_ a0, fun r_ => (.s .bool r_ : DT), false, true⟩
  | _ => none
theorem ed_slices_ContainsFunc_ok (dyn : Value → (List tAtom) → Option Bool) (hd : ∀ (v_ : Value) (a0 : (List tAtom)) (r_ : Bool), dyn v_ a0 = some r_ → DynC X0 v_ (([.s (.sl 4 tyAtom) a0] : List DT).map DT.toT) (.s .bool r_ : DT).toT) : ∀ (g : FuncId) (args : List DT) (c : CallRes), ed_slices_ContainsFunc dyn args = some c → CallOk X0 g args c := by
  intro g args c h
  unfold ed_slices_ContainsFunc at h
  split at h
  · obtain ⟨vv, cv, h⟩ := Option.bind_eq_some_iff.1 h
    obtain ⟨rfl, rfl⟩ := castT_some cv
    obtain ⟨v0, c0, h⟩ := Option.bind_eq_some_iff.1 h
    obtain ⟨rfl, rfl⟩ := castT_some c0
    cases h
    exact ⟨fun r hr => hd _ _ r hr, fun hb => fun r => noSl_res (by rfl)⟩
  · cases h
set_option maxRecDepth 100000 in
theorem ok_slices_ContainsFunc (dyn : Value → (List tAtom) → Option Bool) (hd : ∀ (v_ : Value) (a0 : (List tAtom)) (r_ : Bool), dyn v_ a0 = some r_ → DynC X0 v_ (([.s (.sl 4 tyAtom) a0] : List DT).map DT.toT) (.s .bool r_ : DT).toT) (s_ : (List (List tAtom))) (f : Value) (r : Bool) (h : slices_ContainsFunc dyn s_ f = some r) : APure X0 73 ([.s (.sl 1 (.sl 4 tyAtom)) s_, .s .opq f].map DT.toT) (resT ([.s .bool r].map DT.toT)) := by
  unfold slices_ContainsFunc at h
  refine APure_of_straight (F := F_slices_ContainsFunc) (fuel := 3000) (E := (Env.add 76 (e_slices_IndexFunc dyn) (Env.addD (ed_slices_ContainsFunc dyn) E_value_args_list))) Yok (EnvOk.add (EnvOk.addD E_value_args_list_ok (ed_slices_ContainsFunc_ok dyn hd)) (he_slices_IndexFunc dyn hd)) mixed Try.func73 rfl rfl rfl (by decide) (args := [.s (.sl 1 (.sl 4 tyAtom)) s_, .s .opq f]) (Nat.le_of_ble_eq_true rfl) (by kernel_rfl) (fun r => [.s .bool r]) ?_ h
  intro goto ret
  unfold en_slices_ContainsFunc
  simp only [bnd_G, bnd_ite, bnd_bind, bnd_some, -eq_self]
  kernel_rfl
noncomputable def e_slices_ContainsFunc (dyn : Value → (List tAtom) → Option Bool) : List DT → Option CallRes
  | [.s t0 y0, .s t1 y1] => (castT (b := (.sl 1 (.sl 4 tyAtom))) y0).bind fun s_ => (castT (b := .opq) y1).bind fun f => some ⟨Bool, slices_ContainsFunc dyn s_ f, fun r => .s .bool r, false, true⟩
  | _ => none
theorem he_slices_ContainsFunc (dyn : Value → (List tAtom) → Option Bool) (hd : ∀ (v_ : Value) (a0 : (List tAtom)) (r_ : Bool), dyn v_ a0 = some r_ → DynC X0 v_ (([.s (.sl 4 tyAtom) a0] : List DT).map DT.toT) (.s .bool r_ : DT).toT) : ∀ (args : List DT) (c : CallRes), e_slices_ContainsFunc dyn args = some c → CallOk X0 73 args c := by
  intro args c h
  unfold e_slices_ContainsFunc at h
  split at h
  · obtain ⟨v0, c0, h⟩ := Option.bind_eq_some_iff.1 h
    obtain ⟨rfl, rfl⟩ := castT_some c0
    obtain ⟨v1, c1, h⟩ := Option.bind_eq_some_iff.1 h
    obtain ⟨rfl, rfl⟩ := castT_some c1
    cases h
    exact ⟨fun r hr => .inl ⟨by kernel_rfl, ok_slices_ContainsFunc dyn hd _ _ r hr⟩, fun hb => fun r => noSl_res (by rfl)⟩
  · cases h

/-! ### 74 (onceweb/value.args).ints$1 -/
def F_value_args_ints_1 : FnD := { n := 7, rs := [2] }
set_option maxRecDepth 100000 in
theorem ok_value_args_ints_1 (v : (List tAtom)) (r : Bool) (h : value_args_ints_1 v = some r) : APure X0 74 ([.s (.sl 4 tyAtom) v].map DT.toT) (resT ([.s .bool r].map DT.toT)) := by
  refine APure_of_straight (F := F_value_args_ints_1) (fuel := 3000) (E := E_value_args_list) Yok E_value_args_list_ok mixed Try.func74 rfl rfl rfl (by decide) (args := [.s (.sl 4 tyAtom) v]) (Nat.le_of_ble_eq_true rfl) (by kernel_rfl) (fun r => [.s .bool r]) ?_ h
  intro goto ret
  unfold value_args_ints_1
  simp only [bnd_G, bnd_ite, bnd_bind, bnd_some, -eq_self]
  kernel_rfl
noncomputable def e_value_args_ints_1 : List DT → Option CallRes
  | [.s t0 y0] => (castT (b := (.sl 4 tyAtom)) y0).bind fun v => some ⟨Bool, value_args_ints_1 v, fun r => .s .bool r, false, true⟩
  | _ => none
noncomputable def E_value_args_ints_1 : Env := Env.add 74 e_value_args_ints_1 E_value_args_list
theorem E_value_args_ints_1_ok : EnvOk X0 E_value_args_ints_1 := by
  refine EnvOk.add E_value_args_list_ok (fun args c h => ?_)
  unfold e_value_args_ints_1 at h
  split at h
  · obtain ⟨v0, c0, h⟩ := Option.bind_eq_some_iff.1 h
    obtain ⟨rfl, rfl⟩ := castT_some c0
    cases h
    exact ⟨fun r hr => .inl ⟨by kernel_rfl, ok_value_args_ints_1 _ r hr⟩, fun hb => fun r => noSl_res (by rfl)⟩
  · cases h

/-! ### 67 (onceweb/value.args).ints -/
def F_value_args_ints : FnD := { n := 6, rs := [2] }
set_option maxRecDepth 100000 in
theorem ok_value_args_ints (a : (List (List tAtom))) (r : Bool) (h : value_args_ints a = some r) : APure X0 67 ([.s (.sl 1 (.sl 4 tyAtom)) a].map DT.toT) (resT ([.s .bool r].map DT.toT)) := by
  unfold value_args_ints at h
  refine APure_of_straight (F := F_value_args_ints) (fuel := 3000) (E := (Env.add 73 (e_slices_ContainsFunc (fun v_ a0 => if fnIs v_ 74 = true then value_args_ints_1 a0 else none)) E_value_args_ints_1)) Yok (EnvOk.add E_value_args_ints_1_ok (he_slices_ContainsFunc (fun v_ a0 => if fnIs v_ 74 = true then value_args_ints_1 a0 else none) (fun v_ a0 r_ h => dyn_or h (fun hv hx => ⟨74, fnIs_spec hv, by kernel_rfl, ok_value_args_ints_1 a0 r_ hx⟩) (fun h => by cases h)))) mixed Try.func67 rfl rfl rfl (by decide) (args := [.s (.sl 1 (.sl 4 tyAtom)) a]) (Nat.le_of_ble_eq_true rfl) (by kernel_rfl) (fun r => [.s .bool r]) ?_ h
  intro goto ret
  unfold en_value_args_ints
  simp only [bnd_G, bnd_ite, bnd_bind, bnd_some, -eq_self]
  kernel_rfl
noncomputable def e_value_args_ints : List DT → Option CallRes
  | [.s t0 y0] => (castT (b := (.sl 1 (.sl 4 tyAtom))) y0).bind fun a => some ⟨Bool, value_args_ints a, fun r => .s .bool r, false, true⟩
  | _ => none
noncomputable def E_value_args_ints : Env := Env.add 67 (e_value_args_ints) E_value_args_ints_1
theorem E_value_args_ints_ok : EnvOk X0 (E_value_args_ints) := by
  refine EnvOk.add E_value_args_ints_1_ok (fun args c h => ?_)
  unfold e_value_args_ints at h
  split at h
  · obtain ⟨v0, c0, h⟩ := Option.bind_eq_some_iff.1 h
    obtain ⟨rfl, rfl⟩ := castT_some c0
    cases h
    exact ⟨fun r hr => .inl ⟨by kernel_rfl, ok_value_args_ints _ r hr⟩, fun hb => fun r => noSl_res (by rfl)⟩
  · cases h

/-! ### 68 onceweb/value.number -/
def F_value_number : FnD := { n := 14, rs := [2, 3] }
set_option maxRecDepth 100000 in
theorem ok_value_number (n : Int) (r : ((List tAtom) × Bool)) (h : value_number n = some r) : APure X0 68 ([.s (.int .i64) n].map DT.toT) (resT ([.own 48 tyAtom r.1, .s .bool r.2].map DT.toT)) := by
  refine APure_of_straight (F := F_value_number) (fuel := 3000) (E := E_value_args_ints) Yok E_value_args_ints_ok mixed Try.func68 rfl rfl rfl (by decide) (args := [.s (.int .i64) n]) (Nat.le_of_ble_eq_true rfl) (by kernel_rfl) (fun r => [.own 48 tyAtom r.1, .s .bool r.2]) ?_ h
  intro goto ret
  unfold value_number
  simp only [bnd_G, bnd_ite, bnd_bind, bnd_some, -eq_self]
  kernel_rfl
noncomputable def e_value_number : List DT → Option CallRes
  | [.s t0 y0] => (castT (b := (.int .i64)) y0).bind fun n => some ⟨((List tAtom) × Bool), value_number n, fun r => .tup [.own 48 tyAtom r.1, .s .bool r.2], (([] : List tAtom), false), true⟩
  | _ => none
noncomputable def E_value_number : Env := Env.add 68 e_value_number E_value_args_ints
theorem E_value_number_ok : EnvOk X0 E_value_number := by
  refine EnvOk.add E_value_args_ints_ok (fun args c h => ?_)
  unfold e_value_number at h
  split at h
  · obtain ⟨v0, c0, h⟩ := Option.bind_eq_some_iff.1 h
    obtain ⟨rfl, rfl⟩ := castT_some c0
    cases h
    exact ⟨fun r hr => .inl ⟨by kernel_rfl, ok_value_number _ r hr⟩, fun hb => fun r => noSl_res (by rfl)⟩
  · cases h

/-! ### 53 (onceweb/value.args).add -/
def F_value_args_add : FnD := { n := 23, rs := [2, 3] }
set_option maxRecDepth 100000 in
theorem ok_value_args_add (a : (List (List tAtom))) (r : ((List tAtom) × Bool)) (h : value_args_add a = some r) : APure X0 53 ([.s (.sl 1 (.sl 4 tyAtom)) a].map DT.toT) (resT ([.own 48 tyAtom r.1, .s .bool r.2].map DT.toT)) := by
  refine APure_of_straight (F := F_value_args_add) (fuel := 3000) (E := E_value_number) Yok E_value_number_ok mixed Try.func53 rfl rfl rfl (by decide) (args := [.s (.sl 1 (.sl 4 tyAtom)) a]) (Nat.le_of_ble_eq_true rfl) (by kernel_rfl) (fun r => [.own 48 tyAtom r.1, .s .bool r.2]) ?_ h
  intro goto ret
  unfold value_args_add
  simp only [bnd_G, bnd_ite, bnd_bind, bnd_some, -eq_self]
  kernel_rfl
noncomputable def e_value_args_add : List DT → Option CallRes
  | [.s t0 y0] => (castT (b := (.sl 1 (.sl 4 tyAtom))) y0).bind fun a => some ⟨((List tAtom) × Bool), value_args_add a, fun r => .tup [.own 48 tyAtom r.1, .s .bool r.2], (([] : List tAtom), false), true⟩
  | _ => none
noncomputable def E_value_args_add : Env := Env.add 53 e_value_args_add E_value_number
theorem E_value_args_add_ok : EnvOk X0 E_value_args_add := by
  refine EnvOk.add E_value_number_ok (fun args c h => ?_)
  unfold e_value_args_add at h
  split at h
  · obtain ⟨v0, c0, h⟩ := Option.bind_eq_some_iff.1 h
    obtain ⟨rfl, rfl⟩ := castT_some c0
    cases h
    exact ⟨fun r hr => .inl ⟨by kernel_rfl, ok_value_args_add _ r hr⟩, fun hb => fun r => noSl_res (by rfl)⟩
  · cases h

/-! ### 54 (onceweb/value.args).sub -/
def F_value_args_sub : FnD := { n := 23, rs := [2, 3] }
set_option maxRecDepth 100000 in
theorem ok_value_args_sub (a : (List (List tAtom))) (r : ((List tAtom) × Bool)) (h : value_args_sub a = some r) : APure X0 54 ([.s (.sl 1 (.sl 4 tyAtom)) a].map DT.toT) (resT ([.own 48 tyAtom r.1, .s .bool r.2].map DT.toT)) := by
  refine APure_of_straight (F := F_value_args_sub) (fuel := 3000) (E := E_value_args_add) Yok E_value_args_add_ok mixed Try.func54 rfl rfl rfl (by decide) (args := [.s (.sl 1 (.sl 4 tyAtom)) a]) (Nat.le_of_ble_eq_true rfl) (by kernel_rfl) (fun r => [.own 48 tyAtom r.1, .s .bool r.2]) ?_ h
  intro goto ret
  unfold value_args_sub
  simp only [bnd_G, bnd_ite, bnd_bind, bnd_some, -eq_self]
  kernel_rfl
noncomputable def e_value_args_sub : List DT → Option CallRes
  | [.s t0 y0] => (castT (b := (.sl 1 (.sl 4 tyAtom))) y0).bind fun a => some ⟨((List tAtom) × Bool), value_args_sub a, fun r => .tup [.own 48 tyAtom r.1, .s .bool r.2], (([] : List tAtom), false), true⟩
  | _ => none
noncomputable def E_value_args_sub : Env := Env.add 54 e_value_args_sub E_value_args_add
theorem E_value_args_sub_ok : EnvOk X0 E_value_args_sub := by
  refine EnvOk.add E_value_args_add_ok (fun args c h => ?_)
  unfold e_value_args_sub at h
  split at h
  · obtain ⟨v0, c0, h⟩ := Option.bind_eq_some_iff.1 h
    obtain ⟨rfl, rfl⟩ := castT_some c0
    cases h
    exact ⟨fun r hr => .inl ⟨by kernel_rfl, ok_value_args_sub _ r hr⟩, fun hb => fun r => noSl_res (by rfl)⟩
  · cases h

/-! ### 69 onceweb/value.size -/
def F_value_size : FnD := { n := 7, rs := [2] }
set_option maxRecDepth 100000 in
theorem ok_value_size (n : Int) (r : Int) (h : value_size n = some r) : APure X0 69 ([.s (.int .i64) n].map DT.toT) (resT ([.s (.int .i64) r].map DT.toT)) := by
  refine APure_of_straight (F := F_value_size) (fuel := 3000) (E := E_value_args_sub) Yok E_value_args_sub_ok mixed Try.func69 rfl rfl rfl (by decide) (args := [.s (.int .i64) n]) (Nat.le_of_ble_eq_true rfl) (by kernel_rfl) (fun r => [.s (.int .i64) r]) ?_ h
  intro goto ret
  unfold value_size
  simp only [bnd_G, bnd_ite, bnd_bind, bnd_some, -eq_self]
  kernel_rfl
noncomputable def e_value_size : List DT → Option CallRes
  | [.s t0 y0] => (castT (b := (.int .i64)) y0).bind fun n => some ⟨Int, value_size n, fun r => .s (.int .i64) r, (0 : Int), true⟩
  | _ => none
noncomputable def E_value_size : Env := Env.add 69 e_value_size E_value_args_sub
theorem E_value_size_ok : EnvOk X0 E_value_size := by
  refine EnvOk.add E_value_args_sub_ok (fun args c h => ?_)
  unfold e_value_size at h
  split at h
  · obtain ⟨v0, c0, h⟩ := Option.bind_eq_some_iff.1 h
    obtain ⟨rfl, rfl⟩ := castT_some c0
    cases h
    exact ⟨fun r hr => .inl ⟨by kernel_rfl, ok_value_size _ r hr⟩, fun hb => fun r => noSl_res (by rfl)⟩
  · cases h

/-! ### 55 (onceweb/value.args).mul -/
def F_value_args_mul : FnD := { n := 37, rs := [2, 3] }
set_option maxRecDepth 100000 in
theorem ok_value_args_mul (a : (List (List tAtom))) (r : ((List tAtom) × Bool)) (h : value_args_mul a = some r) : APure X0 55 ([.s (.sl 1 (.sl 4 tyAtom)) a].map DT.toT) (resT ([.own 48 tyAtom r.1, .s .bool r.2].map DT.toT)) := by
  refine APure_of_straight (F := F_value_args_mul) (fuel := 3000) (E := E_value_size) Yok E_value_size_ok mixed Try.func55 rfl rfl rfl (by decide) (args := [.s (.sl 1 (.sl 4 tyAtom)) a]) (Nat.le_of_ble_eq_true rfl) (by kernel_rfl) (fun r => [.own 48 tyAtom r.1, .s .bool r.2]) ?_ h
  intro goto ret
  unfold value_args_mul
  simp only [bnd_G, bnd_ite, bnd_bind, bnd_some, -eq_self]
  kernel_rfl
noncomputable def e_value_args_mul : List DT → Option CallRes
  | [.s t0 y0] => (castT (b := (.sl 1 (.sl 4 tyAtom))) y0).bind fun a => some ⟨((List tAtom) × Bool), value_args_mul a, fun r => .tup [.own 48 tyAtom r.1, .s .bool r.2], (([] : List tAtom), false), true⟩
  | _ => none
noncomputable def E_value_args_mul : Env := Env.add 55 e_value_args_mul E_value_size
theorem E_value_args_mul_ok : EnvOk X0 E_value_args_mul := by
  refine EnvOk.add E_value_size_ok (fun args c h => ?_)
  unfold e_value_args_mul at h
  split at h
  · obtain ⟨v0, c0, h⟩ := Option.bind_eq_some_iff.1 h
    obtain ⟨rfl, rfl⟩ := castT_some c0
    cases h
    exact ⟨fun r hr => .inl ⟨by kernel_rfl, ok_value_args_mul _ r hr⟩, fun hb => fun r => noSl_res (by rfl)⟩
  · cases h

/-! ### 56 (onceweb/value.args).join -/
def F_value_args_join : FnD := { n := 56, rs := [2, 3] }
set_option maxRecDepth 100000 in
theorem ok_value_args_join (a : (List (List tAtom))) (r : ((List tAtom) × Bool)) (h : value_args_join a = some r) : APure X0 56 ([.s (.sl 1 (.sl 4 tyAtom)) a].map DT.toT) (resT ([.own 48 tyAtom r.1, .s .bool r.2].map DT.toT)) := by
  refine APure_of_straight (F := F_value_args_join) (fuel := 3000) (E := E_value_args_mul) Yok E_value_args_mul_ok mixed Try.func56 rfl rfl rfl (by decide) (args := [.s (.sl 1 (.sl 4 tyAtom)) a]) (Nat.le_of_ble_eq_true rfl) (by kernel_rfl) (fun r => [.own 48 tyAtom r.1, .s .bool r.2]) ?_ h
  intro goto ret
  unfold value_args_join
  simp only [bnd_G, bnd_ite, bnd_bind, bnd_some, -eq_self]
  kernel_rfl
noncomputable def e_value_args_join : List DT → Option CallRes
  | [.s t0 y0] => (castT (b := (.sl 1 (.sl 4 tyAtom))) y0).bind fun a => some ⟨((List tAtom) × Bool), value_args_join a, fun r => .tup [.own 48 tyAtom r.1, .s .bool r.2], (([] : List tAtom), false), true⟩
  | _ => none
noncomputable def E_value_args_join : Env := Env.add 56 e_value_args_join E_value_args_mul
theorem E_value_args_join_ok : EnvOk X0 E_value_args_join := by
  refine EnvOk.add E_value_args_mul_ok (fun args c h => ?_)
  unfold e_value_args_join at h
  split at h
  · obtain ⟨v0, c0, h⟩ := Option.bind_eq_some_iff.1 h
    obtain ⟨rfl, rfl⟩ := castT_some c0
    cases h
    exact ⟨fun r hr => .inl ⟨by kernel_rfl, ok_value_args_join _ r hr⟩, fun hb => fun r => noSl_res (by rfl)⟩
  · cases h

/-! ### 57 (onceweb/value.args).item -/
def F_value_args_item : FnD := { n := 43, rs := [2, 3] }
set_option maxRecDepth 100000 in
theorem ok_value_args_item (a : (List (List tAtom))) (r : ((List tAtom) × Bool)) (h : value_args_item a = some r) : APure X0 57 ([.s (.sl 1 (.sl 4 tyAtom)) a].map DT.toT) (resT ([.own 48 tyAtom r.1, .s .bool r.2].map DT.toT)) := by
  refine APure_of_straight (F := F_value_args_item) (fuel := 3000) (E := E_value_args_join) Yok E_value_args_join_ok mixed Try.func57 rfl rfl rfl (by decide) (args := [.s (.sl 1 (.sl 4 tyAtom)) a]) (Nat.le_of_ble_eq_true rfl) (by kernel_rfl) (fun r => [.own 48 tyAtom r.1, .s .bool r.2]) ?_ h
  intro goto ret
  unfold value_args_item
  simp only [bnd_G, bnd_ite, bnd_bind, bnd_some, -eq_self]
  kernel_rfl
noncomputable def e_value_args_item : List DT → Option CallRes
  | [.s t0 y0] => (castT (b := (.sl 1 (.sl 4 tyAtom))) y0).bind fun a => some ⟨((List tAtom) × Bool), value_args_item a, fun r => .tup [.own 48 tyAtom r.1, .s .bool r.2], (([] : List tAtom), false), true⟩
  | _ => none
noncomputable def E_value_args_item : Env := Env.add 57 e_value_args_item E_value_args_join
theorem E_value_args_item_ok : EnvOk X0 E_value_args_item := by
  refine EnvOk.add E_value_args_join_ok (fun args c h => ?_)
  unfold e_value_args_item at h
  split at h
  · obtain ⟨v0, c0, h⟩ := Option.bind_eq_some_iff.1 h
    obtain ⟨rfl, rfl⟩ := castT_some c0
    cases h
    exact ⟨fun r hr => .inl ⟨by kernel_rfl, ok_value_args_item _ r hr⟩, fun hb => fun r => noSl_res (by rfl)⟩
  · cases h

/-! ### 58 (onceweb/value.args).size -/
def F_value_args_size : FnD := { n := 26, rs := [2, 3] }
set_option maxRecDepth 100000 in
theorem ok_value_args_size (a : (List (List tAtom))) (r : ((List tAtom) × Bool)) (h : value_args_size a = some r) : APure X0 58 ([.s (.sl 1 (.sl 4 tyAtom)) a].map DT.toT) (resT ([.own 48 tyAtom r.1, .s .bool r.2].map DT.toT)) := by
  refine APure_of_straight (F := F_value_args_size) (fuel := 3000) (E := E_value_args_item) Yok E_value_args_item_ok mixed Try.func58 rfl rfl rfl (by decide) (args := [.s (.sl 1 (.sl 4 tyAtom)) a]) (Nat.le_of_ble_eq_true rfl) (by kernel_rfl) (fun r => [.own 48 tyAtom r.1, .s .bool r.2]) ?_ h
  intro goto ret
  unfold value_args_size
  simp only [bnd_G, bnd_ite, bnd_bind, bnd_some, -eq_self]
  kernel_rfl
noncomputable def e_value_args_size : List DT → Option CallRes
  | [.s t0 y0] => (castT (b := (.sl 1 (.sl 4 tyAtom))) y0).bind fun a => some ⟨((List tAtom) × Bool), value_args_size a, fun r => .tup [.own 48 tyAtom r.1, .s .bool r.2], (([] : List tAtom), false), true⟩
  | _ => none
noncomputable def E_value_args_size : Env := Env.add 58 e_value_args_size E_value_args_item
theorem E_value_args_size_ok : EnvOk X0 E_value_args_size := by
  refine EnvOk.add E_value_args_item_ok (fun args c h => ?_)
  unfold e_value_args_size at h
  split at h
  · obtain ⟨v0, c0, h⟩ := Option.bind_eq_some_iff.1 h
    obtain ⟨rfl, rfl⟩ := castT_some c0
    cases h
    exact ⟨fun r hr => .inl ⟨by kernel_rfl, ok_value_args_size _ r hr⟩, fun hb => fun r => noSl_res (by rfl)⟩
  · cases h

/-! ### 70 onceweb/value.truth -/
def F_value_truth : FnD := { n := 11, rs := [2, 3] }
set_option maxRecDepth 100000 in
theorem ok_value_truth (b : Bool) (r : ((List tAtom) × Bool)) (h : value_truth b = some r) : APure X0 70 ([.s .bool b].map DT.toT) (resT ([.own 48 tyAtom r.1, .s .bool r.2].map DT.toT)) := by
  refine APure_of_straight (F := F_value_truth) (fuel := 3000) (E := E_value_args_size) Yok E_value_args_size_ok mixed Try.func70 rfl rfl rfl (by decide) (args := [.s .bool b]) (Nat.le_of_ble_eq_true rfl) (by kernel_rfl) (fun r => [.own 48 tyAtom r.1, .s .bool r.2]) ?_ h
  intro goto ret
  unfold value_truth
  simp only [bnd_G, bnd_ite, bnd_bind, bnd_some, -eq_self]
  kernel_rfl
noncomputable def e_value_truth : List DT → Option CallRes
  | [.s t0 y0] => (castT (b := .bool) y0).bind fun b => some ⟨((List tAtom) × Bool), value_truth b, fun r => .tup [.own 48 tyAtom r.1, .s .bool r.2], (([] : List tAtom), false), true⟩
  | _ => none
noncomputable def E_value_truth : Env := Env.add 70 e_value_truth E_value_args_size
theorem E_value_truth_ok : EnvOk X0 E_value_truth := by
  refine EnvOk.add E_value_args_size_ok (fun args c h => ?_)
  unfold e_value_truth at h
  split at h
  · obtain ⟨v0, c0, h⟩ := Option.bind_eq_some_iff.1 h
    obtain ⟨rfl, rfl⟩ := castT_some c0
    cases h
    exact ⟨fun r hr => .inl ⟨by kernel_rfl, ok_value_truth _ r hr⟩, fun hb => fun r => noSl_res (by rfl)⟩
  · cases h

/-! ### 59 (onceweb/value.args).less -/
def F_value_args_less : FnD := { n := 15, rs := [2, 3] }
set_option maxRecDepth 100000 in
theorem ok_value_args_less (a : (List (List tAtom))) (r : ((List tAtom) × Bool)) (h : value_args_less a = some r) : APure X0 59 ([.s (.sl 1 (.sl 4 tyAtom)) a].map DT.toT) (resT ([.own 48 tyAtom r.1, .s .bool r.2].map DT.toT)) := by
  refine APure_of_straight (F := F_value_args_less) (fuel := 3000) (E := E_value_truth) Yok E_value_truth_ok mixed Try.func59 rfl rfl rfl (by decide) (args := [.s (.sl 1 (.sl 4 tyAtom)) a]) (Nat.le_of_ble_eq_true rfl) (by kernel_rfl) (fun r => [.own 48 tyAtom r.1, .s .bool r.2]) ?_ h
  intro goto ret
  unfold value_args_less
  simp only [bnd_G, bnd_ite, bnd_bind, bnd_some, -eq_self]
  kernel_rfl
noncomputable def e_value_args_less : List DT → Option CallRes
  | [.s t0 y0] => (castT (b := (.sl 1 (.sl 4 tyAtom))) y0).bind fun a => some ⟨((List tAtom) × Bool), value_args_less a, fun r => .tup [.own 48 tyAtom r.1, .s .bool r.2], (([] : List tAtom), false), true⟩
  | _ => none
noncomputable def E_value_args_less : Env := Env.add 59 e_value_args_less E_value_truth
theorem E_value_args_less_ok : EnvOk X0 E_value_args_less := by
  refine EnvOk.add E_value_truth_ok (fun args c h => ?_)
  unfold e_value_args_less at h
  split at h
  · obtain ⟨v0, c0, h⟩ := Option.bind_eq_some_iff.1 h
    obtain ⟨rfl, rfl⟩ := castT_some c0
    cases h
    exact ⟨fun r hr => .inl ⟨by kernel_rfl, ok_value_args_less _ r hr⟩, fun hb => fun r => noSl_res (by rfl)⟩
  · cases h

/-! ### 60 (onceweb/value.args).same -/
def F_value_args_same : FnD := { n := 15, rs := [2, 3] }
set_option maxRecDepth 100000 in
theorem ok_value_args_same (a : (List (List tAtom))) (r : ((List tAtom) × Bool)) (h : value_args_same a = some r) : APure X0 60 ([.s (.sl 1 (.sl 4 tyAtom)) a].map DT.toT) (resT ([.own 48 tyAtom r.1, .s .bool r.2].map DT.toT)) := by
  refine APure_of_straight (F := F_value_args_same) (fuel := 3000) (E := E_value_args_less) Yok E_value_args_less_ok mixed Try.func60 rfl rfl rfl (by decide) (args := [.s (.sl 1 (.sl 4 tyAtom)) a]) (Nat.le_of_ble_eq_true rfl) (by kernel_rfl) (fun r => [.own 48 tyAtom r.1, .s .bool r.2]) ?_ h
  intro goto ret
  unfold value_args_same
  simp only [bnd_G, bnd_ite, bnd_bind, bnd_some, -eq_self]
  kernel_rfl
noncomputable def e_value_args_same : List DT → Option CallRes
  | [.s t0 y0] => (castT (b := (.sl 1 (.sl 4 tyAtom))) y0).bind fun a => some ⟨((List tAtom) × Bool), value_args_same a, fun r => .tup [.own 48 tyAtom r.1, .s .bool r.2], (([] : List tAtom), false), true⟩
  | _ => none
noncomputable def E_value_args_same : Env := Env.add 60 e_value_args_same E_value_args_less
theorem E_value_args_same_ok : EnvOk X0 E_value_args_same := by
  refine EnvOk.add E_value_args_less_ok (fun args c h => ?_)
  unfold e_value_args_same at h
  split at h
  · obtain ⟨v0, c0, h⟩ := Option.bind_eq_some_iff.1 h
    obtain ⟨rfl, rfl⟩ := castT_some c0
    cases h
    exact ⟨fun r hr => .inl ⟨by kernel_rfl, ok_value_args_same _ r hr⟩, fun hb => fun r => noSl_res (by rfl)⟩
  · cases h

/-! ### 43 onceweb/value.way -/
def F_value_way : FnD := { n := 23, rs := [2, 3] }
set_option maxRecDepth 100000 in
theorem ok_value_way (kind : Int) (r : (Int × Value)) (h : value_way kind = some r) : APure X0 43 ([.s (.int .i64) kind].map DT.toT) (resT ([.s (.int .i64) r.1, .s .opq r.2].map DT.toT)) := by
  refine APure_of_straight (F := F_value_way) (fuel := 3000) (E := E_value_args_same) Yok E_value_args_same_ok mixed Try.func43 rfl rfl rfl (by decide) (args := [.s (.int .i64) kind]) (Nat.le_of_ble_eq_true rfl) (by kernel_rfl) (fun r => [.s (.int .i64) r.1, .s .opq r.2]) ?_ h
  intro goto ret
  unfold value_way
  simp only [bnd_G, bnd_ite, bnd_bind, bnd_some, -eq_self]
  kernel_rfl
noncomputable def e_value_way : List DT → Option CallRes
  | [.s t0 y0] => (castT (b := (.int .i64)) y0).bind fun kind => some ⟨(Int × Value), value_way kind, fun r => .tup [.s (.int .i64) r.1, .s .opq r.2], ((0 : Int), Value.nilFunc), true⟩
  | _ => none
noncomputable def E_value_way : Env := Env.add 43 e_value_way E_value_args_same
theorem E_value_way_ok : EnvOk X0 E_value_way := by
  refine EnvOk.add E_value_args_same_ok (fun args c h => ?_)
  unfold e_value_way at h
  split at h
  · obtain ⟨v0, c0, h⟩ := Option.bind_eq_some_iff.1 h
    obtain ⟨rfl, rfl⟩ := castT_some c0
    cases h
    exact ⟨fun r hr => .inl ⟨by kernel_rfl, ok_value_way _ r hr⟩, fun hb => fun r => noSl_res (by rfl)⟩
  · cases h

/-! ### 25 onceweb/value.Do -/
def F_value_Do : FnD := { n := 47, rs := [4, 5, 6] }
theorem dyn_value_Do_ok : ∀ (v_ : Value) (a0 : (List (List tAtom))) (r_ : ((List tAtom) × Bool)), dyn_value_Do v_ a0 = some r_ → DynC X0 v_ (([.s (.sl 1 (.sl 4 tyAtom)) a0] : List DT).map DT.toT) (.tup [.own 48 tyAtom r_.1, .s .bool r_.2] : DT).toT := by
  intro v_ a0 r_ h
  unfold dyn_value_Do at h
  refine dyn_or h (fun hv hx => ⟨52, fnIs_spec hv, by kernel_rfl, ok_value_args_list a0 r_ hx⟩) (fun h => ?_)
  refine dyn_or h (fun hv hx => ⟨53, fnIs_spec hv, by kernel_rfl, ok_value_args_add a0 r_ hx⟩) (fun h => ?_)
  refine dyn_or h (fun hv hx => ⟨54, fnIs_spec hv, by kernel_rfl, ok_value_args_sub a0 r_ hx⟩) (fun h => ?_)
  refine dyn_or h (fun hv hx => ⟨55, fnIs_spec hv, by kernel_rfl, ok_value_args_mul a0 r_ hx⟩) (fun h => ?_)
  refine dyn_or h (fun hv hx => ⟨56, fnIs_spec hv, by kernel_rfl, ok_value_args_join a0 r_ hx⟩) (fun h => ?_)
  refine dyn_or h (fun hv hx => ⟨57, fnIs_spec hv, by kernel_rfl, ok_value_args_item a0 r_ hx⟩) (fun h => ?_)
  refine dyn_or h (fun hv hx => ⟨58, fnIs_spec hv, by kernel_rfl, ok_value_args_size a0 r_ hx⟩) (fun h => ?_)
  refine dyn_or h (fun hv hx => ⟨59, fnIs_spec hv, by kernel_rfl, ok_value_args_less a0 r_ hx⟩) (fun h => ?_)
  refine dyn_or h (fun hv hx => ⟨60, fnIs_spec hv, by kernel_rfl, ok_value_args_same a0 r_ hx⟩) (fun h => ?_)
  cases h
noncomputable def ed_value_Do : List DT → Option CallRes
  | [.tup [.u, .s tv yv], .s t0 y0] => (castT (b := .opq) yv).bind fun v_ => (castT (b := (.sl 1 (.sl 4 tyAtom))) y0).bind fun a0 => some ⟨((List tAtom) × Bool), dyn_value_Do v_ a0, fun r_ => (.tup [.own 48 tyAtom r_.1, .s .bool r_.2] : DT), (([] : List tAtom), false), true⟩
  | _ => none
theorem ed_value_Do_ok : ∀ (g : FuncId) (args : List DT) (c : CallRes), ed_value_Do args = some c → CallOk X0 g args c := by
  intro g args c h
  unfold ed_value_Do at h
  split at h
  · obtain ⟨vv, cv, h⟩ := Option.bind_eq_some_iff.1 h
    obtain ⟨rfl, rfl⟩ := castT_some cv
    obtain ⟨v0, c0, h⟩ := Option.bind_eq_some_iff.1 h
    obtain ⟨rfl, rfl⟩ := castT_some c0
    cases h
    exact ⟨fun r hr => dyn_value_Do_ok _ _ r hr, fun hb => fun r => noSl_res (by rfl)⟩
  · cases h
set_option maxRecDepth 100000 in
theorem ok_value_Do (kind : Int) (l : (List (List tAtom))) (r : ((List tAtom) × Bool × Int)) (h : value_Do kind l = some r) : APure X0 25 ([.s (.int .i64) kind, .s (.sl 1 (.sl 4 tyAtom)) l].map DT.toT) (resT ([.own 48 tyAtom r.1, .s .bool r.2.1, .s (.int .i64) r.2.2].map DT.toT)) := by
  unfold value_Do at h
  refine APure_of_straight (F := F_value_Do) (fuel := 3000) (E := (Env.addD (ed_value_Do) E_value_way)) Yok (EnvOk.addD E_value_way_ok (ed_value_Do_ok)) mixed Try.func25 rfl rfl rfl (by decide) (args := [.s (.int .i64) kind, .s (.sl 1 (.sl 4 tyAtom)) l]) (Nat.le_of_ble_eq_true rfl) (by kernel_rfl) (fun r => [.own 48 tyAtom r.1, .s .bool r.2.1, .s (.int .i64) r.2.2]) ?_ h
  intro goto ret
  unfold en_value_Do
  simp only [bnd_G, bnd_ite, bnd_bind, bnd_some, -eq_self]
  kernel_rfl
noncomputable def e_value_Do : List DT → Option CallRes
  | [.s t0 y0, .s t1 y1] => (castT (b := (.int .i64)) y0).bind fun kind => (castT (b := (.sl 1 (.sl 4 tyAtom))) y1).bind fun l => some ⟨((List tAtom) × Bool × Int), value_Do kind l, fun r => .tup [.own 48 tyAtom r.1, .s .bool r.2.1, .s (.int .i64) r.2.2], (([] : List tAtom), false, (0 : Int)), true⟩
  | _ => none
noncomputable def E_value_Do : Env := Env.add 25 (e_value_Do) E_value_way
theorem E_value_Do_ok : EnvOk X0 (E_value_Do) := by
  refine EnvOk.add E_value_way_ok (fun args c h => ?_)
  unfold e_value_Do at h
  split at h
  · obtain ⟨v0, c0, h⟩ := Option.bind_eq_some_iff.1 h
    obtain ⟨rfl, rfl⟩ := castT_some c0
    obtain ⟨v1, c1, h⟩ := Option.bind_eq_some_iff.1 h
    obtain ⟨rfl, rfl⟩ := castT_some c1
    cases h
    exact ⟨fun r hr => .inl ⟨by kernel_rfl, ok_value_Do _ _ r hr⟩, fun hb => fun r => noSl_res (by rfl)⟩
  · cases h

/-! ### 61 onceweb/oncewebref07.number -/
def F_ref07_number : FnD := { n := 14, rs := [2, 3] }
set_option maxRecDepth 100000 in
theorem ok_ref07_number (n : Int) (r : ((List tAtom) × Bool)) (h : ref07_number n = some r) : APure X0 61 ([.s (.int .i64) n].map DT.toT) (resT ([.own 48 tyAtom r.1, .s .bool r.2].map DT.toT)) := by
  refine APure_of_straight (F := F_ref07_number) (fuel := 3000) (E := E_value_Do) Yok E_value_Do_ok mixed Try.func61 rfl rfl rfl (by decide) (args := [.s (.int .i64) n]) (Nat.le_of_ble_eq_true rfl) (by kernel_rfl) (fun r => [.own 48 tyAtom r.1, .s .bool r.2]) ?_ h
  intro goto ret
  unfold ref07_number
  simp only [bnd_G, bnd_ite, bnd_bind, bnd_some, -eq_self]
  kernel_rfl
noncomputable def e_ref07_number : List DT → Option CallRes
  | [.s t0 y0] => (castT (b := (.int .i64)) y0).bind fun n => some ⟨((List tAtom) × Bool), ref07_number n, fun r => .tup [.own 48 tyAtom r.1, .s .bool r.2], (([] : List tAtom), false), true⟩
  | _ => none
noncomputable def E_ref07_number : Env := Env.add 61 e_ref07_number E_value_Do
theorem E_ref07_number_ok : EnvOk X0 E_ref07_number := by
  refine EnvOk.add E_value_Do_ok (fun args c h => ?_)
  unfold e_ref07_number at h
  split at h
  · obtain ⟨v0, c0, h⟩ := Option.bind_eq_some_iff.1 h
    obtain ⟨rfl, rfl⟩ := castT_some c0
    cases h
    exact ⟨fun r hr => .inl ⟨by kernel_rfl, ok_ref07_number _ r hr⟩, fun hb => fun r => noSl_res (by rfl)⟩
  · cases h

/-! ### 62 onceweb/oncewebref07.size -/
def F_ref07_size : FnD := { n := 8, rs := [2] }
set_option maxRecDepth 100000 in
theorem ok_ref07_size (n : Int) (r : Int) (h : ref07_size n = some r) : APure X0 62 ([.s (.int .i64) n].map DT.toT) (resT ([.s (.int .i64) r].map DT.toT)) := by
  refine APure_of_straight (F := F_ref07_size) (fuel := 3000) (E := E_ref07_number) Yok E_ref07_number_ok mixed Try.func62 rfl rfl rfl (by decide) (args := [.s (.int .i64) n]) (Nat.le_of_ble_eq_true rfl) (by kernel_rfl) (fun r => [.s (.int .i64) r]) ?_ h
  intro goto ret
  unfold ref07_size
  simp only [bnd_G, bnd_ite, bnd_bind, bnd_some, -eq_self]
  kernel_rfl
noncomputable def e_ref07_size : List DT → Option CallRes
  | [.s t0 y0] => (castT (b := (.int .i64)) y0).bind fun n => some ⟨Int, ref07_size n, fun r => .s (.int .i64) r, (0 : Int), true⟩
  | _ => none
noncomputable def E_ref07_size : Env := Env.add 62 e_ref07_size E_ref07_number
theorem E_ref07_size_ok : EnvOk X0 E_ref07_size := by
  refine EnvOk.add E_ref07_number_ok (fun args c h => ?_)
  unfold e_ref07_size at h
  split at h
  · obtain ⟨v0, c0, h⟩ := Option.bind_eq_some_iff.1 h
    obtain ⟨rfl, rfl⟩ := castT_some c0
    cases h
    exact ⟨fun r hr => .inl ⟨by kernel_rfl, ok_ref07_size _ r hr⟩, fun hb => fun r => noSl_res (by rfl)⟩
  · cases h

/-! ### 44 onceweb/oncewebref07.do -/
def F_ref07_do : FnD := { n := 203, rs := [4, 5], fz := [true, false], labels := [(28, [0, 7, 8])] }
def lab_ref07_do : L_ref07_do → Nat × DSt
  | .l28 kind a a' a'' a''' b b' b'' b''' => (28, [(0, .t (.s (.int .i64) kind)), (7, .t (.box 48 [.s (.int .i64) a, .s (.int .i64) a', .s (.int .i64) a'', .s .str a'''])), (8, .t (.box 48 [.s (.int .i64) b, .s (.int .i64) b', .s (.int .i64) b'', .s .str b''']))])
set_option maxRecDepth 100000 in
theorem ok_ref07_do (kind : Int) (args : (List (List tAtom))) (r : ((List tAtom) × Bool)) (h : ref07_do kind args = some r) : APure X0 44 ([.s (.int .i64) kind, .s (.sl 1 (.sl 4 tyAtom)) args].map DT.toT) (resT ([.s (.sl 4 tyAtom) r.1, .s .bool r.2].map DT.toT)) := by
  refine APure_of_machine (F := F_ref07_do) (fuel := 3000) (E := E_ref07_size) Yok E_ref07_size_ok mixed Try.func44 rfl rfl rfl (by decide) (args := [.s (.int .i64) kind, .s (.sl 1 (.sl 4 tyAtom)) args]) (Nat.le_of_ble_eq_true rfl) (by kernel_rfl) lab_ref07_do st_ref07_do (fun r => [.s (.sl 4 tyAtom) r.1, .s .bool r.2]) ?_ ?_ ?_ h
  · intro l; cases l
    · exact WF_list ⟨trivial, trivial, trivial, trivial⟩
  · intro l goto ret; cases l with
    | l28 kind a a' a'' a''' b b' b'' b''' =>
      show _ = push (sg_ref07_do_28 kind a a' a'' a''' b b' b'' b''') (fun l' => goto (lab_ref07_do l').1 (lab_ref07_do l').2) (fun r => ret [.s (.sl 4 tyAtom) r.1, .s .bool r.2])
      unfold sg_ref07_do_28
      simp only [push_G, push_ite, push_bind, push_inl, push_inr, -eq_self]
      kernel_rfl
  · intro goto ret
    show _ = push (en_ref07_do kind args) (fun l' => goto (lab_ref07_do l').1 (lab_ref07_do l').2) (fun r => ret [.s (.sl 4 tyAtom) r.1, .s .bool r.2])
    unfold en_ref07_do
    simp only [push_G, push_ite, push_bind, push_inl, push_inr, -eq_self]
    kernel_rfl
noncomputable def e_ref07_do : List DT → Option CallRes
  | [.s t0 y0, .s t1 y1] => (castT (b := (.int .i64)) y0).bind fun kind => (castT (b := (.sl 1 (.sl 4 tyAtom))) y1).bind fun args => some ⟨((List tAtom) × Bool), ref07_do kind args, fun r => .tup [.s (.sl 4 tyAtom) r.1, .s .bool r.2], (([] : List tAtom), false), false⟩
  | _ => none
noncomputable def E_ref07_do : Env := Env.add 44 e_ref07_do E_ref07_size
theorem E_ref07_do_ok : EnvOk X0 E_ref07_do := by
  refine EnvOk.add E_ref07_size_ok (fun args c h => ?_)
  unfold e_ref07_do at h
  split at h
  · obtain ⟨v0, c0, h⟩ := Option.bind_eq_some_iff.1 h
    obtain ⟨rfl, rfl⟩ := castT_some c0
    obtain ⟨v1, c1, h⟩ := Option.bind_eq_some_iff.1 h
    obtain ⟨rfl, rfl⟩ := castT_some c1
    cases h
    exact ⟨fun r hr => .inl ⟨by kernel_rfl, ok_ref07_do _ _ r hr⟩, fun hb => by cases hb⟩
  · cases h

/-! ### 26 onceweb/oncewebref07.Do -/
def F_ref07_Do : FnD := { n := 57, rs := [4, 5, 6], fz := [true, false, false] }
set_option maxRecDepth 100000 in
theorem ok_ref07_Do (kind : Int) (args : (List (List tAtom))) (r : ((List tAtom) × Bool × Int)) (h : ref07_Do kind args = some r) : APure X0 26 ([.s (.int .i64) kind, .s (.sl 1 (.sl 4 tyAtom)) args].map DT.toT) (resT ([.s (.sl 4 tyAtom) r.1, .s .bool r.2.1, .s (.int .i64) r.2.2].map DT.toT)) := by
  refine APure_of_straight (F := F_ref07_Do) (fuel := 3000) (E := E_ref07_do) Yok E_ref07_do_ok mixed Try.func26 rfl rfl rfl (by decide) (args := [.s (.int .i64) kind, .s (.sl 1 (.sl 4 tyAtom)) args]) (Nat.le_of_ble_eq_true rfl) (by kernel_rfl) (fun r => [.s (.sl 4 tyAtom) r.1, .s .bool r.2.1, .s (.int .i64) r.2.2]) ?_ h
  intro goto ret
  unfold ref07_Do
  simp only [bnd_G, bnd_ite, bnd_bind, bnd_some, -eq_self]
  kernel_rfl
noncomputable def e_ref07_Do : List DT → Option CallRes
  | [.s t0 y0, .s t1 y1] => (castT (b := (.int .i64)) y0).bind fun kind => (castT (b := (.sl 1 (.sl 4 tyAtom))) y1).bind fun args => some ⟨((List tAtom) × Bool × Int), ref07_Do kind args, fun r => .tup [.s (.sl 4 tyAtom) r.1, .s .bool r.2.1, .s (.int .i64) r.2.2], (([] : List tAtom), false, (0 : Int)), false⟩
  | _ => none
noncomputable def E_ref07_Do : Env := Env.add 26 e_ref07_Do E_ref07_do
theorem E_ref07_Do_ok : EnvOk X0 E_ref07_Do := by
  refine EnvOk.add E_ref07_do_ok (fun args c h => ?_)
  unfold e_ref07_Do at h
  split at h
  · obtain ⟨v0, c0, h⟩ := Option.bind_eq_some_iff.1 h
    obtain ⟨rfl, rfl⟩ := castT_some c0
    obtain ⟨v1, c1, h⟩ := Option.bind_eq_some_iff.1 h
    obtain ⟨rfl, rfl⟩ := castT_some c1
    cases h
    exact ⟨fun r hr => .inl ⟨by kernel_rfl, ok_ref07_Do _ _ r hr⟩, fun hb => by cases hb⟩
  · cases h

/-! ### 27 onceweb/value.Word -/
def F_value_Word : FnD := { n := 28, rs := [2] }
set_option maxRecDepth 100000 in
theorem ok_value_Word (kind : Int) (r : (List UInt8)) (h : value_Word kind = some r) : APure X0 27 ([.s (.int .i64) kind].map DT.toT) (resT ([.s .str r].map DT.toT)) := by
  refine APure_of_straight (F := F_value_Word) (fuel := 3000) (E := E_ref07_Do) Yok E_ref07_Do_ok mixed Try.func27 rfl rfl rfl (by decide) (args := [.s (.int .i64) kind]) (Nat.le_of_ble_eq_true rfl) (by kernel_rfl) (fun r => [.s .str r]) ?_ h
  intro goto ret
  unfold value_Word
  simp only [bnd_G, bnd_ite, bnd_bind, bnd_some, -eq_self]
  kernel_rfl
noncomputable def e_value_Word : List DT → Option CallRes
  | [.s t0 y0] => (castT (b := (.int .i64)) y0).bind fun kind => some ⟨(List UInt8), value_Word kind, fun r => .s .str r, ([] : List UInt8), true⟩
  | _ => none
noncomputable def E_value_Word : Env := Env.add 27 e_value_Word E_ref07_Do
theorem E_value_Word_ok : EnvOk X0 E_value_Word := by
  refine EnvOk.add E_ref07_Do_ok (fun args c h => ?_)
  unfold e_value_Word at h
  split at h
  · obtain ⟨v0, c0, h⟩ := Option.bind_eq_some_iff.1 h
    obtain ⟨rfl, rfl⟩ := castT_some c0
    cases h
    exact ⟨fun r hr => .inl ⟨by kernel_rfl, ok_value_Word _ r hr⟩, fun hb => fun r => noSl_res (by rfl)⟩
  · cases h

/-! ### 28 onceweb/oncewebref07.Word -/
def F_ref07_Word : FnD := { n := 28, rs := [2] }
set_option maxRecDepth 100000 in
theorem ok_ref07_Word (kind : Int) (r : (List UInt8)) (h : ref07_Word kind = some r) : APure X0 28 ([.s (.int .i64) kind].map DT.toT) (resT ([.s .str r].map DT.toT)) := by
  refine APure_of_straight (F := F_ref07_Word) (fuel := 3000) (E := E_value_Word) Yok E_value_Word_ok mixed Try.func28 rfl rfl rfl (by decide) (args := [.s (.int .i64) kind]) (Nat.le_of_ble_eq_true rfl) (by kernel_rfl) (fun r => [.s .str r]) ?_ h
  intro goto ret
  unfold ref07_Word
  simp only [bnd_G, bnd_ite, bnd_bind, bnd_some, -eq_self]
  kernel_rfl
noncomputable def e_ref07_Word : List DT → Option CallRes
  | [.s t0 y0] => (castT (b := (.int .i64)) y0).bind fun kind => some ⟨(List UInt8), ref07_Word kind, fun r => .s .str r, ([] : List UInt8), true⟩
  | _ => none
noncomputable def E_ref07_Word : Env := Env.add 28 e_ref07_Word E_value_Word
theorem E_ref07_Word_ok : EnvOk X0 E_ref07_Word := by
  refine EnvOk.add E_value_Word_ok (fun args c h => ?_)
  unfold e_ref07_Word at h
  split at h
  · obtain ⟨v0, c0, h⟩ := Option.bind_eq_some_iff.1 h
    obtain ⟨rfl, rfl⟩ := castT_some c0
    cases h
    exact ⟨fun r hr => .inl ⟨by kernel_rfl, ok_ref07_Word _ r hr⟩, fun hb => fun r => noSl_res (by rfl)⟩
  · cases h

/-! ### 5 onceweb/onceweblaw07.ValueDoes -/
def F_law07_ValueDoes : FnD := { n := 54, rs := [4] }
set_option maxRecDepth 100000 in
theorem ok_law07_ValueDoes (kind : Int) (args : (List (List tAtom))) (r : Bool) (h : law07_ValueDoes kind args = some r) : APure X0 5 ([.s (.int .i64) kind, .s (.sl 1 (.sl 4 tyAtom)) args].map DT.toT) (resT ([.s .bool r].map DT.toT)) := by
  refine APure_of_straight (F := F_law07_ValueDoes) (fuel := 3000) (E := E_ref07_Word) Yok E_ref07_Word_ok mixed Try.func5 rfl rfl rfl (by decide) (args := [.s (.int .i64) kind, .s (.sl 1 (.sl 4 tyAtom)) args]) (Nat.le_of_ble_eq_true rfl) (by kernel_rfl) (fun r => [.s .bool r]) ?_ h
  intro goto ret
  unfold law07_ValueDoes
  simp only [bnd_G, bnd_ite, bnd_bind, bnd_some, -eq_self]
  kernel_rfl
noncomputable def e_law07_ValueDoes : List DT → Option CallRes
  | [.s t0 y0, .s t1 y1] => (castT (b := (.int .i64)) y0).bind fun kind => (castT (b := (.sl 1 (.sl 4 tyAtom))) y1).bind fun args => some ⟨Bool, law07_ValueDoes kind args, fun r => .s .bool r, false, true⟩
  | _ => none
noncomputable def E_law07_ValueDoes : Env := Env.add 5 e_law07_ValueDoes E_ref07_Word
theorem E_law07_ValueDoes_ok : EnvOk X0 E_law07_ValueDoes := by
  refine EnvOk.add E_ref07_Word_ok (fun args c h => ?_)
  unfold e_law07_ValueDoes at h
  split at h
  · obtain ⟨v0, c0, h⟩ := Option.bind_eq_some_iff.1 h
    obtain ⟨rfl, rfl⟩ := castT_some c0
    obtain ⟨v1, c1, h⟩ := Option.bind_eq_some_iff.1 h
    obtain ⟨rfl, rfl⟩ := castT_some c1
    cases h
    exact ⟨fun r hr => .inl ⟨by kernel_rfl, ok_law07_ValueDoes _ _ r hr⟩, fun hb => fun r => noSl_res (by rfl)⟩
  · cases h

end Go.Eng
