/- A part of the proof: Lv2. -/
import Derived.Test.YtnjcbogckfiamaaDoorLv1
namespace Go.Eng
open Go.Proofs Go.RowKit
set_option linter.unusedVariables false
set_option linter.unusedSimpArgs false

/-! ### 35 onceweb/value.first -/
def F_value_first : FnD := { n := 18, rs := [2], labels := [(2, [6, 7, 8])] }
def lab_value_first : L_value_first → Nat × DSt
  | .l2 x6 x7 x8 => (2, [(6, .t (.s (.sl 1 (.sl 4 tyAtom)) x6)), (7, .t (.s (.int .i64) x7)), (8, .t (.s (.int .i64) x8))])
set_option maxRecDepth 100000 in
theorem ok_value_first (l : (List (List tAtom))) (r : Int) (h : value_first l = some r) : APure X0 35 ([.s (.sl 1 (.sl 4 tyAtom)) l].map DT.toT) (resT ([.s (.int .i64) r].map DT.toT)) := by
  refine APure_of_machine (F := F_value_first) (fuel := 3000) (E := E_law07_whole) Yok E_law07_whole_ok mixed Tryd.func35 rfl rfl rfl (by decide) (args := [.s (.sl 1 (.sl 4 tyAtom)) l]) (Nat.le_of_ble_eq_true rfl) (by kernel_rfl) lab_value_first st_value_first (fun r => [.s (.int .i64) r]) ?_ ?_ ?_ h
  · intro l; cases l
    · exact WF_list ⟨trivial, trivial, trivial, trivial⟩
  · intro l goto ret; cases l with
    | l2 x6 x7 x8 =>
      show _ = push (sg_value_first_2 x6 x7 x8) (fun l' => goto (lab_value_first l').1 (lab_value_first l').2) (fun r => ret [.s (.int .i64) r])
      unfold sg_value_first_2
      simp only [push_G, push_ite, push_bind, push_inl, push_inr, -eq_self]
      kernel_rfl
  · intro goto ret
    show _ = push (en_value_first l) (fun l' => goto (lab_value_first l').1 (lab_value_first l').2) (fun r => ret [.s (.int .i64) r])
    unfold en_value_first
    simp only [push_G, push_ite, push_bind, push_inl, push_inr, -eq_self]
    kernel_rfl
noncomputable def e_value_first : List DT → Option CallRes
  | [.s t0 y0] => (castT (b := (.sl 1 (.sl 4 tyAtom))) y0).bind fun l => some ⟨Int, value_first l, fun r => .s (.int .i64) r, (0 : Int), true⟩
  | _ => none
noncomputable def E_value_first : Env := Env.add 35 e_value_first E_law07_whole
theorem E_value_first_ok : EnvOk X0 E_value_first := by
  refine EnvOk.add E_law07_whole_ok (fun args c h => ?_)
  unfold e_value_first at h
  split at h
  · obtain ⟨v0, c0, h⟩ := Option.bind_eq_some_iff.1 h
    obtain ⟨rfl, rfl⟩ := castT_some c0
    cases h
    exact ⟨fun r hr => .inl ⟨by kernel_rfl, ok_value_first _ r hr⟩, fun hb => fun r => noSl_res (by rfl)⟩
  · cases h

/-! ### 36 onceweb/value.made -/
def F_value_made : FnD := { n := 33, rs := [2, 3], labels := [(3, [0, 4, 7, 8, 9])] }
def lab_value_made : L_value_made → Nat × DSt
  | .l3 l out x7 x8 x9 => (3, [(0, .t (.s (.sl 1 (.sl 4 tyAtom)) l)), (4, .t (.own 50 tyAtom out)), (7, .t (.s (.sl 1 (.sl 4 tyAtom)) x7)), (8, .t (.s (.int .i64) x8)), (9, .t (.s (.int .i64) x9))])
set_option maxRecDepth 100000 in
theorem ok_value_made (l : (List (List tAtom))) (r : ((List tAtom) × Bool)) (h : value_made l = some r) : APure X0 36 ([.s (.sl 1 (.sl 4 tyAtom)) l].map DT.toT) (resT ([.own 50 tyAtom r.1, .s .bool r.2].map DT.toT)) := by
  refine APure_of_machine (F := F_value_made) (fuel := 3000) (E := E_value_first) Yok E_value_first_ok mixed Tryd.func36 rfl rfl rfl (by decide) (args := [.s (.sl 1 (.sl 4 tyAtom)) l]) (Nat.le_of_ble_eq_true rfl) (by kernel_rfl) lab_value_made st_value_made (fun r => [.own 50 tyAtom r.1, .s .bool r.2]) ?_ ?_ ?_ h
  · intro l; cases l
    · exact WF_list ⟨trivial, trivial, trivial, trivial, trivial, trivial⟩
  · intro l goto ret; cases l with
    | l3 l out x7 x8 x9 =>
      show _ = push (sg_value_made_3 l out x7 x8 x9) (fun l' => goto (lab_value_made l').1 (lab_value_made l').2) (fun r => ret [.own 50 tyAtom r.1, .s .bool r.2])
      unfold sg_value_made_3
      simp only [push_G, push_ite, push_bind, push_inl, push_inr, -eq_self]
      kernel_rfl
  · intro goto ret
    show _ = push (en_value_made l) (fun l' => goto (lab_value_made l').1 (lab_value_made l').2) (fun r => ret [.own 50 tyAtom r.1, .s .bool r.2])
    unfold en_value_made
    simp only [push_G, push_ite, push_bind, push_inl, push_inr, -eq_self]
    kernel_rfl
noncomputable def e_value_made : List DT → Option CallRes
  | [.s t0 y0] => (castT (b := (.sl 1 (.sl 4 tyAtom))) y0).bind fun l => some ⟨((List tAtom) × Bool), value_made l, fun r => .tup [.own 50 tyAtom r.1, .s .bool r.2], (([] : List tAtom), false), true⟩
  | _ => none
noncomputable def E_value_made : Env := Env.add 36 e_value_made E_value_first
theorem E_value_made_ok : EnvOk X0 E_value_made := by
  refine EnvOk.add E_value_first_ok (fun args c h => ?_)
  unfold e_value_made at h
  split at h
  · obtain ⟨v0, c0, h⟩ := Option.bind_eq_some_iff.1 h
    obtain ⟨rfl, rfl⟩ := castT_some c0
    cases h
    exact ⟨fun r hr => .inl ⟨by kernel_rfl, ok_value_made _ r hr⟩, fun hb => fun r => noSl_res (by rfl)⟩
  · cases h

/-! ### 20 onceweb/value.List -/
def F_value_List : FnD := { n := 23, rs := [2, 3] }
set_option maxRecDepth 100000 in
theorem ok_value_List (l : (List (List tAtom))) (r : ((List tAtom) × Int)) (h : value_List l = some r) : APure X0 20 ([.s (.sl 1 (.sl 4 tyAtom)) l].map DT.toT) (resT ([.own 50 tyAtom r.1, .s (.int .i64) r.2].map DT.toT)) := by
  refine APure_of_straight (F := F_value_List) (fuel := 3000) (E := E_value_made) Yok E_value_made_ok mixed Tryd.func20 rfl rfl rfl (by decide) (args := [.s (.sl 1 (.sl 4 tyAtom)) l]) (Nat.le_of_ble_eq_true rfl) (by kernel_rfl) (fun r => [.own 50 tyAtom r.1, .s (.int .i64) r.2]) ?_ h
  intro goto ret
  unfold value_List
  simp only [bnd_G, bnd_ite, bnd_bind, bnd_some, -eq_self]
  kernel_rfl
noncomputable def e_value_List : List DT → Option CallRes
  | [.s t0 y0] => (castT (b := (.sl 1 (.sl 4 tyAtom))) y0).bind fun l => some ⟨((List tAtom) × Int), value_List l, fun r => .tup [.own 50 tyAtom r.1, .s (.int .i64) r.2], (([] : List tAtom), (0 : Int)), true⟩
  | _ => none
noncomputable def E_value_List : Env := Env.add 20 e_value_List E_value_made
theorem E_value_List_ok : EnvOk X0 E_value_List := by
  refine EnvOk.add E_value_made_ok (fun args c h => ?_)
  unfold e_value_List at h
  split at h
  · obtain ⟨v0, c0, h⟩ := Option.bind_eq_some_iff.1 h
    obtain ⟨rfl, rfl⟩ := castT_some c0
    cases h
    exact ⟨fun r hr => .inl ⟨by kernel_rfl, ok_value_List _ r hr⟩, fun hb => fun r => noSl_res (by rfl)⟩
  · cases h

/-! ### 68 (onceweb/value.args).list -/
def F_value_args_list : FnD := { n := 8, rs := [2, 3] }
set_option maxRecDepth 100000 in
theorem ok_value_args_list (a : (List (List tAtom))) (r : ((List tAtom) × Bool)) (h : value_args_list a = some r) : APure X0 68 ([.s (.sl 1 (.sl 4 tyAtom)) a].map DT.toT) (resT ([.own 50 tyAtom r.1, .s .bool r.2].map DT.toT)) := by
  refine APure_of_straight (F := F_value_args_list) (fuel := 3000) (E := E_value_List) Yok E_value_List_ok mixed Tryd.func68 rfl rfl rfl (by decide) (args := [.s (.sl 1 (.sl 4 tyAtom)) a]) (Nat.le_of_ble_eq_true rfl) (by kernel_rfl) (fun r => [.own 50 tyAtom r.1, .s .bool r.2]) ?_ h
  intro goto ret
  unfold value_args_list
  simp only [bnd_G, bnd_ite, bnd_bind, bnd_some, -eq_self]
  kernel_rfl
noncomputable def e_value_args_list : List DT → Option CallRes
  | [.s t0 y0] => (castT (b := (.sl 1 (.sl 4 tyAtom))) y0).bind fun a => some ⟨((List tAtom) × Bool), value_args_list a, fun r => .tup [.own 50 tyAtom r.1, .s .bool r.2], (([] : List tAtom), false), true⟩
  | _ => none
noncomputable def E_value_args_list : Env := Env.add 68 e_value_args_list E_value_List
theorem E_value_args_list_ok : EnvOk X0 E_value_args_list := by
  refine EnvOk.add E_value_List_ok (fun args c h => ?_)
  unfold e_value_args_list at h
  split at h
  · obtain ⟨v0, c0, h⟩ := Option.bind_eq_some_iff.1 h
    obtain ⟨rfl, rfl⟩ := castT_some c0
    cases h
    exact ⟨fun r hr => .inl ⟨by kernel_rfl, ok_value_args_list _ r hr⟩, fun hb => fun r => noSl_res (by rfl)⟩
  · cases h

/-! ### 110 slices.IndexFunc[onceweb/value.args,onceweb/api.Value] -/
def F_slices_IndexFunc : FnD := { n := 19, rs := [4], labels := [(2, [0, 1, 7, 8])] }
def lab_slices_IndexFunc : L_slices_IndexFunc → Nat × DSt
  | .l2 s_ f x7 x8 => (2, [(0, .t (.s (.sl 1 (.sl 4 tyAtom)) s_)), (1, .t (.s .opq f)), (7, .t (.s (.int .i64) x7)), (8, .t (.s (.int .i64) x8))])
noncomputable def ed_slices_IndexFunc (dyn : Value → (List tAtom) → Option Bool) : List DT → Option CallRes
  | [.tup [.u, .s tv yv], .s t0 y0] => (castT (b := .opq) yv).bind fun v_ => (castT (b := (.sl 4 tyAtom)) y0).bind fun a0 => some ⟨Bool, dyn v_ a0, fun r_ => (.s .bool r_ : DT), false, true⟩
  | _ => none
theorem ed_slices_IndexFunc_ok (dyn : Value → (List tAtom) → Option Bool) (hd : ∀ (v_ : Value) (a0 : (List tAtom)) (r_ : Bool), dyn v_ a0 = some r_ → DynC X0 v_ (([.s (.sl 4 tyAtom) a0] : List DT).map DT.toT) (.s .bool r_ : DT).toT) : ∀ (g : FuncId) (args : List DT) (c : CallRes), ed_slices_IndexFunc dyn args = some c → CallOk X0 g args c := by
  intro g args c h
  unfold ed_slices_IndexFunc at h
  split at h
  · obtain ⟨vv, cv, h⟩ := Option.bind_eq_some_iff.1 h
    obtain ⟨rfl, rfl⟩ := castT_some cv
    obtain ⟨v0, c0, h⟩ := Option.bind_eq_some_iff.1 h
    obtain ⟨rfl, rfl⟩ := castT_some c0
    cases h
    exact ⟨fun r hr => hd _ _ r hr, fun hb => fun r => noSl_res (by rfl)⟩
  · cases h
set_option maxRecDepth 100000 in
theorem ok_slices_IndexFunc (dyn : Value → (List tAtom) → Option Bool) (hd : ∀ (v_ : Value) (a0 : (List tAtom)) (r_ : Bool), dyn v_ a0 = some r_ → DynC X0 v_ (([.s (.sl 4 tyAtom) a0] : List DT).map DT.toT) (.s .bool r_ : DT).toT) (s_ : (List (List tAtom))) (f : Value) (r : Int) (h : slices_IndexFunc dyn s_ f = some r) : APure X0 110 ([.s (.sl 1 (.sl 4 tyAtom)) s_, .s .opq f].map DT.toT) (resT ([.s (.int .i64) r].map DT.toT)) := by
  unfold slices_IndexFunc at h
  refine APure_of_machine (F := F_slices_IndexFunc) (fuel := 3000) (E := (Env.addD (ed_slices_IndexFunc dyn) E_value_args_list)) Yok (EnvOk.addD E_value_args_list_ok (ed_slices_IndexFunc_ok dyn hd)) mixed Tryd.func110 rfl rfl rfl (by decide) (args := [.s (.sl 1 (.sl 4 tyAtom)) s_, .s .opq f]) (Nat.le_of_ble_eq_true rfl) (by kernel_rfl) lab_slices_IndexFunc (st_slices_IndexFunc dyn) (fun r => [.s (.int .i64) r]) ?_ ?_ ?_ h
  · intro l; cases l
    · exact WF_list ⟨trivial, trivial, trivial, trivial, trivial⟩
  · intro l goto ret; cases l with
    | l2 s_ f x7 x8 =>
      show _ = push (sg_slices_IndexFunc_2 dyn s_ f x7 x8) (fun l' => goto (lab_slices_IndexFunc l').1 (lab_slices_IndexFunc l').2) (fun r => ret [.s (.int .i64) r])
      unfold sg_slices_IndexFunc_2
      simp only [push_G, push_ite, push_bind, push_inl, push_inr, -eq_self]
      kernel_rfl
  · intro goto ret
    show _ = push (en_slices_IndexFunc dyn s_ f) (fun l' => goto (lab_slices_IndexFunc l').1 (lab_slices_IndexFunc l').2) (fun r => ret [.s (.int .i64) r])
    unfold en_slices_IndexFunc
    simp only [push_G, push_ite, push_bind, push_inl, push_inr, -eq_self]
    kernel_rfl
noncomputable def e_slices_IndexFunc (dyn : Value → (List tAtom) → Option Bool) : List DT → Option CallRes
  | [.s t0 y0, .s t1 y1] => (castT (b := (.sl 1 (.sl 4 tyAtom))) y0).bind fun s_ => (castT (b := .opq) y1).bind fun f => some ⟨Int, slices_IndexFunc dyn s_ f, fun r => .s (.int .i64) r, (0 : Int), true⟩
  | _ => none
theorem he_slices_IndexFunc (dyn : Value → (List tAtom) → Option Bool) (hd : ∀ (v_ : Value) (a0 : (List tAtom)) (r_ : Bool), dyn v_ a0 = some r_ → DynC X0 v_ (([.s (.sl 4 tyAtom) a0] : List DT).map DT.toT) (.s .bool r_ : DT).toT) : ∀ (args : List DT) (c : CallRes), e_slices_IndexFunc dyn args = some c → CallOk X0 110 args c := by
  intro args c h
  unfold e_slices_IndexFunc at h
  split at h
  · obtain ⟨v0, c0, h⟩ := Option.bind_eq_some_iff.1 h
    obtain ⟨rfl, rfl⟩ := castT_some c0
    obtain ⟨v1, c1, h⟩ := Option.bind_eq_some_iff.1 h
    obtain ⟨rfl, rfl⟩ := castT_some c1
    cases h
    exact ⟨fun r hr => .inl ⟨by kernel_rfl, ok_slices_IndexFunc dyn hd _ _ r hr⟩, fun hb => fun r => noSl_res (by rfl)⟩
  · cases h

/-! ### 103 slices.ContainsFunc[onceweb/value.args,onceweb/api.Value] -/
def F_slices_ContainsFunc : FnD := { n := 9, rs := [4] }
noncomputable def ed_slices_ContainsFunc (dyn : Value → (List tAtom) → Option Bool) : List DT → Option CallRes
  | [.tup [.u, .s tv yv], .s t0 y0] => (castT (b := .opq) yv).bind fun v_ => (castT (b := (.sl 4 tyAtom)) y0).bind fun a0 => some ⟨Bool, dyn v_ a0, fun r_ => (.s .bool r_ : DT), false, true⟩
  | _ => none
theorem ed_slices_ContainsFunc_ok (dyn : Value → (List tAtom) → Option Bool) (hd : ∀ (v_ : Value) (a0 : (List tAtom)) (r_ : Bool), dyn v_ a0 = some r_ → DynC X0 v_ (([.s (.sl 4 tyAtom) a0] : List DT).map DT.toT) (.s .bool r_ : DT).toT) : ∀ (g : FuncId) (args : List DT) (c : CallRes), ed_slices_ContainsFunc dyn args = some c → CallOk X0 g args c := by
  intro g args c h
  unfold ed_slices_ContainsFunc at h
  split at h
  · obtain ⟨vv, cv, h⟩ := Option.bind_eq_some_iff.1 h
    obtain ⟨rfl, rfl⟩ := castT_some cv
    obtain ⟨v0, c0, h⟩ := Option.bind_eq_some_iff.1 h
    obtain ⟨rfl, rfl⟩ := castT_some c0
    cases h
    exact ⟨fun r hr => hd _ _ r hr, fun hb => fun r => noSl_res (by rfl)⟩
  · cases h
set_option maxRecDepth 100000 in
theorem ok_slices_ContainsFunc (dyn : Value → (List tAtom) → Option Bool) (hd : ∀ (v_ : Value) (a0 : (List tAtom)) (r_ : Bool), dyn v_ a0 = some r_ → DynC X0 v_ (([.s (.sl 4 tyAtom) a0] : List DT).map DT.toT) (.s .bool r_ : DT).toT) (s_ : (List (List tAtom))) (f : Value) (r : Bool) (h : slices_ContainsFunc dyn s_ f = some r) : APure X0 103 ([.s (.sl 1 (.sl 4 tyAtom)) s_, .s .opq f].map DT.toT) (resT ([.s .bool r].map DT.toT)) := by
  unfold slices_ContainsFunc at h
  refine APure_of_straight (F := F_slices_ContainsFunc) (fuel := 3000) (E := (Env.add 110 (e_slices_IndexFunc dyn) (Env.addD (ed_slices_ContainsFunc dyn) E_value_args_list))) Yok (EnvOk.add (EnvOk.addD E_value_args_list_ok (ed_slices_ContainsFunc_ok dyn hd)) (he_slices_IndexFunc dyn hd)) mixed Tryd.func103 rfl rfl rfl (by decide) (args := [.s (.sl 1 (.sl 4 tyAtom)) s_, .s .opq f]) (Nat.le_of_ble_eq_true rfl) (by kernel_rfl) (fun r => [.s .bool r]) ?_ h
  intro goto ret
  unfold en_slices_ContainsFunc
  simp only [bnd_G, bnd_ite, bnd_bind, bnd_some, -eq_self]
  kernel_rfl
noncomputable def e_slices_ContainsFunc (dyn : Value → (List tAtom) → Option Bool) : List DT → Option CallRes
  | [.s t0 y0, .s t1 y1] => (castT (b := (.sl 1 (.sl 4 tyAtom))) y0).bind fun s_ => (castT (b := .opq) y1).bind fun f => some ⟨Bool, slices_ContainsFunc dyn s_ f, fun r => .s .bool r, false, true⟩
  | _ => none
theorem he_slices_ContainsFunc (dyn : Value → (List tAtom) → Option Bool) (hd : ∀ (v_ : Value) (a0 : (List tAtom)) (r_ : Bool), dyn v_ a0 = some r_ → DynC X0 v_ (([.s (.sl 4 tyAtom) a0] : List DT).map DT.toT) (.s .bool r_ : DT).toT) : ∀ (args : List DT) (c : CallRes), e_slices_ContainsFunc dyn args = some c → CallOk X0 103 args c := by
  intro args c h
  unfold e_slices_ContainsFunc at h
  split at h
  · obtain ⟨v0, c0, h⟩ := Option.bind_eq_some_iff.1 h
    obtain ⟨rfl, rfl⟩ := castT_some c0
    obtain ⟨v1, c1, h⟩ := Option.bind_eq_some_iff.1 h
    obtain ⟨rfl, rfl⟩ := castT_some c1
    cases h
    exact ⟨fun r hr => .inl ⟨by kernel_rfl, ok_slices_ContainsFunc dyn hd _ _ r hr⟩, fun hb => fun r => noSl_res (by rfl)⟩
  · cases h

/-! ### 32 onceweb/value.top -/
def F_value_top : FnD := { n := 9, rs := [2], cl := [(2, 50)] }
set_option maxRecDepth 100000 in
theorem ok_value_top (v : (List tAtom)) (r : tAtom) (h : value_top v = some r) : APure X0 32 ([.s (.sl 4 tyAtom) v].map DT.toT) (resT ([.s tyAtom r].map DT.toT)) := by
  refine APure_of_straight (F := F_value_top) (fuel := 3000) (E := E_value_args_list) Yok E_value_args_list_ok mixed Tryd.func32 rfl rfl rfl (by decide) (args := [.s (.sl 4 tyAtom) v]) (Nat.le_of_ble_eq_true rfl) (by kernel_rfl) (fun r => [.s tyAtom r]) ?_ h
  intro goto ret
  unfold value_top
  simp only [bnd_G, bnd_ite, bnd_bind, bnd_some, -eq_self]
  kernel_rfl
noncomputable def e_value_top : List DT → Option CallRes
  | [.s t0 y0] => (castT (b := (.sl 4 tyAtom)) y0).bind fun v => some ⟨tAtom, value_top v, fun r => .s tyAtom r, dAtom, true⟩
  | _ => none
noncomputable def E_value_top : Env := Env.add 32 e_value_top E_value_args_list
theorem E_value_top_ok : EnvOk X0 E_value_top := by
  refine EnvOk.add E_value_args_list_ok (fun args c h => ?_)
  unfold e_value_top at h
  split at h
  · obtain ⟨v0, c0, h⟩ := Option.bind_eq_some_iff.1 h
    obtain ⟨rfl, rfl⟩ := castT_some c0
    cases h
    exact ⟨fun r hr => .inl ⟨by kernel_rfl, ok_value_top _ r hr⟩, fun hb => fun r => noSl_res (by rfl)⟩
  · cases h

/-! ### 104 (onceweb/value.args).ints$1 -/
def F_value_args_ints_1 : FnD := { n := 7, rs := [2] }
set_option maxRecDepth 100000 in
theorem ok_value_args_ints_1 (v : (List tAtom)) (r : Bool) (h : value_args_ints_1 v = some r) : APure X0 104 ([.s (.sl 4 tyAtom) v].map DT.toT) (resT ([.s .bool r].map DT.toT)) := by
  refine APure_of_straight (F := F_value_args_ints_1) (fuel := 3000) (E := E_value_top) Yok E_value_top_ok mixed Tryd.func104 rfl rfl rfl (by decide) (args := [.s (.sl 4 tyAtom) v]) (Nat.le_of_ble_eq_true rfl) (by kernel_rfl) (fun r => [.s .bool r]) ?_ h
  intro goto ret
  unfold value_args_ints_1
  simp only [bnd_G, bnd_ite, bnd_bind, bnd_some, -eq_self]
  kernel_rfl
noncomputable def e_value_args_ints_1 : List DT → Option CallRes
  | [.s t0 y0] => (castT (b := (.sl 4 tyAtom)) y0).bind fun v => some ⟨Bool, value_args_ints_1 v, fun r => .s .bool r, false, true⟩
  | _ => none
noncomputable def E_value_args_ints_1 : Env := Env.add 104 e_value_args_ints_1 E_value_top
theorem E_value_args_ints_1_ok : EnvOk X0 E_value_args_ints_1 := by
  refine EnvOk.add E_value_top_ok (fun args c h => ?_)
  unfold e_value_args_ints_1 at h
  split at h
  · obtain ⟨v0, c0, h⟩ := Option.bind_eq_some_iff.1 h
    obtain ⟨rfl, rfl⟩ := castT_some c0
    cases h
    exact ⟨fun r hr => .inl ⟨by kernel_rfl, ok_value_args_ints_1 _ r hr⟩, fun hb => fun r => noSl_res (by rfl)⟩
  · cases h

/-! ### 91 (onceweb/value.args).ints -/
def F_value_args_ints : FnD := { n := 6, rs := [2] }
set_option maxRecDepth 100000 in
theorem ok_value_args_ints (a : (List (List tAtom))) (r : Bool) (h : value_args_ints a = some r) : APure X0 91 ([.s (.sl 1 (.sl 4 tyAtom)) a].map DT.toT) (resT ([.s .bool r].map DT.toT)) := by
  unfold value_args_ints at h
  refine APure_of_straight (F := F_value_args_ints) (fuel := 3000) (E := (Env.add 103 (e_slices_ContainsFunc (fun v_ a0 => if fnIs v_ 104 = true then value_args_ints_1 a0 else none)) E_value_args_ints_1)) Yok (EnvOk.add E_value_args_ints_1_ok (he_slices_ContainsFunc (fun v_ a0 => if fnIs v_ 104 = true then value_args_ints_1 a0 else none) (fun v_ a0 r_ h => dyn_or h (fun hv hx => ⟨104, fnIs_spec hv, by kernel_rfl, ok_value_args_ints_1 a0 r_ hx⟩) (fun h => by cases h)))) mixed Tryd.func91 rfl rfl rfl (by decide) (args := [.s (.sl 1 (.sl 4 tyAtom)) a]) (Nat.le_of_ble_eq_true rfl) (by kernel_rfl) (fun r => [.s .bool r]) ?_ h
  intro goto ret
  unfold en_value_args_ints
  simp only [bnd_G, bnd_ite, bnd_bind, bnd_some, -eq_self]
  kernel_rfl
noncomputable def e_value_args_ints : List DT → Option CallRes
  | [.s t0 y0] => (castT (b := (.sl 1 (.sl 4 tyAtom))) y0).bind fun a => some ⟨Bool, value_args_ints a, fun r => .s .bool r, false, true⟩
  | _ => none
noncomputable def E_value_args_ints : Env := Env.add 91 (e_value_args_ints) E_value_args_ints_1
theorem E_value_args_ints_ok : EnvOk X0 (E_value_args_ints) := by
  refine EnvOk.add E_value_args_ints_1_ok (fun args c h => ?_)
  unfold e_value_args_ints at h
  split at h
  · obtain ⟨v0, c0, h⟩ := Option.bind_eq_some_iff.1 h
    obtain ⟨rfl, rfl⟩ := castT_some c0
    cases h
    exact ⟨fun r hr => .inl ⟨by kernel_rfl, ok_value_args_ints _ r hr⟩, fun hb => fun r => noSl_res (by rfl)⟩
  · cases h

/-! ### 105 onceweb/value.Int -/
def F_value_Int : FnD := { n := 13, rs := [2, 3] }
set_option maxRecDepth 100000 in
theorem ok_value_Int (n : Int) (r : ((List tAtom) × Int)) (h : value_Int n = some r) : APure X0 105 ([.s (.int .i64) n].map DT.toT) (resT ([.own 50 tyAtom r.1, .s (.int .i64) r.2].map DT.toT)) := by
  refine APure_of_straight (F := F_value_Int) (fuel := 3000) (E := E_value_args_ints) Yok E_value_args_ints_ok mixed Tryd.func105 rfl rfl rfl (by decide) (args := [.s (.int .i64) n]) (Nat.le_of_ble_eq_true rfl) (by kernel_rfl) (fun r => [.own 50 tyAtom r.1, .s (.int .i64) r.2]) ?_ h
  intro goto ret
  unfold value_Int
  simp only [bnd_G, bnd_ite, bnd_bind, bnd_some, -eq_self]
  kernel_rfl
noncomputable def e_value_Int : List DT → Option CallRes
  | [.s t0 y0] => (castT (b := (.int .i64)) y0).bind fun n => some ⟨((List tAtom) × Int), value_Int n, fun r => .tup [.own 50 tyAtom r.1, .s (.int .i64) r.2], (([] : List tAtom), (0 : Int)), true⟩
  | _ => none
noncomputable def E_value_Int : Env := Env.add 105 e_value_Int E_value_args_ints
theorem E_value_Int_ok : EnvOk X0 E_value_Int := by
  refine EnvOk.add E_value_args_ints_ok (fun args c h => ?_)
  unfold e_value_Int at h
  split at h
  · obtain ⟨v0, c0, h⟩ := Option.bind_eq_some_iff.1 h
    obtain ⟨rfl, rfl⟩ := castT_some c0
    cases h
    exact ⟨fun r hr => .inl ⟨by kernel_rfl, ok_value_Int _ r hr⟩, fun hb => fun r => noSl_res (by rfl)⟩
  · cases h

/-! ### 92 onceweb/value.number -/
def F_value_number : FnD := { n := 14, rs := [2, 3] }
set_option maxRecDepth 100000 in
theorem ok_value_number (n : Int) (r : ((List tAtom) × Bool)) (h : value_number n = some r) : APure X0 92 ([.s (.int .i64) n].map DT.toT) (resT ([.own 50 tyAtom r.1, .s .bool r.2].map DT.toT)) := by
  refine APure_of_straight (F := F_value_number) (fuel := 3000) (E := E_value_Int) Yok E_value_Int_ok mixed Tryd.func92 rfl rfl rfl (by decide) (args := [.s (.int .i64) n]) (Nat.le_of_ble_eq_true rfl) (by kernel_rfl) (fun r => [.own 50 tyAtom r.1, .s .bool r.2]) ?_ h
  intro goto ret
  unfold value_number
  simp only [bnd_G, bnd_ite, bnd_bind, bnd_some, -eq_self]
  kernel_rfl
noncomputable def e_value_number : List DT → Option CallRes
  | [.s t0 y0] => (castT (b := (.int .i64)) y0).bind fun n => some ⟨((List tAtom) × Bool), value_number n, fun r => .tup [.own 50 tyAtom r.1, .s .bool r.2], (([] : List tAtom), false), true⟩
  | _ => none
noncomputable def E_value_number : Env := Env.add 92 e_value_number E_value_Int
theorem E_value_number_ok : EnvOk X0 E_value_number := by
  refine EnvOk.add E_value_Int_ok (fun args c h => ?_)
  unfold e_value_number at h
  split at h
  · obtain ⟨v0, c0, h⟩ := Option.bind_eq_some_iff.1 h
    obtain ⟨rfl, rfl⟩ := castT_some c0
    cases h
    exact ⟨fun r hr => .inl ⟨by kernel_rfl, ok_value_number _ r hr⟩, fun hb => fun r => noSl_res (by rfl)⟩
  · cases h

/-! ### 69 (onceweb/value.args).add -/
def F_value_args_add : FnD := { n := 23, rs := [2, 3] }
set_option maxRecDepth 100000 in
theorem ok_value_args_add (a : (List (List tAtom))) (r : ((List tAtom) × Bool)) (h : value_args_add a = some r) : APure X0 69 ([.s (.sl 1 (.sl 4 tyAtom)) a].map DT.toT) (resT ([.own 50 tyAtom r.1, .s .bool r.2].map DT.toT)) := by
  refine APure_of_straight (F := F_value_args_add) (fuel := 3000) (E := E_value_number) Yok E_value_number_ok mixed Tryd.func69 rfl rfl rfl (by decide) (args := [.s (.sl 1 (.sl 4 tyAtom)) a]) (Nat.le_of_ble_eq_true rfl) (by kernel_rfl) (fun r => [.own 50 tyAtom r.1, .s .bool r.2]) ?_ h
  intro goto ret
  unfold value_args_add
  simp only [bnd_G, bnd_ite, bnd_bind, bnd_some, -eq_self]
  kernel_rfl
noncomputable def e_value_args_add : List DT → Option CallRes
  | [.s t0 y0] => (castT (b := (.sl 1 (.sl 4 tyAtom))) y0).bind fun a => some ⟨((List tAtom) × Bool), value_args_add a, fun r => .tup [.own 50 tyAtom r.1, .s .bool r.2], (([] : List tAtom), false), true⟩
  | _ => none
noncomputable def E_value_args_add : Env := Env.add 69 e_value_args_add E_value_number
theorem E_value_args_add_ok : EnvOk X0 E_value_args_add := by
  refine EnvOk.add E_value_number_ok (fun args c h => ?_)
  unfold e_value_args_add at h
  split at h
  · obtain ⟨v0, c0, h⟩ := Option.bind_eq_some_iff.1 h
    obtain ⟨rfl, rfl⟩ := castT_some c0
    cases h
    exact ⟨fun r hr => .inl ⟨by kernel_rfl, ok_value_args_add _ r hr⟩, fun hb => fun r => noSl_res (by rfl)⟩
  · cases h

/-! ### 70 (onceweb/value.args).sub -/
def F_value_args_sub : FnD := { n := 23, rs := [2, 3] }
set_option maxRecDepth 100000 in
theorem ok_value_args_sub (a : (List (List tAtom))) (r : ((List tAtom) × Bool)) (h : value_args_sub a = some r) : APure X0 70 ([.s (.sl 1 (.sl 4 tyAtom)) a].map DT.toT) (resT ([.own 50 tyAtom r.1, .s .bool r.2].map DT.toT)) := by
  refine APure_of_straight (F := F_value_args_sub) (fuel := 3000) (E := E_value_args_add) Yok E_value_args_add_ok mixed Tryd.func70 rfl rfl rfl (by decide) (args := [.s (.sl 1 (.sl 4 tyAtom)) a]) (Nat.le_of_ble_eq_true rfl) (by kernel_rfl) (fun r => [.own 50 tyAtom r.1, .s .bool r.2]) ?_ h
  intro goto ret
  unfold value_args_sub
  simp only [bnd_G, bnd_ite, bnd_bind, bnd_some, -eq_self]
  kernel_rfl
noncomputable def e_value_args_sub : List DT → Option CallRes
  | [.s t0 y0] => (castT (b := (.sl 1 (.sl 4 tyAtom))) y0).bind fun a => some ⟨((List tAtom) × Bool), value_args_sub a, fun r => .tup [.own 50 tyAtom r.1, .s .bool r.2], (([] : List tAtom), false), true⟩
  | _ => none
noncomputable def E_value_args_sub : Env := Env.add 70 e_value_args_sub E_value_args_add
theorem E_value_args_sub_ok : EnvOk X0 E_value_args_sub := by
  refine EnvOk.add E_value_args_add_ok (fun args c h => ?_)
  unfold e_value_args_sub at h
  split at h
  · obtain ⟨v0, c0, h⟩ := Option.bind_eq_some_iff.1 h
    obtain ⟨rfl, rfl⟩ := castT_some c0
    cases h
    exact ⟨fun r hr => .inl ⟨by kernel_rfl, ok_value_args_sub _ r hr⟩, fun hb => fun r => noSl_res (by rfl)⟩
  · cases h

/-! ### 93 onceweb/value.size -/
def F_value_size : FnD := { n := 7, rs := [2] }
set_option maxRecDepth 100000 in
theorem ok_value_size (n : Int) (r : Int) (h : value_size n = some r) : APure X0 93 ([.s (.int .i64) n].map DT.toT) (resT ([.s (.int .i64) r].map DT.toT)) := by
  refine APure_of_straight (F := F_value_size) (fuel := 3000) (E := E_value_args_sub) Yok E_value_args_sub_ok mixed Tryd.func93 rfl rfl rfl (by decide) (args := [.s (.int .i64) n]) (Nat.le_of_ble_eq_true rfl) (by kernel_rfl) (fun r => [.s (.int .i64) r]) ?_ h
  intro goto ret
  unfold value_size
  simp only [bnd_G, bnd_ite, bnd_bind, bnd_some, -eq_self]
  kernel_rfl
noncomputable def e_value_size : List DT → Option CallRes
  | [.s t0 y0] => (castT (b := (.int .i64)) y0).bind fun n => some ⟨Int, value_size n, fun r => .s (.int .i64) r, (0 : Int), true⟩
  | _ => none
noncomputable def E_value_size : Env := Env.add 93 e_value_size E_value_args_sub
theorem E_value_size_ok : EnvOk X0 E_value_size := by
  refine EnvOk.add E_value_args_sub_ok (fun args c h => ?_)
  unfold e_value_size at h
  split at h
  · obtain ⟨v0, c0, h⟩ := Option.bind_eq_some_iff.1 h
    obtain ⟨rfl, rfl⟩ := castT_some c0
    cases h
    exact ⟨fun r hr => .inl ⟨by kernel_rfl, ok_value_size _ r hr⟩, fun hb => fun r => noSl_res (by rfl)⟩
  · cases h

/-! ### 71 (onceweb/value.args).mul -/
def F_value_args_mul : FnD := { n := 37, rs := [2, 3] }
set_option maxRecDepth 100000 in
theorem ok_value_args_mul (a : (List (List tAtom))) (r : ((List tAtom) × Bool)) (h : value_args_mul a = some r) : APure X0 71 ([.s (.sl 1 (.sl 4 tyAtom)) a].map DT.toT) (resT ([.own 50 tyAtom r.1, .s .bool r.2].map DT.toT)) := by
  refine APure_of_straight (F := F_value_args_mul) (fuel := 3000) (E := E_value_size) Yok E_value_size_ok mixed Tryd.func71 rfl rfl rfl (by decide) (args := [.s (.sl 1 (.sl 4 tyAtom)) a]) (Nat.le_of_ble_eq_true rfl) (by kernel_rfl) (fun r => [.own 50 tyAtom r.1, .s .bool r.2]) ?_ h
  intro goto ret
  unfold value_args_mul
  simp only [bnd_G, bnd_ite, bnd_bind, bnd_some, -eq_self]
  kernel_rfl
noncomputable def e_value_args_mul : List DT → Option CallRes
  | [.s t0 y0] => (castT (b := (.sl 1 (.sl 4 tyAtom))) y0).bind fun a => some ⟨((List tAtom) × Bool), value_args_mul a, fun r => .tup [.own 50 tyAtom r.1, .s .bool r.2], (([] : List tAtom), false), true⟩
  | _ => none
noncomputable def E_value_args_mul : Env := Env.add 71 e_value_args_mul E_value_size
theorem E_value_args_mul_ok : EnvOk X0 E_value_args_mul := by
  refine EnvOk.add E_value_size_ok (fun args c h => ?_)
  unfold e_value_args_mul at h
  split at h
  · obtain ⟨v0, c0, h⟩ := Option.bind_eq_some_iff.1 h
    obtain ⟨rfl, rfl⟩ := castT_some c0
    cases h
    exact ⟨fun r hr => .inl ⟨by kernel_rfl, ok_value_args_mul _ r hr⟩, fun hb => fun r => noSl_res (by rfl)⟩
  · cases h

/-! ### 33 onceweb/value.members -/
def F_value_members : FnD := { n := 44, rs := [2], labels := [(5, [0, 3, 5, 6, 7])] }
def lab_value_members : L_value_members → Nat × DSt
  | .l5 v w out end_ i => (5, [(0, .t (.s (.sl 4 tyAtom) v)), (3, .t (.own 97 tywhole w)), (5, .t (.own 23 (.sl 4 tyAtom) out)), (6, .t (.s (.int .i64) end_)), (7, .t (.s (.int .i64) i))])
set_option maxRecDepth 100000 in
theorem ok_value_members (v : (List tAtom)) (r : (List (List tAtom))) (h : value_members v = some r) : APure X0 33 ([.s (.sl 4 tyAtom) v].map DT.toT) (resT ([.own 23 (.sl 4 tyAtom) r].map DT.toT)) := by
  refine APure_of_machine (F := F_value_members) (fuel := 3000) (E := E_value_args_mul) Yok E_value_args_mul_ok mixed Tryd.func33 rfl rfl rfl (by decide) (args := [.s (.sl 4 tyAtom) v]) (Nat.le_of_ble_eq_true rfl) (by kernel_rfl) lab_value_members st_value_members (fun r => [.own 23 (.sl 4 tyAtom) r]) ?_ ?_ ?_ h
  · intro l; cases l
    · exact WF_list ⟨trivial, trivial, trivial, trivial, trivial, trivial⟩
  · intro l goto ret; cases l with
    | l5 v w out end_ i =>
      show _ = push (sg_value_members_5 v w out end_ i) (fun l' => goto (lab_value_members l').1 (lab_value_members l').2) (fun r => ret [.own 23 (.sl 4 tyAtom) r])
      unfold sg_value_members_5
      simp only [push_G, push_ite, push_bind, push_inl, push_inr, -eq_self]
      kernel_rfl
  · intro goto ret
    show _ = push (en_value_members v) (fun l' => goto (lab_value_members l').1 (lab_value_members l').2) (fun r => ret [.own 23 (.sl 4 tyAtom) r])
    unfold en_value_members
    simp only [push_G, push_ite, push_bind, push_inl, push_inr, -eq_self]
    kernel_rfl
noncomputable def e_value_members : List DT → Option CallRes
  | [.s t0 y0] => (castT (b := (.sl 4 tyAtom)) y0).bind fun v => some ⟨(List (List tAtom)), value_members v, fun r => .own 23 (.sl 4 tyAtom) r, ([] : List (List tAtom)), false⟩
  | _ => none
noncomputable def E_value_members : Env := Env.add 33 e_value_members E_value_args_mul
theorem E_value_members_ok : EnvOk X0 E_value_members := by
  refine EnvOk.add E_value_args_mul_ok (fun args c h => ?_)
  unfold e_value_members at h
  split at h
  · obtain ⟨v0, c0, h⟩ := Option.bind_eq_some_iff.1 h
    obtain ⟨rfl, rfl⟩ := castT_some c0
    cases h
    exact ⟨fun r hr => .inl ⟨by kernel_rfl, ok_value_members _ r hr⟩, fun hb => by cases hb⟩
  · cases h

/-! ### 72 (onceweb/value.args).join -/
def F_value_args_join : FnD := { n := 56, rs := [2, 3] }
set_option maxRecDepth 100000 in
theorem ok_value_args_join (a : (List (List tAtom))) (r : ((List tAtom) × Bool)) (h : value_args_join a = some r) : APure X0 72 ([.s (.sl 1 (.sl 4 tyAtom)) a].map DT.toT) (resT ([.own 50 tyAtom r.1, .s .bool r.2].map DT.toT)) := by
  refine APure_of_straight (F := F_value_args_join) (fuel := 3000) (E := E_value_members) Yok E_value_members_ok mixed Tryd.func72 rfl rfl rfl (by decide) (args := [.s (.sl 1 (.sl 4 tyAtom)) a]) (Nat.le_of_ble_eq_true rfl) (by kernel_rfl) (fun r => [.own 50 tyAtom r.1, .s .bool r.2]) ?_ h
  intro goto ret
  unfold value_args_join
  simp only [bnd_G, bnd_ite, bnd_bind, bnd_some, -eq_self]
  kernel_rfl
noncomputable def e_value_args_join : List DT → Option CallRes
  | [.s t0 y0] => (castT (b := (.sl 1 (.sl 4 tyAtom))) y0).bind fun a => some ⟨((List tAtom) × Bool), value_args_join a, fun r => .tup [.own 50 tyAtom r.1, .s .bool r.2], (([] : List tAtom), false), true⟩
  | _ => none
noncomputable def E_value_args_join : Env := Env.add 72 e_value_args_join E_value_members
theorem E_value_args_join_ok : EnvOk X0 E_value_args_join := by
  refine EnvOk.add E_value_members_ok (fun args c h => ?_)
  unfold e_value_args_join at h
  split at h
  · obtain ⟨v0, c0, h⟩ := Option.bind_eq_some_iff.1 h
    obtain ⟨rfl, rfl⟩ := castT_some c0
    cases h
    exact ⟨fun r hr => .inl ⟨by kernel_rfl, ok_value_args_join _ r hr⟩, fun hb => fun r => noSl_res (by rfl)⟩
  · cases h

/-! ### 34 slices_Clone -/
def F_slices_Clone : FnD := { n := 8, rs := [2], labels := [(1, [0])] }
set_option maxRecDepth 100000 in
theorem ok_slices_Clone (s_ : List tAtom) (r : List tAtom) (h : slices_Clone s_ = some r) : APure X0 34 ([.s (.sl 4 tyAtom) s_].map DT.toT) (resT ([.own 50 tyAtom r].map DT.toT)) := by
  obtain ⟨hG, h⟩ := G_some h
  cases h
  refine APure_of_nil (e := 50) (F := F_slices_Clone) (fuel := 3000) (E := E_0) (ty := tyAtom) (l := s_) (id := 1) (s0 := 0) (d1 := 3) (d2 := 4) (st1 := [(0, .t (.s (.sl 4 tyAtom) s_))]) Yok E_0_ok mixed Tryd.func34 rfl rfl rfl (by decide) (args := [.s (.sl 4 tyAtom) s_]) (Nat.le_of_ble_eq_true rfl) (by kernel_rfl) rfl rfl rfl rfl rfl rfl rfl (by kernel_rfl) rfl (by kernel_rfl) (by kernel_rfl) (WF_list ⟨trivial, trivial⟩) (fun goto ret => by kernel_rfl) (fun b hb goto ret hret => ?_)
  cases b with
  | false =>
    refine Eq.trans (b := G ((([] : List tAtom).length + s_.length) * 40 ≤ 140737488355328) (ret [.own 50 tyAtom s_])) (by kernel_rfl) ?_
    rw [G_pos hG, hret]
  | true =>
    obtain rfl := hb rfl
    exact Eq.trans (b := ret [.own 50 tyAtom []]) (by kernel_rfl) hret
noncomputable def e_slices_Clone : List DT → Option CallRes
  | [.s t0 y0] => (castT (b := (.sl 4 tyAtom)) y0).bind fun s_ => some ⟨List tAtom, slices_Clone s_, fun r => .own 50 tyAtom r, [], true⟩
  | _ => none
noncomputable def E_slices_Clone : Env := Env.add 34 e_slices_Clone E_value_args_join
theorem E_slices_Clone_ok : EnvOk X0 E_slices_Clone := by
  refine EnvOk.add E_value_args_join_ok (fun args c h => ?_)
  unfold e_slices_Clone at h
  split at h
  · obtain ⟨v0, c0, h⟩ := Option.bind_eq_some_iff.1 h
    obtain ⟨rfl, rfl⟩ := castT_some c0
    cases h
    exact ⟨fun r hr => .inl ⟨by kernel_rfl, ok_slices_Clone _ r hr⟩, fun hb => fun r => noSl_res (by rfl)⟩
  · cases h


/-! ### 73 (onceweb/value.args).item -/
def F_value_args_item : FnD := { n := 43, rs := [2, 3] }
set_option maxRecDepth 100000 in
theorem ok_value_args_item (a : (List (List tAtom))) (r : ((List tAtom) × Bool)) (h : value_args_item a = some r) : APure X0 73 ([.s (.sl 1 (.sl 4 tyAtom)) a].map DT.toT) (resT ([.own 50 tyAtom r.1, .s .bool r.2].map DT.toT)) := by
  refine APure_of_straight (F := F_value_args_item) (fuel := 3000) (E := E_slices_Clone) Yok E_slices_Clone_ok mixed Tryd.func73 rfl rfl rfl (by decide) (args := [.s (.sl 1 (.sl 4 tyAtom)) a]) (Nat.le_of_ble_eq_true rfl) (by kernel_rfl) (fun r => [.own 50 tyAtom r.1, .s .bool r.2]) ?_ h
  intro goto ret
  unfold value_args_item
  simp only [bnd_G, bnd_ite, bnd_bind, bnd_some, -eq_self]
  kernel_rfl
noncomputable def e_value_args_item : List DT → Option CallRes
  | [.s t0 y0] => (castT (b := (.sl 1 (.sl 4 tyAtom))) y0).bind fun a => some ⟨((List tAtom) × Bool), value_args_item a, fun r => .tup [.own 50 tyAtom r.1, .s .bool r.2], (([] : List tAtom), false), true⟩
  | _ => none
noncomputable def E_value_args_item : Env := Env.add 73 e_value_args_item E_slices_Clone
theorem E_value_args_item_ok : EnvOk X0 E_value_args_item := by
  refine EnvOk.add E_slices_Clone_ok (fun args c h => ?_)
  unfold e_value_args_item at h
  split at h
  · obtain ⟨v0, c0, h⟩ := Option.bind_eq_some_iff.1 h
    obtain ⟨rfl, rfl⟩ := castT_some c0
    cases h
    exact ⟨fun r hr => .inl ⟨by kernel_rfl, ok_value_args_item _ r hr⟩, fun hb => fun r => noSl_res (by rfl)⟩
  · cases h

/-! ### 74 (onceweb/value.args).size -/
def F_value_args_size : FnD := { n := 26, rs := [2, 3] }
set_option maxRecDepth 100000 in
theorem ok_value_args_size (a : (List (List tAtom))) (r : ((List tAtom) × Bool)) (h : value_args_size a = some r) : APure X0 74 ([.s (.sl 1 (.sl 4 tyAtom)) a].map DT.toT) (resT ([.own 50 tyAtom r.1, .s .bool r.2].map DT.toT)) := by
  refine APure_of_straight (F := F_value_args_size) (fuel := 3000) (E := E_value_args_item) Yok E_value_args_item_ok mixed Tryd.func74 rfl rfl rfl (by decide) (args := [.s (.sl 1 (.sl 4 tyAtom)) a]) (Nat.le_of_ble_eq_true rfl) (by kernel_rfl) (fun r => [.own 50 tyAtom r.1, .s .bool r.2]) ?_ h
  intro goto ret
  unfold value_args_size
  simp only [bnd_G, bnd_ite, bnd_bind, bnd_some, -eq_self]
  kernel_rfl
noncomputable def e_value_args_size : List DT → Option CallRes
  | [.s t0 y0] => (castT (b := (.sl 1 (.sl 4 tyAtom))) y0).bind fun a => some ⟨((List tAtom) × Bool), value_args_size a, fun r => .tup [.own 50 tyAtom r.1, .s .bool r.2], (([] : List tAtom), false), true⟩
  | _ => none
noncomputable def E_value_args_size : Env := Env.add 74 e_value_args_size E_value_args_item
theorem E_value_args_size_ok : EnvOk X0 E_value_args_size := by
  refine EnvOk.add E_value_args_item_ok (fun args c h => ?_)
  unfold e_value_args_size at h
  split at h
  · obtain ⟨v0, c0, h⟩ := Option.bind_eq_some_iff.1 h
    obtain ⟨rfl, rfl⟩ := castT_some c0
    cases h
    exact ⟨fun r hr => .inl ⟨by kernel_rfl, ok_value_args_size _ r hr⟩, fun hb => fun r => noSl_res (by rfl)⟩
  · cases h

/-! ### 79 cmp.isNaN[int] -/
def F_cmp_isNaN : FnD := { n := 6, rs := [2] }
set_option maxRecDepth 100000 in
theorem ok_cmp_isNaN (x : Int) (r : Bool) (h : cmp_isNaN x = some r) : APure X0 79 ([.s (.int .i64) x].map DT.toT) (resT ([.s .bool r].map DT.toT)) := by
  refine APure_of_straight (F := F_cmp_isNaN) (fuel := 3000) (E := E_value_args_size) Yok E_value_args_size_ok mixed Tryd.func79 rfl rfl rfl (by decide) (args := [.s (.int .i64) x]) (Nat.le_of_ble_eq_true rfl) (by kernel_rfl) (fun r => [.s .bool r]) ?_ h
  intro goto ret
  unfold cmp_isNaN
  simp only [bnd_G, bnd_ite, bnd_bind, bnd_some, -eq_self]
  kernel_rfl
noncomputable def e_cmp_isNaN : List DT → Option CallRes
  | [.s t0 y0] => (castT (b := (.int .i64)) y0).bind fun x => some ⟨Bool, cmp_isNaN x, fun r => .s .bool r, false, true⟩
  | _ => none
noncomputable def E_cmp_isNaN : Env := Env.add 79 e_cmp_isNaN E_value_args_size
theorem E_cmp_isNaN_ok : EnvOk X0 E_cmp_isNaN := by
  refine EnvOk.add E_value_args_size_ok (fun args c h => ?_)
  unfold e_cmp_isNaN at h
  split at h
  · obtain ⟨v0, c0, h⟩ := Option.bind_eq_some_iff.1 h
    obtain ⟨rfl, rfl⟩ := castT_some c0
    cases h
    exact ⟨fun r hr => .inl ⟨by kernel_rfl, ok_cmp_isNaN _ r hr⟩, fun hb => fun r => noSl_res (by rfl)⟩
  · cases h

/-! ### 57 cmp.Compare[int] -/
def F_cmp_Compare : FnD := { n := 20, rs := [4] }
set_option maxRecDepth 100000 in
theorem ok_cmp_Compare (x : Int) (y : Int) (r : Int) (h : cmp_Compare x y = some r) : APure X0 57 ([.s (.int .i64) x, .s (.int .i64) y].map DT.toT) (resT ([.s (.int .i64) r].map DT.toT)) := by
  refine APure_of_straight (F := F_cmp_Compare) (fuel := 3000) (E := E_cmp_isNaN) Yok E_cmp_isNaN_ok mixed Tryd.func57 rfl rfl rfl (by decide) (args := [.s (.int .i64) x, .s (.int .i64) y]) (Nat.le_of_ble_eq_true rfl) (by kernel_rfl) (fun r => [.s (.int .i64) r]) ?_ h
  intro goto ret
  unfold cmp_Compare
  simp only [bnd_G, bnd_ite, bnd_bind, bnd_some, -eq_self]
  kernel_rfl
noncomputable def e_cmp_Compare : List DT → Option CallRes
  | [.s t0 y0, .s t1 y1] => (castT (b := (.int .i64)) y0).bind fun x => (castT (b := (.int .i64)) y1).bind fun y => some ⟨Int, cmp_Compare x y, fun r => .s (.int .i64) r, (0 : Int), true⟩
  | _ => none
noncomputable def E_cmp_Compare : Env := Env.add 57 e_cmp_Compare E_cmp_isNaN
theorem E_cmp_Compare_ok : EnvOk X0 E_cmp_Compare := by
  refine EnvOk.add E_cmp_isNaN_ok (fun args c h => ?_)
  unfold e_cmp_Compare at h
  split at h
  · obtain ⟨v0, c0, h⟩ := Option.bind_eq_some_iff.1 h
    obtain ⟨rfl, rfl⟩ := castT_some c0
    obtain ⟨v1, c1, h⟩ := Option.bind_eq_some_iff.1 h
    obtain ⟨rfl, rfl⟩ := castT_some c1
    cases h
    exact ⟨fun r hr => .inl ⟨by kernel_rfl, ok_cmp_Compare _ _ r hr⟩, fun hb => fun r => noSl_res (by rfl)⟩
  · cases h

/-! ### 96 bytealg_abigen_runtime_cmpstring: in no text -/
set_option maxRecDepth 100000 in
theorem ok_bytealg_abigen_runtime_cmpstring (a b : List UInt8) (r : Int) (h : bytealg_abigen_runtime_cmpstring a b = some r) : AExt X0 96 ([.s .str a, .s .str b].map DT.toT) (DT.s (.int .i64) r).toT := by
  cases h
  have := AExt_compareString (X := X0) (f := 96) Tryd.func96 (by decide +kernel) (by decide +kernel) (by kernel_rfl) (by kernel_rfl) (mkS a) (mkS b)
  rw [bl_mkS, bl_mkS] at this
  exact this
noncomputable def e_bytealg_abigen_runtime_cmpstring : List DT → Option CallRes
  | [.s t0 y0, .s t1 y1] => (castT (b := .str) y0).bind fun a => (castT (b := .str) y1).bind fun b => some ⟨Int, bytealg_abigen_runtime_cmpstring a b, fun r => .s (.int .i64) r, (0 : Int), false⟩
  | _ => none
noncomputable def E_bytealg_abigen_runtime_cmpstring : Env := Env.add 96 e_bytealg_abigen_runtime_cmpstring E_cmp_Compare
theorem E_bytealg_abigen_runtime_cmpstring_ok : EnvOk X0 E_bytealg_abigen_runtime_cmpstring := by
  refine EnvOk.add E_cmp_Compare_ok (fun args c h => ?_)
  unfold e_bytealg_abigen_runtime_cmpstring at h
  split at h
  · obtain ⟨v0, c0, h⟩ := Option.bind_eq_some_iff.1 h
    obtain ⟨rfl, rfl⟩ := castT_some c0
    obtain ⟨v1, c1, h⟩ := Option.bind_eq_some_iff.1 h
    obtain ⟨rfl, rfl⟩ := castT_some c1
    cases h
    exact ⟨fun r hr => .inr ⟨rfl, ok_bytealg_abigen_runtime_cmpstring _ _ r hr⟩, fun hb => by cases hb⟩
  · cases h


/-! ### 80 internal/bytealg.CompareString -/
def F_bytealg_CompareString : FnD := { n := 8, rs := [4] }
set_option maxRecDepth 100000 in
theorem ok_bytealg_CompareString (a : (List UInt8)) (b : (List UInt8)) (r : Int) (h : bytealg_CompareString a b = some r) : APure X0 80 ([.s .str a, .s .str b].map DT.toT) (resT ([.s (.int .i64) r].map DT.toT)) := by
  refine APure_of_straight (F := F_bytealg_CompareString) (fuel := 3000) (E := E_bytealg_abigen_runtime_cmpstring) Yok E_bytealg_abigen_runtime_cmpstring_ok mixed Tryd.func80 rfl rfl rfl (by decide) (args := [.s .str a, .s .str b]) (Nat.le_of_ble_eq_true rfl) (by kernel_rfl) (fun r => [.s (.int .i64) r]) ?_ h
  intro goto ret
  unfold bytealg_CompareString
  simp only [bnd_G, bnd_ite, bnd_bind, bnd_some, -eq_self]
  kernel_rfl
noncomputable def e_bytealg_CompareString : List DT → Option CallRes
  | [.s t0 y0, .s t1 y1] => (castT (b := .str) y0).bind fun a => (castT (b := .str) y1).bind fun b => some ⟨Int, bytealg_CompareString a b, fun r => .s (.int .i64) r, (0 : Int), true⟩
  | _ => none
noncomputable def E_bytealg_CompareString : Env := Env.add 80 e_bytealg_CompareString E_bytealg_abigen_runtime_cmpstring
theorem E_bytealg_CompareString_ok : EnvOk X0 E_bytealg_CompareString := by
  refine EnvOk.add E_bytealg_abigen_runtime_cmpstring_ok (fun args c h => ?_)
  unfold e_bytealg_CompareString at h
  split at h
  · obtain ⟨v0, c0, h⟩ := Option.bind_eq_some_iff.1 h
    obtain ⟨rfl, rfl⟩ := castT_some c0
    obtain ⟨v1, c1, h⟩ := Option.bind_eq_some_iff.1 h
    obtain ⟨rfl, rfl⟩ := castT_some c1
    cases h
    exact ⟨fun r hr => .inl ⟨by kernel_rfl, ok_bytealg_CompareString _ _ r hr⟩, fun hb => fun r => noSl_res (by rfl)⟩
  · cases h

/-! ### 58 strings.Compare -/
def F_strings_Compare : FnD := { n := 8, rs := [4] }
set_option maxRecDepth 100000 in
theorem ok_strings_Compare (a : (List UInt8)) (b : (List UInt8)) (r : Int) (h : strings_Compare a b = some r) : APure X0 58 ([.s .str a, .s .str b].map DT.toT) (resT ([.s (.int .i64) r].map DT.toT)) := by
  refine APure_of_straight (F := F_strings_Compare) (fuel := 3000) (E := E_bytealg_CompareString) Yok E_bytealg_CompareString_ok mixed Tryd.func58 rfl rfl rfl (by decide) (args := [.s .str a, .s .str b]) (Nat.le_of_ble_eq_true rfl) (by kernel_rfl) (fun r => [.s (.int .i64) r]) ?_ h
  intro goto ret
  unfold strings_Compare
  simp only [bnd_G, bnd_ite, bnd_bind, bnd_some, -eq_self]
  kernel_rfl
noncomputable def e_strings_Compare : List DT → Option CallRes
  | [.s t0 y0, .s t1 y1] => (castT (b := .str) y0).bind fun a => (castT (b := .str) y1).bind fun b => some ⟨Int, strings_Compare a b, fun r => .s (.int .i64) r, (0 : Int), true⟩
  | _ => none
noncomputable def E_strings_Compare : Env := Env.add 58 e_strings_Compare E_bytealg_CompareString
theorem E_strings_Compare_ok : EnvOk X0 E_strings_Compare := by
  refine EnvOk.add E_bytealg_CompareString_ok (fun args c h => ?_)
  unfold e_strings_Compare at h
  split at h
  · obtain ⟨v0, c0, h⟩ := Option.bind_eq_some_iff.1 h
    obtain ⟨rfl, rfl⟩ := castT_some c0
    obtain ⟨v1, c1, h⟩ := Option.bind_eq_some_iff.1 h
    obtain ⟨rfl, rfl⟩ := castT_some c1
    cases h
    exact ⟨fun r hr => .inl ⟨by kernel_rfl, ok_strings_Compare _ _ r hr⟩, fun hb => fun r => noSl_res (by rfl)⟩
  · cases h

/-! ### 59 slices.CompareFunc[[]onceweb/api.Value,[]onceweb/api.Value,onceweb/api.Value,onceweb/api.Value] -/
def F_slices_CompareFunc : FnD := { n := 39, rs := [6], labels := [(2, [0, 1, 2, 11, 12, 13])] }
def lab_slices_CompareFunc : L_slices_CompareFunc → Nat × DSt
  | .l2 s1 s2 cmp x11 x12 x13 => (2, [(0, .t (.s (.sl 1 (.sl 4 tyAtom)) s1)), (1, .t (.s (.sl 1 (.sl 4 tyAtom)) s2)), (2, .t (.s .opq cmp)), (11, .t (.s (.sl 1 (.sl 4 tyAtom)) x11)), (12, .t (.s (.int .i64) x12)), (13, .t (.s (.int .i64) x13))])
noncomputable def ed_slices_CompareFunc (dyn : Value → (List tAtom) → (List tAtom) → Option Int) : List DT → Option CallRes
  | [.tup [.u, .s tv yv], .s t0 y0, .s t1 y1] => (castT (b := .opq) yv).bind fun v_ => (castT (b := (.sl 4 tyAtom)) y0).bind fun a0 => (castT (b := (.sl 4 tyAtom)) y1).bind fun a1 => some ⟨Int, dyn v_ a0 a1, fun r_ => (.s (.int .i64) r_ : DT), (0 : Int), true⟩
  | _ => none
theorem ed_slices_CompareFunc_ok (dyn : Value → (List tAtom) → (List tAtom) → Option Int) (hd : ∀ (v_ : Value) (a0 : (List tAtom)) (a1 : (List tAtom)) (r_ : Int), dyn v_ a0 a1 = some r_ → DynC X0 v_ (([.s (.sl 4 tyAtom) a0, .s (.sl 4 tyAtom) a1] : List DT).map DT.toT) (.s (.int .i64) r_ : DT).toT) : ∀ (g : FuncId) (args : List DT) (c : CallRes), ed_slices_CompareFunc dyn args = some c → CallOk X0 g args c := by
  intro g args c h
  unfold ed_slices_CompareFunc at h
  split at h
  · obtain ⟨vv, cv, h⟩ := Option.bind_eq_some_iff.1 h
    obtain ⟨rfl, rfl⟩ := castT_some cv
    obtain ⟨v0, c0, h⟩ := Option.bind_eq_some_iff.1 h
    obtain ⟨rfl, rfl⟩ := castT_some c0
    obtain ⟨v1, c1, h⟩ := Option.bind_eq_some_iff.1 h
    obtain ⟨rfl, rfl⟩ := castT_some c1
    cases h
    exact ⟨fun r hr => hd _ _ _ r hr, fun hb => fun r => noSl_res (by rfl)⟩
  · cases h
set_option maxRecDepth 100000 in
theorem ok_slices_CompareFunc (dyn : Value → (List tAtom) → (List tAtom) → Option Int) (hd : ∀ (v_ : Value) (a0 : (List tAtom)) (a1 : (List tAtom)) (r_ : Int), dyn v_ a0 a1 = some r_ → DynC X0 v_ (([.s (.sl 4 tyAtom) a0, .s (.sl 4 tyAtom) a1] : List DT).map DT.toT) (.s (.int .i64) r_ : DT).toT) (s1 : (List (List tAtom))) (s2 : (List (List tAtom))) (cmp : Value) (r : Int) (h : slices_CompareFunc dyn s1 s2 cmp = some r) : APure X0 59 ([.s (.sl 1 (.sl 4 tyAtom)) s1, .s (.sl 1 (.sl 4 tyAtom)) s2, .s .opq cmp].map DT.toT) (resT ([.s (.int .i64) r].map DT.toT)) := by
  unfold slices_CompareFunc at h
  refine APure_of_machine (F := F_slices_CompareFunc) (fuel := 3000) (E := (Env.addD (ed_slices_CompareFunc dyn) E_strings_Compare)) Yok (EnvOk.addD E_strings_Compare_ok (ed_slices_CompareFunc_ok dyn hd)) mixed Tryd.func59 rfl rfl rfl (by decide) (args := [.s (.sl 1 (.sl 4 tyAtom)) s1, .s (.sl 1 (.sl 4 tyAtom)) s2, .s .opq cmp]) (Nat.le_of_ble_eq_true rfl) (by kernel_rfl) lab_slices_CompareFunc (st_slices_CompareFunc dyn) (fun r => [.s (.int .i64) r]) ?_ ?_ ?_ h
  · intro l; cases l
    · exact WF_list ⟨trivial, trivial, trivial, trivial, trivial, trivial, trivial⟩
  · intro l goto ret; cases l with
    | l2 s1 s2 cmp x11 x12 x13 =>
      show _ = push (sg_slices_CompareFunc_2 dyn s1 s2 cmp x11 x12 x13) (fun l' => goto (lab_slices_CompareFunc l').1 (lab_slices_CompareFunc l').2) (fun r => ret [.s (.int .i64) r])
      unfold sg_slices_CompareFunc_2
      simp only [push_G, push_ite, push_bind, push_inl, push_inr, -eq_self]
      kernel_rfl
  · intro goto ret
    show _ = push (en_slices_CompareFunc dyn s1 s2 cmp) (fun l' => goto (lab_slices_CompareFunc l').1 (lab_slices_CompareFunc l').2) (fun r => ret [.s (.int .i64) r])
    unfold en_slices_CompareFunc
    simp only [push_G, push_ite, push_bind, push_inl, push_inr, -eq_self]
    kernel_rfl
noncomputable def e_slices_CompareFunc (dyn : Value → (List tAtom) → (List tAtom) → Option Int) : List DT → Option CallRes
  | [.s t0 y0, .s t1 y1, .s t2 y2] => (castT (b := (.sl 1 (.sl 4 tyAtom))) y0).bind fun s1 => (castT (b := (.sl 1 (.sl 4 tyAtom))) y1).bind fun s2 => (castT (b := .opq) y2).bind fun cmp => some ⟨Int, slices_CompareFunc dyn s1 s2 cmp, fun r => .s (.int .i64) r, (0 : Int), true⟩
  | _ => none
theorem he_slices_CompareFunc (dyn : Value → (List tAtom) → (List tAtom) → Option Int) (hd : ∀ (v_ : Value) (a0 : (List tAtom)) (a1 : (List tAtom)) (r_ : Int), dyn v_ a0 a1 = some r_ → DynC X0 v_ (([.s (.sl 4 tyAtom) a0, .s (.sl 4 tyAtom) a1] : List DT).map DT.toT) (.s (.int .i64) r_ : DT).toT) : ∀ (args : List DT) (c : CallRes), e_slices_CompareFunc dyn args = some c → CallOk X0 59 args c := by
  intro args c h
  unfold e_slices_CompareFunc at h
  split at h
  · obtain ⟨v0, c0, h⟩ := Option.bind_eq_some_iff.1 h
    obtain ⟨rfl, rfl⟩ := castT_some c0
    obtain ⟨v1, c1, h⟩ := Option.bind_eq_some_iff.1 h
    obtain ⟨rfl, rfl⟩ := castT_some c1
    obtain ⟨v2, c2, h⟩ := Option.bind_eq_some_iff.1 h
    obtain ⟨rfl, rfl⟩ := castT_some c2
    cases h
    exact ⟨fun r hr => .inl ⟨by kernel_rfl, ok_slices_CompareFunc dyn hd _ _ _ r hr⟩, fun hb => fun r => noSl_res (by rfl)⟩
  · cases h

/-! ### 38 onceweb/value.compare -/
def F_value_compare : FnD := { n := 45, rs := [4] }
noncomputable def e_value_compare_n (fu_ : Nat) : List DT → Option CallRes
  | [.s t0 y0, .s t1 y1] => (castT (b := (.sl 4 tyAtom)) y0).bind fun a => (castT (b := (.sl 4 tyAtom)) y1).bind fun b => some ⟨Int, value_compare_n fu_ a b, fun r => .s (.int .i64) r, (0 : Int), true⟩
  | _ => none
noncomputable def E_value_compare_n (fu_ : Nat) : Env := Env.add 38 (e_value_compare_n fu_) E_strings_Compare
theorem E_value_compare_n_ok (fu_ : Nat) (ih : ∀ (a : (List tAtom)) (b : (List tAtom)) (r : Int), value_compare_n fu_ a b = some r → APure X0 38 ([.s (.sl 4 tyAtom) a, .s (.sl 4 tyAtom) b].map DT.toT) (resT ([.s (.int .i64) r].map DT.toT))) : EnvOk X0 (E_value_compare_n fu_) := by
  refine EnvOk.add E_strings_Compare_ok (fun args c h => ?_)
  unfold e_value_compare_n at h
  split at h
  · obtain ⟨v0, c0, h⟩ := Option.bind_eq_some_iff.1 h
    obtain ⟨rfl, rfl⟩ := castT_some c0
    obtain ⟨v1, c1, h⟩ := Option.bind_eq_some_iff.1 h
    obtain ⟨rfl, rfl⟩ := castT_some c1
    cases h
    exact ⟨fun r hr => .inl ⟨by kernel_rfl, ih _ _ r hr⟩, fun hb => fun r => noSl_res (by rfl)⟩
  · cases h
set_option maxRecDepth 100000 in
theorem ok_value_compare_n : ∀ (fu_ : Nat) (a : (List tAtom)) (b : (List tAtom)) (r : Int) (h : value_compare_n fu_ a b = some r), APure X0 38 ([.s (.sl 4 tyAtom) a, .s (.sl 4 tyAtom) b].map DT.toT) (resT ([.s (.int .i64) r].map DT.toT))
  | 0, a, b, r, h => by unfold value_compare_n at h; cases h
  | fu_ + 1, a, b, r, h => by
    unfold value_compare_n at h
    refine APure_of_straight (F := F_value_compare) (fuel := 3000) (E := (Env.add 59 (e_slices_CompareFunc (fun v_ a0 a1 => if fnIs v_ 38 = true then (value_compare_n fu_) a0 a1 else none)) (E_value_compare_n fu_))) Yok (EnvOk.add (E_value_compare_n_ok fu_ (ok_value_compare_n fu_)) (he_slices_CompareFunc (fun v_ a0 a1 => if fnIs v_ 38 = true then (value_compare_n fu_) a0 a1 else none) (fun v_ a0 a1 r_ h => dyn_or h (fun hv hx => ⟨38, fnIs_spec hv, by kernel_rfl, ok_value_compare_n fu_ a0 a1 r_ hx⟩) (fun h => by cases h)))) mixed Tryd.func38 rfl rfl rfl (by decide) (args := [.s (.sl 4 tyAtom) a, .s (.sl 4 tyAtom) b]) (Nat.le_of_ble_eq_true rfl) (by kernel_rfl) (fun r => [.s (.int .i64) r]) ?_ h
    intro goto ret
    unfold en_value_compare
    simp only [bnd_G, bnd_ite, bnd_bind, bnd_some, -eq_self]
    kernel_rfl
theorem ok_value_compare (a : (List tAtom)) (b : (List tAtom)) (r : Int) (h : value_compare a b = some r) : APure X0 38 ([.s (.sl 4 tyAtom) a, .s (.sl 4 tyAtom) b].map DT.toT) (resT ([.s (.int .i64) r].map DT.toT)) := ok_value_compare_n 64 a b r h
noncomputable def e_value_compare : List DT → Option CallRes
  | [.s t0 y0, .s t1 y1] => (castT (b := (.sl 4 tyAtom)) y0).bind fun a => (castT (b := (.sl 4 tyAtom)) y1).bind fun b => some ⟨Int, value_compare a b, fun r => .s (.int .i64) r, (0 : Int), true⟩
  | _ => none
noncomputable def E_value_compare : Env := Env.add 38 (e_value_compare) E_strings_Compare
theorem E_value_compare_ok : EnvOk X0 (E_value_compare) := by
  refine EnvOk.add E_strings_Compare_ok (fun args c h => ?_)
  unfold e_value_compare at h
  split at h
  · obtain ⟨v0, c0, h⟩ := Option.bind_eq_some_iff.1 h
    obtain ⟨rfl, rfl⟩ := castT_some c0
    obtain ⟨v1, c1, h⟩ := Option.bind_eq_some_iff.1 h
    obtain ⟨rfl, rfl⟩ := castT_some c1
    cases h
    exact ⟨fun r hr => .inl ⟨by kernel_rfl, ok_value_compare _ _ r hr⟩, fun hb => fun r => noSl_res (by rfl)⟩
  · cases h

/-! ### 94 onceweb/value.truth -/
def F_value_truth : FnD := { n := 11, rs := [2, 3] }
set_option maxRecDepth 100000 in
theorem ok_value_truth (b : Bool) (r : ((List tAtom) × Bool)) (h : value_truth b = some r) : APure X0 94 ([.s .bool b].map DT.toT) (resT ([.own 50 tyAtom r.1, .s .bool r.2].map DT.toT)) := by
  refine APure_of_straight (F := F_value_truth) (fuel := 3000) (E := E_value_compare) Yok E_value_compare_ok mixed Tryd.func94 rfl rfl rfl (by decide) (args := [.s .bool b]) (Nat.le_of_ble_eq_true rfl) (by kernel_rfl) (fun r => [.own 50 tyAtom r.1, .s .bool r.2]) ?_ h
  intro goto ret
  unfold value_truth
  simp only [bnd_G, bnd_ite, bnd_bind, bnd_some, -eq_self]
  kernel_rfl
noncomputable def e_value_truth : List DT → Option CallRes
  | [.s t0 y0] => (castT (b := .bool) y0).bind fun b => some ⟨((List tAtom) × Bool), value_truth b, fun r => .tup [.own 50 tyAtom r.1, .s .bool r.2], (([] : List tAtom), false), true⟩
  | _ => none
noncomputable def E_value_truth : Env := Env.add 94 e_value_truth E_value_compare
theorem E_value_truth_ok : EnvOk X0 E_value_truth := by
  refine EnvOk.add E_value_compare_ok (fun args c h => ?_)
  unfold e_value_truth at h
  split at h
  · obtain ⟨v0, c0, h⟩ := Option.bind_eq_some_iff.1 h
    obtain ⟨rfl, rfl⟩ := castT_some c0
    cases h
    exact ⟨fun r hr => .inl ⟨by kernel_rfl, ok_value_truth _ r hr⟩, fun hb => fun r => noSl_res (by rfl)⟩
  · cases h

/-! ### 75 (onceweb/value.args).less -/
def F_value_args_less : FnD := { n := 15, rs := [2, 3] }
set_option maxRecDepth 100000 in
theorem ok_value_args_less (a : (List (List tAtom))) (r : ((List tAtom) × Bool)) (h : value_args_less a = some r) : APure X0 75 ([.s (.sl 1 (.sl 4 tyAtom)) a].map DT.toT) (resT ([.own 50 tyAtom r.1, .s .bool r.2].map DT.toT)) := by
  refine APure_of_straight (F := F_value_args_less) (fuel := 3000) (E := E_value_truth) Yok E_value_truth_ok mixed Tryd.func75 rfl rfl rfl (by decide) (args := [.s (.sl 1 (.sl 4 tyAtom)) a]) (Nat.le_of_ble_eq_true rfl) (by kernel_rfl) (fun r => [.own 50 tyAtom r.1, .s .bool r.2]) ?_ h
  intro goto ret
  unfold value_args_less
  simp only [bnd_G, bnd_ite, bnd_bind, bnd_some, -eq_self]
  kernel_rfl
noncomputable def e_value_args_less : List DT → Option CallRes
  | [.s t0 y0] => (castT (b := (.sl 1 (.sl 4 tyAtom))) y0).bind fun a => some ⟨((List tAtom) × Bool), value_args_less a, fun r => .tup [.own 50 tyAtom r.1, .s .bool r.2], (([] : List tAtom), false), true⟩
  | _ => none
noncomputable def E_value_args_less : Env := Env.add 75 e_value_args_less E_value_truth
theorem E_value_args_less_ok : EnvOk X0 E_value_args_less := by
  refine EnvOk.add E_value_truth_ok (fun args c h => ?_)
  unfold e_value_args_less at h
  split at h
  · obtain ⟨v0, c0, h⟩ := Option.bind_eq_some_iff.1 h
    obtain ⟨rfl, rfl⟩ := castT_some c0
    cases h
    exact ⟨fun r hr => .inl ⟨by kernel_rfl, ok_value_args_less _ r hr⟩, fun hb => fun r => noSl_res (by rfl)⟩
  · cases h

/-! ### 76 (onceweb/value.args).same -/
def F_value_args_same : FnD := { n := 15, rs := [2, 3] }
set_option maxRecDepth 100000 in
theorem ok_value_args_same (a : (List (List tAtom))) (r : ((List tAtom) × Bool)) (h : value_args_same a = some r) : APure X0 76 ([.s (.sl 1 (.sl 4 tyAtom)) a].map DT.toT) (resT ([.own 50 tyAtom r.1, .s .bool r.2].map DT.toT)) := by
  refine APure_of_straight (F := F_value_args_same) (fuel := 3000) (E := E_value_args_less) Yok E_value_args_less_ok mixed Tryd.func76 rfl rfl rfl (by decide) (args := [.s (.sl 1 (.sl 4 tyAtom)) a]) (Nat.le_of_ble_eq_true rfl) (by kernel_rfl) (fun r => [.own 50 tyAtom r.1, .s .bool r.2]) ?_ h
  intro goto ret
  unfold value_args_same
  simp only [bnd_G, bnd_ite, bnd_bind, bnd_some, -eq_self]
  kernel_rfl
noncomputable def e_value_args_same : List DT → Option CallRes
  | [.s t0 y0] => (castT (b := (.sl 1 (.sl 4 tyAtom))) y0).bind fun a => some ⟨((List tAtom) × Bool), value_args_same a, fun r => .tup [.own 50 tyAtom r.1, .s .bool r.2], (([] : List tAtom), false), true⟩
  | _ => none
noncomputable def E_value_args_same : Env := Env.add 76 e_value_args_same E_value_args_less
theorem E_value_args_same_ok : EnvOk X0 E_value_args_same := by
  refine EnvOk.add E_value_args_less_ok (fun args c h => ?_)
  unfold e_value_args_same at h
  split at h
  · obtain ⟨v0, c0, h⟩ := Option.bind_eq_some_iff.1 h
    obtain ⟨rfl, rfl⟩ := castT_some c0
    cases h
    exact ⟨fun r hr => .inl ⟨by kernel_rfl, ok_value_args_same _ r hr⟩, fun hb => fun r => noSl_res (by rfl)⟩
  · cases h

/-! ### 54 onceweb/value.way -/
def F_value_way : FnD := { n := 23, rs := [2, 3] }
set_option maxRecDepth 100000 in
theorem ok_value_way (kind : Int) (r : (Int × Value)) (h : value_way kind = some r) : APure X0 54 ([.s (.int .i64) kind].map DT.toT) (resT ([.s (.int .i64) r.1, .s .opq r.2].map DT.toT)) := by
  refine APure_of_straight (F := F_value_way) (fuel := 3000) (E := E_value_args_same) Yok E_value_args_same_ok mixed Tryd.func54 rfl rfl rfl (by decide) (args := [.s (.int .i64) kind]) (Nat.le_of_ble_eq_true rfl) (by kernel_rfl) (fun r => [.s (.int .i64) r.1, .s .opq r.2]) ?_ h
  intro goto ret
  unfold value_way
  simp only [bnd_G, bnd_ite, bnd_bind, bnd_some, -eq_self]
  kernel_rfl
noncomputable def e_value_way : List DT → Option CallRes
  | [.s t0 y0] => (castT (b := (.int .i64)) y0).bind fun kind => some ⟨(Int × Value), value_way kind, fun r => .tup [.s (.int .i64) r.1, .s .opq r.2], ((0 : Int), Value.nilFunc), true⟩
  | _ => none
noncomputable def E_value_way : Env := Env.add 54 e_value_way E_value_args_same
theorem E_value_way_ok : EnvOk X0 E_value_way := by
  refine EnvOk.add E_value_args_same_ok (fun args c h => ?_)
  unfold e_value_way at h
  split at h
  · obtain ⟨v0, c0, h⟩ := Option.bind_eq_some_iff.1 h
    obtain ⟨rfl, rfl⟩ := castT_some c0
    cases h
    exact ⟨fun r hr => .inl ⟨by kernel_rfl, ok_value_way _ r hr⟩, fun hb => fun r => noSl_res (by rfl)⟩
  · cases h

/-! ### 29 onceweb/value.Do -/
def F_value_Do : FnD := { n := 47, rs := [4, 5, 6] }
theorem dyn_value_Do_ok : ∀ (v_ : Value) (a0 : (List (List tAtom))) (r_ : ((List tAtom) × Bool)), dyn_value_Do v_ a0 = some r_ → DynC X0 v_ (([.s (.sl 1 (.sl 4 tyAtom)) a0] : List DT).map DT.toT) (.tup [.own 50 tyAtom r_.1, .s .bool r_.2] : DT).toT := by
  intro v_ a0 r_ h
  unfold dyn_value_Do at h
  refine dyn_or h (fun hv hx => ⟨68, fnIs_spec hv, by kernel_rfl, ok_value_args_list a0 r_ hx⟩) (fun h => ?_)
  refine dyn_or h (fun hv hx => ⟨69, fnIs_spec hv, by kernel_rfl, ok_value_args_add a0 r_ hx⟩) (fun h => ?_)
  refine dyn_or h (fun hv hx => ⟨70, fnIs_spec hv, by kernel_rfl, ok_value_args_sub a0 r_ hx⟩) (fun h => ?_)
  refine dyn_or h (fun hv hx => ⟨71, fnIs_spec hv, by kernel_rfl, ok_value_args_mul a0 r_ hx⟩) (fun h => ?_)
  refine dyn_or h (fun hv hx => ⟨72, fnIs_spec hv, by kernel_rfl, ok_value_args_join a0 r_ hx⟩) (fun h => ?_)
  refine dyn_or h (fun hv hx => ⟨73, fnIs_spec hv, by kernel_rfl, ok_value_args_item a0 r_ hx⟩) (fun h => ?_)
  refine dyn_or h (fun hv hx => ⟨74, fnIs_spec hv, by kernel_rfl, ok_value_args_size a0 r_ hx⟩) (fun h => ?_)
  refine dyn_or h (fun hv hx => ⟨75, fnIs_spec hv, by kernel_rfl, ok_value_args_less a0 r_ hx⟩) (fun h => ?_)
  refine dyn_or h (fun hv hx => ⟨76, fnIs_spec hv, by kernel_rfl, ok_value_args_same a0 r_ hx⟩) (fun h => ?_)
  cases h
noncomputable def ed_value_Do : List DT → Option CallRes
  | [.tup [.u, .s tv yv], .s t0 y0] => (castT (b := .opq) yv).bind fun v_ => (castT (b := (.sl 1 (.sl 4 tyAtom))) y0).bind fun a0 => some ⟨((List tAtom) × Bool), dyn_value_Do v_ a0, fun r_ => (.tup [.own 50 tyAtom r_.1, .s .bool r_.2] : DT), (([] : List tAtom), false), true⟩
  | _ => none
theorem ed_value_Do_ok : ∀ (g : FuncId) (args : List DT) (c : CallRes), ed_value_Do args = some c → CallOk X0 g args c := by
  intro g args c h
  unfold ed_value_Do at h
  split at h
  · obtain ⟨vv, cv, h⟩ := Option.bind_eq_some_iff.1 h
    obtain ⟨rfl, rfl⟩ := castT_some cv
    obtain ⟨v0, c0, h⟩ := Option.bind_eq_some_iff.1 h
    obtain ⟨rfl, rfl⟩ := castT_some c0
    cases h
    exact ⟨fun r hr => dyn_value_Do_ok _ _ r hr, fun hb => fun r => noSl_res (by rfl)⟩
  · cases h
set_option maxRecDepth 100000 in
theorem ok_value_Do (kind : Int) (l : (List (List tAtom))) (r : ((List tAtom) × Bool × Int)) (h : value_Do kind l = some r) : APure X0 29 ([.s (.int .i64) kind, .s (.sl 1 (.sl 4 tyAtom)) l].map DT.toT) (resT ([.own 50 tyAtom r.1, .s .bool r.2.1, .s (.int .i64) r.2.2].map DT.toT)) := by
  unfold value_Do at h
  refine APure_of_straight (F := F_value_Do) (fuel := 3000) (E := (Env.addD (ed_value_Do) E_value_way)) Yok (EnvOk.addD E_value_way_ok (ed_value_Do_ok)) mixed Tryd.func29 rfl rfl rfl (by decide) (args := [.s (.int .i64) kind, .s (.sl 1 (.sl 4 tyAtom)) l]) (Nat.le_of_ble_eq_true rfl) (by kernel_rfl) (fun r => [.own 50 tyAtom r.1, .s .bool r.2.1, .s (.int .i64) r.2.2]) ?_ h
  intro goto ret
  unfold en_value_Do
  simp only [bnd_G, bnd_ite, bnd_bind, bnd_some, -eq_self]
  kernel_rfl
noncomputable def e_value_Do : List DT → Option CallRes
  | [.s t0 y0, .s t1 y1] => (castT (b := (.int .i64)) y0).bind fun kind => (castT (b := (.sl 1 (.sl 4 tyAtom))) y1).bind fun l => some ⟨((List tAtom) × Bool × Int), value_Do kind l, fun r => .tup [.own 50 tyAtom r.1, .s .bool r.2.1, .s (.int .i64) r.2.2], (([] : List tAtom), false, (0 : Int)), true⟩
  | _ => none
noncomputable def E_value_Do : Env := Env.add 29 (e_value_Do) E_value_way
theorem E_value_Do_ok : EnvOk X0 (E_value_Do) := by
  refine EnvOk.add E_value_way_ok (fun args c h => ?_)
  unfold e_value_Do at h
  split at h
  · obtain ⟨v0, c0, h⟩ := Option.bind_eq_some_iff.1 h
    obtain ⟨rfl, rfl⟩ := castT_some c0
    obtain ⟨v1, c1, h⟩ := Option.bind_eq_some_iff.1 h
    obtain ⟨rfl, rfl⟩ := castT_some c1
    cases h
    exact ⟨fun r hr => .inl ⟨by kernel_rfl, ok_value_Do _ _ r hr⟩, fun hb => fun r => noSl_res (by rfl)⟩
  · cases h

/-! ### 13 onceweb/onceweblaw07.works -/
def F_law07_works : FnD := { n := 53, rs := [0] }
set_option maxRecDepth 100000 in
theorem ok_law07_works  (r : Bool) (h : law07_works  = some r) : APure X0 13 ([].map DT.toT) (resT ([.s .bool r].map DT.toT)) := by
  refine APure_of_straight (F := F_law07_works) (fuel := 3000) (E := E_value_Do) Yok E_value_Do_ok mixed Tryd.func13 rfl rfl rfl (by decide) (args := []) (Nat.le_of_ble_eq_true rfl) (by kernel_rfl) (fun r => [.s .bool r]) ?_ h
  intro goto ret
  unfold law07_works
  simp only [bnd_G, bnd_ite, bnd_bind, bnd_some, -eq_self]
  kernel_rfl
noncomputable def e_law07_works : List DT → Option CallRes
  | [] => some ⟨Bool, law07_works , fun r => .s .bool r, false, true⟩
  | _ => none
noncomputable def E_law07_works : Env := Env.add 13 e_law07_works E_value_Do
theorem E_law07_works_ok : EnvOk X0 E_law07_works := by
  refine EnvOk.add E_value_Do_ok (fun args c h => ?_)
  unfold e_law07_works at h
  split at h
  · cases h
    exact ⟨fun r hr => .inl ⟨by kernel_rfl, ok_law07_works r hr⟩, fun hb => fun r => noSl_res (by rfl)⟩
  · cases h

/-! ### 14 onceweb/onceweblaw07.do -/
def F_law07_do : FnD := { n := 26, rs := [6, 7] }
set_option maxRecDepth 100000 in
theorem ok_law07_do (kind : Int) (a : (List tAtom)) (b : (List tAtom)) (r : ((List tAtom) × Bool)) (h : law07_do kind a b = some r) : APure X0 14 ([.s (.int .i64) kind, .s (.sl 4 tyAtom) a, .s (.sl 4 tyAtom) b].map DT.toT) (resT ([.own 50 tyAtom r.1, .s .bool r.2].map DT.toT)) := by
  refine APure_of_straight (F := F_law07_do) (fuel := 3000) (E := E_law07_works) Yok E_law07_works_ok mixed Tryd.func14 rfl rfl rfl (by decide) (args := [.s (.int .i64) kind, .s (.sl 4 tyAtom) a, .s (.sl 4 tyAtom) b]) (Nat.le_of_ble_eq_true rfl) (by kernel_rfl) (fun r => [.own 50 tyAtom r.1, .s .bool r.2]) ?_ h
  intro goto ret
  unfold law07_do
  simp only [bnd_G, bnd_ite, bnd_bind, bnd_some, -eq_self]
  kernel_rfl
noncomputable def e_law07_do : List DT → Option CallRes
  | [.s t0 y0, .s t1 y1, .s t2 y2] => (castT (b := (.int .i64)) y0).bind fun kind => (castT (b := (.sl 4 tyAtom)) y1).bind fun a => (castT (b := (.sl 4 tyAtom)) y2).bind fun b => some ⟨((List tAtom) × Bool), law07_do kind a b, fun r => .tup [.own 50 tyAtom r.1, .s .bool r.2], (([] : List tAtom), false), true⟩
  | _ => none
noncomputable def E_law07_do : Env := Env.add 14 e_law07_do E_law07_works
theorem E_law07_do_ok : EnvOk X0 E_law07_do := by
  refine EnvOk.add E_law07_works_ok (fun args c h => ?_)
  unfold e_law07_do at h
  split at h
  · obtain ⟨v0, c0, h⟩ := Option.bind_eq_some_iff.1 h
    obtain ⟨rfl, rfl⟩ := castT_some c0
    obtain ⟨v1, c1, h⟩ := Option.bind_eq_some_iff.1 h
    obtain ⟨rfl, rfl⟩ := castT_some c1
    obtain ⟨v2, c2, h⟩ := Option.bind_eq_some_iff.1 h
    obtain ⟨rfl, rfl⟩ := castT_some c2
    cases h
    exact ⟨fun r hr => .inl ⟨by kernel_rfl, ok_law07_do _ _ _ r hr⟩, fun hb => fun r => noSl_res (by rfl)⟩
  · cases h

/-! ### 17 onceweb/onceweblaw07.size -/
def F_law07_size : FnD := { n := 29, rs := [2, 3] }
set_option maxRecDepth 100000 in
theorem ok_law07_size (v : (List tAtom)) (r : (Int × Bool)) (h : law07_size v = some r) : APure X0 17 ([.s (.sl 4 tyAtom) v].map DT.toT) (resT ([.s (.int .i64) r.1, .s .bool r.2].map DT.toT)) := by
  refine APure_of_straight (F := F_law07_size) (fuel := 3000) (E := E_law07_do) Yok E_law07_do_ok mixed Tryd.func17 rfl rfl rfl (by decide) (args := [.s (.sl 4 tyAtom) v]) (Nat.le_of_ble_eq_true rfl) (by kernel_rfl) (fun r => [.s (.int .i64) r.1, .s .bool r.2]) ?_ h
  intro goto ret
  unfold law07_size
  simp only [bnd_G, bnd_ite, bnd_bind, bnd_some, -eq_self]
  kernel_rfl
noncomputable def e_law07_size : List DT → Option CallRes
  | [.s t0 y0] => (castT (b := (.sl 4 tyAtom)) y0).bind fun v => some ⟨(Int × Bool), law07_size v, fun r => .tup [.s (.int .i64) r.1, .s .bool r.2], ((0 : Int), false), true⟩
  | _ => none
noncomputable def E_law07_size : Env := Env.add 17 e_law07_size E_law07_do
theorem E_law07_size_ok : EnvOk X0 E_law07_size := by
  refine EnvOk.add E_law07_do_ok (fun args c h => ?_)
  unfold e_law07_size at h
  split at h
  · obtain ⟨v0, c0, h⟩ := Option.bind_eq_some_iff.1 h
    obtain ⟨rfl, rfl⟩ := castT_some c0
    cases h
    exact ⟨fun r hr => .inl ⟨by kernel_rfl, ok_law07_size _ r hr⟩, fun hb => fun r => noSl_res (by rfl)⟩
  · cases h

/-! ### 4 onceweb/onceweblaw07.ValueSums -/
def F_law07_ValueSums : FnD := { n := 230, rs := [10], labels := [(5, [0, 1, 2, 3, 4, 11]), (16, [2, 3, 4]), (32, [2, 3, 16, 27, 29, 33]), (38, [2, 3, 16, 27, 29, 33, 34, 35, 36, 37])] }
def lab_law07_ValueSums : L_law07_ValueSums → Nat × DSt
  | .l5 n m a b c kind => (5, [(0, .t (.s (.int .i64) n)), (1, .t (.s (.int .i64) m)), (2, .t (.s (.sl 4 tyAtom) a)), (3, .t (.s (.sl 4 tyAtom) b)), (4, .t (.s (.sl 4 tyAtom) c)), (11, .t (.s (.int .i64) kind))])
  | .l16 a b c => (16, [(2, .t (.s (.sl 4 tyAtom) a)), (3, .t (.s (.sl 4 tyAtom) b)), (4, .t (.s (.sl 4 tyAtom) c))])
  | .l32 a b x s_ t_ i => (32, [(2, .t (.s (.sl 4 tyAtom) a)), (3, .t (.s (.sl 4 tyAtom) b)), (16, .t (.own 50 tyAtom x)), (27, .t (.s (.int .i64) s_)), (29, .t (.s (.int .i64) t_)), (33, .t (.s (.int .i64) i))])
  | .l38 a b x s_ t_ i k is_ h was => (38, [(2, .t (.s (.sl 4 tyAtom) a)), (3, .t (.s (.sl 4 tyAtom) b)), (16, .t (.own 50 tyAtom x)), (27, .t (.s (.int .i64) s_)), (29, .t (.s (.int .i64) t_)), (33, .t (.s (.int .i64) i)), (34, .t (.own 50 tyAtom k)), (35, .t (.s .bool is_)), (36, .t (.own 50 tyAtom h)), (37, .t (.s .bool was))])
set_option maxRecDepth 100000 in
theorem ok_law07_ValueSums (n : Int) (m : Int) (a : (List tAtom)) (b : (List tAtom)) (c : (List tAtom)) (r : Bool) (h : law07_ValueSums n m a b c = some r) : APure X0 4 ([.s (.int .i64) n, .s (.int .i64) m, .s (.sl 4 tyAtom) a, .s (.sl 4 tyAtom) b, .s (.sl 4 tyAtom) c].map DT.toT) (resT ([.s .bool r].map DT.toT)) := by
  refine APure_of_machine (F := F_law07_ValueSums) (fuel := 3000) (E := E_law07_size) Yok E_law07_size_ok mixed Tryd.func4 rfl rfl rfl (by decide) (args := [.s (.int .i64) n, .s (.int .i64) m, .s (.sl 4 tyAtom) a, .s (.sl 4 tyAtom) b, .s (.sl 4 tyAtom) c]) (Nat.le_of_ble_eq_true rfl) (by kernel_rfl) lab_law07_ValueSums st_law07_ValueSums (fun r => [.s .bool r]) ?_ ?_ ?_ h
  · intro l; cases l
    · exact WF_list ⟨trivial, trivial, trivial, trivial, trivial, trivial, trivial⟩
    · exact WF_list ⟨trivial, trivial, trivial, trivial⟩
    · exact WF_list ⟨trivial, trivial, trivial, trivial, trivial, trivial, trivial⟩
    · exact WF_list ⟨trivial, trivial, trivial, trivial, trivial, trivial, trivial, trivial, trivial, trivial, trivial⟩
  · intro l goto ret; cases l with
    | l5 n m a b c kind =>
      show _ = push (sg_law07_ValueSums_5 n m a b c kind) (fun l' => goto (lab_law07_ValueSums l').1 (lab_law07_ValueSums l').2) (fun r => ret [.s .bool r])
      unfold sg_law07_ValueSums_5
      simp only [push_G, push_ite, push_bind, push_inl, push_inr, -eq_self]
      kernel_rfl
    | l16 a b c =>
      show _ = push (sg_law07_ValueSums_16 a b c) (fun l' => goto (lab_law07_ValueSums l').1 (lab_law07_ValueSums l').2) (fun r => ret [.s .bool r])
      unfold sg_law07_ValueSums_16
      simp only [push_G, push_ite, push_bind, push_inl, push_inr, -eq_self]
      kernel_rfl
    | l32 a b x s_ t_ i =>
      show _ = push (sg_law07_ValueSums_32 a b x s_ t_ i) (fun l' => goto (lab_law07_ValueSums l').1 (lab_law07_ValueSums l').2) (fun r => ret [.s .bool r])
      unfold sg_law07_ValueSums_32
      simp only [push_G, push_ite, push_bind, push_inl, push_inr, -eq_self]
      kernel_rfl
    | l38 a b x s_ t_ i k is_ h was =>
      show _ = push (sg_law07_ValueSums_38 a b x s_ t_ i k is_ h was) (fun l' => goto (lab_law07_ValueSums l').1 (lab_law07_ValueSums l').2) (fun r => ret [.s .bool r])
      unfold sg_law07_ValueSums_38
      simp only [push_G, push_ite, push_bind, push_inl, push_inr, -eq_self]
      kernel_rfl
  · intro goto ret
    show _ = push (en_law07_ValueSums n m a b c) (fun l' => goto (lab_law07_ValueSums l').1 (lab_law07_ValueSums l').2) (fun r => ret [.s .bool r])
    unfold en_law07_ValueSums
    simp only [push_G, push_ite, push_bind, push_inl, push_inr, -eq_self]
    kernel_rfl
noncomputable def e_law07_ValueSums : List DT → Option CallRes
  | [.s t0 y0, .s t1 y1, .s t2 y2, .s t3 y3, .s t4 y4] => (castT (b := (.int .i64)) y0).bind fun n => (castT (b := (.int .i64)) y1).bind fun m => (castT (b := (.sl 4 tyAtom)) y2).bind fun a => (castT (b := (.sl 4 tyAtom)) y3).bind fun b => (castT (b := (.sl 4 tyAtom)) y4).bind fun c => some ⟨Bool, law07_ValueSums n m a b c, fun r => .s .bool r, false, true⟩
  | _ => none
noncomputable def E_law07_ValueSums : Env := Env.add 4 e_law07_ValueSums E_law07_size
theorem E_law07_ValueSums_ok : EnvOk X0 E_law07_ValueSums := by
  refine EnvOk.add E_law07_size_ok (fun args c h => ?_)
  unfold e_law07_ValueSums at h
  split at h
  · obtain ⟨v0, c0, h⟩ := Option.bind_eq_some_iff.1 h
    obtain ⟨rfl, rfl⟩ := castT_some c0
    obtain ⟨v1, c1, h⟩ := Option.bind_eq_some_iff.1 h
    obtain ⟨rfl, rfl⟩ := castT_some c1
    obtain ⟨v2, c2, h⟩ := Option.bind_eq_some_iff.1 h
    obtain ⟨rfl, rfl⟩ := castT_some c2
    obtain ⟨v3, c3, h⟩ := Option.bind_eq_some_iff.1 h
    obtain ⟨rfl, rfl⟩ := castT_some c3
    obtain ⟨v4, c4, h⟩ := Option.bind_eq_some_iff.1 h
    obtain ⟨rfl, rfl⟩ := castT_some c4
    cases h
    exact ⟨fun r hr => .inl ⟨by kernel_rfl, ok_law07_ValueSums _ _ _ _ _ r hr⟩, fun hb => fun r => noSl_res (by rfl)⟩
  · cases h

/-! ### 31 onceweb/value.Compare -/
def F_value_Compare : FnD := { n := 21, rs := [4, 5] }
set_option maxRecDepth 100000 in
theorem ok_value_Compare (a : (List tAtom)) (b : (List tAtom)) (r : (Int × Int)) (h : value_Compare a b = some r) : APure X0 31 ([.s (.sl 4 tyAtom) a, .s (.sl 4 tyAtom) b].map DT.toT) (resT ([.s (.int .i64) r.1, .s (.int .i64) r.2].map DT.toT)) := by
  refine APure_of_straight (F := F_value_Compare) (fuel := 3000) (E := E_law07_ValueSums) Yok E_law07_ValueSums_ok mixed Tryd.func31 rfl rfl rfl (by decide) (args := [.s (.sl 4 tyAtom) a, .s (.sl 4 tyAtom) b]) (Nat.le_of_ble_eq_true rfl) (by kernel_rfl) (fun r => [.s (.int .i64) r.1, .s (.int .i64) r.2]) ?_ h
  intro goto ret
  unfold value_Compare
  simp only [bnd_G, bnd_ite, bnd_bind, bnd_some, -eq_self]
  kernel_rfl
noncomputable def e_value_Compare : List DT → Option CallRes
  | [.s t0 y0, .s t1 y1] => (castT (b := (.sl 4 tyAtom)) y0).bind fun a => (castT (b := (.sl 4 tyAtom)) y1).bind fun b => some ⟨(Int × Int), value_Compare a b, fun r => .tup [.s (.int .i64) r.1, .s (.int .i64) r.2], ((0 : Int), (0 : Int)), true⟩
  | _ => none
noncomputable def E_value_Compare : Env := Env.add 31 e_value_Compare E_law07_ValueSums
theorem E_value_Compare_ok : EnvOk X0 E_value_Compare := by
  refine EnvOk.add E_law07_ValueSums_ok (fun args c h => ?_)
  unfold e_value_Compare at h
  split at h
  · obtain ⟨v0, c0, h⟩ := Option.bind_eq_some_iff.1 h
    obtain ⟨rfl, rfl⟩ := castT_some c0
    obtain ⟨v1, c1, h⟩ := Option.bind_eq_some_iff.1 h
    obtain ⟨rfl, rfl⟩ := castT_some c1
    cases h
    exact ⟨fun r hr => .inl ⟨by kernel_rfl, ok_value_Compare _ _ r hr⟩, fun hb => fun r => noSl_res (by rfl)⟩
  · cases h

/-! ### 18 onceweb/onceweblaw07.compare -/
def F_law07_compare : FnD := { n := 25, rs := [4, 5] }
set_option maxRecDepth 100000 in
theorem ok_law07_compare (a : (List tAtom)) (b : (List tAtom)) (r : (Int × Bool)) (h : law07_compare a b = some r) : APure X0 18 ([.s (.sl 4 tyAtom) a, .s (.sl 4 tyAtom) b].map DT.toT) (resT ([.s (.int .i64) r.1, .s .bool r.2].map DT.toT)) := by
  refine APure_of_straight (F := F_law07_compare) (fuel := 3000) (E := E_value_Compare) Yok E_value_Compare_ok mixed Tryd.func18 rfl rfl rfl (by decide) (args := [.s (.sl 4 tyAtom) a, .s (.sl 4 tyAtom) b]) (Nat.le_of_ble_eq_true rfl) (by kernel_rfl) (fun r => [.s (.int .i64) r.1, .s .bool r.2]) ?_ h
  intro goto ret
  unfold law07_compare
  simp only [bnd_G, bnd_ite, bnd_bind, bnd_some, -eq_self]
  kernel_rfl
noncomputable def e_law07_compare : List DT → Option CallRes
  | [.s t0 y0, .s t1 y1] => (castT (b := (.sl 4 tyAtom)) y0).bind fun a => (castT (b := (.sl 4 tyAtom)) y1).bind fun b => some ⟨(Int × Bool), law07_compare a b, fun r => .tup [.s (.int .i64) r.1, .s .bool r.2], ((0 : Int), false), true⟩
  | _ => none
noncomputable def E_law07_compare : Env := Env.add 18 e_law07_compare E_value_Compare
theorem E_law07_compare_ok : EnvOk X0 E_law07_compare := by
  refine EnvOk.add E_value_Compare_ok (fun args c h => ?_)
  unfold e_law07_compare at h
  split at h
  · obtain ⟨v0, c0, h⟩ := Option.bind_eq_some_iff.1 h
    obtain ⟨rfl, rfl⟩ := castT_some c0
    obtain ⟨v1, c1, h⟩ := Option.bind_eq_some_iff.1 h
    obtain ⟨rfl, rfl⟩ := castT_some c1
    cases h
    exact ⟨fun r hr => .inl ⟨by kernel_rfl, ok_law07_compare _ _ r hr⟩, fun hb => fun r => noSl_res (by rfl)⟩
  · cases h

/-! ### 5 onceweb/onceweblaw07.ValueOrder -/
def F_law07_ValueOrder : FnD := { n := 119, rs := [6] }
set_option maxRecDepth 100000 in
theorem ok_law07_ValueOrder (a : (List tAtom)) (b : (List tAtom)) (c : (List tAtom)) (r : Bool) (h : law07_ValueOrder a b c = some r) : APure X0 5 ([.s (.sl 4 tyAtom) a, .s (.sl 4 tyAtom) b, .s (.sl 4 tyAtom) c].map DT.toT) (resT ([.s .bool r].map DT.toT)) := by
  refine APure_of_straight (F := F_law07_ValueOrder) (fuel := 3000) (E := E_law07_compare) Yok E_law07_compare_ok mixed Tryd.func5 rfl rfl rfl (by decide) (args := [.s (.sl 4 tyAtom) a, .s (.sl 4 tyAtom) b, .s (.sl 4 tyAtom) c]) (Nat.le_of_ble_eq_true rfl) (by kernel_rfl) (fun r => [.s .bool r]) ?_ h
  intro goto ret
  unfold law07_ValueOrder
  simp only [bnd_G, bnd_ite, bnd_bind, bnd_some, -eq_self]
  kernel_rfl
noncomputable def e_law07_ValueOrder : List DT → Option CallRes
  | [.s t0 y0, .s t1 y1, .s t2 y2] => (castT (b := (.sl 4 tyAtom)) y0).bind fun a => (castT (b := (.sl 4 tyAtom)) y1).bind fun b => (castT (b := (.sl 4 tyAtom)) y2).bind fun c => some ⟨Bool, law07_ValueOrder a b c, fun r => .s .bool r, false, true⟩
  | _ => none
noncomputable def E_law07_ValueOrder : Env := Env.add 5 e_law07_ValueOrder E_law07_compare
theorem E_law07_ValueOrder_ok : EnvOk X0 E_law07_ValueOrder := by
  refine EnvOk.add E_law07_compare_ok (fun args c h => ?_)
  unfold e_law07_ValueOrder at h
  split at h
  · obtain ⟨v0, c0, h⟩ := Option.bind_eq_some_iff.1 h
    obtain ⟨rfl, rfl⟩ := castT_some c0
    obtain ⟨v1, c1, h⟩ := Option.bind_eq_some_iff.1 h
    obtain ⟨rfl, rfl⟩ := castT_some c1
    obtain ⟨v2, c2, h⟩ := Option.bind_eq_some_iff.1 h
    obtain ⟨rfl, rfl⟩ := castT_some c2
    cases h
    exact ⟨fun r hr => .inl ⟨by kernel_rfl, ok_law07_ValueOrder _ _ _ r hr⟩, fun hb => fun r => noSl_res (by rfl)⟩
  · cases h

/-! ### 19 onceweb/value.Members -/
def F_value_Members : FnD := { n := 33, rs := [2, 3], labels := [(8, [5, 19, 20])] }
def Y_value_Members : DX := { Y0 with o2 := [2, 5] }
theorem Yok_value_Members : DXOk Y_value_Members X0 := ⟨Yok.tab, Yok.gl⟩
def lab_value_Members : L_value_Members → Nat × DSt
  | .l8 out x19 x20 => (8, [(5, .t (.own2 23 50 tyAtom out)), (19, .t (.s (.int .i64) x19)), (20, .t (.s (.int .i64) x20))])
set_option maxRecDepth 100000 in
theorem ok_value_Members (v : (List tAtom)) (r : ((List (Bool × List tAtom)) × Int)) (h : value_Members v = some r) : APure X0 19 ([.s (.sl 4 tyAtom) v].map DT.toT) (resT ([.own2 23 50 tyAtom r.1, .s (.int .i64) r.2].map DT.toT)) := by
  refine APure_of_machine (F := F_value_Members) (fuel := 3000) (E := E_law07_ValueOrder) Yok_value_Members E_law07_ValueOrder_ok mixed Tryd.func19 rfl rfl rfl (by decide) (args := [.s (.sl 4 tyAtom) v]) (Nat.le_of_ble_eq_true rfl) (by kernel_rfl) lab_value_Members st_value_Members (fun r => [.own2 23 50 tyAtom r.1, .s (.int .i64) r.2]) ?_ ?_ ?_ h
  · intro l; cases l
    · exact WF_list ⟨trivial, trivial, trivial, trivial⟩
  · intro l goto ret; cases l with
    | l8 out x19 x20 =>
      show _ = push (sg_value_Members_8 out x19 x20) (fun l' => goto (lab_value_Members l').1 (lab_value_Members l').2) (fun r => ret [.own2 23 50 tyAtom r.1, .s (.int .i64) r.2])
      unfold sg_value_Members_8
      simp only [push_G, push_ite, push_bind, push_inl, push_inr, -eq_self]
      kernel_rfl
  · intro goto ret
    show _ = push (en_value_Members v) (fun l' => goto (lab_value_Members l').1 (lab_value_Members l').2) (fun r => ret [.own2 23 50 tyAtom r.1, .s (.int .i64) r.2])
    unfold en_value_Members
    simp only [push_G, push_ite, push_bind, push_inl, push_inr, -eq_self]
    kernel_rfl
noncomputable def e_value_Members : List DT → Option CallRes
  | [.s t0 y0] => (castT (b := (.sl 4 tyAtom)) y0).bind fun v => some ⟨((List (Bool × List tAtom)) × Int), value_Members v, fun r => .tup [.own2 23 50 tyAtom r.1, .s (.int .i64) r.2], ([], (0 : Int)), false⟩
  | _ => none
noncomputable def E_value_Members : Env := Env.add 19 e_value_Members E_law07_ValueOrder
theorem E_value_Members_ok : EnvOk X0 E_value_Members := by
  refine EnvOk.add E_law07_ValueOrder_ok (fun args c h => ?_)
  unfold e_value_Members at h
  split at h
  · obtain ⟨v0, c0, h⟩ := Option.bind_eq_some_iff.1 h
    obtain ⟨rfl, rfl⟩ := castT_some c0
    cases h
    exact ⟨fun r hr => .inl ⟨by kernel_rfl, ok_value_Members _ r hr⟩, fun hb => by cases hb⟩
  · cases h

end Go.Eng
