/- A part of the proof: Ly2. -/
import Derived.Test.YthgemanfbanhnaaDoorLy1
namespace Go.Eng
open Go.Proofs Go.RowKit
set_option linter.unusedVariables false
set_option linter.unusedSimpArgs false

/-! ### 53 strings.Index -/
def F_strings_Index : FnD := { n := 8, rs := [4] }
set_option maxRecDepth 100000 in
theorem ok_strings_Index (s_ : (List UInt8)) (substr : (List UInt8)) (r : Int) (h : strings_Index s_ substr = some r) : APure X0 53 ([.s .str s_, .s .str substr].map DT.toT) (resT ([.s (.int .i64) r].map DT.toT)) := by
  refine APure_of_straight (F := F_strings_Index) (fuel := 3000) (E := E_stringslite_Index) Yok E_stringslite_Index_ok mixed Tryd.func53 rfl rfl rfl (by decide) (args := [.s .str s_, .s .str substr]) (Nat.le_of_ble_eq_true rfl) (by kernel_rfl) (fun r => [.s (.int .i64) r]) ?_ h
  intro goto ret
  unfold strings_Index
  simp only [bnd_G, bnd_ite, bnd_bind, bnd_some]
  kernel_rfl
noncomputable def e_strings_Index : List DT → Option CallRes
  | [.s t0 y0, .s t1 y1] => (castT (b := .str) y0).bind fun s_ => (castT (b := .str) y1).bind fun substr => some ⟨Int, strings_Index s_ substr, fun r => .s (.int .i64) r, (0 : Int), true⟩
  | _ => none
noncomputable def E_strings_Index : Env := Env.add 53 e_strings_Index E_stringslite_Index
theorem E_strings_Index_ok : EnvOk X0 E_strings_Index := by
  refine EnvOk.add E_stringslite_Index_ok (fun args c h => ?_)
  unfold e_strings_Index at h
  split at h
  · obtain ⟨v0, c0, h⟩ := Option.bind_eq_some_iff.1 h
    obtain ⟨rfl, rfl⟩ := castT_some c0
    obtain ⟨v1, c1, h⟩ := Option.bind_eq_some_iff.1 h
    obtain ⟨rfl, rfl⟩ := castT_some c1
    cases h
    exact ⟨fun r hr => .inl ⟨by kernel_rfl, ok_strings_Index _ _ r hr⟩, fun hb => fun r => noSl_res (by rfl)⟩
  · cases h

/-! ### 44 strings.Contains -/
def F_strings_Contains : FnD := { n := 9, rs := [4] }
set_option maxRecDepth 100000 in
theorem ok_strings_Contains (s_ : (List UInt8)) (substr : (List UInt8)) (r : Bool) (h : strings_Contains s_ substr = some r) : APure X0 44 ([.s .str s_, .s .str substr].map DT.toT) (resT ([.s .bool r].map DT.toT)) := by
  refine APure_of_straight (F := F_strings_Contains) (fuel := 3000) (E := E_strings_Index) Yok E_strings_Index_ok mixed Tryd.func44 rfl rfl rfl (by decide) (args := [.s .str s_, .s .str substr]) (Nat.le_of_ble_eq_true rfl) (by kernel_rfl) (fun r => [.s .bool r]) ?_ h
  intro goto ret
  unfold strings_Contains
  simp only [bnd_G, bnd_ite, bnd_bind, bnd_some]
  kernel_rfl
noncomputable def e_strings_Contains : List DT → Option CallRes
  | [.s t0 y0, .s t1 y1] => (castT (b := .str) y0).bind fun s_ => (castT (b := .str) y1).bind fun substr => some ⟨Bool, strings_Contains s_ substr, fun r => .s .bool r, false, true⟩
  | _ => none
noncomputable def E_strings_Contains : Env := Env.add 44 e_strings_Contains E_strings_Index
theorem E_strings_Contains_ok : EnvOk X0 E_strings_Contains := by
  refine EnvOk.add E_strings_Index_ok (fun args c h => ?_)
  unfold e_strings_Contains at h
  split at h
  · obtain ⟨v0, c0, h⟩ := Option.bind_eq_some_iff.1 h
    obtain ⟨rfl, rfl⟩ := castT_some c0
    obtain ⟨v1, c1, h⟩ := Option.bind_eq_some_iff.1 h
    obtain ⟨rfl, rfl⟩ := castT_some c1
    cases h
    exact ⟨fun r hr => .inl ⟨by kernel_rfl, ok_strings_Contains _ _ r hr⟩, fun hb => fun r => noSl_res (by rfl)⟩
  · cases h

/-! ### 31 onceweb/lex.written -/
def F_lex_written : FnD := { n := 96, rs := [2, 3] }
set_option maxRecDepth 100000 in
theorem ok_lex_written (t_ : tToken) (r : ((List UInt8) × Bool)) (h : lex_written t_ = some r) : APure X0 31 ([.s tyToken t_].map DT.toT) (resT ([.s .str r.1, .s .bool r.2].map DT.toT)) := by
  refine APure_of_straight (F := F_lex_written) (fuel := 3000) (E := E_strings_Contains) Yok E_strings_Contains_ok mixed Tryd.func31 rfl rfl rfl (by decide) (args := [.s tyToken t_]) (Nat.le_of_ble_eq_true rfl) (by kernel_rfl) (fun r => [.s .str r.1, .s .bool r.2]) ?_ h
  intro goto ret
  unfold lex_written
  simp only [bnd_G, bnd_ite, bnd_bind, bnd_some]
  kernel_rfl
noncomputable def e_lex_written : List DT → Option CallRes
  | [.s t0 y0] => (castT (b := tyToken) y0).bind fun t_ => some ⟨((List UInt8) × Bool), lex_written t_, fun r => .tup [.s .str r.1, .s .bool r.2], (([] : List UInt8), false), true⟩
  | _ => none
noncomputable def E_lex_written : Env := Env.add 31 e_lex_written E_strings_Contains
theorem E_lex_written_ok : EnvOk X0 E_lex_written := by
  refine EnvOk.add E_strings_Contains_ok (fun args c h => ?_)
  unfold e_lex_written at h
  split at h
  · obtain ⟨v0, c0, h⟩ := Option.bind_eq_some_iff.1 h
    obtain ⟨rfl, rfl⟩ := castT_some c0
    cases h
    exact ⟨fun r hr => .inl ⟨by kernel_rfl, ok_lex_written _ r hr⟩, fun hb => fun r => noSl_res (by rfl)⟩
  · cases h

/-! ### 32 strings_Join: by the shelf's contract -/
theorem ok_strings_Join (l : List (List UInt8)) (sep : List UInt8) (r : List UInt8) (h : strings_Join l sep = some r) : APure X0 32 ([.s (.sl 1 .str) l, .s .str sep].map DT.toT) (DT.s .str r).toT := by
  obtain ⟨⟨h1, h2⟩, h⟩ := G_some h
  cases h
  exact join_call (X := X0) (k := 32) Tryd.strings_Join_none Tryd.strings_Join l sep h1 h2
noncomputable def e_strings_Join : List DT → Option CallRes
  | [.s t0 y0, .s t1 y1] => (castT (b := .sl 1 .str) y0).bind fun l => (castT (b := .str) y1).bind fun sep => some ⟨List UInt8, strings_Join l sep, fun r => .s .str r, ([] : List UInt8), true⟩
  | _ => none
noncomputable def E_strings_Join : Env := Env.add 32 e_strings_Join E_lex_written
theorem E_strings_Join_ok : EnvOk X0 E_strings_Join := by
  refine EnvOk.add E_lex_written_ok (fun args c h => ?_)
  unfold e_strings_Join at h
  split at h
  · obtain ⟨v0, c0, h⟩ := Option.bind_eq_some_iff.1 h
    obtain ⟨rfl, rfl⟩ := castT_some c0
    obtain ⟨v1, c1, h⟩ := Option.bind_eq_some_iff.1 h
    obtain ⟨rfl, rfl⟩ := castT_some c1
    cases h
    exact ⟨fun r hr => .inl ⟨by kernel_rfl, ok_strings_Join _ _ r hr⟩, fun hb => fun r => noSl_res (d := .s .str r) (by rfl)⟩
  · cases h


/-! ### 18 onceweb/lex.Lay -/
def F_lex_Lay : FnD := { n := 32, rs := [2, 3], labels := [(5, [4, 12, 13, 14])] }
def lab_lex_Lay : L_lex_Lay → Nat × DSt
  | .l5 out x12 x13 x14 => (5, [(4, .t (.own 9 .str out)), (12, .t (.s (.sl 4 tyToken) x12)), (13, .t (.s (.int .i64) x13)), (14, .t (.s (.int .i64) x14))])
set_option maxRecDepth 100000 in
theorem ok_lex_Lay (l : (List tToken)) (r : ((List UInt8) × Int)) (h : lex_Lay l = some r) : APure X0 18 ([.s (.sl 4 tyToken) l].map DT.toT) (resT ([.s .str r.1, .s (.int .i64) r.2].map DT.toT)) := by
  refine APure_of_machine (F := F_lex_Lay) (fuel := 3000) (E := E_strings_Join) Yok E_strings_Join_ok mixed Tryd.func18 rfl rfl rfl (by decide) (args := [.s (.sl 4 tyToken) l]) (Nat.le_of_ble_eq_true rfl) (by kernel_rfl) lab_lex_Lay st_lex_Lay (fun r => [.s .str r.1, .s (.int .i64) r.2]) ?_ ?_ ?_ h
  · intro l; cases l
    · exact WF_list ⟨trivial, trivial, trivial, trivial, trivial⟩
  · intro l goto ret; cases l with
    | l5 out x12 x13 x14 =>
      show _ = push (sg_lex_Lay_5 out x12 x13 x14) (fun l' => goto (lab_lex_Lay l').1 (lab_lex_Lay l').2) (fun r => ret [.s .str r.1, .s (.int .i64) r.2])
      unfold sg_lex_Lay_5
      simp only [push_G, push_ite, push_bind, push_inl, push_inr]
      kernel_rfl
  · intro goto ret
    show _ = push (en_lex_Lay l) (fun l' => goto (lab_lex_Lay l').1 (lab_lex_Lay l').2) (fun r => ret [.s .str r.1, .s (.int .i64) r.2])
    unfold en_lex_Lay
    simp only [push_G, push_ite, push_bind, push_inl, push_inr]
    kernel_rfl
noncomputable def e_lex_Lay : List DT → Option CallRes
  | [.s t0 y0] => (castT (b := (.sl 4 tyToken)) y0).bind fun l => some ⟨((List UInt8) × Int), lex_Lay l, fun r => .tup [.s .str r.1, .s (.int .i64) r.2], (([] : List UInt8), (0 : Int)), true⟩
  | _ => none
noncomputable def E_lex_Lay : Env := Env.add 18 e_lex_Lay E_strings_Join
theorem E_lex_Lay_ok : EnvOk X0 E_lex_Lay := by
  refine EnvOk.add E_strings_Join_ok (fun args c h => ?_)
  unfold e_lex_Lay at h
  split at h
  · obtain ⟨v0, c0, h⟩ := Option.bind_eq_some_iff.1 h
    obtain ⟨rfl, rfl⟩ := castT_some c0
    cases h
    exact ⟨fun r hr => .inl ⟨by kernel_rfl, ok_lex_Lay _ r hr⟩, fun hb => fun r => noSl_res (by rfl)⟩
  · cases h

/-! ### 48 onceweb/oncewebref01.Mark -/
def F_ref01_Mark : FnD := { n := 6, rs := [2] }
set_option maxRecDepth 100000 in
theorem ok_ref01_Mark (s_ : (List UInt8)) (r : Bool) (h : ref01_Mark s_ = some r) : APure X0 48 ([.s .str s_].map DT.toT) (resT ([.s .bool r].map DT.toT)) := by
  refine APure_of_straight (F := F_ref01_Mark) (fuel := 3000) (E := E_lex_Lay) Yok E_lex_Lay_ok mixed Tryd.func48 rfl rfl rfl (by decide) (args := [.s .str s_]) (Nat.le_of_ble_eq_true rfl) (by kernel_rfl) (fun r => [.s .bool r]) ?_ h
  intro goto ret
  unfold ref01_Mark
  simp only [bnd_G, bnd_ite, bnd_bind, bnd_some]
  kernel_rfl
noncomputable def e_ref01_Mark : List DT → Option CallRes
  | [.s t0 y0] => (castT (b := .str) y0).bind fun s_ => some ⟨Bool, ref01_Mark s_, fun r => .s .bool r, false, true⟩
  | _ => none
noncomputable def E_ref01_Mark : Env := Env.add 48 e_ref01_Mark E_lex_Lay
theorem E_ref01_Mark_ok : EnvOk X0 E_ref01_Mark := by
  refine EnvOk.add E_lex_Lay_ok (fun args c h => ?_)
  unfold e_ref01_Mark at h
  split at h
  · obtain ⟨v0, c0, h⟩ := Option.bind_eq_some_iff.1 h
    obtain ⟨rfl, rfl⟩ := castT_some c0
    cases h
    exact ⟨fun r hr => .inl ⟨by kernel_rfl, ok_ref01_Mark _ r hr⟩, fun hb => fun r => noSl_res (by rfl)⟩
  · cases h

/-! ### 33 onceweb/oncewebref01.right -/
def F_ref01_right : FnD := { n := 77, rs := [2] }
set_option maxRecDepth 100000 in
theorem ok_ref01_right (t_ : tToken) (r : Bool) (h : ref01_right t_ = some r) : APure X0 33 ([.s tyToken t_].map DT.toT) (resT ([.s .bool r].map DT.toT)) := by
  refine APure_of_straight (F := F_ref01_right) (fuel := 3000) (E := E_ref01_Mark) Yok E_ref01_Mark_ok mixed Tryd.func33 rfl rfl rfl (by decide) (args := [.s tyToken t_]) (Nat.le_of_ble_eq_true rfl) (by kernel_rfl) (fun r => [.s .bool r]) ?_ h
  intro goto ret
  unfold ref01_right
  simp only [bnd_G, bnd_ite, bnd_bind, bnd_some]
  kernel_rfl
noncomputable def e_ref01_right : List DT → Option CallRes
  | [.s t0 y0] => (castT (b := tyToken) y0).bind fun t_ => some ⟨Bool, ref01_right t_, fun r => .s .bool r, false, true⟩
  | _ => none
noncomputable def E_ref01_right : Env := Env.add 33 e_ref01_right E_ref01_Mark
theorem E_ref01_right_ok : EnvOk X0 E_ref01_right := by
  refine EnvOk.add E_ref01_Mark_ok (fun args c h => ?_)
  unfold e_ref01_right at h
  split at h
  · obtain ⟨v0, c0, h⟩ := Option.bind_eq_some_iff.1 h
    obtain ⟨rfl, rfl⟩ := castT_some c0
    cases h
    exact ⟨fun r hr => .inl ⟨by kernel_rfl, ok_ref01_right _ r hr⟩, fun hb => fun r => noSl_res (by rfl)⟩
  · cases h

/-! ### 34 onceweb/oncewebbase.Itoa -/
def F_base_Itoa : FnD := { n := 30, rs := [2], labels := [(6, [0, 3]), (7, [0, 3, 4])] }
def lab_base_Itoa : L_base_Itoa → Nat × DSt
  | .l6 n u_ => (6, [(0, .t (.s (.int .i64) n)), (3, .t (.s (.int .u64) u_))])
  | .l7 n u_ s_ => (7, [(0, .t (.s (.int .i64) n)), (3, .t (.s (.int .u64) u_)), (4, .t (.s .str s_))])
set_option maxRecDepth 100000 in
theorem ok_base_Itoa (n : Int) (r : (List UInt8)) (h : base_Itoa n = some r) : APure X0 34 ([.s (.int .i64) n].map DT.toT) (resT ([.s .str r].map DT.toT)) := by
  refine APure_of_machine (F := F_base_Itoa) (fuel := 3000) (E := E_ref01_right) Yok E_ref01_right_ok mixed Tryd.func34 rfl rfl rfl (by decide) (args := [.s (.int .i64) n]) (Nat.le_of_ble_eq_true rfl) (by kernel_rfl) lab_base_Itoa st_base_Itoa (fun r => [.s .str r]) ?_ ?_ ?_ h
  · intro l; cases l
    · exact WF_list ⟨trivial, trivial, trivial⟩
    · exact WF_list ⟨trivial, trivial, trivial, trivial⟩
  · intro l goto ret; cases l with
    | l6 n u_ =>
      show _ = push (sg_base_Itoa_6 n u_) (fun l' => goto (lab_base_Itoa l').1 (lab_base_Itoa l').2) (fun r => ret [.s .str r])
      unfold sg_base_Itoa_6
      simp only [push_G, push_ite, push_bind, push_inl, push_inr]
      kernel_rfl
    | l7 n u_ s_ =>
      show _ = push (sg_base_Itoa_7 n u_ s_) (fun l' => goto (lab_base_Itoa l').1 (lab_base_Itoa l').2) (fun r => ret [.s .str r])
      unfold sg_base_Itoa_7
      simp only [push_G, push_ite, push_bind, push_inl, push_inr]
      kernel_rfl
  · intro goto ret
    show _ = push (en_base_Itoa n) (fun l' => goto (lab_base_Itoa l').1 (lab_base_Itoa l').2) (fun r => ret [.s .str r])
    unfold en_base_Itoa
    simp only [push_G, push_ite, push_bind, push_inl, push_inr]
    kernel_rfl
noncomputable def e_base_Itoa : List DT → Option CallRes
  | [.s t0 y0] => (castT (b := (.int .i64)) y0).bind fun n => some ⟨(List UInt8), base_Itoa n, fun r => .s .str r, ([] : List UInt8), true⟩
  | _ => none
noncomputable def E_base_Itoa : Env := Env.add 34 e_base_Itoa E_ref01_right
theorem E_base_Itoa_ok : EnvOk X0 E_base_Itoa := by
  refine EnvOk.add E_ref01_right_ok (fun args c h => ?_)
  unfold e_base_Itoa at h
  split at h
  · obtain ⟨v0, c0, h⟩ := Option.bind_eq_some_iff.1 h
    obtain ⟨rfl, rfl⟩ := castT_some c0
    cases h
    exact ⟨fun r hr => .inl ⟨by kernel_rfl, ok_base_Itoa _ r hr⟩, fun hb => fun r => noSl_res (by rfl)⟩
  · cases h

/-! ### 35 onceweb/oncewebref01.Quote -/
def F_ref01_Quote : FnD := { n := 60, rs := [2], labels := [(4, [0, 3, 4, 5])] }
def lab_ref01_Quote : L_ref01_Quote → Nat × DSt
  | .l4 s_ digits out i => (4, [(0, .t (.s .str s_)), (3, .t (.s .str digits)), (4, .t (.own 5 .u8 out)), (5, .t (.s (.int .i64) i))])
set_option maxRecDepth 100000 in
theorem ok_ref01_Quote (s_ : (List UInt8)) (r : (List UInt8)) (h : ref01_Quote s_ = some r) : APure X0 35 ([.s .str s_].map DT.toT) (resT ([.s .str r].map DT.toT)) := by
  refine APure_of_machine (F := F_ref01_Quote) (fuel := 3000) (E := E_base_Itoa) Yok E_base_Itoa_ok mixed Tryd.func35 rfl rfl rfl (by decide) (args := [.s .str s_]) (Nat.le_of_ble_eq_true rfl) (by kernel_rfl) lab_ref01_Quote st_ref01_Quote (fun r => [.s .str r]) ?_ ?_ ?_ h
  · intro l; cases l
    · exact WF_list ⟨trivial, trivial, trivial, trivial, trivial⟩
  · intro l goto ret; cases l with
    | l4 s_ digits out i =>
      show _ = push (sg_ref01_Quote_4 s_ digits out i) (fun l' => goto (lab_ref01_Quote l').1 (lab_ref01_Quote l').2) (fun r => ret [.s .str r])
      unfold sg_ref01_Quote_4
      simp only [push_G, push_ite, push_bind, push_inl, push_inr]
      kernel_rfl
  · intro goto ret
    show _ = push (en_ref01_Quote s_) (fun l' => goto (lab_ref01_Quote l').1 (lab_ref01_Quote l').2) (fun r => ret [.s .str r])
    unfold en_ref01_Quote
    simp only [push_G, push_ite, push_bind, push_inl, push_inr]
    kernel_rfl
noncomputable def e_ref01_Quote : List DT → Option CallRes
  | [.s t0 y0] => (castT (b := .str) y0).bind fun s_ => some ⟨(List UInt8), ref01_Quote s_, fun r => .s .str r, ([] : List UInt8), true⟩
  | _ => none
noncomputable def E_ref01_Quote : Env := Env.add 35 e_ref01_Quote E_base_Itoa
theorem E_ref01_Quote_ok : EnvOk X0 E_ref01_Quote := by
  refine EnvOk.add E_base_Itoa_ok (fun args c h => ?_)
  unfold e_ref01_Quote at h
  split at h
  · obtain ⟨v0, c0, h⟩ := Option.bind_eq_some_iff.1 h
    obtain ⟨rfl, rfl⟩ := castT_some c0
    cases h
    exact ⟨fun r hr => .inl ⟨by kernel_rfl, ok_ref01_Quote _ r hr⟩, fun hb => fun r => noSl_res (by rfl)⟩
  · cases h

/-! ### 19 onceweb/oncewebref01.Lay -/
def F_ref01_Lay : FnD := { n := 58, rs := [2, 3], labels := [(5, [0, 4, 5]), (12, [0, 4, 5, 6])] }
def lab_ref01_Lay : L_ref01_Lay → Nat × DSt
  | .l5 l out i => (5, [(0, .t (.s (.sl 4 tyToken) l)), (4, .t (.own 5 .u8 out)), (5, .t (.s (.int .i64) i))])
  | .l12 l out i t_ t_' t_'' t_''' => (12, [(0, .t (.s (.sl 4 tyToken) l)), (4, .t (.own 5 .u8 out)), (5, .t (.s (.int .i64) i)), (6, .t (.box 34 [.s (.int .i64) t_, .s (.int .i64) t_', .s (.int .i64) t_'', .s .str t_''']))])
set_option maxRecDepth 100000 in
theorem ok_ref01_Lay (l : (List tToken)) (r : ((List UInt8) × Int)) (h : ref01_Lay l = some r) : APure X0 19 ([.s (.sl 4 tyToken) l].map DT.toT) (resT ([.s .str r.1, .s (.int .i64) r.2].map DT.toT)) := by
  refine APure_of_machine (F := F_ref01_Lay) (fuel := 3000) (E := E_ref01_Quote) Yok E_ref01_Quote_ok mixed Tryd.func19 rfl rfl rfl (by decide) (args := [.s (.sl 4 tyToken) l]) (Nat.le_of_ble_eq_true rfl) (by kernel_rfl) lab_ref01_Lay st_ref01_Lay (fun r => [.s .str r.1, .s (.int .i64) r.2]) ?_ ?_ ?_ h
  · intro l; cases l
    · exact WF_list ⟨trivial, trivial, trivial, trivial⟩
    · exact WF_list ⟨trivial, trivial, trivial, trivial, trivial⟩
  · intro l goto ret; cases l with
    | l5 l out i =>
      show _ = push (sg_ref01_Lay_5 l out i) (fun l' => goto (lab_ref01_Lay l').1 (lab_ref01_Lay l').2) (fun r => ret [.s .str r.1, .s (.int .i64) r.2])
      unfold sg_ref01_Lay_5
      simp only [push_G, push_ite, push_bind, push_inl, push_inr]
      kernel_rfl
    | l12 l out i t_ t_' t_'' t_''' =>
      show _ = push (sg_ref01_Lay_12 l out i t_ t_' t_'' t_''') (fun l' => goto (lab_ref01_Lay l').1 (lab_ref01_Lay l').2) (fun r => ret [.s .str r.1, .s (.int .i64) r.2])
      unfold sg_ref01_Lay_12
      simp only [push_G, push_ite, push_bind, push_inl, push_inr]
      kernel_rfl
  · intro goto ret
    show _ = push (en_ref01_Lay l) (fun l' => goto (lab_ref01_Lay l').1 (lab_ref01_Lay l').2) (fun r => ret [.s .str r.1, .s (.int .i64) r.2])
    unfold en_ref01_Lay
    simp only [push_G, push_ite, push_bind, push_inl, push_inr]
    kernel_rfl
noncomputable def e_ref01_Lay : List DT → Option CallRes
  | [.s t0 y0] => (castT (b := (.sl 4 tyToken)) y0).bind fun l => some ⟨((List UInt8) × Int), ref01_Lay l, fun r => .tup [.s .str r.1, .s (.int .i64) r.2], (([] : List UInt8), (0 : Int)), true⟩
  | _ => none
noncomputable def E_ref01_Lay : Env := Env.add 19 e_ref01_Lay E_ref01_Quote
theorem E_ref01_Lay_ok : EnvOk X0 E_ref01_Lay := by
  refine EnvOk.add E_ref01_Quote_ok (fun args c h => ?_)
  unfold e_ref01_Lay at h
  split at h
  · obtain ⟨v0, c0, h⟩ := Option.bind_eq_some_iff.1 h
    obtain ⟨rfl, rfl⟩ := castT_some c0
    cases h
    exact ⟨fun r hr => .inl ⟨by kernel_rfl, ok_ref01_Lay _ r hr⟩, fun hb => fun r => noSl_res (by rfl)⟩
  · cases h

/-! ### 6 onceweb/onceweblaw01.LexLays -/
def F_law01_LexLays : FnD := { n := 34, rs := [2] }
set_option maxRecDepth 100000 in
theorem ok_law01_LexLays (l : (List tToken)) (r : Bool) (h : law01_LexLays l = some r) : APure X0 6 ([.s (.sl 4 tyToken) l].map DT.toT) (resT ([.s .bool r].map DT.toT)) := by
  refine APure_of_straight (F := F_law01_LexLays) (fuel := 3000) (E := E_ref01_Lay) Yok E_ref01_Lay_ok mixed Tryd.func6 rfl rfl rfl (by decide) (args := [.s (.sl 4 tyToken) l]) (Nat.le_of_ble_eq_true rfl) (by kernel_rfl) (fun r => [.s .bool r]) ?_ h
  intro goto ret
  unfold law01_LexLays
  simp only [bnd_G, bnd_ite, bnd_bind, bnd_some]
  kernel_rfl
noncomputable def e_law01_LexLays : List DT → Option CallRes
  | [.s t0 y0] => (castT (b := (.sl 4 tyToken)) y0).bind fun l => some ⟨Bool, law01_LexLays l, fun r => .s .bool r, false, true⟩
  | _ => none
noncomputable def E_law01_LexLays : Env := Env.add 6 e_law01_LexLays E_ref01_Lay
theorem E_law01_LexLays_ok : EnvOk X0 E_law01_LexLays := by
  refine EnvOk.add E_ref01_Lay_ok (fun args c h => ?_)
  unfold e_law01_LexLays at h
  split at h
  · obtain ⟨v0, c0, h⟩ := Option.bind_eq_some_iff.1 h
    obtain ⟨rfl, rfl⟩ := castT_some c0
    cases h
    exact ⟨fun r hr => .inl ⟨by kernel_rfl, ok_law01_LexLays _ r hr⟩, fun hb => fun r => noSl_res (by rfl)⟩
  · cases h

/-! ### 20 onceweb/lex.Unquote -/
def F_lex_Unquote : FnD := { n := 22, rs := [2, 3] }
set_option maxRecDepth 100000 in
theorem ok_lex_Unquote (s_ : (List UInt8)) (r : ((List UInt8) × Bool)) (h : lex_Unquote s_ = some r) : APure X0 20 ([.s .str s_].map DT.toT) (resT ([.s .str r.1, .s .bool r.2].map DT.toT)) := by
  refine APure_of_straight (F := F_lex_Unquote) (fuel := 3000) (E := E_law01_LexLays) Yok E_law01_LexLays_ok mixed Tryd.func20 rfl rfl rfl (by decide) (args := [.s .str s_]) (Nat.le_of_ble_eq_true rfl) (by kernel_rfl) (fun r => [.s .str r.1, .s .bool r.2]) ?_ h
  intro goto ret
  unfold lex_Unquote
  simp only [bnd_G, bnd_ite, bnd_bind, bnd_some]
  kernel_rfl
noncomputable def e_lex_Unquote : List DT → Option CallRes
  | [.s t0 y0] => (castT (b := .str) y0).bind fun s_ => some ⟨((List UInt8) × Bool), lex_Unquote s_, fun r => .tup [.s .str r.1, .s .bool r.2], (([] : List UInt8), false), true⟩
  | _ => none
noncomputable def E_lex_Unquote : Env := Env.add 20 e_lex_Unquote E_law01_LexLays
theorem E_lex_Unquote_ok : EnvOk X0 E_lex_Unquote := by
  refine EnvOk.add E_law01_LexLays_ok (fun args c h => ?_)
  unfold e_lex_Unquote at h
  split at h
  · obtain ⟨v0, c0, h⟩ := Option.bind_eq_some_iff.1 h
    obtain ⟨rfl, rfl⟩ := castT_some c0
    cases h
    exact ⟨fun r hr => .inl ⟨by kernel_rfl, ok_lex_Unquote _ r hr⟩, fun hb => fun r => noSl_res (by rfl)⟩
  · cases h

/-! ### 7 onceweb/onceweblaw01.LexBack -/
def F_law01_LexBack : FnD := { n := 67, rs := [4], labels := [(8, [1])] }
def lab_law01_LexBack : L_law01_LexBack → Nat × DSt
  | .l8 s_ => (8, [(1, .t (.s .str s_))])
set_option maxRecDepth 100000 in
theorem ok_law01_LexBack (l : (List tToken)) (s_ : (List UInt8)) (r : Bool) (h : law01_LexBack l s_ = some r) : APure X0 7 ([.s (.sl 4 tyToken) l, .s .str s_].map DT.toT) (resT ([.s .bool r].map DT.toT)) := by
  refine APure_of_machine (F := F_law01_LexBack) (fuel := 3000) (E := E_lex_Unquote) Yok E_lex_Unquote_ok mixed Tryd.func7 rfl rfl rfl (by decide) (args := [.s (.sl 4 tyToken) l, .s .str s_]) (Nat.le_of_ble_eq_true rfl) (by kernel_rfl) lab_law01_LexBack st_law01_LexBack (fun r => [.s .bool r]) ?_ ?_ ?_ h
  · intro l; cases l
    · exact WF_list ⟨trivial, trivial⟩
  · intro l goto ret; cases l with
    | l8 s_ =>
      show _ = push (sg_law01_LexBack_8 s_) (fun l' => goto (lab_law01_LexBack l').1 (lab_law01_LexBack l').2) (fun r => ret [.s .bool r])
      unfold sg_law01_LexBack_8
      simp only [push_G, push_ite, push_bind, push_inl, push_inr]
      kernel_rfl
  · intro goto ret
    show _ = push (en_law01_LexBack l s_) (fun l' => goto (lab_law01_LexBack l').1 (lab_law01_LexBack l').2) (fun r => ret [.s .bool r])
    unfold en_law01_LexBack
    simp only [push_G, push_ite, push_bind, push_inl, push_inr]
    kernel_rfl
noncomputable def e_law01_LexBack : List DT → Option CallRes
  | [.s t0 y0, .s t1 y1] => (castT (b := (.sl 4 tyToken)) y0).bind fun l => (castT (b := .str) y1).bind fun s_ => some ⟨Bool, law01_LexBack l s_, fun r => .s .bool r, false, true⟩
  | _ => none
noncomputable def E_law01_LexBack : Env := Env.add 7 e_law01_LexBack E_lex_Unquote
theorem E_law01_LexBack_ok : EnvOk X0 E_law01_LexBack := by
  refine EnvOk.add E_lex_Unquote_ok (fun args c h => ?_)
  unfold e_law01_LexBack at h
  split at h
  · obtain ⟨v0, c0, h⟩ := Option.bind_eq_some_iff.1 h
    obtain ⟨rfl, rfl⟩ := castT_some c0
    obtain ⟨v1, c1, h⟩ := Option.bind_eq_some_iff.1 h
    obtain ⟨rfl, rfl⟩ := castT_some c1
    cases h
    exact ⟨fun r hr => .inl ⟨by kernel_rfl, ok_law01_LexBack _ _ r hr⟩, fun hb => fun r => noSl_res (by rfl)⟩
  · cases h

end Go.Eng
