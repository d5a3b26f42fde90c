/- A part of the proof: Ly1. -/
import Derived.Test.YthgemanfbanhnaaDoorLyd
import Derived.Test.YthgemanfbanhnaaDoorD4
import Derived.Test.YthgemanfbanhnaaDoorRows
import Derived.Test.YthgemanfbanhnaaDoorSh
import Derived.Test.YthgemanfbanhnaaDoorDvV
namespace Go.Eng
open Go.Proofs Go.RowKit
set_option linter.unusedVariables false
set_option linter.unusedSimpArgs false

def globs : List (Nat × Glob) := [(0, .arr .str gl_onceweb_lex_keys)]
noncomputable def X0 : Ctx := mkCtx Tryd.prog 1 globs (by kernel_rfl)
theorem mixed : X0.P.follows .mixedOrders = true := by kernel_rfl
def Y0 : DX := { tab := [(3, { ty := (.int .i64) }), (4, { ty := .bool }), (5, { ty := .u8 }), (9, { ty := .str }), (26, { ty := (.sl 4 tyToken), sl := some (34, tyToken, 40) }), (29, { ty := tyFault, fs := [(.int .i64), (.int .i64)], eq := true }), (32, { ty := (.sl 1 .u8), sl := some (5, .u8, 1) }), (34, { ty := tyToken, fs := [(.int .i64), (.int .i64), (.int .i64), .str], eq := true }), (38, { ty := (.int .u64) }), (51, { ty := (.sl 1 .str), sl := some (9, .str, 16) }), (52, { ty := .opq, ar := some (19, .str) }), (85, { ty := (.int .u32) })], gl := globs }
theorem td_3 : TDOk Tryd.prog 3 { ty := (.int .i64) } where
  row := .inr (by kernel_rfl)
  und := .inr (by kernel_rfl)
  sli := .inl rfl
  slt := by kernel_rfl
  bye := .inl rfl
  fld := .inl rfl
  lay := .inl rfl
  rowT := .inl rfl
  arr := .inl rfl
  fsz := by kernel_rfl
  eqv := .inl rfl
  zer := .inr (by kernel_rfl)
theorem td_4 : TDOk Tryd.prog 4 { ty := .bool } where
  row := .inr (by kernel_rfl)
  und := .inr (by kernel_rfl)
  sli := .inl rfl
  slt := by kernel_rfl
  bye := .inl rfl
  fld := .inl rfl
  lay := .inl rfl
  rowT := .inl rfl
  arr := .inl rfl
  fsz := by kernel_rfl
  eqv := .inl rfl
  zer := .inr (by kernel_rfl)
theorem td_5 : TDOk Tryd.prog 5 { ty := .u8 } where
  row := .inr (by kernel_rfl)
  und := .inr (by kernel_rfl)
  sli := .inl rfl
  slt := by kernel_rfl
  bye := .inl rfl
  fld := .inl rfl
  lay := .inl rfl
  rowT := .inl rfl
  arr := .inl rfl
  fsz := by kernel_rfl
  eqv := .inl rfl
  zer := .inr (by kernel_rfl)
theorem td_9 : TDOk Tryd.prog 9 { ty := .str } where
  row := .inr (by kernel_rfl)
  und := .inr (by kernel_rfl)
  sli := .inl rfl
  slt := by kernel_rfl
  bye := .inl rfl
  fld := .inl rfl
  lay := .inl rfl
  rowT := .inl rfl
  arr := .inl rfl
  fsz := by kernel_rfl
  eqv := .inl rfl
  zer := .inr (by kernel_rfl)
theorem td_26 : TDOk Tryd.prog 26 { ty := (.sl 4 tyToken), sl := some (34, tyToken, 40) } where
  row := .inr (by kernel_rfl)
  und := .inl rfl
  sli := .inr (by kernel_rfl)
  slt := by kernel_rfl
  bye := .inl rfl
  fld := .inl rfl
  lay := .inl rfl
  rowT := .inl rfl
  arr := .inl rfl
  fsz := by kernel_rfl
  eqv := .inl rfl
  zer := .inr (by kernel_rfl)
theorem td_29 : TDOk Tryd.prog 29 { ty := tyFault, fs := [(.int .i64), (.int .i64)], eq := true } where
  row := .inr (by kernel_rfl)
  und := .inl rfl
  sli := .inl rfl
  slt := by kernel_rfl
  bye := .inl rfl
  fld := .inr (by kernel_rfl)
  lay := .inr (by kernel_rfl)
  rowT := .inr rfl
  arr := .inl rfl
  fsz := by kernel_rfl
  eqv := .inr (by kernel_rfl)
  zer := .inr (by kernel_rfl)
theorem td_32 : TDOk Tryd.prog 32 { ty := (.sl 1 .u8), sl := some (5, .u8, 1) } where
  row := .inr (by kernel_rfl)
  und := .inl rfl
  sli := .inr (by kernel_rfl)
  slt := by kernel_rfl
  bye := .inr (by kernel_rfl)
  fld := .inl rfl
  lay := .inl rfl
  rowT := .inl rfl
  arr := .inl rfl
  fsz := by kernel_rfl
  eqv := .inl rfl
  zer := .inr (by kernel_rfl)
theorem td_34 : TDOk Tryd.prog 34 { ty := tyToken, fs := [(.int .i64), (.int .i64), (.int .i64), .str], eq := true } where
  row := .inr (by kernel_rfl)
  und := .inl rfl
  sli := .inl rfl
  slt := by kernel_rfl
  bye := .inl rfl
  fld := .inr (by kernel_rfl)
  lay := .inr (by kernel_rfl)
  rowT := .inr rfl
  arr := .inl rfl
  fsz := by kernel_rfl
  eqv := .inr (by kernel_rfl)
  zer := .inr (by kernel_rfl)
theorem td_38 : TDOk Tryd.prog 38 { ty := (.int .u64) } where
  row := .inr (by kernel_rfl)
  und := .inr (by kernel_rfl)
  sli := .inl rfl
  slt := by kernel_rfl
  bye := .inl rfl
  fld := .inl rfl
  lay := .inl rfl
  rowT := .inl rfl
  arr := .inl rfl
  fsz := by kernel_rfl
  eqv := .inl rfl
  zer := .inr (by kernel_rfl)
theorem td_51 : TDOk Tryd.prog 51 { ty := (.sl 1 .str), sl := some (9, .str, 16) } where
  row := .inr (by kernel_rfl)
  und := .inl rfl
  sli := .inr (by kernel_rfl)
  slt := by kernel_rfl
  bye := .inl rfl
  fld := .inl rfl
  lay := .inl rfl
  rowT := .inl rfl
  arr := .inl rfl
  fsz := by kernel_rfl
  eqv := .inl rfl
  zer := .inr (by kernel_rfl)
theorem td_52 : TDOk Tryd.prog 52 { ty := .opq, ar := some (19, .str) } where
  row := .inl rfl
  und := .inl rfl
  sli := .inl rfl
  slt := by kernel_rfl
  bye := .inl rfl
  fld := .inl rfl
  lay := .inl rfl
  rowT := .inl rfl
  arr := .inr (by kernel_rfl)
  fsz := by kernel_rfl
  eqv := .inl rfl
  zer := .inl rfl
theorem td_85 : TDOk Tryd.prog 85 { ty := (.int .u32) } where
  row := .inr (by kernel_rfl)
  und := .inr (by kernel_rfl)
  sli := .inl rfl
  slt := by kernel_rfl
  bye := .inl rfl
  fld := .inl rfl
  lay := .inl rfl
  rowT := .inl rfl
  arr := .inl rfl
  fsz := by kernel_rfl
  eqv := .inl rfl
  zer := .inr (by kernel_rfl)
theorem Yok : DXOk Y0 X0 where
  tab := List.forall_mem_cons.2 ⟨td_3, List.forall_mem_cons.2 ⟨td_4, List.forall_mem_cons.2 ⟨td_5, List.forall_mem_cons.2 ⟨td_9, List.forall_mem_cons.2 ⟨td_26, List.forall_mem_cons.2 ⟨td_29, List.forall_mem_cons.2 ⟨td_32, List.forall_mem_cons.2 ⟨td_34, List.forall_mem_cons.2 ⟨td_38, List.forall_mem_cons.2 ⟨td_51, List.forall_mem_cons.2 ⟨td_52, List.forall_mem_cons.2 ⟨td_85, (fun _ h => by cases h)⟩⟩⟩⟩⟩⟩⟩⟩⟩⟩⟩⟩
  gl := fun _ => rfl

/-! ### 22 onceweb/lex.digit -/
def F_lex_digit : FnD := { n := 9, rs := [2] }
set_option maxRecDepth 100000 in
theorem ok_lex_digit (c : UInt8) (r : Bool) (h : lex_digit c = some r) : APure X0 22 ([.s .u8 c].map DT.toT) (resT ([.s .bool r].map DT.toT)) := by
  refine APure_of_straight (F := F_lex_digit) (fuel := 3000) (E := E_0) Yok E_0_ok mixed Tryd.func22 rfl rfl rfl (by decide) (args := [.s .u8 c]) (Nat.le_of_ble_eq_true rfl) (by kernel_rfl) (fun r => [.s .bool r]) ?_ h
  intro goto ret
  unfold lex_digit
  simp only [bnd_G, bnd_ite, bnd_bind, bnd_some]
  kernel_rfl
noncomputable def e_lex_digit : List DT → Option CallRes
  | [.s t0 y0] => (castT (b := .u8) y0).bind fun c => some ⟨Bool, lex_digit c, fun r => .s .bool r, false, true⟩
  | _ => none
noncomputable def E_lex_digit : Env := Env.add 22 e_lex_digit E_0
theorem E_lex_digit_ok : EnvOk X0 E_lex_digit := by
  refine EnvOk.add E_0_ok (fun args c h => ?_)
  unfold e_lex_digit at h
  split at h
  · obtain ⟨v0, c0, h⟩ := Option.bind_eq_some_iff.1 h
    obtain ⟨rfl, rfl⟩ := castT_some c0
    cases h
    exact ⟨fun r hr => .inl ⟨by kernel_rfl, ok_lex_digit _ r hr⟩, fun hb => fun r => noSl_res (by rfl)⟩
  · cases h

/-! ### 8 onceweb/lex.Number -/
def F_lex_Number : FnD := { n := 40, rs := [2, 3], labels := [(5, [0, 4, 19, 20])] }
def lab_lex_Number : L_lex_Number → Nat × DSt
  | .l5 s_ n x19 x20 => (5, [(0, .t (.s .str s_)), (4, .t (.s (.int .i64) n)), (19, .t (.s (.int .i64) x19)), (20, .t (.s (.int .i64) x20))])
set_option maxRecDepth 100000 in
theorem ok_lex_Number (s_ : (List UInt8)) (r : (Int × Bool)) (h : lex_Number s_ = some r) : APure X0 8 ([.s .str s_].map DT.toT) (resT ([.s (.int .i64) r.1, .s .bool r.2].map DT.toT)) := by
  refine APure_of_machine (F := F_lex_Number) (fuel := 3000) (E := E_lex_digit) Yok E_lex_digit_ok mixed Tryd.func8 rfl rfl rfl (by decide) (args := [.s .str s_]) (Nat.le_of_ble_eq_true rfl) (by kernel_rfl) lab_lex_Number st_lex_Number (fun r => [.s (.int .i64) r.1, .s .bool r.2]) ?_ ?_ ?_ h
  · intro l; cases l
    · exact WF_list ⟨trivial, trivial, trivial, trivial, trivial⟩
  · intro l goto ret; cases l with
    | l5 s_ n x19 x20 =>
      show _ = push (sg_lex_Number_5 s_ n x19 x20) (fun l' => goto (lab_lex_Number l').1 (lab_lex_Number l').2) (fun r => ret [.s (.int .i64) r.1, .s .bool r.2])
      unfold sg_lex_Number_5
      simp only [push_G, push_ite, push_bind, push_inl, push_inr]
      kernel_rfl
  · intro goto ret
    show _ = push (en_lex_Number s_) (fun l' => goto (lab_lex_Number l').1 (lab_lex_Number l').2) (fun r => ret [.s (.int .i64) r.1, .s .bool r.2])
    unfold en_lex_Number
    simp only [push_G, push_ite, push_bind, push_inl, push_inr]
    kernel_rfl
noncomputable def e_lex_Number : List DT → Option CallRes
  | [.s t0 y0] => (castT (b := .str) y0).bind fun s_ => some ⟨(Int × Bool), lex_Number s_, fun r => .tup [.s (.int .i64) r.1, .s .bool r.2], ((0 : Int), false), true⟩
  | _ => none
noncomputable def E_lex_Number : Env := Env.add 8 e_lex_Number E_lex_digit
theorem E_lex_Number_ok : EnvOk X0 E_lex_Number := by
  refine EnvOk.add E_lex_digit_ok (fun args c h => ?_)
  unfold e_lex_Number at h
  split at h
  · obtain ⟨v0, c0, h⟩ := Option.bind_eq_some_iff.1 h
    obtain ⟨rfl, rfl⟩ := castT_some c0
    cases h
    exact ⟨fun r hr => .inl ⟨by kernel_rfl, ok_lex_Number _ r hr⟩, fun hb => fun r => noSl_res (by rfl)⟩
  · cases h

/-! ### 23 onceweb/oncewebbase.Whole -/
def F_base_Whole : FnD := { n := 61, rs := [4, 5], labels := [(5, [0, 1, 6, 7])] }
def lab_base_Whole : L_base_Whole → Nat × DSt
  | .l5 s_ most n i => (5, [(0, .t (.s .str s_)), (1, .t (.s (.int .i64) most)), (6, .t (.s (.int .i64) n)), (7, .t (.s (.int .i64) i))])
set_option maxRecDepth 100000 in
theorem ok_base_Whole (s_ : (List UInt8)) (most : Int) (r : (Int × Bool)) (h : base_Whole s_ most = some r) : APure X0 23 ([.s .str s_, .s (.int .i64) most].map DT.toT) (resT ([.s (.int .i64) r.1, .s .bool r.2].map DT.toT)) := by
  refine APure_of_machine (F := F_base_Whole) (fuel := 3000) (E := E_lex_Number) Yok E_lex_Number_ok mixed Tryd.func23 rfl rfl rfl (by decide) (args := [.s .str s_, .s (.int .i64) most]) (Nat.le_of_ble_eq_true rfl) (by kernel_rfl) lab_base_Whole st_base_Whole (fun r => [.s (.int .i64) r.1, .s .bool r.2]) ?_ ?_ ?_ h
  · intro l; cases l
    · exact WF_list ⟨trivial, trivial, trivial, trivial, trivial⟩
  · intro l goto ret; cases l with
    | l5 s_ most n i =>
      show _ = push (sg_base_Whole_5 s_ most n i) (fun l' => goto (lab_base_Whole l').1 (lab_base_Whole l').2) (fun r => ret [.s (.int .i64) r.1, .s .bool r.2])
      unfold sg_base_Whole_5
      simp only [push_G, push_ite, push_bind, push_inl, push_inr]
      kernel_rfl
  · intro goto ret
    show _ = push (en_base_Whole s_ most) (fun l' => goto (lab_base_Whole l').1 (lab_base_Whole l').2) (fun r => ret [.s (.int .i64) r.1, .s .bool r.2])
    unfold en_base_Whole
    simp only [push_G, push_ite, push_bind, push_inl, push_inr]
    kernel_rfl
noncomputable def e_base_Whole : List DT → Option CallRes
  | [.s t0 y0, .s t1 y1] => (castT (b := .str) y0).bind fun s_ => (castT (b := (.int .i64)) y1).bind fun most => some ⟨(Int × Bool), base_Whole s_ most, fun r => .tup [.s (.int .i64) r.1, .s .bool r.2], ((0 : Int), false), true⟩
  | _ => none
noncomputable def E_base_Whole : Env := Env.add 23 e_base_Whole E_lex_Number
theorem E_base_Whole_ok : EnvOk X0 E_base_Whole := by
  refine EnvOk.add E_lex_Number_ok (fun args c h => ?_)
  unfold e_base_Whole at h
  split at h
  · obtain ⟨v0, c0, h⟩ := Option.bind_eq_some_iff.1 h
    obtain ⟨rfl, rfl⟩ := castT_some c0
    obtain ⟨v1, c1, h⟩ := Option.bind_eq_some_iff.1 h
    obtain ⟨rfl, rfl⟩ := castT_some c1
    cases h
    exact ⟨fun r hr => .inl ⟨by kernel_rfl, ok_base_Whole _ _ r hr⟩, fun hb => fun r => noSl_res (by rfl)⟩
  · cases h

/-! ### 9 onceweb/oncewebref01.Number -/
def F_ref01_Number : FnD := { n := 8, rs := [2, 3] }
set_option maxRecDepth 100000 in
theorem ok_ref01_Number (s_ : (List UInt8)) (r : (Int × Bool)) (h : ref01_Number s_ = some r) : APure X0 9 ([.s .str s_].map DT.toT) (resT ([.s (.int .i64) r.1, .s .bool r.2].map DT.toT)) := by
  refine APure_of_straight (F := F_ref01_Number) (fuel := 3000) (E := E_base_Whole) Yok E_base_Whole_ok mixed Tryd.func9 rfl rfl rfl (by decide) (args := [.s .str s_]) (Nat.le_of_ble_eq_true rfl) (by kernel_rfl) (fun r => [.s (.int .i64) r.1, .s .bool r.2]) ?_ h
  intro goto ret
  unfold ref01_Number
  simp only [bnd_G, bnd_ite, bnd_bind, bnd_some]
  kernel_rfl
noncomputable def e_ref01_Number : List DT → Option CallRes
  | [.s t0 y0] => (castT (b := .str) y0).bind fun s_ => some ⟨(Int × Bool), ref01_Number s_, fun r => .tup [.s (.int .i64) r.1, .s .bool r.2], ((0 : Int), false), true⟩
  | _ => none
noncomputable def E_ref01_Number : Env := Env.add 9 e_ref01_Number E_base_Whole
theorem E_ref01_Number_ok : EnvOk X0 E_ref01_Number := by
  refine EnvOk.add E_base_Whole_ok (fun args c h => ?_)
  unfold e_ref01_Number at h
  split at h
  · obtain ⟨v0, c0, h⟩ := Option.bind_eq_some_iff.1 h
    obtain ⟨rfl, rfl⟩ := castT_some c0
    cases h
    exact ⟨fun r hr => .inl ⟨by kernel_rfl, ok_ref01_Number _ r hr⟩, fun hb => fun r => noSl_res (by rfl)⟩
  · cases h

/-! ### 39 slices.Index[[]string,string] -/
def F_slices_Index : FnD := { n := 19, rs := [4], labels := [(2, [0, 1, 7, 8])] }
def lab_slices_Index : L_slices_Index → Nat × DSt
  | .l2 s_ v x7 x8 => (2, [(0, .t (.s (.sl 1 .str) s_)), (1, .t (.s .str v)), (7, .t (.s (.int .i64) x7)), (8, .t (.s (.int .i64) x8))])
set_option maxRecDepth 100000 in
theorem ok_slices_Index (s_ : (List (List UInt8))) (v : (List UInt8)) (r : Int) (h : slices_Index s_ v = some r) : APure X0 39 ([.s (.sl 1 .str) s_, .s .str v].map DT.toT) (resT ([.s (.int .i64) r].map DT.toT)) := by
  refine APure_of_machine (F := F_slices_Index) (fuel := 3000) (E := E_ref01_Number) Yok E_ref01_Number_ok mixed Tryd.func39 rfl rfl rfl (by decide) (args := [.s (.sl 1 .str) s_, .s .str v]) (Nat.le_of_ble_eq_true rfl) (by kernel_rfl) lab_slices_Index st_slices_Index (fun r => [.s (.int .i64) r]) ?_ ?_ ?_ h
  · intro l; cases l
    · exact WF_list ⟨trivial, trivial, trivial, trivial, trivial⟩
  · intro l goto ret; cases l with
    | l2 s_ v x7 x8 =>
      show _ = push (sg_slices_Index_2 s_ v x7 x8) (fun l' => goto (lab_slices_Index l').1 (lab_slices_Index l').2) (fun r => ret [.s (.int .i64) r])
      unfold sg_slices_Index_2
      simp only [push_G, push_ite, push_bind, push_inl, push_inr]
      kernel_rfl
  · intro goto ret
    show _ = push (en_slices_Index s_ v) (fun l' => goto (lab_slices_Index l').1 (lab_slices_Index l').2) (fun r => ret [.s (.int .i64) r])
    unfold en_slices_Index
    simp only [push_G, push_ite, push_bind, push_inl, push_inr]
    kernel_rfl
noncomputable def e_slices_Index : List DT → Option CallRes
  | [.s t0 y0, .s t1 y1] => (castT (b := (.sl 1 .str)) y0).bind fun s_ => (castT (b := .str) y1).bind fun v => some ⟨Int, slices_Index s_ v, fun r => .s (.int .i64) r, (0 : Int), true⟩
  | _ => none
noncomputable def E_slices_Index : Env := Env.add 39 e_slices_Index E_ref01_Number
theorem E_slices_Index_ok : EnvOk X0 E_slices_Index := by
  refine EnvOk.add E_ref01_Number_ok (fun args c h => ?_)
  unfold e_slices_Index at h
  split at h
  · obtain ⟨v0, c0, h⟩ := Option.bind_eq_some_iff.1 h
    obtain ⟨rfl, rfl⟩ := castT_some c0
    obtain ⟨v1, c1, h⟩ := Option.bind_eq_some_iff.1 h
    obtain ⟨rfl, rfl⟩ := castT_some c1
    cases h
    exact ⟨fun r hr => .inl ⟨by kernel_rfl, ok_slices_Index _ _ r hr⟩, fun hb => fun r => noSl_res (by rfl)⟩
  · cases h

/-! ### 26 slices.Contains[[]string,string] -/
def F_slices_Contains : FnD := { n := 9, rs := [4] }
set_option maxRecDepth 100000 in
theorem ok_slices_Contains (s_ : (List (List UInt8))) (v : (List UInt8)) (r : Bool) (h : slices_Contains s_ v = some r) : APure X0 26 ([.s (.sl 1 .str) s_, .s .str v].map DT.toT) (resT ([.s .bool r].map DT.toT)) := by
  refine APure_of_straight (F := F_slices_Contains) (fuel := 3000) (E := E_slices_Index) Yok E_slices_Index_ok mixed Tryd.func26 rfl rfl rfl (by decide) (args := [.s (.sl 1 .str) s_, .s .str v]) (Nat.le_of_ble_eq_true rfl) (by kernel_rfl) (fun r => [.s .bool r]) ?_ h
  intro goto ret
  unfold slices_Contains
  simp only [bnd_G, bnd_ite, bnd_bind, bnd_some]
  kernel_rfl
noncomputable def e_slices_Contains : List DT → Option CallRes
  | [.s t0 y0, .s t1 y1] => (castT (b := (.sl 1 .str)) y0).bind fun s_ => (castT (b := .str) y1).bind fun v => some ⟨Bool, slices_Contains s_ v, fun r => .s .bool r, false, true⟩
  | _ => none
noncomputable def E_slices_Contains : Env := Env.add 26 e_slices_Contains E_slices_Index
theorem E_slices_Contains_ok : EnvOk X0 E_slices_Contains := by
  refine EnvOk.add E_slices_Index_ok (fun args c h => ?_)
  unfold e_slices_Contains at h
  split at h
  · obtain ⟨v0, c0, h⟩ := Option.bind_eq_some_iff.1 h
    obtain ⟨rfl, rfl⟩ := castT_some c0
    obtain ⟨v1, c1, h⟩ := Option.bind_eq_some_iff.1 h
    obtain ⟨rfl, rfl⟩ := castT_some c1
    cases h
    exact ⟨fun r hr => .inl ⟨by kernel_rfl, ok_slices_Contains _ _ r hr⟩, fun hb => fun r => noSl_res (by rfl)⟩
  · cases h

/-! ### 12 onceweb/lex.IsKey -/
def F_lex_IsKey : FnD := { n := 6, rs := [2] }
set_option maxRecDepth 100000 in
theorem ok_lex_IsKey (s_ : (List UInt8)) (r : Bool) (h : lex_IsKey s_ = some r) : APure X0 12 ([.s .str s_].map DT.toT) (resT ([.s .bool r].map DT.toT)) := by
  refine APure_of_straight (F := F_lex_IsKey) (fuel := 3000) (E := E_slices_Contains) Yok E_slices_Contains_ok mixed Tryd.func12 rfl rfl rfl (by decide) (args := [.s .str s_]) (Nat.le_of_ble_eq_true rfl) (by kernel_rfl) (fun r => [.s .bool r]) ?_ h
  intro goto ret
  unfold lex_IsKey
  simp only [bnd_G, bnd_ite, bnd_bind, bnd_some]
  kernel_rfl
noncomputable def e_lex_IsKey : List DT → Option CallRes
  | [.s t0 y0] => (castT (b := .str) y0).bind fun s_ => some ⟨Bool, lex_IsKey s_, fun r => .s .bool r, false, true⟩
  | _ => none
noncomputable def E_lex_IsKey : Env := Env.add 12 e_lex_IsKey E_slices_Contains
theorem E_lex_IsKey_ok : EnvOk X0 E_lex_IsKey := by
  refine EnvOk.add E_slices_Contains_ok (fun args c h => ?_)
  unfold e_lex_IsKey at h
  split at h
  · obtain ⟨v0, c0, h⟩ := Option.bind_eq_some_iff.1 h
    obtain ⟨rfl, rfl⟩ := castT_some c0
    cases h
    exact ⟨fun r hr => .inl ⟨by kernel_rfl, ok_lex_IsKey _ r hr⟩, fun hb => fun r => noSl_res (by rfl)⟩
  · cases h

/-! ### 37 onceweb/lex.letter -/
def F_lex_letter : FnD := { n := 9, rs := [2] }
set_option maxRecDepth 100000 in
theorem ok_lex_letter (c : UInt8) (r : Bool) (h : lex_letter c = some r) : APure X0 37 ([.s .u8 c].map DT.toT) (resT ([.s .bool r].map DT.toT)) := by
  refine APure_of_straight (F := F_lex_letter) (fuel := 3000) (E := E_lex_IsKey) Yok E_lex_IsKey_ok mixed Tryd.func37 rfl rfl rfl (by decide) (args := [.s .u8 c]) (Nat.le_of_ble_eq_true rfl) (by kernel_rfl) (fun r => [.s .bool r]) ?_ h
  intro goto ret
  unfold lex_letter
  simp only [bnd_G, bnd_ite, bnd_bind, bnd_some]
  kernel_rfl
noncomputable def e_lex_letter : List DT → Option CallRes
  | [.s t0 y0] => (castT (b := .u8) y0).bind fun c => some ⟨Bool, lex_letter c, fun r => .s .bool r, false, true⟩
  | _ => none
noncomputable def E_lex_letter : Env := Env.add 37 e_lex_letter E_lex_IsKey
theorem E_lex_letter_ok : EnvOk X0 E_lex_letter := by
  refine EnvOk.add E_lex_IsKey_ok (fun args c h => ?_)
  unfold e_lex_letter at h
  split at h
  · obtain ⟨v0, c0, h⟩ := Option.bind_eq_some_iff.1 h
    obtain ⟨rfl, rfl⟩ := castT_some c0
    cases h
    exact ⟨fun r hr => .inl ⟨by kernel_rfl, ok_lex_letter _ r hr⟩, fun hb => fun r => noSl_res (by rfl)⟩
  · cases h

/-! ### 24 onceweb/lex.word -/
def F_lex_word : FnD := { n := 42, rs := [4], labels := [(3, [0, 1])] }
def lab_lex_word : L_lex_word → Nat × DSt
  | .l3 s_ at_ => (3, [(0, .t (.s .str s_)), (1, .t (.s (.int .i64) at_))])
set_option maxRecDepth 100000 in
theorem ok_lex_word (s_ : (List UInt8)) (at_ : Int) (r : Int) (h : lex_word s_ at_ = some r) : APure X0 24 ([.s .str s_, .s (.int .i64) at_].map DT.toT) (resT ([.s (.int .i64) r].map DT.toT)) := by
  refine APure_of_machine (F := F_lex_word) (fuel := 3000) (E := E_lex_letter) Yok E_lex_letter_ok mixed Tryd.func24 rfl rfl rfl (by decide) (args := [.s .str s_, .s (.int .i64) at_]) (Nat.le_of_ble_eq_true rfl) (by kernel_rfl) lab_lex_word st_lex_word (fun r => [.s (.int .i64) r]) ?_ ?_ ?_ h
  · intro l; cases l
    · exact WF_list ⟨trivial, trivial, trivial⟩
  · intro l goto ret; cases l with
    | l3 s_ at_ =>
      show _ = push (sg_lex_word_3 s_ at_) (fun l' => goto (lab_lex_word l').1 (lab_lex_word l').2) (fun r => ret [.s (.int .i64) r])
      unfold sg_lex_word_3
      simp only [push_G, push_ite, push_bind, push_inl, push_inr]
      kernel_rfl
  · intro goto ret
    show _ = push (en_lex_word s_ at_) (fun l' => goto (lab_lex_word l').1 (lab_lex_word l').2) (fun r => ret [.s (.int .i64) r])
    unfold en_lex_word
    simp only [push_G, push_ite, push_bind, push_inl, push_inr]
    kernel_rfl
noncomputable def e_lex_word : List DT → Option CallRes
  | [.s t0 y0, .s t1 y1] => (castT (b := .str) y0).bind fun s_ => (castT (b := (.int .i64)) y1).bind fun at_ => some ⟨Int, lex_word s_ at_, fun r => .s (.int .i64) r, (0 : Int), true⟩
  | _ => none
noncomputable def E_lex_word : Env := Env.add 24 e_lex_word E_lex_letter
theorem E_lex_word_ok : EnvOk X0 E_lex_word := by
  refine EnvOk.add E_lex_letter_ok (fun args c h => ?_)
  unfold e_lex_word at h
  split at h
  · obtain ⟨v0, c0, h⟩ := Option.bind_eq_some_iff.1 h
    obtain ⟨rfl, rfl⟩ := castT_some c0
    obtain ⟨v1, c1, h⟩ := Option.bind_eq_some_iff.1 h
    obtain ⟨rfl, rfl⟩ := castT_some c1
    cases h
    exact ⟨fun r hr => .inl ⟨by kernel_rfl, ok_lex_word _ _ r hr⟩, fun hb => fun r => noSl_res (by rfl)⟩
  · cases h

/-! ### 10 onceweb/lex.IsName -/
def F_lex_IsName : FnD := { n := 22, rs := [2] }
set_option maxRecDepth 100000 in
theorem ok_lex_IsName (s_ : (List UInt8)) (r : Bool) (h : lex_IsName s_ = some r) : APure X0 10 ([.s .str s_].map DT.toT) (resT ([.s .bool r].map DT.toT)) := by
  refine APure_of_straight (F := F_lex_IsName) (fuel := 3000) (E := E_lex_word) Yok E_lex_word_ok mixed Tryd.func10 rfl rfl rfl (by decide) (args := [.s .str s_]) (Nat.le_of_ble_eq_true rfl) (by kernel_rfl) (fun r => [.s .bool r]) ?_ h
  intro goto ret
  unfold lex_IsName
  simp only [bnd_G, bnd_ite, bnd_bind, bnd_some]
  kernel_rfl
noncomputable def e_lex_IsName : List DT → Option CallRes
  | [.s t0 y0] => (castT (b := .str) y0).bind fun s_ => some ⟨Bool, lex_IsName s_, fun r => .s .bool r, false, true⟩
  | _ => none
noncomputable def E_lex_IsName : Env := Env.add 10 e_lex_IsName E_lex_word
theorem E_lex_IsName_ok : EnvOk X0 E_lex_IsName := by
  refine EnvOk.add E_lex_word_ok (fun args c h => ?_)
  unfold e_lex_IsName at h
  split at h
  · obtain ⟨v0, c0, h⟩ := Option.bind_eq_some_iff.1 h
    obtain ⟨rfl, rfl⟩ := castT_some c0
    cases h
    exact ⟨fun r hr => .inl ⟨by kernel_rfl, ok_lex_IsName _ r hr⟩, fun hb => fun r => noSl_res (by rfl)⟩
  · cases h

/-! ### 27 onceweb/oncewebbase.In -/
def F_base_In : FnD := { n := 18, rs := [4], labels := [(2, [0, 1, 5])] }
def lab_base_In : L_base_In → Nat × DSt
  | .l2 l s_ i => (2, [(0, .t (.s (.sl 1 .str) l)), (1, .t (.s .str s_)), (5, .t (.s (.int .i64) i))])
set_option maxRecDepth 100000 in
theorem ok_base_In (l : (List (List UInt8))) (s_ : (List UInt8)) (r : Bool) (h : base_In l s_ = some r) : APure X0 27 ([.s (.sl 1 .str) l, .s .str s_].map DT.toT) (resT ([.s .bool r].map DT.toT)) := by
  refine APure_of_machine (F := F_base_In) (fuel := 3000) (E := E_lex_IsName) Yok E_lex_IsName_ok mixed Tryd.func27 rfl rfl rfl (by decide) (args := [.s (.sl 1 .str) l, .s .str s_]) (Nat.le_of_ble_eq_true rfl) (by kernel_rfl) lab_base_In st_base_In (fun r => [.s .bool r]) ?_ ?_ ?_ h
  · intro l; cases l
    · exact WF_list ⟨trivial, trivial, trivial, trivial⟩
  · intro l goto ret; cases l with
    | l2 l s_ i =>
      show _ = push (sg_base_In_2 l s_ i) (fun l' => goto (lab_base_In l').1 (lab_base_In l').2) (fun r => ret [.s .bool r])
      unfold sg_base_In_2
      simp only [push_G, push_ite, push_bind, push_inl, push_inr]
      kernel_rfl
  · intro goto ret
    show _ = push (en_base_In l s_) (fun l' => goto (lab_base_In l').1 (lab_base_In l').2) (fun r => ret [.s .bool r])
    unfold en_base_In
    simp only [push_G, push_ite, push_bind, push_inl, push_inr]
    kernel_rfl
noncomputable def e_base_In : List DT → Option CallRes
  | [.s t0 y0, .s t1 y1] => (castT (b := (.sl 1 .str)) y0).bind fun l => (castT (b := .str) y1).bind fun s_ => some ⟨Bool, base_In l s_, fun r => .s .bool r, false, true⟩
  | _ => none
noncomputable def E_base_In : Env := Env.add 27 e_base_In E_lex_IsName
theorem E_base_In_ok : EnvOk X0 E_base_In := by
  refine EnvOk.add E_lex_IsName_ok (fun args c h => ?_)
  unfold e_base_In at h
  split at h
  · obtain ⟨v0, c0, h⟩ := Option.bind_eq_some_iff.1 h
    obtain ⟨rfl, rfl⟩ := castT_some c0
    obtain ⟨v1, c1, h⟩ := Option.bind_eq_some_iff.1 h
    obtain ⟨rfl, rfl⟩ := castT_some c1
    cases h
    exact ⟨fun r hr => .inl ⟨by kernel_rfl, ok_base_In _ _ r hr⟩, fun hb => fun r => noSl_res (by rfl)⟩
  · cases h

/-! ### 28 onceweb/oncewebbase.Keys -/
def F_base_Keys : FnD := { n := 2, rs := [0] }
set_option maxRecDepth 100000 in
theorem ok_base_Keys  (r : (List (List UInt8))) (h : base_Keys  = some r) : APure X0 28 ([].map DT.toT) (resT ([.own 9 .str r].map DT.toT)) := by
  refine APure_of_straight (F := F_base_Keys) (fuel := 3000) (E := E_base_In) Yok E_base_In_ok mixed Tryd.func28 rfl rfl rfl (by decide) (args := []) (Nat.le_of_ble_eq_true rfl) (by kernel_rfl) (fun r => [.own 9 .str r]) ?_ h
  intro goto ret
  unfold base_Keys
  simp only [bnd_G, bnd_ite, bnd_bind, bnd_some]
  kernel_rfl
noncomputable def e_base_Keys : List DT → Option CallRes
  | [] => some ⟨(List (List UInt8)), base_Keys , fun r => .own 9 .str r, ([] : List (List UInt8)), true⟩
  | _ => none
noncomputable def E_base_Keys : Env := Env.add 28 e_base_Keys E_base_In
theorem E_base_Keys_ok : EnvOk X0 E_base_Keys := by
  refine EnvOk.add E_base_In_ok (fun args c h => ?_)
  unfold e_base_Keys at h
  split at h
  · cases h
    exact ⟨fun r hr => .inl ⟨by kernel_rfl, ok_base_Keys r hr⟩, fun hb => fun r => noSl_res (by rfl)⟩
  · cases h

/-! ### 38 onceweb/oncewebbase.Word -/
def F_base_Word : FnD := { n := 45, rs := [2], labels := [(4, [0, 3])] }
def lab_base_Word : L_base_Word → Nat × DSt
  | .l4 s_ i => (4, [(0, .t (.s .str s_)), (3, .t (.s (.int .i64) i))])
set_option maxRecDepth 100000 in
theorem ok_base_Word (s_ : (List UInt8)) (r : Bool) (h : base_Word s_ = some r) : APure X0 38 ([.s .str s_].map DT.toT) (resT ([.s .bool r].map DT.toT)) := by
  refine APure_of_machine (F := F_base_Word) (fuel := 3000) (E := E_base_Keys) Yok E_base_Keys_ok mixed Tryd.func38 rfl rfl rfl (by decide) (args := [.s .str s_]) (Nat.le_of_ble_eq_true rfl) (by kernel_rfl) lab_base_Word st_base_Word (fun r => [.s .bool r]) ?_ ?_ ?_ h
  · intro l; cases l
    · exact WF_list ⟨trivial, trivial, trivial⟩
  · intro l goto ret; cases l with
    | l4 s_ i =>
      show _ = push (sg_base_Word_4 s_ i) (fun l' => goto (lab_base_Word l').1 (lab_base_Word l').2) (fun r => ret [.s .bool r])
      unfold sg_base_Word_4
      simp only [push_G, push_ite, push_bind, push_inl, push_inr]
      kernel_rfl
  · intro goto ret
    show _ = push (en_base_Word s_) (fun l' => goto (lab_base_Word l').1 (lab_base_Word l').2) (fun r => ret [.s .bool r])
    unfold en_base_Word
    simp only [push_G, push_ite, push_bind, push_inl, push_inr]
    kernel_rfl
noncomputable def e_base_Word : List DT → Option CallRes
  | [.s t0 y0] => (castT (b := .str) y0).bind fun s_ => some ⟨Bool, base_Word s_, fun r => .s .bool r, false, true⟩
  | _ => none
noncomputable def E_base_Word : Env := Env.add 38 e_base_Word E_base_Keys
theorem E_base_Word_ok : EnvOk X0 E_base_Word := by
  refine EnvOk.add E_base_Keys_ok (fun args c h => ?_)
  unfold e_base_Word at h
  split at h
  · obtain ⟨v0, c0, h⟩ := Option.bind_eq_some_iff.1 h
    obtain ⟨rfl, rfl⟩ := castT_some c0
    cases h
    exact ⟨fun r hr => .inl ⟨by kernel_rfl, ok_base_Word _ r hr⟩, fun hb => fun r => noSl_res (by rfl)⟩
  · cases h

/-! ### 25 onceweb/oncewebbase.Name -/
def F_base_Name : FnD := { n := 16, rs := [2] }
set_option maxRecDepth 100000 in
theorem ok_base_Name (s_ : (List UInt8)) (r : Bool) (h : base_Name s_ = some r) : APure X0 25 ([.s .str s_].map DT.toT) (resT ([.s .bool r].map DT.toT)) := by
  refine APure_of_straight (F := F_base_Name) (fuel := 3000) (E := E_base_Word) Yok E_base_Word_ok mixed Tryd.func25 rfl rfl rfl (by decide) (args := [.s .str s_]) (Nat.le_of_ble_eq_true rfl) (by kernel_rfl) (fun r => [.s .bool r]) ?_ h
  intro goto ret
  unfold base_Name
  simp only [bnd_G, bnd_ite, bnd_bind, bnd_some]
  kernel_rfl
noncomputable def e_base_Name : List DT → Option CallRes
  | [.s t0 y0] => (castT (b := .str) y0).bind fun s_ => some ⟨Bool, base_Name s_, fun r => .s .bool r, false, true⟩
  | _ => none
noncomputable def E_base_Name : Env := Env.add 25 e_base_Name E_base_Word
theorem E_base_Name_ok : EnvOk X0 E_base_Name := by
  refine EnvOk.add E_base_Word_ok (fun args c h => ?_)
  unfold e_base_Name at h
  split at h
  · obtain ⟨v0, c0, h⟩ := Option.bind_eq_some_iff.1 h
    obtain ⟨rfl, rfl⟩ := castT_some c0
    cases h
    exact ⟨fun r hr => .inl ⟨by kernel_rfl, ok_base_Name _ r hr⟩, fun hb => fun r => noSl_res (by rfl)⟩
  · cases h

/-! ### 11 onceweb/oncewebref01.IsName -/
def F_ref01_IsName : FnD := { n := 5, rs := [2] }
set_option maxRecDepth 100000 in
theorem ok_ref01_IsName (s_ : (List UInt8)) (r : Bool) (h : ref01_IsName s_ = some r) : APure X0 11 ([.s .str s_].map DT.toT) (resT ([.s .bool r].map DT.toT)) := by
  refine APure_of_straight (F := F_ref01_IsName) (fuel := 3000) (E := E_base_Name) Yok E_base_Name_ok mixed Tryd.func11 rfl rfl rfl (by decide) (args := [.s .str s_]) (Nat.le_of_ble_eq_true rfl) (by kernel_rfl) (fun r => [.s .bool r]) ?_ h
  intro goto ret
  unfold ref01_IsName
  simp only [bnd_G, bnd_ite, bnd_bind, bnd_some]
  kernel_rfl
noncomputable def e_ref01_IsName : List DT → Option CallRes
  | [.s t0 y0] => (castT (b := .str) y0).bind fun s_ => some ⟨Bool, ref01_IsName s_, fun r => .s .bool r, false, true⟩
  | _ => none
noncomputable def E_ref01_IsName : Env := Env.add 11 e_ref01_IsName E_base_Name
theorem E_ref01_IsName_ok : EnvOk X0 E_ref01_IsName := by
  refine EnvOk.add E_base_Name_ok (fun args c h => ?_)
  unfold e_ref01_IsName at h
  split at h
  · obtain ⟨v0, c0, h⟩ := Option.bind_eq_some_iff.1 h
    obtain ⟨rfl, rfl⟩ := castT_some c0
    cases h
    exact ⟨fun r hr => .inl ⟨by kernel_rfl, ok_ref01_IsName _ r hr⟩, fun hb => fun r => noSl_res (by rfl)⟩
  · cases h

/-! ### 13 onceweb/oncewebref01.IsKey -/
def F_ref01_IsKey : FnD := { n := 6, rs := [2] }
set_option maxRecDepth 100000 in
theorem ok_ref01_IsKey (s_ : (List UInt8)) (r : Bool) (h : ref01_IsKey s_ = some r) : APure X0 13 ([.s .str s_].map DT.toT) (resT ([.s .bool r].map DT.toT)) := by
  refine APure_of_straight (F := F_ref01_IsKey) (fuel := 3000) (E := E_ref01_IsName) Yok E_ref01_IsName_ok mixed Tryd.func13 rfl rfl rfl (by decide) (args := [.s .str s_]) (Nat.le_of_ble_eq_true rfl) (by kernel_rfl) (fun r => [.s .bool r]) ?_ h
  intro goto ret
  unfold ref01_IsKey
  simp only [bnd_G, bnd_ite, bnd_bind, bnd_some]
  kernel_rfl
noncomputable def e_ref01_IsKey : List DT → Option CallRes
  | [.s t0 y0] => (castT (b := .str) y0).bind fun s_ => some ⟨Bool, ref01_IsKey s_, fun r => .s .bool r, false, true⟩
  | _ => none
noncomputable def E_ref01_IsKey : Env := Env.add 13 e_ref01_IsKey E_ref01_IsName
theorem E_ref01_IsKey_ok : EnvOk X0 E_ref01_IsKey := by
  refine EnvOk.add E_ref01_IsName_ok (fun args c h => ?_)
  unfold e_ref01_IsKey at h
  split at h
  · obtain ⟨v0, c0, h⟩ := Option.bind_eq_some_iff.1 h
    obtain ⟨rfl, rfl⟩ := castT_some c0
    cases h
    exact ⟨fun r hr => .inl ⟨by kernel_rfl, ok_ref01_IsKey _ r hr⟩, fun hb => fun r => noSl_res (by rfl)⟩
  · cases h

/-! ### 3 onceweb/onceweblaw01.LexWords -/
def F_law01_LexWords : FnD := { n := 39, rs := [2] }
set_option maxRecDepth 100000 in
theorem ok_law01_LexWords (s_ : (List UInt8)) (r : Bool) (h : law01_LexWords s_ = some r) : APure X0 3 ([.s .str s_].map DT.toT) (resT ([.s .bool r].map DT.toT)) := by
  refine APure_of_straight (F := F_law01_LexWords) (fuel := 3000) (E := E_ref01_IsKey) Yok E_ref01_IsKey_ok mixed Tryd.func3 rfl rfl rfl (by decide) (args := [.s .str s_]) (Nat.le_of_ble_eq_true rfl) (by kernel_rfl) (fun r => [.s .bool r]) ?_ h
  intro goto ret
  unfold law01_LexWords
  simp only [bnd_G, bnd_ite, bnd_bind, bnd_some]
  kernel_rfl
noncomputable def e_law01_LexWords : List DT → Option CallRes
  | [.s t0 y0] => (castT (b := .str) y0).bind fun s_ => some ⟨Bool, law01_LexWords s_, fun r => .s .bool r, false, true⟩
  | _ => none
noncomputable def E_law01_LexWords : Env := Env.add 3 e_law01_LexWords E_ref01_IsKey
theorem E_law01_LexWords_ok : EnvOk X0 E_law01_LexWords := by
  refine EnvOk.add E_ref01_IsKey_ok (fun args c h => ?_)
  unfold e_law01_LexWords at h
  split at h
  · obtain ⟨v0, c0, h⟩ := Option.bind_eq_some_iff.1 h
    obtain ⟨rfl, rfl⟩ := castT_some c0
    cases h
    exact ⟨fun r hr => .inl ⟨by kernel_rfl, ok_law01_LexWords _ r hr⟩, fun hb => fun r => noSl_res (by rfl)⟩
  · cases h

/-! ### 29 onceweb/lex.blank -/
def F_lex_blank : FnD := { n := 38, rs := [4], labels := [(1, [0, 1]), (8, [0, 1])] }
def lab_lex_blank : L_lex_blank → Nat × DSt
  | .l1 s_ at_ => (1, [(0, .t (.s .str s_)), (1, .t (.s (.int .i64) at_))])
  | .l8 s_ at_ => (8, [(0, .t (.s .str s_)), (1, .t (.s (.int .i64) at_))])
set_option maxRecDepth 100000 in
theorem ok_lex_blank (s_ : (List UInt8)) (at_ : Int) (r : Int) (h : lex_blank s_ at_ = some r) : APure X0 29 ([.s .str s_, .s (.int .i64) at_].map DT.toT) (resT ([.s (.int .i64) r].map DT.toT)) := by
  refine APure_of_machine (F := F_lex_blank) (fuel := 3000) (E := E_law01_LexWords) Yok E_law01_LexWords_ok mixed Tryd.func29 rfl rfl rfl (by decide) (args := [.s .str s_, .s (.int .i64) at_]) (Nat.le_of_ble_eq_true rfl) (by kernel_rfl) lab_lex_blank st_lex_blank (fun r => [.s (.int .i64) r]) ?_ ?_ ?_ h
  · intro l; cases l
    · exact WF_list ⟨trivial, trivial, trivial⟩
    · exact WF_list ⟨trivial, trivial, trivial⟩
  · intro l goto ret; cases l with
    | l1 s_ at_ =>
      show _ = push (sg_lex_blank_1 s_ at_) (fun l' => goto (lab_lex_blank l').1 (lab_lex_blank l').2) (fun r => ret [.s (.int .i64) r])
      unfold sg_lex_blank_1
      simp only [push_G, push_ite, push_bind, push_inl, push_inr]
      kernel_rfl
    | l8 s_ at_ =>
      show _ = push (sg_lex_blank_8 s_ at_) (fun l' => goto (lab_lex_blank l').1 (lab_lex_blank l').2) (fun r => ret [.s (.int .i64) r])
      unfold sg_lex_blank_8
      simp only [push_G, push_ite, push_bind, push_inl, push_inr]
      kernel_rfl
  · intro goto ret
    show _ = push (en_lex_blank s_ at_) (fun l' => goto (lab_lex_blank l').1 (lab_lex_blank l').2) (fun r => ret [.s (.int .i64) r])
    unfold en_lex_blank
    simp only [push_G, push_ite, push_bind, push_inl, push_inr]
    kernel_rfl
noncomputable def e_lex_blank : List DT → Option CallRes
  | [.s t0 y0, .s t1 y1] => (castT (b := .str) y0).bind fun s_ => (castT (b := (.int .i64)) y1).bind fun at_ => some ⟨Int, lex_blank s_ at_, fun r => .s (.int .i64) r, (0 : Int), true⟩
  | _ => none
noncomputable def E_lex_blank : Env := Env.add 29 e_lex_blank E_law01_LexWords
theorem E_lex_blank_ok : EnvOk X0 E_lex_blank := by
  refine EnvOk.add E_law01_LexWords_ok (fun args c h => ?_)
  unfold e_lex_blank at h
  split at h
  · obtain ⟨v0, c0, h⟩ := Option.bind_eq_some_iff.1 h
    obtain ⟨rfl, rfl⟩ := castT_some c0
    obtain ⟨v1, c1, h⟩ := Option.bind_eq_some_iff.1 h
    obtain ⟨rfl, rfl⟩ := castT_some c1
    cases h
    exact ⟨fun r hr => .inl ⟨by kernel_rfl, ok_lex_blank _ _ r hr⟩, fun hb => fun r => noSl_res (by rfl)⟩
  · cases h

/-! ### 56 bytealg_IndexByteString: in no text -/
set_option maxRecDepth 100000 in
theorem ok_bytealg_IndexByteString (s_ : List UInt8) (c : UInt8) (r : Int) (h : bytealg_IndexByteString s_ c = some r) : AExt X0 56 ([.s .str s_, .s .u8 c].map DT.toT) (DT.s (.int .i64) r).toT := by
  cases h
  have := AExt_indexByteString (X := X0) (f := 56) Tryd.func56 (by decide +kernel) (by decide +kernel) (by kernel_rfl) (by kernel_rfl) (mkS s_) (c.toNat : Int)
  rw [bl_mkS, show ((c.toNat : Int).toNat.toUInt8) = c from by simp] at this
  exact this
noncomputable def e_bytealg_IndexByteString : List DT → Option CallRes
  | [.s t0 y0, .s t1 y1] => (castT (b := .str) y0).bind fun s_ => (castT (b := .u8) y1).bind fun c => some ⟨Int, bytealg_IndexByteString s_ c, fun r => .s (.int .i64) r, (0 : Int), false⟩
  | _ => none
noncomputable def E_bytealg_IndexByteString : Env := Env.add 56 e_bytealg_IndexByteString E_lex_blank
theorem E_bytealg_IndexByteString_ok : EnvOk X0 E_bytealg_IndexByteString := by
  refine EnvOk.add E_lex_blank_ok (fun args c h => ?_)
  unfold e_bytealg_IndexByteString at h
  split at h
  · obtain ⟨v0, c0, h⟩ := Option.bind_eq_some_iff.1 h
    obtain ⟨rfl, rfl⟩ := castT_some c0
    obtain ⟨v1, c1, h⟩ := Option.bind_eq_some_iff.1 h
    obtain ⟨rfl, rfl⟩ := castT_some c1
    cases h
    exact ⟨fun r hr => .inr ⟨rfl, ok_bytealg_IndexByteString _ _ r hr⟩, fun hb => by cases hb⟩
  · cases h


/-! ### 51 internal/stringslite.IndexByte -/
def F_stringslite_IndexByte : FnD := { n := 8, rs := [4] }
set_option maxRecDepth 100000 in
theorem ok_stringslite_IndexByte (s_ : (List UInt8)) (c : UInt8) (r : Int) (h : stringslite_IndexByte s_ c = some r) : APure X0 51 ([.s .str s_, .s .u8 c].map DT.toT) (resT ([.s (.int .i64) r].map DT.toT)) := by
  refine APure_of_straight (F := F_stringslite_IndexByte) (fuel := 3000) (E := E_bytealg_IndexByteString) Yok E_bytealg_IndexByteString_ok mixed Tryd.func51 rfl rfl rfl (by decide) (args := [.s .str s_, .s .u8 c]) (Nat.le_of_ble_eq_true rfl) (by kernel_rfl) (fun r => [.s (.int .i64) r]) ?_ h
  intro goto ret
  unfold stringslite_IndexByte
  simp only [bnd_G, bnd_ite, bnd_bind, bnd_some]
  kernel_rfl
noncomputable def e_stringslite_IndexByte : List DT → Option CallRes
  | [.s t0 y0, .s t1 y1] => (castT (b := .str) y0).bind fun s_ => (castT (b := .u8) y1).bind fun c => some ⟨Int, stringslite_IndexByte s_ c, fun r => .s (.int .i64) r, (0 : Int), true⟩
  | _ => none
noncomputable def E_stringslite_IndexByte : Env := Env.add 51 e_stringslite_IndexByte E_bytealg_IndexByteString
theorem E_stringslite_IndexByte_ok : EnvOk X0 E_stringslite_IndexByte := by
  refine EnvOk.add E_bytealg_IndexByteString_ok (fun args c h => ?_)
  unfold e_stringslite_IndexByte at h
  split at h
  · obtain ⟨v0, c0, h⟩ := Option.bind_eq_some_iff.1 h
    obtain ⟨rfl, rfl⟩ := castT_some c0
    obtain ⟨v1, c1, h⟩ := Option.bind_eq_some_iff.1 h
    obtain ⟨rfl, rfl⟩ := castT_some c1
    cases h
    exact ⟨fun r hr => .inl ⟨by kernel_rfl, ok_stringslite_IndexByte _ _ r hr⟩, fun hb => fun r => noSl_res (by rfl)⟩
  · cases h

/-! ### 42 strings.IndexByte -/
def F_strings_IndexByte : FnD := { n := 8, rs := [4] }
set_option maxRecDepth 100000 in
theorem ok_strings_IndexByte (s_ : (List UInt8)) (c : UInt8) (r : Int) (h : strings_IndexByte s_ c = some r) : APure X0 42 ([.s .str s_, .s .u8 c].map DT.toT) (resT ([.s (.int .i64) r].map DT.toT)) := by
  refine APure_of_straight (F := F_strings_IndexByte) (fuel := 3000) (E := E_stringslite_IndexByte) Yok E_stringslite_IndexByte_ok mixed Tryd.func42 rfl rfl rfl (by decide) (args := [.s .str s_, .s .u8 c]) (Nat.le_of_ble_eq_true rfl) (by kernel_rfl) (fun r => [.s (.int .i64) r]) ?_ h
  intro goto ret
  unfold strings_IndexByte
  simp only [bnd_G, bnd_ite, bnd_bind, bnd_some]
  kernel_rfl
noncomputable def e_strings_IndexByte : List DT → Option CallRes
  | [.s t0 y0, .s t1 y1] => (castT (b := .str) y0).bind fun s_ => (castT (b := .u8) y1).bind fun c => some ⟨Int, strings_IndexByte s_ c, fun r => .s (.int .i64) r, (0 : Int), true⟩
  | _ => none
noncomputable def E_strings_IndexByte : Env := Env.add 42 e_strings_IndexByte E_stringslite_IndexByte
theorem E_strings_IndexByte_ok : EnvOk X0 E_strings_IndexByte := by
  refine EnvOk.add E_stringslite_IndexByte_ok (fun args c h => ?_)
  unfold e_strings_IndexByte at h
  split at h
  · obtain ⟨v0, c0, h⟩ := Option.bind_eq_some_iff.1 h
    obtain ⟨rfl, rfl⟩ := castT_some c0
    obtain ⟨v1, c1, h⟩ := Option.bind_eq_some_iff.1 h
    obtain ⟨rfl, rfl⟩ := castT_some c1
    cases h
    exact ⟨fun r hr => .inl ⟨by kernel_rfl, ok_strings_IndexByte _ _ r hr⟩, fun hb => fun r => noSl_res (by rfl)⟩
  · cases h

/-! ### 49 onceweb/lex.escaped -/
def F_lex_escaped : FnD := { n := 60, rs := [4, 5] }
set_option maxRecDepth 100000 in
theorem ok_lex_escaped (s_ : (List UInt8)) (at_ : Int) (r : (UInt8 × Int)) (h : lex_escaped s_ at_ = some r) : APure X0 49 ([.s .str s_, .s (.int .i64) at_].map DT.toT) (resT ([.s .u8 r.1, .s (.int .i64) r.2].map DT.toT)) := by
  refine APure_of_straight (F := F_lex_escaped) (fuel := 3000) (E := E_strings_IndexByte) Yok E_strings_IndexByte_ok mixed Tryd.func49 rfl rfl rfl (by decide) (args := [.s .str s_, .s (.int .i64) at_]) (Nat.le_of_ble_eq_true rfl) (by kernel_rfl) (fun r => [.s .u8 r.1, .s (.int .i64) r.2]) ?_ h
  intro goto ret
  unfold lex_escaped
  simp only [bnd_G, bnd_ite, bnd_bind, bnd_some]
  kernel_rfl
noncomputable def e_lex_escaped : List DT → Option CallRes
  | [.s t0 y0, .s t1 y1] => (castT (b := .str) y0).bind fun s_ => (castT (b := (.int .i64)) y1).bind fun at_ => some ⟨(UInt8 × Int), lex_escaped s_ at_, fun r => .tup [.s .u8 r.1, .s (.int .i64) r.2], ((0 : UInt8), (0 : Int)), true⟩
  | _ => none
noncomputable def E_lex_escaped : Env := Env.add 49 e_lex_escaped E_strings_IndexByte
theorem E_lex_escaped_ok : EnvOk X0 E_lex_escaped := by
  refine EnvOk.add E_strings_IndexByte_ok (fun args c h => ?_)
  unfold e_lex_escaped at h
  split at h
  · obtain ⟨v0, c0, h⟩ := Option.bind_eq_some_iff.1 h
    obtain ⟨rfl, rfl⟩ := castT_some c0
    obtain ⟨v1, c1, h⟩ := Option.bind_eq_some_iff.1 h
    obtain ⟨rfl, rfl⟩ := castT_some c1
    cases h
    exact ⟨fun r hr => .inl ⟨by kernel_rfl, ok_lex_escaped _ _ r hr⟩, fun hb => fun r => noSl_res (by rfl)⟩
  · cases h

/-! ### 36 onceweb/lex.quoted -/
def F_lex_quoted : FnD := { n := 69, rs := [4, 5, 6], labels := [(5, [0, 1, 7])] }
def lab_lex_quoted : L_lex_quoted → Nat × DSt
  | .l5 s_ at_ out => (5, [(0, .t (.s .str s_)), (1, .t (.s (.int .i64) at_)), (7, .t (.own 5 .u8 out))])
set_option maxRecDepth 100000 in
theorem ok_lex_quoted (s_ : (List UInt8)) (at_ : Int) (r : ((List UInt8) × Int × Bool)) (h : lex_quoted s_ at_ = some r) : APure X0 36 ([.s .str s_, .s (.int .i64) at_].map DT.toT) (resT ([.s .str r.1, .s (.int .i64) r.2.1, .s .bool r.2.2].map DT.toT)) := by
  refine APure_of_machine (F := F_lex_quoted) (fuel := 3000) (E := E_lex_escaped) Yok E_lex_escaped_ok mixed Tryd.func36 rfl rfl rfl (by decide) (args := [.s .str s_, .s (.int .i64) at_]) (Nat.le_of_ble_eq_true rfl) (by kernel_rfl) lab_lex_quoted st_lex_quoted (fun r => [.s .str r.1, .s (.int .i64) r.2.1, .s .bool r.2.2]) ?_ ?_ ?_ h
  · intro l; cases l
    · exact WF_list ⟨trivial, trivial, trivial, trivial⟩
  · intro l goto ret; cases l with
    | l5 s_ at_ out =>
      show _ = push (sg_lex_quoted_5 s_ at_ out) (fun l' => goto (lab_lex_quoted l').1 (lab_lex_quoted l').2) (fun r => ret [.s .str r.1, .s (.int .i64) r.2.1, .s .bool r.2.2])
      unfold sg_lex_quoted_5
      simp only [push_G, push_ite, push_bind, push_inl, push_inr]
      kernel_rfl
  · intro goto ret
    show _ = push (en_lex_quoted s_ at_) (fun l' => goto (lab_lex_quoted l').1 (lab_lex_quoted l').2) (fun r => ret [.s .str r.1, .s (.int .i64) r.2.1, .s .bool r.2.2])
    unfold en_lex_quoted
    simp only [push_G, push_ite, push_bind, push_inl, push_inr]
    kernel_rfl
noncomputable def e_lex_quoted : List DT → Option CallRes
  | [.s t0 y0, .s t1 y1] => (castT (b := .str) y0).bind fun s_ => (castT (b := (.int .i64)) y1).bind fun at_ => some ⟨((List UInt8) × Int × Bool), lex_quoted s_ at_, fun r => .tup [.s .str r.1, .s (.int .i64) r.2.1, .s .bool r.2.2], (([] : List UInt8), (0 : Int), false), true⟩
  | _ => none
noncomputable def E_lex_quoted : Env := Env.add 36 e_lex_quoted E_lex_escaped
theorem E_lex_quoted_ok : EnvOk X0 E_lex_quoted := by
  refine EnvOk.add E_lex_escaped_ok (fun args c h => ?_)
  unfold e_lex_quoted at h
  split at h
  · obtain ⟨v0, c0, h⟩ := Option.bind_eq_some_iff.1 h
    obtain ⟨rfl, rfl⟩ := castT_some c0
    obtain ⟨v1, c1, h⟩ := Option.bind_eq_some_iff.1 h
    obtain ⟨rfl, rfl⟩ := castT_some c1
    cases h
    exact ⟨fun r hr => .inl ⟨by kernel_rfl, ok_lex_quoted _ _ r hr⟩, fun hb => fun r => noSl_res (by rfl)⟩
  · cases h

/-! ### 40 onceweb/lex.named -/
def F_lex_named : FnD := { n := 18, rs := [4, 5], cl := [(4, 34)] }
set_option maxRecDepth 100000 in
theorem ok_lex_named (w : (List UInt8)) (at_ : Int) (r : (tToken × Int)) (h : lex_named w at_ = some r) : APure X0 40 ([.s .str w, .s (.int .i64) at_].map DT.toT) (resT ([.s tyToken r.1, .s (.int .i64) r.2].map DT.toT)) := by
  refine APure_of_straight (F := F_lex_named) (fuel := 3000) (E := E_lex_quoted) Yok E_lex_quoted_ok mixed Tryd.func40 rfl rfl rfl (by decide) (args := [.s .str w, .s (.int .i64) at_]) (Nat.le_of_ble_eq_true rfl) (by kernel_rfl) (fun r => [.s tyToken r.1, .s (.int .i64) r.2]) ?_ h
  intro goto ret
  unfold lex_named
  simp only [bnd_G, bnd_ite, bnd_bind, bnd_some]
  kernel_rfl
noncomputable def e_lex_named : List DT → Option CallRes
  | [.s t0 y0, .s t1 y1] => (castT (b := .str) y0).bind fun w => (castT (b := (.int .i64)) y1).bind fun at_ => some ⟨(tToken × Int), lex_named w at_, fun r => .tup [.s tyToken r.1, .s (.int .i64) r.2], (dToken, (0 : Int)), true⟩
  | _ => none
noncomputable def E_lex_named : Env := Env.add 40 e_lex_named E_lex_quoted
theorem E_lex_named_ok : EnvOk X0 E_lex_named := by
  refine EnvOk.add E_lex_quoted_ok (fun args c h => ?_)
  unfold e_lex_named at h
  split at h
  · obtain ⟨v0, c0, h⟩ := Option.bind_eq_some_iff.1 h
    obtain ⟨rfl, rfl⟩ := castT_some c0
    obtain ⟨v1, c1, h⟩ := Option.bind_eq_some_iff.1 h
    obtain ⟨rfl, rfl⟩ := castT_some c1
    cases h
    exact ⟨fun r hr => .inl ⟨by kernel_rfl, ok_lex_named _ _ r hr⟩, fun hb => fun r => noSl_res (by rfl)⟩
  · cases h

/-! ### 50 internal/stringslite.HasPrefix -/
def F_stringslite_HasPrefix : FnD := { n := 18, rs := [4] }
set_option maxRecDepth 100000 in
theorem ok_stringslite_HasPrefix (s_ : (List UInt8)) (prefix_ : (List UInt8)) (r : Bool) (h : stringslite_HasPrefix s_ prefix_ = some r) : APure X0 50 ([.s .str s_, .s .str prefix_].map DT.toT) (resT ([.s .bool r].map DT.toT)) := by
  refine APure_of_straight (F := F_stringslite_HasPrefix) (fuel := 3000) (E := E_lex_named) Yok E_lex_named_ok mixed Tryd.func50 rfl rfl rfl (by decide) (args := [.s .str s_, .s .str prefix_]) (Nat.le_of_ble_eq_true rfl) (by kernel_rfl) (fun r => [.s .bool r]) ?_ h
  intro goto ret
  unfold stringslite_HasPrefix
  simp only [bnd_G, bnd_ite, bnd_bind, bnd_some]
  kernel_rfl
noncomputable def e_stringslite_HasPrefix : List DT → Option CallRes
  | [.s t0 y0, .s t1 y1] => (castT (b := .str) y0).bind fun s_ => (castT (b := .str) y1).bind fun prefix_ => some ⟨Bool, stringslite_HasPrefix s_ prefix_, fun r => .s .bool r, false, true⟩
  | _ => none
noncomputable def E_stringslite_HasPrefix : Env := Env.add 50 e_stringslite_HasPrefix E_lex_named
theorem E_stringslite_HasPrefix_ok : EnvOk X0 E_stringslite_HasPrefix := by
  refine EnvOk.add E_lex_named_ok (fun args c h => ?_)
  unfold e_stringslite_HasPrefix at h
  split at h
  · obtain ⟨v0, c0, h⟩ := Option.bind_eq_some_iff.1 h
    obtain ⟨rfl, rfl⟩ := castT_some c0
    obtain ⟨v1, c1, h⟩ := Option.bind_eq_some_iff.1 h
    obtain ⟨rfl, rfl⟩ := castT_some c1
    cases h
    exact ⟨fun r hr => .inl ⟨by kernel_rfl, ok_stringslite_HasPrefix _ _ r hr⟩, fun hb => fun r => noSl_res (by rfl)⟩
  · cases h

/-! ### 41 strings.HasPrefix -/
def F_strings_HasPrefix : FnD := { n := 8, rs := [4] }
set_option maxRecDepth 100000 in
theorem ok_strings_HasPrefix (s_ : (List UInt8)) (prefix_ : (List UInt8)) (r : Bool) (h : strings_HasPrefix s_ prefix_ = some r) : APure X0 41 ([.s .str s_, .s .str prefix_].map DT.toT) (resT ([.s .bool r].map DT.toT)) := by
  refine APure_of_straight (F := F_strings_HasPrefix) (fuel := 3000) (E := E_stringslite_HasPrefix) Yok E_stringslite_HasPrefix_ok mixed Tryd.func41 rfl rfl rfl (by decide) (args := [.s .str s_, .s .str prefix_]) (Nat.le_of_ble_eq_true rfl) (by kernel_rfl) (fun r => [.s .bool r]) ?_ h
  intro goto ret
  unfold strings_HasPrefix
  simp only [bnd_G, bnd_ite, bnd_bind, bnd_some]
  kernel_rfl
noncomputable def e_strings_HasPrefix : List DT → Option CallRes
  | [.s t0 y0, .s t1 y1] => (castT (b := .str) y0).bind fun s_ => (castT (b := .str) y1).bind fun prefix_ => some ⟨Bool, strings_HasPrefix s_ prefix_, fun r => .s .bool r, false, true⟩
  | _ => none
noncomputable def E_strings_HasPrefix : Env := Env.add 41 e_strings_HasPrefix E_stringslite_HasPrefix
theorem E_strings_HasPrefix_ok : EnvOk X0 E_strings_HasPrefix := by
  refine EnvOk.add E_stringslite_HasPrefix_ok (fun args c h => ?_)
  unfold e_strings_HasPrefix at h
  split at h
  · obtain ⟨v0, c0, h⟩ := Option.bind_eq_some_iff.1 h
    obtain ⟨rfl, rfl⟩ := castT_some c0
    obtain ⟨v1, c1, h⟩ := Option.bind_eq_some_iff.1 h
    obtain ⟨rfl, rfl⟩ := castT_some c1
    cases h
    exact ⟨fun r hr => .inl ⟨by kernel_rfl, ok_strings_HasPrefix _ _ r hr⟩, fun hb => fun r => noSl_res (by rfl)⟩
  · cases h

/-! ### 30 onceweb/lex.one -/
def F_lex_one : FnD := { n := 143, rs := [4, 5, 6], labels := [(15, [0, 1, 4, 12]), (33, [0, 1, 4, 18])], cl := [(4, 34)] }
def lab_lex_one : L_lex_one → Nat × DSt
  | .l15 s_ at_ x4 x4' x4'' x4''' end_ => (15, [(0, .t (.s .str s_)), (1, .t (.s (.int .i64) at_)), (4, .t (.box 34 [.s (.int .i64) x4, .s (.int .i64) x4', .s (.int .i64) x4'', .s .str x4'''])), (12, .t (.s (.int .i64) end_))])
  | .l33 s_ at_ x4 x4' x4'' x4''' n => (33, [(0, .t (.s .str s_)), (1, .t (.s (.int .i64) at_)), (4, .t (.box 34 [.s (.int .i64) x4, .s (.int .i64) x4', .s (.int .i64) x4'', .s .str x4'''])), (18, .t (.s (.int .i64) n))])
set_option maxRecDepth 100000 in
theorem ok_lex_one (s_ : (List UInt8)) (at_ : Int) (r : (tToken × Int × Int)) (h : lex_one s_ at_ = some r) : APure X0 30 ([.s .str s_, .s (.int .i64) at_].map DT.toT) (resT ([.s tyToken r.1, .s (.int .i64) r.2.1, .s (.int .i64) r.2.2].map DT.toT)) := by
  refine APure_of_machine (F := F_lex_one) (fuel := 3000) (E := E_strings_HasPrefix) Yok E_strings_HasPrefix_ok mixed Tryd.func30 rfl rfl rfl (by decide) (args := [.s .str s_, .s (.int .i64) at_]) (Nat.le_of_ble_eq_true rfl) (by kernel_rfl) lab_lex_one st_lex_one (fun r => [.s tyToken r.1, .s (.int .i64) r.2.1, .s (.int .i64) r.2.2]) ?_ ?_ ?_ h
  · intro l; cases l
    · exact WF_list ⟨trivial, trivial, trivial, trivial, trivial⟩
    · exact WF_list ⟨trivial, trivial, trivial, trivial, trivial⟩
  · intro l goto ret; cases l with
    | l15 s_ at_ x4 x4' x4'' x4''' end_ =>
      show _ = push (sg_lex_one_15 s_ at_ x4 x4' x4'' x4''' end_) (fun l' => goto (lab_lex_one l').1 (lab_lex_one l').2) (fun r => ret [.s tyToken r.1, .s (.int .i64) r.2.1, .s (.int .i64) r.2.2])
      unfold sg_lex_one_15
      simp only [push_G, push_ite, push_bind, push_inl, push_inr]
      kernel_rfl
    | l33 s_ at_ x4 x4' x4'' x4''' n =>
      show _ = push (sg_lex_one_33 s_ at_ x4 x4' x4'' x4''' n) (fun l' => goto (lab_lex_one l').1 (lab_lex_one l').2) (fun r => ret [.s tyToken r.1, .s (.int .i64) r.2.1, .s (.int .i64) r.2.2])
      unfold sg_lex_one_33
      simp only [push_G, push_ite, push_bind, push_inl, push_inr]
      kernel_rfl
  · intro goto ret
    show _ = push (en_lex_one s_ at_) (fun l' => goto (lab_lex_one l').1 (lab_lex_one l').2) (fun r => ret [.s tyToken r.1, .s (.int .i64) r.2.1, .s (.int .i64) r.2.2])
    unfold en_lex_one
    simp only [push_G, push_ite, push_bind, push_inl, push_inr]
    kernel_rfl
noncomputable def e_lex_one : List DT → Option CallRes
  | [.s t0 y0, .s t1 y1] => (castT (b := .str) y0).bind fun s_ => (castT (b := (.int .i64)) y1).bind fun at_ => some ⟨(tToken × Int × Int), lex_one s_ at_, fun r => .tup [.s tyToken r.1, .s (.int .i64) r.2.1, .s (.int .i64) r.2.2], (dToken, (0 : Int), (0 : Int)), true⟩
  | _ => none
noncomputable def E_lex_one : Env := Env.add 30 e_lex_one E_strings_HasPrefix
theorem E_lex_one_ok : EnvOk X0 E_lex_one := by
  refine EnvOk.add E_strings_HasPrefix_ok (fun args c h => ?_)
  unfold e_lex_one at h
  split at h
  · obtain ⟨v0, c0, h⟩ := Option.bind_eq_some_iff.1 h
    obtain ⟨rfl, rfl⟩ := castT_some c0
    obtain ⟨v1, c1, h⟩ := Option.bind_eq_some_iff.1 h
    obtain ⟨rfl, rfl⟩ := castT_some c1
    cases h
    exact ⟨fun r hr => .inl ⟨by kernel_rfl, ok_lex_one _ _ r hr⟩, fun hb => fun r => noSl_res (by rfl)⟩
  · cases h

/-! ### 15 onceweb/lex.Tokens -/
def F_lex_Tokens : FnD := { n := 45, rs := [2, 3], labels := [(5, [0, 3, 4, 5])], cl := [(3, 29)] }
def lab_lex_Tokens : L_lex_Tokens → Nat × DSt
  | .l5 s_ x3 x3' l at_ => (5, [(0, .t (.s .str s_)), (3, .t (.box 29 [.s (.int .i64) x3, .s (.int .i64) x3'])), (4, .t (.own 34 tyToken l)), (5, .t (.s (.int .i64) at_))])
set_option maxRecDepth 100000 in
theorem ok_lex_Tokens (s_ : (List UInt8)) (r : ((List tToken) × tFault)) (h : lex_Tokens s_ = some r) : APure X0 15 ([.s .str s_].map DT.toT) (resT ([.own 34 tyToken r.1, .s tyFault r.2].map DT.toT)) := by
  refine APure_of_machine (F := F_lex_Tokens) (fuel := 3000) (E := E_lex_one) Yok E_lex_one_ok mixed Tryd.func15 rfl rfl rfl (by decide) (args := [.s .str s_]) (Nat.le_of_ble_eq_true rfl) (by kernel_rfl) lab_lex_Tokens st_lex_Tokens (fun r => [.own 34 tyToken r.1, .s tyFault r.2]) ?_ ?_ ?_ h
  · intro l; cases l
    · exact WF_list ⟨trivial, trivial, trivial, trivial, trivial⟩
  · intro l goto ret; cases l with
    | l5 s_ x3 x3' l at_ =>
      show _ = push (sg_lex_Tokens_5 s_ x3 x3' l at_) (fun l' => goto (lab_lex_Tokens l').1 (lab_lex_Tokens l').2) (fun r => ret [.own 34 tyToken r.1, .s tyFault r.2])
      unfold sg_lex_Tokens_5
      simp only [push_G, push_ite, push_bind, push_inl, push_inr]
      kernel_rfl
  · intro goto ret
    show _ = push (en_lex_Tokens s_) (fun l' => goto (lab_lex_Tokens l').1 (lab_lex_Tokens l').2) (fun r => ret [.own 34 tyToken r.1, .s tyFault r.2])
    unfold en_lex_Tokens
    simp only [push_G, push_ite, push_bind, push_inl, push_inr]
    kernel_rfl
noncomputable def e_lex_Tokens : List DT → Option CallRes
  | [.s t0 y0] => (castT (b := .str) y0).bind fun s_ => some ⟨((List tToken) × tFault), lex_Tokens s_, fun r => .tup [.own 34 tyToken r.1, .s tyFault r.2], (([] : List tToken), dFault), true⟩
  | _ => none
noncomputable def E_lex_Tokens : Env := Env.add 15 e_lex_Tokens E_lex_one
theorem E_lex_Tokens_ok : EnvOk X0 E_lex_Tokens := by
  refine EnvOk.add E_lex_one_ok (fun args c h => ?_)
  unfold e_lex_Tokens at h
  split at h
  · obtain ⟨v0, c0, h⟩ := Option.bind_eq_some_iff.1 h
    obtain ⟨rfl, rfl⟩ := castT_some c0
    cases h
    exact ⟨fun r hr => .inl ⟨by kernel_rfl, ok_lex_Tokens _ r hr⟩, fun hb => fun r => noSl_res (by rfl)⟩
  · cases h

/-! ### 16 onceweb/onceweblaw01.tokens -/
def F_law01_tokens : FnD := { n := 26, rs := [4], labels := [(4, [0, 1, 5])] }
def lab_law01_tokens : L_law01_tokens → Nat × DSt
  | .l4 a b i => (4, [(0, .t (.s (.sl 4 tyToken) a)), (1, .t (.s (.sl 4 tyToken) b)), (5, .t (.s (.int .i64) i))])
set_option maxRecDepth 100000 in
theorem ok_law01_tokens (a : (List tToken)) (b : (List tToken)) (r : Bool) (h : law01_tokens a b = some r) : APure X0 16 ([.s (.sl 4 tyToken) a, .s (.sl 4 tyToken) b].map DT.toT) (resT ([.s .bool r].map DT.toT)) := by
  refine APure_of_machine (F := F_law01_tokens) (fuel := 3000) (E := E_lex_Tokens) Yok E_lex_Tokens_ok mixed Tryd.func16 rfl rfl rfl (by decide) (args := [.s (.sl 4 tyToken) a, .s (.sl 4 tyToken) b]) (Nat.le_of_ble_eq_true rfl) (by kernel_rfl) lab_law01_tokens st_law01_tokens (fun r => [.s .bool r]) ?_ ?_ ?_ h
  · intro l; cases l
    · exact WF_list ⟨trivial, trivial, trivial, trivial⟩
  · intro l goto ret; cases l with
    | l4 a b i =>
      show _ = push (sg_law01_tokens_4 a b i) (fun l' => goto (lab_law01_tokens l').1 (lab_law01_tokens l').2) (fun r => ret [.s .bool r])
      unfold sg_law01_tokens_4
      simp only [push_G, push_ite, push_bind, push_inl, push_inr]
      kernel_rfl
  · intro goto ret
    show _ = push (en_law01_tokens a b) (fun l' => goto (lab_law01_tokens l').1 (lab_law01_tokens l').2) (fun r => ret [.s .bool r])
    unfold en_law01_tokens
    simp only [push_G, push_ite, push_bind, push_inl, push_inr]
    kernel_rfl
noncomputable def e_law01_tokens : List DT → Option CallRes
  | [.s t0 y0, .s t1 y1] => (castT (b := (.sl 4 tyToken)) y0).bind fun a => (castT (b := (.sl 4 tyToken)) y1).bind fun b => some ⟨Bool, law01_tokens a b, fun r => .s .bool r, false, true⟩
  | _ => none
noncomputable def E_law01_tokens : Env := Env.add 16 e_law01_tokens E_lex_Tokens
theorem E_law01_tokens_ok : EnvOk X0 E_law01_tokens := by
  refine EnvOk.add E_lex_Tokens_ok (fun args c h => ?_)
  unfold e_law01_tokens at h
  split at h
  · obtain ⟨v0, c0, h⟩ := Option.bind_eq_some_iff.1 h
    obtain ⟨rfl, rfl⟩ := castT_some c0
    obtain ⟨v1, c1, h⟩ := Option.bind_eq_some_iff.1 h
    obtain ⟨rfl, rfl⟩ := castT_some c1
    cases h
    exact ⟨fun r hr => .inl ⟨by kernel_rfl, ok_law01_tokens _ _ r hr⟩, fun hb => fun r => noSl_res (by rfl)⟩
  · cases h

/-! ### 21 onceweb/lex.Quote -/
def F_lex_Quote : FnD := { n := 63, rs := [2], labels := [(4, [0, 3, 14, 15])] }
def lab_lex_Quote : L_lex_Quote → Nat × DSt
  | .l4 s_ out x14 x15 => (4, [(0, .t (.s .str s_)), (3, .t (.own 5 .u8 out)), (14, .t (.s (.int .i64) x14)), (15, .t (.s (.int .i64) x15))])
set_option maxRecDepth 100000 in
theorem ok_lex_Quote (s_ : (List UInt8)) (r : (List UInt8)) (h : lex_Quote s_ = some r) : APure X0 21 ([.s .str s_].map DT.toT) (resT ([.s .str r].map DT.toT)) := by
  refine APure_of_machine (F := F_lex_Quote) (fuel := 3000) (E := E_law01_tokens) Yok E_law01_tokens_ok mixed Tryd.func21 rfl rfl rfl (by decide) (args := [.s .str s_]) (Nat.le_of_ble_eq_true rfl) (by kernel_rfl) lab_lex_Quote st_lex_Quote (fun r => [.s .str r]) ?_ ?_ ?_ h
  · intro l; cases l
    · exact WF_list ⟨trivial, trivial, trivial, trivial, trivial⟩
  · intro l goto ret; cases l with
    | l4 s_ out x14 x15 =>
      show _ = push (sg_lex_Quote_4 s_ out x14 x15) (fun l' => goto (lab_lex_Quote l').1 (lab_lex_Quote l').2) (fun r => ret [.s .str r])
      unfold sg_lex_Quote_4
      simp only [push_G, push_ite, push_bind, push_inl, push_inr]
      kernel_rfl
  · intro goto ret
    show _ = push (en_lex_Quote s_) (fun l' => goto (lab_lex_Quote l').1 (lab_lex_Quote l').2) (fun r => ret [.s .str r])
    unfold en_lex_Quote
    simp only [push_G, push_ite, push_bind, push_inl, push_inr]
    kernel_rfl
noncomputable def e_lex_Quote : List DT → Option CallRes
  | [.s t0 y0] => (castT (b := .str) y0).bind fun s_ => some ⟨(List UInt8), lex_Quote s_, fun r => .s .str r, ([] : List UInt8), true⟩
  | _ => none
noncomputable def E_lex_Quote : Env := Env.add 21 e_lex_Quote E_law01_tokens
theorem E_lex_Quote_ok : EnvOk X0 E_lex_Quote := by
  refine EnvOk.add E_law01_tokens_ok (fun args c h => ?_)
  unfold e_lex_Quote at h
  split at h
  · obtain ⟨v0, c0, h⟩ := Option.bind_eq_some_iff.1 h
    obtain ⟨rfl, rfl⟩ := castT_some c0
    cases h
    exact ⟨fun r hr => .inl ⟨by kernel_rfl, ok_lex_Quote _ r hr⟩, fun hb => fun r => noSl_res (by rfl)⟩
  · cases h

/-! ### 14 onceweb/onceweblaw01.works -/
def F_law01_works : FnD := { n := 22, rs := [0] }
set_option maxRecDepth 100000 in
theorem ok_law01_works  (r : Bool) (h : law01_works  = some r) : APure X0 14 ([].map DT.toT) (resT ([.s .bool r].map DT.toT)) := by
  refine APure_of_straight (F := F_law01_works) (fuel := 3000) (E := E_lex_Quote) Yok E_lex_Quote_ok mixed Tryd.func14 rfl rfl rfl (by decide) (args := []) (Nat.le_of_ble_eq_true rfl) (by kernel_rfl) (fun r => [.s .bool r]) ?_ h
  intro goto ret
  unfold law01_works
  simp only [bnd_G, bnd_ite, bnd_bind, bnd_some]
  kernel_rfl
noncomputable def e_law01_works : List DT → Option CallRes
  | [] => some ⟨Bool, law01_works , fun r => .s .bool r, false, true⟩
  | _ => none
noncomputable def E_law01_works : Env := Env.add 14 e_law01_works E_lex_Quote
theorem E_law01_works_ok : EnvOk X0 E_law01_works := by
  refine EnvOk.add E_lex_Quote_ok (fun args c h => ?_)
  unfold e_law01_works at h
  split at h
  · cases h
    exact ⟨fun r hr => .inl ⟨by kernel_rfl, ok_law01_works r hr⟩, fun hb => fun r => noSl_res (by rfl)⟩
  · cases h

/-! ### 17 onceweb/onceweblaw01.nowhere -/
def F_law01_nowhere : FnD := { n := 19, rs := [2], labels := [(3, [3, 4])] }
def lab_law01_nowhere : L_law01_nowhere → Nat × DSt
  | .l3 out i => (3, [(3, .t (.own 34 tyToken out)), (4, .t (.s (.int .i64) i))])
set_option maxRecDepth 100000 in
theorem ok_law01_nowhere (l : (List tToken)) (r : (List tToken)) (h : law01_nowhere l = some r) : APure X0 17 ([.s (.sl 4 tyToken) l].map DT.toT) (resT ([.own 34 tyToken r].map DT.toT)) := by
  refine APure_of_machine (F := F_law01_nowhere) (fuel := 3000) (E := E_law01_works) Yok E_law01_works_ok mixed Tryd.func17 rfl rfl rfl (by decide) (args := [.s (.sl 4 tyToken) l]) (Nat.le_of_ble_eq_true rfl) (by kernel_rfl) lab_law01_nowhere st_law01_nowhere (fun r => [.own 34 tyToken r]) ?_ ?_ ?_ h
  · intro l; cases l
    · exact WF_list ⟨trivial, trivial, trivial⟩
  · intro l goto ret; cases l with
    | l3 out i =>
      show _ = push (sg_law01_nowhere_3 out i) (fun l' => goto (lab_law01_nowhere l').1 (lab_law01_nowhere l').2) (fun r => ret [.own 34 tyToken r])
      unfold sg_law01_nowhere_3
      simp only [push_G, push_ite, push_bind, push_inl, push_inr]
      kernel_rfl
  · intro goto ret
    show _ = push (en_law01_nowhere l) (fun l' => goto (lab_law01_nowhere l').1 (lab_law01_nowhere l').2) (fun r => ret [.own 34 tyToken r])
    unfold en_law01_nowhere
    simp only [push_G, push_ite, push_bind, push_inl, push_inr]
    kernel_rfl
noncomputable def e_law01_nowhere : List DT → Option CallRes
  | [.s t0 y0] => (castT (b := (.sl 4 tyToken)) y0).bind fun l => some ⟨(List tToken), law01_nowhere l, fun r => .own 34 tyToken r, ([] : List tToken), true⟩
  | _ => none
noncomputable def E_law01_nowhere : Env := Env.add 17 e_law01_nowhere E_law01_works
theorem E_law01_nowhere_ok : EnvOk X0 E_law01_nowhere := by
  refine EnvOk.add E_law01_works_ok (fun args c h => ?_)
  unfold e_law01_nowhere at h
  split at h
  · obtain ⟨v0, c0, h⟩ := Option.bind_eq_some_iff.1 h
    obtain ⟨rfl, rfl⟩ := castT_some c0
    cases h
    exact ⟨fun r hr => .inl ⟨by kernel_rfl, ok_law01_nowhere _ r hr⟩, fun hb => fun r => noSl_res (by rfl)⟩
  · cases h

/-! ### 4 onceweb/onceweblaw01.LexBlank -/
def F_law01_LexBlank : FnD := { n := 118, rs := [4], labels := [(4, [0, 1, 5]), (15, [0, 1, 7, 8, 9, 10, 11])] }
def lab_law01_LexBlank : L_law01_LexBlank → Nat × DSt
  | .l4 s_ blank i => (4, [(0, .t (.s .str s_)), (1, .t (.s .str blank)), (5, .t (.s (.int .i64) i))])
  | .l15 s_ blank l f f' out at_ i => (15, [(0, .t (.s .str s_)), (1, .t (.s .str blank)), (7, .t (.own 34 tyToken l)), (8, .t (.box 29 [.s (.int .i64) f, .s (.int .i64) f'])), (9, .t (.own 5 .u8 out)), (10, .t (.s (.int .i64) at_)), (11, .t (.s (.int .i64) i))])
set_option maxRecDepth 100000 in
theorem ok_law01_LexBlank (s_ : (List UInt8)) (blank : (List UInt8)) (r : Bool) (h : law01_LexBlank s_ blank = some r) : APure X0 4 ([.s .str s_, .s .str blank].map DT.toT) (resT ([.s .bool r].map DT.toT)) := by
  refine APure_of_machine (F := F_law01_LexBlank) (fuel := 3000) (E := E_law01_nowhere) Yok E_law01_nowhere_ok mixed Tryd.func4 rfl rfl rfl (by decide) (args := [.s .str s_, .s .str blank]) (Nat.le_of_ble_eq_true rfl) (by kernel_rfl) lab_law01_LexBlank st_law01_LexBlank (fun r => [.s .bool r]) ?_ ?_ ?_ h
  · intro l; cases l
    · exact WF_list ⟨trivial, trivial, trivial, trivial⟩
    · exact WF_list ⟨trivial, trivial, trivial, trivial, trivial, trivial, trivial, trivial⟩
  · intro l goto ret; cases l with
    | l4 s_ blank i =>
      show _ = push (sg_law01_LexBlank_4 s_ blank i) (fun l' => goto (lab_law01_LexBlank l').1 (lab_law01_LexBlank l').2) (fun r => ret [.s .bool r])
      unfold sg_law01_LexBlank_4
      simp only [push_G, push_ite, push_bind, push_inl, push_inr]
      kernel_rfl
    | l15 s_ blank l f f' out at_ i =>
      show _ = push (sg_law01_LexBlank_15 s_ blank l f f' out at_ i) (fun l' => goto (lab_law01_LexBlank l').1 (lab_law01_LexBlank l').2) (fun r => ret [.s .bool r])
      unfold sg_law01_LexBlank_15
      simp only [push_G, push_ite, push_bind, push_inl, push_inr]
      kernel_rfl
  · intro goto ret
    show _ = push (en_law01_LexBlank s_ blank) (fun l' => goto (lab_law01_LexBlank l').1 (lab_law01_LexBlank l').2) (fun r => ret [.s .bool r])
    unfold en_law01_LexBlank
    simp only [push_G, push_ite, push_bind, push_inl, push_inr]
    kernel_rfl
noncomputable def e_law01_LexBlank : List DT → Option CallRes
  | [.s t0 y0, .s t1 y1] => (castT (b := .str) y0).bind fun s_ => (castT (b := .str) y1).bind fun blank => some ⟨Bool, law01_LexBlank s_ blank, fun r => .s .bool r, false, true⟩
  | _ => none
noncomputable def E_law01_LexBlank : Env := Env.add 4 e_law01_LexBlank E_law01_nowhere
theorem E_law01_LexBlank_ok : EnvOk X0 E_law01_LexBlank := by
  refine EnvOk.add E_law01_nowhere_ok (fun args c h => ?_)
  unfold e_law01_LexBlank at h
  split at h
  · obtain ⟨v0, c0, h⟩ := Option.bind_eq_some_iff.1 h
    obtain ⟨rfl, rfl⟩ := castT_some c0
    obtain ⟨v1, c1, h⟩ := Option.bind_eq_some_iff.1 h
    obtain ⟨rfl, rfl⟩ := castT_some c1
    cases h
    exact ⟨fun r hr => .inl ⟨by kernel_rfl, ok_law01_LexBlank _ _ r hr⟩, fun hb => fun r => noSl_res (by rfl)⟩
  · cases h

/-! ### 5 onceweb/onceweblaw01.LexBegins -/
def F_law01_LexBegins : FnD := { n := 67, rs := [4], shares := [(10, [5])] }
set_option maxRecDepth 100000 in
theorem ok_law01_LexBegins (s_ : (List UInt8)) (n : Int) (r : Bool) (h : law01_LexBegins s_ n = some r) : APure X0 5 ([.s .str s_, .s (.int .i64) n].map DT.toT) (resT ([.s .bool r].map DT.toT)) := by
  refine APure_of_straight (F := F_law01_LexBegins) (fuel := 3000) (E := E_law01_LexBlank) Yok E_law01_LexBlank_ok mixed Tryd.func5 rfl rfl rfl (by decide) (args := [.s .str s_, .s (.int .i64) n]) (Nat.le_of_ble_eq_true rfl) (by kernel_rfl) (fun r => [.s .bool r]) ?_ h
  intro goto ret
  unfold law01_LexBegins
  simp only [bnd_G, bnd_ite, bnd_bind, bnd_some]
  kernel_rfl
noncomputable def e_law01_LexBegins : List DT → Option CallRes
  | [.s t0 y0, .s t1 y1] => (castT (b := .str) y0).bind fun s_ => (castT (b := (.int .i64)) y1).bind fun n => some ⟨Bool, law01_LexBegins s_ n, fun r => .s .bool r, false, true⟩
  | _ => none
noncomputable def E_law01_LexBegins : Env := Env.add 5 e_law01_LexBegins E_law01_LexBlank
theorem E_law01_LexBegins_ok : EnvOk X0 E_law01_LexBegins := by
  refine EnvOk.add E_law01_LexBlank_ok (fun args c h => ?_)
  unfold e_law01_LexBegins at h
  split at h
  · obtain ⟨v0, c0, h⟩ := Option.bind_eq_some_iff.1 h
    obtain ⟨rfl, rfl⟩ := castT_some c0
    obtain ⟨v1, c1, h⟩ := Option.bind_eq_some_iff.1 h
    obtain ⟨rfl, rfl⟩ := castT_some c1
    cases h
    exact ⟨fun r hr => .inl ⟨by kernel_rfl, ok_law01_LexBegins _ _ r hr⟩, fun hb => fun r => noSl_res (by rfl)⟩
  · cases h

/-! ### 52 slices_Reverse: by the shelf's contract -/
set_option maxRecDepth 100000 in
theorem nil_slices_Reverse (w : World) : Calls Tryd.prog 52 #[.slice none 0 0] w fun e' w' => e' = .returned (.tuple #[]) ∧ w' = w := AnyE.slices_Reverse_empty Tryd.rev52 none 0 w
theorem ok_slices_Reverse (l : List UInt8) : ACall X0 52 [(DT.own 5 .u8 l).toT] (.tup []) [(DT.own 5 .u8 l.reverse).toT] :=
  reverse_call (X := X0) nil_slices_Reverse (fun blk cap zs w hH hsz => AnyE.slices_Reverse Tryd.rev52 encB8 (fun _ => rfl) blk 0 cap zs w hH hsz) l
noncomputable def e_slices_Reverse : List DT → Option CallRes
  | [.tup [.own e t y0]] => (castT (a := .sl 1 t) (b := .sl 1 .u8) y0).bind fun l => match Nat.beq e 5 with
    | true => some ⟨List UInt8, slices_Reverse l, fun r => .own 5 .u8 r, [], false⟩
    | false => none
  | _ => none
noncomputable def E_slices_Reverse : Env := Env.add 52 e_slices_Reverse E_law01_LexBegins
theorem E_slices_Reverse_ok : EnvOk X0 E_slices_Reverse := by
  refine EnvOk.add E_law01_LexBegins_ok (fun args c h => ?_)
  unfold e_slices_Reverse at h
  split at h
  · rename_i e t y0
    obtain ⟨l1, c1, h⟩ := Option.bind_eq_some_iff.1 h
    obtain ⟨q0, q1⟩ := castT_some c1
    injection q0 with _ q0
    subst q0
    subst q1
    split at h
    · rename_i h0
      have h0 := Nat.eq_of_beq_eq_true h0
      subst h0
      cases h
      intro r hr l' hl'
      cases hr
      cases hl'
      exact ⟨by kernel_rfl, ok_slices_Reverse _, rfl⟩
    · cases h
  · cases h


/-! ### 43 onceweb/lex.digits -/
def F_lex_digits : FnD := { n := 22, rs := [2], labels := [(4, [0, 3])] }
def lab_lex_digits : L_lex_digits → Nat × DSt
  | .l4 n out => (4, [(0, .t (.s (.int .i64) n)), (3, .t (.own 5 .u8 out))])
set_option maxRecDepth 100000 in
theorem ok_lex_digits (n : Int) (r : (List UInt8)) (h : lex_digits n = some r) : APure X0 43 ([.s (.int .i64) n].map DT.toT) (resT ([.s .str r].map DT.toT)) := by
  refine APure_of_machine (F := F_lex_digits) (fuel := 3000) (E := E_slices_Reverse) Yok E_slices_Reverse_ok mixed Tryd.func43 rfl rfl rfl (by decide) (args := [.s (.int .i64) n]) (Nat.le_of_ble_eq_true rfl) (by kernel_rfl) lab_lex_digits st_lex_digits (fun r => [.s .str r]) ?_ ?_ ?_ h
  · intro l; cases l
    · exact WF_list ⟨trivial, trivial, trivial⟩
  · intro l goto ret; cases l with
    | l4 n out =>
      show _ = push (sg_lex_digits_4 n out) (fun l' => goto (lab_lex_digits l').1 (lab_lex_digits l').2) (fun r => ret [.s .str r])
      unfold sg_lex_digits_4
      simp only [push_G, push_ite, push_bind, push_inl, push_inr]
      kernel_rfl
  · intro goto ret
    show _ = push (en_lex_digits n) (fun l' => goto (lab_lex_digits l').1 (lab_lex_digits l').2) (fun r => ret [.s .str r])
    unfold en_lex_digits
    simp only [push_G, push_ite, push_bind, push_inl, push_inr]
    kernel_rfl
noncomputable def e_lex_digits : List DT → Option CallRes
  | [.s t0 y0] => (castT (b := (.int .i64)) y0).bind fun n => some ⟨(List UInt8), lex_digits n, fun r => .s .str r, ([] : List UInt8), true⟩
  | _ => none
noncomputable def E_lex_digits : Env := Env.add 43 e_lex_digits E_slices_Reverse
theorem E_lex_digits_ok : EnvOk X0 E_lex_digits := by
  refine EnvOk.add E_slices_Reverse_ok (fun args c h => ?_)
  unfold e_lex_digits at h
  split at h
  · obtain ⟨v0, c0, h⟩ := Option.bind_eq_some_iff.1 h
    obtain ⟨rfl, rfl⟩ := castT_some c0
    cases h
    exact ⟨fun r hr => .inl ⟨by kernel_rfl, ok_lex_digits _ r hr⟩, fun hb => fun r => noSl_res (by rfl)⟩
  · cases h

/-! ### 61 internal/bytealg.Cutover -/
def F_bytealg_Cutover : FnD := { n := 6, rs := [2] }
set_option maxRecDepth 100000 in
theorem ok_bytealg_Cutover (n : Int) (r : Int) (h : bytealg_Cutover n = some r) : APure X0 61 ([.s (.int .i64) n].map DT.toT) (resT ([.s (.int .i64) r].map DT.toT)) := by
  refine APure_of_straight (F := F_bytealg_Cutover) (fuel := 3000) (E := E_lex_digits) Yok E_lex_digits_ok mixed Tryd.func61 rfl rfl rfl (by decide) (args := [.s (.int .i64) n]) (Nat.le_of_ble_eq_true rfl) (by kernel_rfl) (fun r => [.s (.int .i64) r]) ?_ h
  intro goto ret
  unfold bytealg_Cutover
  simp only [bnd_G, bnd_ite, bnd_bind, bnd_some]
  kernel_rfl
noncomputable def e_bytealg_Cutover : List DT → Option CallRes
  | [.s t0 y0] => (castT (b := (.int .i64)) y0).bind fun n => some ⟨Int, bytealg_Cutover n, fun r => .s (.int .i64) r, (0 : Int), true⟩
  | _ => none
noncomputable def E_bytealg_Cutover : Env := Env.add 61 e_bytealg_Cutover E_lex_digits
theorem E_bytealg_Cutover_ok : EnvOk X0 E_bytealg_Cutover := by
  refine EnvOk.add E_lex_digits_ok (fun args c h => ?_)
  unfold e_bytealg_Cutover at h
  split at h
  · obtain ⟨v0, c0, h⟩ := Option.bind_eq_some_iff.1 h
    obtain ⟨rfl, rfl⟩ := castT_some c0
    cases h
    exact ⟨fun r hr => .inl ⟨by kernel_rfl, ok_bytealg_Cutover _ r hr⟩, fun hb => fun r => noSl_res (by rfl)⟩
  · cases h

/-! ### 63 internal/bytealg.hashStr[string] -/
def F_bytealg_hashStr : FnD := { n := 39, rs := [2, 3], labels := [(3, [0, 4, 5]), (8, [4, 6, 7, 8])] }
def lab_bytealg_hashStr : L_bytealg_hashStr → Nat × DSt
  | .l3 sep hash i => (3, [(0, .t (.s .str sep)), (4, .t (.s (.int .u32) hash)), (5, .t (.s (.int .i64) i))])
  | .l8 hash pow sq i => (8, [(4, .t (.s (.int .u32) hash)), (6, .t (.s (.int .u32) pow)), (7, .t (.s (.int .u32) sq)), (8, .t (.s (.int .i64) i))])
set_option maxRecDepth 100000 in
theorem ok_bytealg_hashStr (sep : (List UInt8)) (r : (Int × Int)) (h : bytealg_hashStr sep = some r) : APure X0 63 ([.s .str sep].map DT.toT) (resT ([.s (.int .u32) r.1, .s (.int .u32) r.2].map DT.toT)) := by
  refine APure_of_machine (F := F_bytealg_hashStr) (fuel := 3000) (E := E_bytealg_Cutover) Yok E_bytealg_Cutover_ok mixed Tryd.func63 rfl rfl rfl (by decide) (args := [.s .str sep]) (Nat.le_of_ble_eq_true rfl) (by kernel_rfl) lab_bytealg_hashStr st_bytealg_hashStr (fun r => [.s (.int .u32) r.1, .s (.int .u32) r.2]) ?_ ?_ ?_ h
  · intro l; cases l
    · exact WF_list ⟨trivial, trivial, trivial, trivial⟩
    · exact WF_list ⟨trivial, trivial, trivial, trivial, trivial⟩
  · intro l goto ret; cases l with
    | l3 sep hash i =>
      show _ = push (sg_bytealg_hashStr_3 sep hash i) (fun l' => goto (lab_bytealg_hashStr l').1 (lab_bytealg_hashStr l').2) (fun r => ret [.s (.int .u32) r.1, .s (.int .u32) r.2])
      unfold sg_bytealg_hashStr_3
      simp only [push_G, push_ite, push_bind, push_inl, push_inr]
      kernel_rfl
    | l8 hash pow sq i =>
      show _ = push (sg_bytealg_hashStr_8 hash pow sq i) (fun l' => goto (lab_bytealg_hashStr l').1 (lab_bytealg_hashStr l').2) (fun r => ret [.s (.int .u32) r.1, .s (.int .u32) r.2])
      unfold sg_bytealg_hashStr_8
      simp only [push_G, push_ite, push_bind, push_inl, push_inr]
      kernel_rfl
  · intro goto ret
    show _ = push (en_bytealg_hashStr sep) (fun l' => goto (lab_bytealg_hashStr l').1 (lab_bytealg_hashStr l').2) (fun r => ret [.s (.int .u32) r.1, .s (.int .u32) r.2])
    unfold en_bytealg_hashStr
    simp only [push_G, push_ite, push_bind, push_inl, push_inr]
    kernel_rfl
noncomputable def e_bytealg_hashStr : List DT → Option CallRes
  | [.s t0 y0] => (castT (b := .str) y0).bind fun sep => some ⟨(Int × Int), bytealg_hashStr sep, fun r => .tup [.s (.int .u32) r.1, .s (.int .u32) r.2], ((0 : Int), (0 : Int)), true⟩
  | _ => none
noncomputable def E_bytealg_hashStr : Env := Env.add 63 e_bytealg_hashStr E_bytealg_Cutover
theorem E_bytealg_hashStr_ok : EnvOk X0 E_bytealg_hashStr := by
  refine EnvOk.add E_bytealg_Cutover_ok (fun args c h => ?_)
  unfold e_bytealg_hashStr at h
  split at h
  · obtain ⟨v0, c0, h⟩ := Option.bind_eq_some_iff.1 h
    obtain ⟨rfl, rfl⟩ := castT_some c0
    cases h
    exact ⟨fun r hr => .inl ⟨by kernel_rfl, ok_bytealg_hashStr _ r hr⟩, fun hb => fun r => noSl_res (by rfl)⟩
  · cases h

/-! ### 62 internal/bytealg.IndexRabinKarp[string] -/
def F_bytealg_IndexRabinKarp : FnD := { n := 81, rs := [4], labels := [(5, [0, 1, 5, 6, 7, 8, 9]), (11, [0, 1, 5, 6, 7, 8, 10])] }
def lab_bytealg_IndexRabinKarp : L_bytealg_IndexRabinKarp → Nat × DSt
  | .l5 s_ sep hashss pow n h i => (5, [(0, .t (.s .str s_)), (1, .t (.s .str sep)), (5, .t (.s (.int .u32) hashss)), (6, .t (.s (.int .u32) pow)), (7, .t (.s (.int .i64) n)), (8, .t (.s (.int .u32) h)), (9, .t (.s (.int .i64) i))])
  | .l11 s_ sep hashss pow n h i => (11, [(0, .t (.s .str s_)), (1, .t (.s .str sep)), (5, .t (.s (.int .u32) hashss)), (6, .t (.s (.int .u32) pow)), (7, .t (.s (.int .i64) n)), (8, .t (.s (.int .u32) h)), (10, .t (.s (.int .i64) i))])
set_option maxRecDepth 100000 in
theorem ok_bytealg_IndexRabinKarp (s_ : (List UInt8)) (sep : (List UInt8)) (r : Int) (h : bytealg_IndexRabinKarp s_ sep = some r) : APure X0 62 ([.s .str s_, .s .str sep].map DT.toT) (resT ([.s (.int .i64) r].map DT.toT)) := by
  refine APure_of_machine (F := F_bytealg_IndexRabinKarp) (fuel := 3000) (E := E_bytealg_hashStr) Yok E_bytealg_hashStr_ok mixed Tryd.func62 rfl rfl rfl (by decide) (args := [.s .str s_, .s .str sep]) (Nat.le_of_ble_eq_true rfl) (by kernel_rfl) lab_bytealg_IndexRabinKarp st_bytealg_IndexRabinKarp (fun r => [.s (.int .i64) r]) ?_ ?_ ?_ h
  · intro l; cases l
    · exact WF_list ⟨trivial, trivial, trivial, trivial, trivial, trivial, trivial, trivial⟩
    · exact WF_list ⟨trivial, trivial, trivial, trivial, trivial, trivial, trivial, trivial⟩
  · intro l goto ret; cases l with
    | l5 s_ sep hashss pow n h i =>
      show _ = push (sg_bytealg_IndexRabinKarp_5 s_ sep hashss pow n h i) (fun l' => goto (lab_bytealg_IndexRabinKarp l').1 (lab_bytealg_IndexRabinKarp l').2) (fun r => ret [.s (.int .i64) r])
      unfold sg_bytealg_IndexRabinKarp_5
      simp only [push_G, push_ite, push_bind, push_inl, push_inr]
      kernel_rfl
    | l11 s_ sep hashss pow n h i =>
      show _ = push (sg_bytealg_IndexRabinKarp_11 s_ sep hashss pow n h i) (fun l' => goto (lab_bytealg_IndexRabinKarp l').1 (lab_bytealg_IndexRabinKarp l').2) (fun r => ret [.s (.int .i64) r])
      unfold sg_bytealg_IndexRabinKarp_11
      simp only [push_G, push_ite, push_bind, push_inl, push_inr]
      kernel_rfl
  · intro goto ret
    show _ = push (en_bytealg_IndexRabinKarp s_ sep) (fun l' => goto (lab_bytealg_IndexRabinKarp l').1 (lab_bytealg_IndexRabinKarp l').2) (fun r => ret [.s (.int .i64) r])
    unfold en_bytealg_IndexRabinKarp
    simp only [push_G, push_ite, push_bind, push_inl, push_inr]
    kernel_rfl
noncomputable def e_bytealg_IndexRabinKarp : List DT → Option CallRes
  | [.s t0 y0, .s t1 y1] => (castT (b := .str) y0).bind fun s_ => (castT (b := .str) y1).bind fun sep => some ⟨Int, bytealg_IndexRabinKarp s_ sep, fun r => .s (.int .i64) r, (0 : Int), true⟩
  | _ => none
noncomputable def E_bytealg_IndexRabinKarp : Env := Env.add 62 e_bytealg_IndexRabinKarp E_bytealg_hashStr
theorem E_bytealg_IndexRabinKarp_ok : EnvOk X0 E_bytealg_IndexRabinKarp := by
  refine EnvOk.add E_bytealg_hashStr_ok (fun args c h => ?_)
  unfold e_bytealg_IndexRabinKarp at h
  split at h
  · obtain ⟨v0, c0, h⟩ := Option.bind_eq_some_iff.1 h
    obtain ⟨rfl, rfl⟩ := castT_some c0
    obtain ⟨v1, c1, h⟩ := Option.bind_eq_some_iff.1 h
    obtain ⟨rfl, rfl⟩ := castT_some c1
    cases h
    exact ⟨fun r hr => .inl ⟨by kernel_rfl, ok_bytealg_IndexRabinKarp _ _ r hr⟩, fun hb => fun r => noSl_res (by rfl)⟩
  · cases h

/-! ### 57 internal/stringslite.Index -/
def F_stringslite_Index : FnD := { n := 143, rs := [4] }
set_option maxRecDepth 100000 in
theorem ok_stringslite_Index (s_ : (List UInt8)) (substr : (List UInt8)) (r : Int) (h : stringslite_Index s_ substr = some r) : APure X0 57 ([.s .str s_, .s .str substr].map DT.toT) (resT ([.s (.int .i64) r].map DT.toT)) := by
  refine APure_of_straight (F := F_stringslite_Index) (fuel := 3000) (E := E_bytealg_IndexRabinKarp) Yok E_bytealg_IndexRabinKarp_ok mixed Tryd.func57 rfl rfl rfl (by decide) (args := [.s .str s_, .s .str substr]) (Nat.le_of_ble_eq_true rfl) (by kernel_rfl) (fun r => [.s (.int .i64) r]) ?_ h
  intro goto ret
  unfold stringslite_Index
  simp only [bnd_G, bnd_ite, bnd_bind, bnd_some]
  kernel_rfl
noncomputable def e_stringslite_Index : List DT → Option CallRes
  | [.s t0 y0, .s t1 y1] => (castT (b := .str) y0).bind fun s_ => (castT (b := .str) y1).bind fun substr => some ⟨Int, stringslite_Index s_ substr, fun r => .s (.int .i64) r, (0 : Int), true⟩
  | _ => none
noncomputable def E_stringslite_Index : Env := Env.add 57 e_stringslite_Index E_bytealg_IndexRabinKarp
theorem E_stringslite_Index_ok : EnvOk X0 E_stringslite_Index := by
  refine EnvOk.add E_bytealg_IndexRabinKarp_ok (fun args c h => ?_)
  unfold e_stringslite_Index at h
  split at h
  · obtain ⟨v0, c0, h⟩ := Option.bind_eq_some_iff.1 h
    obtain ⟨rfl, rfl⟩ := castT_some c0
    obtain ⟨v1, c1, h⟩ := Option.bind_eq_some_iff.1 h
    obtain ⟨rfl, rfl⟩ := castT_some c1
    cases h
    exact ⟨fun r hr => .inl ⟨by kernel_rfl, ok_stringslite_Index _ _ r hr⟩, fun hb => fun r => noSl_res (by rfl)⟩
  · cases h

end Go.Eng
