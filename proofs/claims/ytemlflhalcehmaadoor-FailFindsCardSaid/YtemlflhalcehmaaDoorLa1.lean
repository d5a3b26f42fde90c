/- A part of the proof: La1. -/
import Derived.Test.YtemlflhalcehmaaDoorLad
import Derived.Test.YtemlflhalcehmaaDoorD4
import Derived.Test.YtemlflhalcehmaaDoorRows
namespace Go.Eng
open Go.Proofs Go.RowKit
set_option linter.unusedVariables false
set_option linter.unusedSimpArgs false

def globs : List (Nat × Glob) := [(1, .arr (.int .i64) gl_onceweb_fail_sorts), (2, .arr .str gl_onceweb_fail_values), (3, .arr .str gl_onceweb_lex_keys)]
noncomputable def X0 : Ctx := mkCtx Tryd.prog 4 globs (by kernel_rfl)
theorem mixed : X0.P.follows .mixedOrders = true := by kernel_rfl
def Y0 : DX := { tab := [(3, { ty := (.int .i64) }), (4, { ty := .bool }), (5, { ty := .u8 }), (9, { ty := .str }), (23, { ty := (.sl 3 tyCrack), sl := some (60, tyCrack, 32) }), (25, { ty := (.int .i64) }), (33, { ty := (.sl 1 (.int .i64)), sl := some (3, (.int .i64), 8) }), (37, { ty := (.sl 1 (.sl 3 tyCrack)), sl := some (23, (.sl 3 tyCrack), 24) }), (41, { ty := (.sl 1 .str), sl := some (9, .str, 16) }), (60, { ty := tyCrack, fs := [(.int .i64), (.int .i64), .str], eq := true }), (81, { ty := .opq, ar := some (12, (.int .i64)) }), (83, { ty := .opq, ar := some (10, .str) }), (87, { ty := (.sl 1 .u8), sl := some (5, .u8, 1) }), (109, { ty := .opq, ar := some (19, .str) })], gl := globs }
theorem td_3 : TDOk Tryd.prog 3 { ty := (.int .i64) } where
  row := .inr (by kernel_rfl)
  und := .inr (by kernel_rfl)
  sli := .inl rfl
  slt := by kernel_rfl
  bye := .inl rfl
  fld := .inl rfl
  lay := .inl rfl
  rowT := .inl rfl
  arr := .inl rfl
  fsz := by kernel_rfl
  eqv := .inl rfl
  zer := .inr (by kernel_rfl)
theorem td_4 : TDOk Tryd.prog 4 { ty := .bool } where
  row := .inr (by kernel_rfl)
  und := .inr (by kernel_rfl)
  sli := .inl rfl
  slt := by kernel_rfl
  bye := .inl rfl
  fld := .inl rfl
  lay := .inl rfl
  rowT := .inl rfl
  arr := .inl rfl
  fsz := by kernel_rfl
  eqv := .inl rfl
  zer := .inr (by kernel_rfl)
theorem td_5 : TDOk Tryd.prog 5 { ty := .u8 } where
  row := .inr (by kernel_rfl)
  und := .inr (by kernel_rfl)
  sli := .inl rfl
  slt := by kernel_rfl
  bye := .inl rfl
  fld := .inl rfl
  lay := .inl rfl
  rowT := .inl rfl
  arr := .inl rfl
  fsz := by kernel_rfl
  eqv := .inl rfl
  zer := .inr (by kernel_rfl)
theorem td_9 : TDOk Tryd.prog 9 { ty := .str } where
  row := .inr (by kernel_rfl)
  und := .inr (by kernel_rfl)
  sli := .inl rfl
  slt := by kernel_rfl
  bye := .inl rfl
  fld := .inl rfl
  lay := .inl rfl
  rowT := .inl rfl
  arr := .inl rfl
  fsz := by kernel_rfl
  eqv := .inl rfl
  zer := .inr (by kernel_rfl)
theorem td_23 : TDOk Tryd.prog 23 { ty := (.sl 3 tyCrack), sl := some (60, tyCrack, 32) } where
  row := .inr (by kernel_rfl)
  und := .inl rfl
  sli := .inr (by kernel_rfl)
  slt := by kernel_rfl
  bye := .inl rfl
  fld := .inl rfl
  lay := .inl rfl
  rowT := .inl rfl
  arr := .inl rfl
  fsz := by kernel_rfl
  eqv := .inl rfl
  zer := .inr (by kernel_rfl)
theorem td_25 : TDOk Tryd.prog 25 { ty := (.int .i64) } where
  row := .inr (by kernel_rfl)
  und := .inr (by kernel_rfl)
  sli := .inl rfl
  slt := by kernel_rfl
  bye := .inl rfl
  fld := .inl rfl
  lay := .inl rfl
  rowT := .inl rfl
  arr := .inl rfl
  fsz := by kernel_rfl
  eqv := .inl rfl
  zer := .inr (by kernel_rfl)
theorem td_33 : TDOk Tryd.prog 33 { ty := (.sl 1 (.int .i64)), sl := some (3, (.int .i64), 8) } where
  row := .inr (by kernel_rfl)
  und := .inl rfl
  sli := .inr (by kernel_rfl)
  slt := by kernel_rfl
  bye := .inl rfl
  fld := .inl rfl
  lay := .inl rfl
  rowT := .inl rfl
  arr := .inl rfl
  fsz := by kernel_rfl
  eqv := .inl rfl
  zer := .inr (by kernel_rfl)
theorem td_37 : TDOk Tryd.prog 37 { ty := (.sl 1 (.sl 3 tyCrack)), sl := some (23, (.sl 3 tyCrack), 24) } where
  row := .inr (by kernel_rfl)
  und := .inl rfl
  sli := .inr (by kernel_rfl)
  slt := by kernel_rfl
  bye := .inl rfl
  fld := .inl rfl
  lay := .inl rfl
  rowT := .inl rfl
  arr := .inl rfl
  fsz := by kernel_rfl
  eqv := .inl rfl
  zer := .inr (by kernel_rfl)
theorem td_41 : TDOk Tryd.prog 41 { ty := (.sl 1 .str), sl := some (9, .str, 16) } where
  row := .inr (by kernel_rfl)
  und := .inl rfl
  sli := .inr (by kernel_rfl)
  slt := by kernel_rfl
  bye := .inl rfl
  fld := .inl rfl
  lay := .inl rfl
  rowT := .inl rfl
  arr := .inl rfl
  fsz := by kernel_rfl
  eqv := .inl rfl
  zer := .inr (by kernel_rfl)
theorem td_60 : TDOk Tryd.prog 60 { ty := tyCrack, fs := [(.int .i64), (.int .i64), .str], eq := true } where
  row := .inr (by kernel_rfl)
  und := .inl rfl
  sli := .inl rfl
  slt := by kernel_rfl
  bye := .inl rfl
  fld := .inr (by kernel_rfl)
  lay := .inr (by kernel_rfl)
  rowT := .inr rfl
  arr := .inl rfl
  fsz := by kernel_rfl
  eqv := .inr (by kernel_rfl)
  zer := .inr (by kernel_rfl)
theorem td_81 : TDOk Tryd.prog 81 { ty := .opq, ar := some (12, (.int .i64)) } where
  row := .inl rfl
  und := .inl rfl
  sli := .inl rfl
  slt := by kernel_rfl
  bye := .inl rfl
  fld := .inl rfl
  lay := .inl rfl
  rowT := .inl rfl
  arr := .inr (by kernel_rfl)
  fsz := by kernel_rfl
  eqv := .inl rfl
  zer := .inl rfl
theorem td_83 : TDOk Tryd.prog 83 { ty := .opq, ar := some (10, .str) } where
  row := .inl rfl
  und := .inl rfl
  sli := .inl rfl
  slt := by kernel_rfl
  bye := .inl rfl
  fld := .inl rfl
  lay := .inl rfl
  rowT := .inl rfl
  arr := .inr (by kernel_rfl)
  fsz := by kernel_rfl
  eqv := .inl rfl
  zer := .inl rfl
theorem td_87 : TDOk Tryd.prog 87 { ty := (.sl 1 .u8), sl := some (5, .u8, 1) } where
  row := .inr (by kernel_rfl)
  und := .inl rfl
  sli := .inr (by kernel_rfl)
  slt := by kernel_rfl
  bye := .inr (by kernel_rfl)
  fld := .inl rfl
  lay := .inl rfl
  rowT := .inl rfl
  arr := .inl rfl
  fsz := by kernel_rfl
  eqv := .inl rfl
  zer := .inr (by kernel_rfl)
theorem td_109 : TDOk Tryd.prog 109 { ty := .opq, ar := some (19, .str) } where
  row := .inl rfl
  und := .inl rfl
  sli := .inl rfl
  slt := by kernel_rfl
  bye := .inl rfl
  fld := .inl rfl
  lay := .inl rfl
  rowT := .inl rfl
  arr := .inr (by kernel_rfl)
  fsz := by kernel_rfl
  eqv := .inl rfl
  zer := .inl rfl
theorem Yok : DXOk Y0 X0 where
  tab := List.forall_mem_cons.2 ⟨td_3, List.forall_mem_cons.2 ⟨td_4, List.forall_mem_cons.2 ⟨td_5, List.forall_mem_cons.2 ⟨td_9, List.forall_mem_cons.2 ⟨td_23, List.forall_mem_cons.2 ⟨td_25, List.forall_mem_cons.2 ⟨td_33, List.forall_mem_cons.2 ⟨td_37, List.forall_mem_cons.2 ⟨td_41, List.forall_mem_cons.2 ⟨td_60, List.forall_mem_cons.2 ⟨td_81, List.forall_mem_cons.2 ⟨td_83, List.forall_mem_cons.2 ⟨td_87, List.forall_mem_cons.2 ⟨td_109, (fun _ h => by cases h)⟩⟩⟩⟩⟩⟩⟩⟩⟩⟩⟩⟩⟩⟩
  gl := fun _ => rfl

/-! ### 9 onceweb/oncewebbase.CopyFail -/
def F_base_CopyFail : FnD := { n := 6, rs := [2] }
set_option maxRecDepth 100000 in
theorem ok_base_CopyFail (f : (List tCrack)) (r : (List tCrack)) (h : base_CopyFail f = some r) : APure X0 9 ([.s (.sl 3 tyCrack) f].map DT.toT) (resT ([.own 60 tyCrack r].map DT.toT)) := by
  refine APure_of_straight (F := F_base_CopyFail) (fuel := 3000) (E := E_0) Yok E_0_ok mixed Tryd.func9 rfl rfl rfl (by decide) (args := [.s (.sl 3 tyCrack) f]) (Nat.le_of_ble_eq_true rfl) (by kernel_rfl) (fun r => [.own 60 tyCrack r]) ?_ h
  intro goto ret
  unfold base_CopyFail
  simp only [bnd_G, bnd_ite, bnd_bind, bnd_some]
  kernel_rfl
noncomputable def e_base_CopyFail : List DT → Option CallRes
  | [.s t0 y0] => (castT (b := (.sl 3 tyCrack)) y0).bind fun f => some ⟨(List tCrack), base_CopyFail f, fun r => .own 60 tyCrack r, ([] : List tCrack), true⟩
  | _ => none
noncomputable def E_base_CopyFail : Env := Env.add 9 e_base_CopyFail E_0
theorem E_base_CopyFail_ok : EnvOk X0 E_base_CopyFail := by
  refine EnvOk.add E_0_ok (fun args c h => ?_)
  unfold e_base_CopyFail at h
  split at h
  · obtain ⟨v0, c0, h⟩ := Option.bind_eq_some_iff.1 h
    obtain ⟨rfl, rfl⟩ := castT_some c0
    cases h
    exact ⟨fun r hr => .inl ⟨by kernel_rfl, ok_base_CopyFail _ r hr⟩, fun hb => fun r => noSl_res (by rfl)⟩
  · cases h

/-! ### 43 onceweb/fail.sort -/
def F_fail_sort : FnD := { n := 12, rs := [2] }
set_option maxRecDepth 100000 in
theorem ok_fail_sort (kind : Int) (r : Int) (h : fail_sort kind = some r) : APure X0 43 ([.s (.int .i64) kind].map DT.toT) (resT ([.s (.int .i64) r].map DT.toT)) := by
  refine APure_of_straight (F := F_fail_sort) (fuel := 3000) (E := E_base_CopyFail) Yok E_base_CopyFail_ok mixed Tryd.func43 rfl rfl rfl (by decide) (args := [.s (.int .i64) kind]) (Nat.le_of_ble_eq_true rfl) (by kernel_rfl) (fun r => [.s (.int .i64) r]) ?_ h
  intro goto ret
  unfold fail_sort
  simp only [bnd_G, bnd_ite, bnd_bind, bnd_some]
  kernel_rfl
noncomputable def e_fail_sort : List DT → Option CallRes
  | [.s t0 y0] => (castT (b := (.int .i64)) y0).bind fun kind => some ⟨Int, fail_sort kind, fun r => .s (.int .i64) r, (0 : Int), true⟩
  | _ => none
noncomputable def E_fail_sort : Env := Env.add 43 e_fail_sort E_base_CopyFail
theorem E_fail_sort_ok : EnvOk X0 E_fail_sort := by
  refine EnvOk.add E_base_CopyFail_ok (fun args c h => ?_)
  unfold e_fail_sort at h
  split at h
  · obtain ⟨v0, c0, h⟩ := Option.bind_eq_some_iff.1 h
    obtain ⟨rfl, rfl⟩ := castT_some c0
    cases h
    exact ⟨fun r hr => .inl ⟨by kernel_rfl, ok_fail_sort _ r hr⟩, fun hb => fun r => noSl_res (by rfl)⟩
  · cases h

/-! ### 89 onceweb/lex.letter -/
def F_lex_letter : FnD := { n := 9, rs := [2] }
set_option maxRecDepth 100000 in
theorem ok_lex_letter (c : UInt8) (r : Bool) (h : lex_letter c = some r) : APure X0 89 ([.s .u8 c].map DT.toT) (resT ([.s .bool r].map DT.toT)) := by
  refine APure_of_straight (F := F_lex_letter) (fuel := 3000) (E := E_fail_sort) Yok E_fail_sort_ok mixed Tryd.func89 rfl rfl rfl (by decide) (args := [.s .u8 c]) (Nat.le_of_ble_eq_true rfl) (by kernel_rfl) (fun r => [.s .bool r]) ?_ h
  intro goto ret
  unfold lex_letter
  simp only [bnd_G, bnd_ite, bnd_bind, bnd_some]
  kernel_rfl
noncomputable def e_lex_letter : List DT → Option CallRes
  | [.s t0 y0] => (castT (b := .u8) y0).bind fun c => some ⟨Bool, lex_letter c, fun r => .s .bool r, false, true⟩
  | _ => none
noncomputable def E_lex_letter : Env := Env.add 89 e_lex_letter E_fail_sort
theorem E_lex_letter_ok : EnvOk X0 E_lex_letter := by
  refine EnvOk.add E_fail_sort_ok (fun args c h => ?_)
  unfold e_lex_letter at h
  split at h
  · obtain ⟨v0, c0, h⟩ := Option.bind_eq_some_iff.1 h
    obtain ⟨rfl, rfl⟩ := castT_some c0
    cases h
    exact ⟨fun r hr => .inl ⟨by kernel_rfl, ok_lex_letter _ r hr⟩, fun hb => fun r => noSl_res (by rfl)⟩
  · cases h

/-! ### 90 onceweb/lex.digit -/
def F_lex_digit : FnD := { n := 9, rs := [2] }
set_option maxRecDepth 100000 in
theorem ok_lex_digit (c : UInt8) (r : Bool) (h : lex_digit c = some r) : APure X0 90 ([.s .u8 c].map DT.toT) (resT ([.s .bool r].map DT.toT)) := by
  refine APure_of_straight (F := F_lex_digit) (fuel := 3000) (E := E_lex_letter) Yok E_lex_letter_ok mixed Tryd.func90 rfl rfl rfl (by decide) (args := [.s .u8 c]) (Nat.le_of_ble_eq_true rfl) (by kernel_rfl) (fun r => [.s .bool r]) ?_ h
  intro goto ret
  unfold lex_digit
  simp only [bnd_G, bnd_ite, bnd_bind, bnd_some]
  kernel_rfl
noncomputable def e_lex_digit : List DT → Option CallRes
  | [.s t0 y0] => (castT (b := .u8) y0).bind fun c => some ⟨Bool, lex_digit c, fun r => .s .bool r, false, true⟩
  | _ => none
noncomputable def E_lex_digit : Env := Env.add 90 e_lex_digit E_lex_letter
theorem E_lex_digit_ok : EnvOk X0 E_lex_digit := by
  refine EnvOk.add E_lex_letter_ok (fun args c h => ?_)
  unfold e_lex_digit at h
  split at h
  · obtain ⟨v0, c0, h⟩ := Option.bind_eq_some_iff.1 h
    obtain ⟨rfl, rfl⟩ := castT_some c0
    cases h
    exact ⟨fun r hr => .inl ⟨by kernel_rfl, ok_lex_digit _ r hr⟩, fun hb => fun r => noSl_res (by rfl)⟩
  · cases h

/-! ### 71 onceweb/lex.word -/
def F_lex_word : FnD := { n := 42, rs := [4], labels := [(3, [0, 1])] }
def lab_lex_word : L_lex_word → Nat × DSt
  | .l3 s_ at_ => (3, [(0, .t (.s .str s_)), (1, .t (.s (.int .i64) at_))])
set_option maxRecDepth 100000 in
theorem ok_lex_word (s_ : (List UInt8)) (at_ : Int) (r : Int) (h : lex_word s_ at_ = some r) : APure X0 71 ([.s .str s_, .s (.int .i64) at_].map DT.toT) (resT ([.s (.int .i64) r].map DT.toT)) := by
  refine APure_of_machine (F := F_lex_word) (fuel := 3000) (E := E_lex_digit) Yok E_lex_digit_ok mixed Tryd.func71 rfl rfl rfl (by decide) (args := [.s .str s_, .s (.int .i64) at_]) (Nat.le_of_ble_eq_true rfl) (by kernel_rfl) lab_lex_word st_lex_word (fun r => [.s (.int .i64) r]) ?_ ?_ ?_ h
  · intro l; cases l
    · exact WF_list ⟨trivial, trivial, trivial⟩
  · intro l goto ret; cases l with
    | l3 s_ at_ =>
      show _ = push (sg_lex_word_3 s_ at_) (fun l' => goto (lab_lex_word l').1 (lab_lex_word l').2) (fun r => ret [.s (.int .i64) r])
      unfold sg_lex_word_3
      simp only [push_G, push_ite, push_bind, push_inl, push_inr]
      kernel_rfl
  · intro goto ret
    show _ = push (en_lex_word s_ at_) (fun l' => goto (lab_lex_word l').1 (lab_lex_word l').2) (fun r => ret [.s (.int .i64) r])
    unfold en_lex_word
    simp only [push_G, push_ite, push_bind, push_inl, push_inr]
    kernel_rfl
noncomputable def e_lex_word : List DT → Option CallRes
  | [.s t0 y0, .s t1 y1] => (castT (b := .str) y0).bind fun s_ => (castT (b := (.int .i64)) y1).bind fun at_ => some ⟨Int, lex_word s_ at_, fun r => .s (.int .i64) r, (0 : Int), true⟩
  | _ => none
noncomputable def E_lex_word : Env := Env.add 71 e_lex_word E_lex_digit
theorem E_lex_word_ok : EnvOk X0 E_lex_word := by
  refine EnvOk.add E_lex_digit_ok (fun args c h => ?_)
  unfold e_lex_word at h
  split at h
  · obtain ⟨v0, c0, h⟩ := Option.bind_eq_some_iff.1 h
    obtain ⟨rfl, rfl⟩ := castT_some c0
    obtain ⟨v1, c1, h⟩ := Option.bind_eq_some_iff.1 h
    obtain ⟨rfl, rfl⟩ := castT_some c1
    cases h
    exact ⟨fun r hr => .inl ⟨by kernel_rfl, ok_lex_word _ _ r hr⟩, fun hb => fun r => noSl_res (by rfl)⟩
  · cases h

/-! ### 88 slices.Index[[]string,string] -/
def F_slices_Index : FnD := { n := 19, rs := [4], labels := [(2, [0, 1, 7, 8])] }
def lab_slices_Index : L_slices_Index → Nat × DSt
  | .l2 s_ v x7 x8 => (2, [(0, .t (.s (.sl 1 .str) s_)), (1, .t (.s .str v)), (7, .t (.s (.int .i64) x7)), (8, .t (.s (.int .i64) x8))])
set_option maxRecDepth 100000 in
theorem ok_slices_Index (s_ : (List (List UInt8))) (v : (List UInt8)) (r : Int) (h : slices_Index s_ v = some r) : APure X0 88 ([.s (.sl 1 .str) s_, .s .str v].map DT.toT) (resT ([.s (.int .i64) r].map DT.toT)) := by
  refine APure_of_machine (F := F_slices_Index) (fuel := 3000) (E := E_lex_word) Yok E_lex_word_ok mixed Tryd.func88 rfl rfl rfl (by decide) (args := [.s (.sl 1 .str) s_, .s .str v]) (Nat.le_of_ble_eq_true rfl) (by kernel_rfl) lab_slices_Index st_slices_Index (fun r => [.s (.int .i64) r]) ?_ ?_ ?_ h
  · intro l; cases l
    · exact WF_list ⟨trivial, trivial, trivial, trivial, trivial⟩
  · intro l goto ret; cases l with
    | l2 s_ v x7 x8 =>
      show _ = push (sg_slices_Index_2 s_ v x7 x8) (fun l' => goto (lab_slices_Index l').1 (lab_slices_Index l').2) (fun r => ret [.s (.int .i64) r])
      unfold sg_slices_Index_2
      simp only [push_G, push_ite, push_bind, push_inl, push_inr]
      kernel_rfl
  · intro goto ret
    show _ = push (en_slices_Index s_ v) (fun l' => goto (lab_slices_Index l').1 (lab_slices_Index l').2) (fun r => ret [.s (.int .i64) r])
    unfold en_slices_Index
    simp only [push_G, push_ite, push_bind, push_inl, push_inr]
    kernel_rfl
noncomputable def e_slices_Index : List DT → Option CallRes
  | [.s t0 y0, .s t1 y1] => (castT (b := (.sl 1 .str)) y0).bind fun s_ => (castT (b := .str) y1).bind fun v => some ⟨Int, slices_Index s_ v, fun r => .s (.int .i64) r, (0 : Int), true⟩
  | _ => none
noncomputable def E_slices_Index : Env := Env.add 88 e_slices_Index E_lex_word
theorem E_slices_Index_ok : EnvOk X0 E_slices_Index := by
  refine EnvOk.add E_lex_word_ok (fun args c h => ?_)
  unfold e_slices_Index at h
  split at h
  · obtain ⟨v0, c0, h⟩ := Option.bind_eq_some_iff.1 h
    obtain ⟨rfl, rfl⟩ := castT_some c0
    obtain ⟨v1, c1, h⟩ := Option.bind_eq_some_iff.1 h
    obtain ⟨rfl, rfl⟩ := castT_some c1
    cases h
    exact ⟨fun r hr => .inl ⟨by kernel_rfl, ok_slices_Index _ _ r hr⟩, fun hb => fun r => noSl_res (by rfl)⟩
  · cases h

/-! ### 67 slices.Contains[[]string,string] -/
def F_slices_Contains : FnD := { n := 9, rs := [4] }
set_option maxRecDepth 100000 in
theorem ok_slices_Contains (s_ : (List (List UInt8))) (v : (List UInt8)) (r : Bool) (h : slices_Contains s_ v = some r) : APure X0 67 ([.s (.sl 1 .str) s_, .s .str v].map DT.toT) (resT ([.s .bool r].map DT.toT)) := by
  refine APure_of_straight (F := F_slices_Contains) (fuel := 3000) (E := E_slices_Index) Yok E_slices_Index_ok mixed Tryd.func67 rfl rfl rfl (by decide) (args := [.s (.sl 1 .str) s_, .s .str v]) (Nat.le_of_ble_eq_true rfl) (by kernel_rfl) (fun r => [.s .bool r]) ?_ h
  intro goto ret
  unfold slices_Contains
  simp only [bnd_G, bnd_ite, bnd_bind, bnd_some]
  kernel_rfl
noncomputable def e_slices_Contains : List DT → Option CallRes
  | [.s t0 y0, .s t1 y1] => (castT (b := (.sl 1 .str)) y0).bind fun s_ => (castT (b := .str) y1).bind fun v => some ⟨Bool, slices_Contains s_ v, fun r => .s .bool r, false, true⟩
  | _ => none
noncomputable def E_slices_Contains : Env := Env.add 67 e_slices_Contains E_slices_Index
theorem E_slices_Contains_ok : EnvOk X0 E_slices_Contains := by
  refine EnvOk.add E_slices_Index_ok (fun args c h => ?_)
  unfold e_slices_Contains at h
  split at h
  · obtain ⟨v0, c0, h⟩ := Option.bind_eq_some_iff.1 h
    obtain ⟨rfl, rfl⟩ := castT_some c0
    obtain ⟨v1, c1, h⟩ := Option.bind_eq_some_iff.1 h
    obtain ⟨rfl, rfl⟩ := castT_some c1
    cases h
    exact ⟨fun r hr => .inl ⟨by kernel_rfl, ok_slices_Contains _ _ r hr⟩, fun hb => fun r => noSl_res (by rfl)⟩
  · cases h

/-! ### 72 onceweb/lex.IsKey -/
def F_lex_IsKey : FnD := { n := 6, rs := [2] }
set_option maxRecDepth 100000 in
theorem ok_lex_IsKey (s_ : (List UInt8)) (r : Bool) (h : lex_IsKey s_ = some r) : APure X0 72 ([.s .str s_].map DT.toT) (resT ([.s .bool r].map DT.toT)) := by
  refine APure_of_straight (F := F_lex_IsKey) (fuel := 3000) (E := E_slices_Contains) Yok E_slices_Contains_ok mixed Tryd.func72 rfl rfl rfl (by decide) (args := [.s .str s_]) (Nat.le_of_ble_eq_true rfl) (by kernel_rfl) (fun r => [.s .bool r]) ?_ h
  intro goto ret
  unfold lex_IsKey
  simp only [bnd_G, bnd_ite, bnd_bind, bnd_some]
  kernel_rfl
noncomputable def e_lex_IsKey : List DT → Option CallRes
  | [.s t0 y0] => (castT (b := .str) y0).bind fun s_ => some ⟨Bool, lex_IsKey s_, fun r => .s .bool r, false, true⟩
  | _ => none
noncomputable def E_lex_IsKey : Env := Env.add 72 e_lex_IsKey E_slices_Contains
theorem E_lex_IsKey_ok : EnvOk X0 E_lex_IsKey := by
  refine EnvOk.add E_slices_Contains_ok (fun args c h => ?_)
  unfold e_lex_IsKey at h
  split at h
  · obtain ⟨v0, c0, h⟩ := Option.bind_eq_some_iff.1 h
    obtain ⟨rfl, rfl⟩ := castT_some c0
    cases h
    exact ⟨fun r hr => .inl ⟨by kernel_rfl, ok_lex_IsKey _ r hr⟩, fun hb => fun r => noSl_res (by rfl)⟩
  · cases h

/-! ### 50 onceweb/lex.IsName -/
def F_lex_IsName : FnD := { n := 22, rs := [2] }
set_option maxRecDepth 100000 in
theorem ok_lex_IsName (s_ : (List UInt8)) (r : Bool) (h : lex_IsName s_ = some r) : APure X0 50 ([.s .str s_].map DT.toT) (resT ([.s .bool r].map DT.toT)) := by
  refine APure_of_straight (F := F_lex_IsName) (fuel := 3000) (E := E_lex_IsKey) Yok E_lex_IsKey_ok mixed Tryd.func50 rfl rfl rfl (by decide) (args := [.s .str s_]) (Nat.le_of_ble_eq_true rfl) (by kernel_rfl) (fun r => [.s .bool r]) ?_ h
  intro goto ret
  unfold lex_IsName
  simp only [bnd_G, bnd_ite, bnd_bind, bnd_some]
  kernel_rfl
noncomputable def e_lex_IsName : List DT → Option CallRes
  | [.s t0 y0] => (castT (b := .str) y0).bind fun s_ => some ⟨Bool, lex_IsName s_, fun r => .s .bool r, false, true⟩
  | _ => none
noncomputable def E_lex_IsName : Env := Env.add 50 e_lex_IsName E_lex_IsKey
theorem E_lex_IsName_ok : EnvOk X0 E_lex_IsName := by
  refine EnvOk.add E_lex_IsKey_ok (fun args c h => ?_)
  unfold e_lex_IsName at h
  split at h
  · obtain ⟨v0, c0, h⟩ := Option.bind_eq_some_iff.1 h
    obtain ⟨rfl, rfl⟩ := castT_some c0
    cases h
    exact ⟨fun r hr => .inl ⟨by kernel_rfl, ok_lex_IsName _ r hr⟩, fun hb => fun r => noSl_res (by rfl)⟩
  · cases h

/-! ### 44 onceweb/fail.fits -/
def F_fail_fits : FnD := { n := 23, rs := [4] }
set_option maxRecDepth 100000 in
theorem ok_fail_fits (kind : Int) (text : (List UInt8)) (r : Bool) (h : fail_fits kind text = some r) : APure X0 44 ([.s (.int .i64) kind, .s .str text].map DT.toT) (resT ([.s .bool r].map DT.toT)) := by
  refine APure_of_straight (F := F_fail_fits) (fuel := 3000) (E := E_lex_IsName) Yok E_lex_IsName_ok mixed Tryd.func44 rfl rfl rfl (by decide) (args := [.s (.int .i64) kind, .s .str text]) (Nat.le_of_ble_eq_true rfl) (by kernel_rfl) (fun r => [.s .bool r]) ?_ h
  intro goto ret
  unfold fail_fits
  simp only [bnd_G, bnd_ite, bnd_bind, bnd_some]
  kernel_rfl
noncomputable def e_fail_fits : List DT → Option CallRes
  | [.s t0 y0, .s t1 y1] => (castT (b := (.int .i64)) y0).bind fun kind => (castT (b := .str) y1).bind fun text => some ⟨Bool, fail_fits kind text, fun r => .s .bool r, false, true⟩
  | _ => none
noncomputable def E_fail_fits : Env := Env.add 44 e_fail_fits E_lex_IsName
theorem E_fail_fits_ok : EnvOk X0 E_fail_fits := by
  refine EnvOk.add E_lex_IsName_ok (fun args c h => ?_)
  unfold e_fail_fits at h
  split at h
  · obtain ⟨v0, c0, h⟩ := Option.bind_eq_some_iff.1 h
    obtain ⟨rfl, rfl⟩ := castT_some c0
    obtain ⟨v1, c1, h⟩ := Option.bind_eq_some_iff.1 h
    obtain ⟨rfl, rfl⟩ := castT_some c1
    cases h
    exact ⟨fun r hr => .inl ⟨by kernel_rfl, ok_fail_fits _ _ r hr⟩, fun hb => fun r => noSl_res (by rfl)⟩
  · cases h

/-! ### 70 onceweb/fail.well -/
def F_fail_well : FnD := { n := 46, rs := [2], labels := [(11, [1, 3])] }
def lab_fail_well : L_fail_well → Nat × DSt
  | .l11 c c' c'' ok => (11, [(1, .t (.box 60 [.s (.int .i64) c, .s (.int .i64) c', .s .str c''])), (3, .t (.s .bool ok))])
set_option maxRecDepth 100000 in
theorem ok_fail_well (c : tCrack) (r : Bool) (h : fail_well c = some r) : APure X0 70 ([.s tyCrack c].map DT.toT) (resT ([.s .bool r].map DT.toT)) := by
  refine APure_of_machine (F := F_fail_well) (fuel := 3000) (E := E_fail_fits) Yok E_fail_fits_ok mixed Tryd.func70 rfl rfl rfl (by decide) (args := [.s tyCrack c]) (Nat.le_of_ble_eq_true rfl) (by kernel_rfl) lab_fail_well st_fail_well (fun r => [.s .bool r]) ?_ ?_ ?_ h
  · intro l; cases l
    · exact WF_list ⟨trivial, trivial, trivial⟩
  · intro l goto ret; cases l with
    | l11 c c' c'' ok =>
      show _ = push (sg_fail_well_11 c c' c'' ok) (fun l' => goto (lab_fail_well l').1 (lab_fail_well l').2) (fun r => ret [.s .bool r])
      unfold sg_fail_well_11
      simp only [push_G, push_ite, push_bind, push_inl, push_inr]
      kernel_rfl
  · intro goto ret
    show _ = push (en_fail_well c) (fun l' => goto (lab_fail_well l').1 (lab_fail_well l').2) (fun r => ret [.s .bool r])
    unfold en_fail_well
    simp only [push_G, push_ite, push_bind, push_inl, push_inr]
    kernel_rfl
noncomputable def e_fail_well : List DT → Option CallRes
  | [.s t0 y0] => (castT (b := tyCrack) y0).bind fun c => some ⟨Bool, fail_well c, fun r => .s .bool r, false, true⟩
  | _ => none
noncomputable def E_fail_well : Env := Env.add 70 e_fail_well E_fail_fits
theorem E_fail_well_ok : EnvOk X0 E_fail_well := by
  refine EnvOk.add E_fail_fits_ok (fun args c h => ?_)
  unfold e_fail_well at h
  split at h
  · obtain ⟨v0, c0, h⟩ := Option.bind_eq_some_iff.1 h
    obtain ⟨rfl, rfl⟩ := castT_some c0
    cases h
    exact ⟨fun r hr => .inl ⟨by kernel_rfl, ok_fail_well _ r hr⟩, fun hb => fun r => noSl_res (by rfl)⟩
  · cases h

/-! ### 46 onceweb/fail.begins -/
def F_fail_begins : FnD := { n := 65, rs := [2, 3], labels := [(3, [4, 5, 12, 13, 14]), (10, [4, 5, 6, 7, 12, 13, 14])] }
def lab_fail_begins : L_fail_begins → Nat × DSt
  | .l3 from_ stack x12 x13 x14 => (3, [(4, .t (.own 3 (.int .i64) from_)), (5, .t (.own 3 (.int .i64) stack)), (12, .t (.s (.sl 3 tyCrack) x12)), (13, .t (.s (.int .i64) x13)), (14, .t (.s (.int .i64) x14))])
  | .l10 from_ stack i c c' c'' x12 x13 x14 => (10, [(4, .t (.own 3 (.int .i64) from_)), (5, .t (.own 3 (.int .i64) stack)), (6, .t (.s (.int .i64) i)), (7, .t (.box 60 [.s (.int .i64) c, .s (.int .i64) c', .s .str c''])), (12, .t (.s (.sl 3 tyCrack) x12)), (13, .t (.s (.int .i64) x13)), (14, .t (.s (.int .i64) x14))])
set_option maxRecDepth 100000 in
theorem ok_fail_begins (f : (List tCrack)) (r : ((List Int) × Bool)) (h : fail_begins f = some r) : APure X0 46 ([.s (.sl 3 tyCrack) f].map DT.toT) (resT ([.own 3 (.int .i64) r.1, .s .bool r.2].map DT.toT)) := by
  refine APure_of_machine (F := F_fail_begins) (fuel := 3000) (E := E_fail_well) Yok E_fail_well_ok mixed Tryd.func46 rfl rfl rfl (by decide) (args := [.s (.sl 3 tyCrack) f]) (Nat.le_of_ble_eq_true rfl) (by kernel_rfl) lab_fail_begins st_fail_begins (fun r => [.own 3 (.int .i64) r.1, .s .bool r.2]) ?_ ?_ ?_ h
  · intro l; cases l
    · exact WF_list ⟨trivial, trivial, trivial, trivial, trivial, trivial⟩
    · exact WF_list ⟨trivial, trivial, trivial, trivial, trivial, trivial, trivial, trivial⟩
  · intro l goto ret; cases l with
    | l3 from_ stack x12 x13 x14 =>
      show _ = push (sg_fail_begins_3 from_ stack x12 x13 x14) (fun l' => goto (lab_fail_begins l').1 (lab_fail_begins l').2) (fun r => ret [.own 3 (.int .i64) r.1, .s .bool r.2])
      unfold sg_fail_begins_3
      simp only [push_G, push_ite, push_bind, push_inl, push_inr]
      kernel_rfl
    | l10 from_ stack i c c' c'' x12 x13 x14 =>
      show _ = push (sg_fail_begins_10 from_ stack i c c' c'' x12 x13 x14) (fun l' => goto (lab_fail_begins l').1 (lab_fail_begins l').2) (fun r => ret [.own 3 (.int .i64) r.1, .s .bool r.2])
      unfold sg_fail_begins_10
      simp only [push_G, push_ite, push_bind, push_inl, push_inr]
      kernel_rfl
  · intro goto ret
    show _ = push (en_fail_begins f) (fun l' => goto (lab_fail_begins l').1 (lab_fail_begins l').2) (fun r => ret [.own 3 (.int .i64) r.1, .s .bool r.2])
    unfold en_fail_begins
    simp only [push_G, push_ite, push_bind, push_inl, push_inr]
    kernel_rfl
noncomputable def e_fail_begins : List DT → Option CallRes
  | [.s t0 y0] => (castT (b := (.sl 3 tyCrack)) y0).bind fun f => some ⟨((List Int) × Bool), fail_begins f, fun r => .tup [.own 3 (.int .i64) r.1, .s .bool r.2], (([] : List Int), false), true⟩
  | _ => none
noncomputable def E_fail_begins : Env := Env.add 46 e_fail_begins E_fail_well
theorem E_fail_begins_ok : EnvOk X0 E_fail_begins := by
  refine EnvOk.add E_fail_well_ok (fun args c h => ?_)
  unfold e_fail_begins at h
  split at h
  · obtain ⟨v0, c0, h⟩ := Option.bind_eq_some_iff.1 h
    obtain ⟨rfl, rfl⟩ := castT_some c0
    cases h
    exact ⟨fun r hr => .inl ⟨by kernel_rfl, ok_fail_begins _ r hr⟩, fun hb => fun r => noSl_res (by rfl)⟩
  · cases h

/-! ### 14 onceweb/fail.Check -/
def F_fail_Check : FnD := { n := 15, rs := [2] }
set_option maxRecDepth 100000 in
theorem ok_fail_Check (f : (List tCrack)) (r : Int) (h : fail_Check f = some r) : APure X0 14 ([.s (.sl 3 tyCrack) f].map DT.toT) (resT ([.s (.int .i64) r].map DT.toT)) := by
  refine APure_of_straight (F := F_fail_Check) (fuel := 3000) (E := E_fail_begins) Yok E_fail_begins_ok mixed Tryd.func14 rfl rfl rfl (by decide) (args := [.s (.sl 3 tyCrack) f]) (Nat.le_of_ble_eq_true rfl) (by kernel_rfl) (fun r => [.s (.int .i64) r]) ?_ h
  intro goto ret
  unfold fail_Check
  simp only [bnd_G, bnd_ite, bnd_bind, bnd_some]
  kernel_rfl
noncomputable def e_fail_Check : List DT → Option CallRes
  | [.s t0 y0] => (castT (b := (.sl 3 tyCrack)) y0).bind fun f => some ⟨Int, fail_Check f, fun r => .s (.int .i64) r, (0 : Int), true⟩
  | _ => none
noncomputable def E_fail_Check : Env := Env.add 14 e_fail_Check E_fail_begins
theorem E_fail_Check_ok : EnvOk X0 E_fail_Check := by
  refine EnvOk.add E_fail_begins_ok (fun args c h => ?_)
  unfold e_fail_Check at h
  split at h
  · obtain ⟨v0, c0, h⟩ := Option.bind_eq_some_iff.1 h
    obtain ⟨rfl, rfl⟩ := castT_some c0
    cases h
    exact ⟨fun r hr => .inl ⟨by kernel_rfl, ok_fail_Check _ r hr⟩, fun hb => fun r => noSl_res (by rfl)⟩
  · cases h

/-! ### 10 onceweb/fail.Deep -/
def F_fail_Deep : FnD := { n := 52, rs := [2, 3], labels := [(6, [5, 18, 19, 20]), (10, [5, 8, 9, 18, 19, 20, 31, 32, 33])] }
def lab_fail_Deep : L_fail_Deep → Nat × DSt
  | .l6 stack x18 x19 x20 => (6, [(5, .t (.own 3 (.int .i64) stack)), (18, .t (.s (.sl 3 tyCrack) x18)), (19, .t (.s (.int .i64) x19)), (20, .t (.s (.int .i64) x20))])
  | .l10 stack k n x18 x19 x20 x31 x31' x32 x33 => (10, [(5, .t (.own 3 (.int .i64) stack)), (8, .t (.s (.int .i64) k)), (9, .t (.s (.int .i64) n)), (18, .t (.s (.sl 3 tyCrack) x18)), (19, .t (.s (.int .i64) x19)), (20, .t (.s (.int .i64) x20)), (31, .ref 5 none x31 x31' .mid), (32, .t (.s (.int .i64) x32)), (33, .t (.s (.int .i64) x33))])
set_option maxRecDepth 100000 in
theorem ok_fail_Deep (f : (List tCrack)) (r : (Int × Int)) (h : fail_Deep f = some r) : APure X0 10 ([.s (.sl 3 tyCrack) f].map DT.toT) (resT ([.s (.int .i64) r.1, .s (.int .i64) r.2].map DT.toT)) := by
  refine APure_of_machine (F := F_fail_Deep) (fuel := 3000) (E := E_fail_Check) Yok E_fail_Check_ok mixed Tryd.func10 rfl rfl rfl (by decide) (args := [.s (.sl 3 tyCrack) f]) (Nat.le_of_ble_eq_true rfl) (by kernel_rfl) lab_fail_Deep st_fail_Deep (fun r => [.s (.int .i64) r.1, .s (.int .i64) r.2]) ?_ ?_ ?_ h
  · intro l; cases l
    · exact WF_list ⟨trivial, trivial, trivial, trivial, trivial⟩
    · exact WF_list ⟨trivial, trivial, trivial, trivial, trivial, trivial, .inl rfl, trivial, trivial, trivial⟩
  · intro l goto ret; cases l with
    | l6 stack x18 x19 x20 =>
      show _ = push (sg_fail_Deep_6 stack x18 x19 x20) (fun l' => goto (lab_fail_Deep l').1 (lab_fail_Deep l').2) (fun r => ret [.s (.int .i64) r.1, .s (.int .i64) r.2])
      unfold sg_fail_Deep_6
      simp only [push_G, push_ite, push_bind, push_inl, push_inr]
      kernel_rfl
    | l10 stack k n x18 x19 x20 x31 x31' x32 x33 =>
      show _ = push (sg_fail_Deep_10 stack k n x18 x19 x20 x31 x31' x32 x33) (fun l' => goto (lab_fail_Deep l').1 (lab_fail_Deep l').2) (fun r => ret [.s (.int .i64) r.1, .s (.int .i64) r.2])
      unfold sg_fail_Deep_10
      simp only [push_G, push_ite, push_bind, push_inl, push_inr]
      kernel_rfl
  · intro goto ret
    show _ = push (en_fail_Deep f) (fun l' => goto (lab_fail_Deep l').1 (lab_fail_Deep l').2) (fun r => ret [.s (.int .i64) r.1, .s (.int .i64) r.2])
    unfold en_fail_Deep
    simp only [push_G, push_ite, push_bind, push_inl, push_inr]
    kernel_rfl
noncomputable def e_fail_Deep : List DT → Option CallRes
  | [.s t0 y0] => (castT (b := (.sl 3 tyCrack)) y0).bind fun f => some ⟨(Int × Int), fail_Deep f, fun r => .tup [.s (.int .i64) r.1, .s (.int .i64) r.2], ((0 : Int), (0 : Int)), true⟩
  | _ => none
noncomputable def E_fail_Deep : Env := Env.add 10 e_fail_Deep E_fail_Check
theorem E_fail_Deep_ok : EnvOk X0 E_fail_Deep := by
  refine EnvOk.add E_fail_Check_ok (fun args c h => ?_)
  unfold e_fail_Deep at h
  split at h
  · obtain ⟨v0, c0, h⟩ := Option.bind_eq_some_iff.1 h
    obtain ⟨rfl, rfl⟩ := castT_some c0
    cases h
    exact ⟨fun r hr => .inl ⟨by kernel_rfl, ok_fail_Deep _ r hr⟩, fun hb => fun r => noSl_res (by rfl)⟩
  · cases h

/-! ### 68 onceweb/oncewebbase.In -/
def F_base_In : FnD := { n := 18, rs := [4], labels := [(2, [0, 1, 5])] }
def lab_base_In : L_base_In → Nat × DSt
  | .l2 l s_ i => (2, [(0, .t (.s (.sl 1 .str) l)), (1, .t (.s .str s_)), (5, .t (.s (.int .i64) i))])
set_option maxRecDepth 100000 in
theorem ok_base_In (l : (List (List UInt8))) (s_ : (List UInt8)) (r : Bool) (h : base_In l s_ = some r) : APure X0 68 ([.s (.sl 1 .str) l, .s .str s_].map DT.toT) (resT ([.s .bool r].map DT.toT)) := by
  refine APure_of_machine (F := F_base_In) (fuel := 3000) (E := E_fail_Deep) Yok E_fail_Deep_ok mixed Tryd.func68 rfl rfl rfl (by decide) (args := [.s (.sl 1 .str) l, .s .str s_]) (Nat.le_of_ble_eq_true rfl) (by kernel_rfl) lab_base_In st_base_In (fun r => [.s .bool r]) ?_ ?_ ?_ h
  · intro l; cases l
    · exact WF_list ⟨trivial, trivial, trivial, trivial⟩
  · intro l goto ret; cases l with
    | l2 l s_ i =>
      show _ = push (sg_base_In_2 l s_ i) (fun l' => goto (lab_base_In l').1 (lab_base_In l').2) (fun r => ret [.s .bool r])
      unfold sg_base_In_2
      simp only [push_G, push_ite, push_bind, push_inl, push_inr]
      kernel_rfl
  · intro goto ret
    show _ = push (en_base_In l s_) (fun l' => goto (lab_base_In l').1 (lab_base_In l').2) (fun r => ret [.s .bool r])
    unfold en_base_In
    simp only [push_G, push_ite, push_bind, push_inl, push_inr]
    kernel_rfl
noncomputable def e_base_In : List DT → Option CallRes
  | [.s t0 y0, .s t1 y1] => (castT (b := (.sl 1 .str)) y0).bind fun l => (castT (b := .str) y1).bind fun s_ => some ⟨Bool, base_In l s_, fun r => .s .bool r, false, true⟩
  | _ => none
noncomputable def E_base_In : Env := Env.add 68 e_base_In E_fail_Deep
theorem E_base_In_ok : EnvOk X0 E_base_In := by
  refine EnvOk.add E_fail_Deep_ok (fun args c h => ?_)
  unfold e_base_In at h
  split at h
  · obtain ⟨v0, c0, h⟩ := Option.bind_eq_some_iff.1 h
    obtain ⟨rfl, rfl⟩ := castT_some c0
    obtain ⟨v1, c1, h⟩ := Option.bind_eq_some_iff.1 h
    obtain ⟨rfl, rfl⟩ := castT_some c1
    cases h
    exact ⟨fun r hr => .inl ⟨by kernel_rfl, ok_base_In _ _ r hr⟩, fun hb => fun r => noSl_res (by rfl)⟩
  · cases h

/-! ### 73 onceweb/oncewebbase.Word -/
def F_base_Word : FnD := { n := 45, rs := [2], labels := [(4, [0, 3])] }
def lab_base_Word : L_base_Word → Nat × DSt
  | .l4 s_ i => (4, [(0, .t (.s .str s_)), (3, .t (.s (.int .i64) i))])
set_option maxRecDepth 100000 in
theorem ok_base_Word (s_ : (List UInt8)) (r : Bool) (h : base_Word s_ = some r) : APure X0 73 ([.s .str s_].map DT.toT) (resT ([.s .bool r].map DT.toT)) := by
  refine APure_of_machine (F := F_base_Word) (fuel := 3000) (E := E_base_In) Yok E_base_In_ok mixed Tryd.func73 rfl rfl rfl (by decide) (args := [.s .str s_]) (Nat.le_of_ble_eq_true rfl) (by kernel_rfl) lab_base_Word st_base_Word (fun r => [.s .bool r]) ?_ ?_ ?_ h
  · intro l; cases l
    · exact WF_list ⟨trivial, trivial, trivial⟩
  · intro l goto ret; cases l with
    | l4 s_ i =>
      show _ = push (sg_base_Word_4 s_ i) (fun l' => goto (lab_base_Word l').1 (lab_base_Word l').2) (fun r => ret [.s .bool r])
      unfold sg_base_Word_4
      simp only [push_G, push_ite, push_bind, push_inl, push_inr]
      kernel_rfl
  · intro goto ret
    show _ = push (en_base_Word s_) (fun l' => goto (lab_base_Word l').1 (lab_base_Word l').2) (fun r => ret [.s .bool r])
    unfold en_base_Word
    simp only [push_G, push_ite, push_bind, push_inl, push_inr]
    kernel_rfl
noncomputable def e_base_Word : List DT → Option CallRes
  | [.s t0 y0] => (castT (b := .str) y0).bind fun s_ => some ⟨Bool, base_Word s_, fun r => .s .bool r, false, true⟩
  | _ => none
noncomputable def E_base_Word : Env := Env.add 73 e_base_Word E_base_In
theorem E_base_Word_ok : EnvOk X0 E_base_Word := by
  refine EnvOk.add E_base_In_ok (fun args c h => ?_)
  unfold e_base_Word at h
  split at h
  · obtain ⟨v0, c0, h⟩ := Option.bind_eq_some_iff.1 h
    obtain ⟨rfl, rfl⟩ := castT_some c0
    cases h
    exact ⟨fun r hr => .inl ⟨by kernel_rfl, ok_base_Word _ r hr⟩, fun hb => fun r => noSl_res (by rfl)⟩
  · cases h

/-! ### 74 onceweb/oncewebbase.Keys -/
def F_base_Keys : FnD := { n := 2, rs := [0] }
set_option maxRecDepth 100000 in
theorem ok_base_Keys  (r : (List (List UInt8))) (h : base_Keys  = some r) : APure X0 74 ([].map DT.toT) (resT ([.own 9 .str r].map DT.toT)) := by
  refine APure_of_straight (F := F_base_Keys) (fuel := 3000) (E := E_base_Word) Yok E_base_Word_ok mixed Tryd.func74 rfl rfl rfl (by decide) (args := []) (Nat.le_of_ble_eq_true rfl) (by kernel_rfl) (fun r => [.own 9 .str r]) ?_ h
  intro goto ret
  unfold base_Keys
  simp only [bnd_G, bnd_ite, bnd_bind, bnd_some]
  kernel_rfl
noncomputable def e_base_Keys : List DT → Option CallRes
  | [] => some ⟨(List (List UInt8)), base_Keys , fun r => .own 9 .str r, ([] : List (List UInt8)), true⟩
  | _ => none
noncomputable def E_base_Keys : Env := Env.add 74 e_base_Keys E_base_Word
theorem E_base_Keys_ok : EnvOk X0 E_base_Keys := by
  refine EnvOk.add E_base_Word_ok (fun args c h => ?_)
  unfold e_base_Keys at h
  split at h
  · cases h
    exact ⟨fun r hr => .inl ⟨by kernel_rfl, ok_base_Keys r hr⟩, fun hb => fun r => noSl_res (by rfl)⟩
  · cases h

/-! ### 53 onceweb/oncewebbase.Name -/
def F_base_Name : FnD := { n := 16, rs := [2] }
set_option maxRecDepth 100000 in
theorem ok_base_Name (s_ : (List UInt8)) (r : Bool) (h : base_Name s_ = some r) : APure X0 53 ([.s .str s_].map DT.toT) (resT ([.s .bool r].map DT.toT)) := by
  refine APure_of_straight (F := F_base_Name) (fuel := 3000) (E := E_base_Keys) Yok E_base_Keys_ok mixed Tryd.func53 rfl rfl rfl (by decide) (args := [.s .str s_]) (Nat.le_of_ble_eq_true rfl) (by kernel_rfl) (fun r => [.s .bool r]) ?_ h
  intro goto ret
  unfold base_Name
  simp only [bnd_G, bnd_ite, bnd_bind, bnd_some]
  kernel_rfl
noncomputable def e_base_Name : List DT → Option CallRes
  | [.s t0 y0] => (castT (b := .str) y0).bind fun s_ => some ⟨Bool, base_Name s_, fun r => .s .bool r, false, true⟩
  | _ => none
noncomputable def E_base_Name : Env := Env.add 53 e_base_Name E_base_Keys
theorem E_base_Name_ok : EnvOk X0 E_base_Name := by
  refine EnvOk.add E_base_Keys_ok (fun args c h => ?_)
  unfold e_base_Name at h
  split at h
  · obtain ⟨v0, c0, h⟩ := Option.bind_eq_some_iff.1 h
    obtain ⟨rfl, rfl⟩ := castT_some c0
    cases h
    exact ⟨fun r hr => .inl ⟨by kernel_rfl, ok_base_Name _ r hr⟩, fun hb => fun r => noSl_res (by rfl)⟩
  · cases h

/-! ### 69 onceweb/oncewebref03.words -/
def F_ref03_words : FnD := { n := 2, rs := [0] }
set_option maxRecDepth 100000 in
theorem ok_ref03_words  (r : (List (List UInt8))) (h : ref03_words  = some r) : APure X0 69 ([].map DT.toT) (resT ([.own 9 .str r].map DT.toT)) := by
  refine APure_of_straight (F := F_ref03_words) (fuel := 3000) (E := E_base_Name) Yok E_base_Name_ok mixed Tryd.func69 rfl rfl rfl (by decide) (args := []) (Nat.le_of_ble_eq_true rfl) (by kernel_rfl) (fun r => [.own 9 .str r]) ?_ h
  intro goto ret
  unfold ref03_words
  simp only [bnd_G, bnd_ite, bnd_bind, bnd_some]
  kernel_rfl
noncomputable def e_ref03_words : List DT → Option CallRes
  | [] => some ⟨(List (List UInt8)), ref03_words , fun r => .own 9 .str r, ([] : List (List UInt8)), true⟩
  | _ => none
noncomputable def E_ref03_words : Env := Env.add 69 e_ref03_words E_base_Name
theorem E_ref03_words_ok : EnvOk X0 E_ref03_words := by
  refine EnvOk.add E_base_Name_ok (fun args c h => ?_)
  unfold e_ref03_words at h
  split at h
  · cases h
    exact ⟨fun r hr => .inl ⟨by kernel_rfl, ok_ref03_words r hr⟩, fun hb => fun r => noSl_res (by rfl)⟩
  · cases h

/-! ### 45 onceweb/oncewebref03.crack -/
def F_ref03_crack : FnD := { n := 87, rs := [2] }
set_option maxRecDepth 100000 in
theorem ok_ref03_crack (c : tCrack) (r : Bool) (h : ref03_crack c = some r) : APure X0 45 ([.s tyCrack c].map DT.toT) (resT ([.s .bool r].map DT.toT)) := by
  refine APure_of_straight (F := F_ref03_crack) (fuel := 3000) (E := E_ref03_words) Yok E_ref03_words_ok mixed Tryd.func45 rfl rfl rfl (by decide) (args := [.s tyCrack c]) (Nat.le_of_ble_eq_true rfl) (by kernel_rfl) (fun r => [.s .bool r]) ?_ h
  intro goto ret
  unfold ref03_crack
  simp only [bnd_G, bnd_ite, bnd_bind, bnd_some]
  kernel_rfl
noncomputable def e_ref03_crack : List DT → Option CallRes
  | [.s t0 y0] => (castT (b := tyCrack) y0).bind fun c => some ⟨Bool, ref03_crack c, fun r => .s .bool r, false, true⟩
  | _ => none
noncomputable def E_ref03_crack : Env := Env.add 45 e_ref03_crack E_ref03_words
theorem E_ref03_crack_ok : EnvOk X0 E_ref03_crack := by
  refine EnvOk.add E_ref03_words_ok (fun args c h => ?_)
  unfold e_ref03_crack at h
  split at h
  · obtain ⟨v0, c0, h⟩ := Option.bind_eq_some_iff.1 h
    obtain ⟨rfl, rfl⟩ := castT_some c0
    cases h
    exact ⟨fun r hr => .inl ⟨by kernel_rfl, ok_ref03_crack _ r hr⟩, fun hb => fun r => noSl_res (by rfl)⟩
  · cases h

/-! ### 47 onceweb/oncewebref03.begins -/
def F_ref03_begins : FnD := { n := 62, rs := [2, 3], labels := [(4, [0, 4, 5, 6]), (13, [0, 4, 5, 6, 8])] }
def lab_ref03_begins : L_ref03_begins → Nat × DSt
  | .l4 f from_ stack i => (4, [(0, .t (.s (.sl 3 tyCrack) f)), (4, .t (.own 3 (.int .i64) from_)), (5, .t (.own 3 (.int .i64) stack)), (6, .t (.s (.int .i64) i))])
  | .l13 f from_ stack i b => (13, [(0, .t (.s (.sl 3 tyCrack) f)), (4, .t (.own 3 (.int .i64) from_)), (5, .t (.own 3 (.int .i64) stack)), (6, .t (.s (.int .i64) i)), (8, .t (.s (.int .i64) b))])
set_option maxRecDepth 100000 in
theorem ok_ref03_begins (f : (List tCrack)) (r : ((List Int) × Bool)) (h : ref03_begins f = some r) : APure X0 47 ([.s (.sl 3 tyCrack) f].map DT.toT) (resT ([.own 3 (.int .i64) r.1, .s .bool r.2].map DT.toT)) := by
  refine APure_of_machine (F := F_ref03_begins) (fuel := 3000) (E := E_ref03_crack) Yok E_ref03_crack_ok mixed Tryd.func47 rfl rfl rfl (by decide) (args := [.s (.sl 3 tyCrack) f]) (Nat.le_of_ble_eq_true rfl) (by kernel_rfl) lab_ref03_begins st_ref03_begins (fun r => [.own 3 (.int .i64) r.1, .s .bool r.2]) ?_ ?_ ?_ h
  · intro l; cases l
    · exact WF_list ⟨trivial, trivial, trivial, trivial, trivial⟩
    · exact WF_list ⟨trivial, trivial, trivial, trivial, trivial, trivial⟩
  · intro l goto ret; cases l with
    | l4 f from_ stack i =>
      show _ = push (sg_ref03_begins_4 f from_ stack i) (fun l' => goto (lab_ref03_begins l').1 (lab_ref03_begins l').2) (fun r => ret [.own 3 (.int .i64) r.1, .s .bool r.2])
      unfold sg_ref03_begins_4
      simp only [push_G, push_ite, push_bind, push_inl, push_inr]
      kernel_rfl
    | l13 f from_ stack i b =>
      show _ = push (sg_ref03_begins_13 f from_ stack i b) (fun l' => goto (lab_ref03_begins l').1 (lab_ref03_begins l').2) (fun r => ret [.own 3 (.int .i64) r.1, .s .bool r.2])
      unfold sg_ref03_begins_13
      simp only [push_G, push_ite, push_bind, push_inl, push_inr]
      kernel_rfl
  · intro goto ret
    show _ = push (en_ref03_begins f) (fun l' => goto (lab_ref03_begins l').1 (lab_ref03_begins l').2) (fun r => ret [.own 3 (.int .i64) r.1, .s .bool r.2])
    unfold en_ref03_begins
    simp only [push_G, push_ite, push_bind, push_inl, push_inr]
    kernel_rfl
noncomputable def e_ref03_begins : List DT → Option CallRes
  | [.s t0 y0] => (castT (b := (.sl 3 tyCrack)) y0).bind fun f => some ⟨((List Int) × Bool), ref03_begins f, fun r => .tup [.own 3 (.int .i64) r.1, .s .bool r.2], (([] : List Int), false), true⟩
  | _ => none
noncomputable def E_ref03_begins : Env := Env.add 47 e_ref03_begins E_ref03_crack
theorem E_ref03_begins_ok : EnvOk X0 E_ref03_begins := by
  refine EnvOk.add E_ref03_crack_ok (fun args c h => ?_)
  unfold e_ref03_begins at h
  split at h
  · obtain ⟨v0, c0, h⟩ := Option.bind_eq_some_iff.1 h
    obtain ⟨rfl, rfl⟩ := castT_some c0
    cases h
    exact ⟨fun r hr => .inl ⟨by kernel_rfl, ok_ref03_begins _ r hr⟩, fun hb => fun r => noSl_res (by rfl)⟩
  · cases h

/-! ### 15 onceweb/oncewebref03.Check -/
def F_ref03_Check : FnD := { n := 15, rs := [2] }
set_option maxRecDepth 100000 in
theorem ok_ref03_Check (f : (List tCrack)) (r : Int) (h : ref03_Check f = some r) : APure X0 15 ([.s (.sl 3 tyCrack) f].map DT.toT) (resT ([.s (.int .i64) r].map DT.toT)) := by
  refine APure_of_straight (F := F_ref03_Check) (fuel := 3000) (E := E_ref03_begins) Yok E_ref03_begins_ok mixed Tryd.func15 rfl rfl rfl (by decide) (args := [.s (.sl 3 tyCrack) f]) (Nat.le_of_ble_eq_true rfl) (by kernel_rfl) (fun r => [.s (.int .i64) r]) ?_ h
  intro goto ret
  unfold ref03_Check
  simp only [bnd_G, bnd_ite, bnd_bind, bnd_some]
  kernel_rfl
noncomputable def e_ref03_Check : List DT → Option CallRes
  | [.s t0 y0] => (castT (b := (.sl 3 tyCrack)) y0).bind fun f => some ⟨Int, ref03_Check f, fun r => .s (.int .i64) r, (0 : Int), true⟩
  | _ => none
noncomputable def E_ref03_Check : Env := Env.add 15 e_ref03_Check E_ref03_begins
theorem E_ref03_Check_ok : EnvOk X0 E_ref03_Check := by
  refine EnvOk.add E_ref03_begins_ok (fun args c h => ?_)
  unfold e_ref03_Check at h
  split at h
  · obtain ⟨v0, c0, h⟩ := Option.bind_eq_some_iff.1 h
    obtain ⟨rfl, rfl⟩ := castT_some c0
    cases h
    exact ⟨fun r hr => .inl ⟨by kernel_rfl, ok_ref03_Check _ r hr⟩, fun hb => fun r => noSl_res (by rfl)⟩
  · cases h

/-! ### 11 onceweb/oncewebref03.Deep -/
def F_ref03_Deep : FnD := { n := 51, rs := [2, 3], labels := [(6, [0, 5, 6]), (10, [0, 5, 6, 7, 8])] }
def lab_ref03_Deep : L_ref03_Deep → Nat × DSt
  | .l6 f stack i => (6, [(0, .t (.s (.sl 3 tyCrack) f)), (5, .t (.own 3 (.int .i64) stack)), (6, .t (.s (.int .i64) i))])
  | .l10 f stack i d k => (10, [(0, .t (.s (.sl 3 tyCrack) f)), (5, .t (.own 3 (.int .i64) stack)), (6, .t (.s (.int .i64) i)), (7, .t (.s (.int .i64) d)), (8, .t (.s (.int .i64) k))])
set_option maxRecDepth 100000 in
theorem ok_ref03_Deep (f : (List tCrack)) (r : (Int × Int)) (h : ref03_Deep f = some r) : APure X0 11 ([.s (.sl 3 tyCrack) f].map DT.toT) (resT ([.s (.int .i64) r.1, .s (.int .i64) r.2].map DT.toT)) := by
  refine APure_of_machine (F := F_ref03_Deep) (fuel := 3000) (E := E_ref03_Check) Yok E_ref03_Check_ok mixed Tryd.func11 rfl rfl rfl (by decide) (args := [.s (.sl 3 tyCrack) f]) (Nat.le_of_ble_eq_true rfl) (by kernel_rfl) lab_ref03_Deep st_ref03_Deep (fun r => [.s (.int .i64) r.1, .s (.int .i64) r.2]) ?_ ?_ ?_ h
  · intro l; cases l
    · exact WF_list ⟨trivial, trivial, trivial, trivial⟩
    · exact WF_list ⟨trivial, trivial, trivial, trivial, trivial, trivial⟩
  · intro l goto ret; cases l with
    | l6 f stack i =>
      show _ = push (sg_ref03_Deep_6 f stack i) (fun l' => goto (lab_ref03_Deep l').1 (lab_ref03_Deep l').2) (fun r => ret [.s (.int .i64) r.1, .s (.int .i64) r.2])
      unfold sg_ref03_Deep_6
      simp only [push_G, push_ite, push_bind, push_inl, push_inr]
      kernel_rfl
    | l10 f stack i d k =>
      show _ = push (sg_ref03_Deep_10 f stack i d k) (fun l' => goto (lab_ref03_Deep l').1 (lab_ref03_Deep l').2) (fun r => ret [.s (.int .i64) r.1, .s (.int .i64) r.2])
      unfold sg_ref03_Deep_10
      simp only [push_G, push_ite, push_bind, push_inl, push_inr]
      kernel_rfl
  · intro goto ret
    show _ = push (en_ref03_Deep f) (fun l' => goto (lab_ref03_Deep l').1 (lab_ref03_Deep l').2) (fun r => ret [.s (.int .i64) r.1, .s (.int .i64) r.2])
    unfold en_ref03_Deep
    simp only [push_G, push_ite, push_bind, push_inl, push_inr]
    kernel_rfl
noncomputable def e_ref03_Deep : List DT → Option CallRes
  | [.s t0 y0] => (castT (b := (.sl 3 tyCrack)) y0).bind fun f => some ⟨(Int × Int), ref03_Deep f, fun r => .tup [.s (.int .i64) r.1, .s (.int .i64) r.2], ((0 : Int), (0 : Int)), true⟩
  | _ => none
noncomputable def E_ref03_Deep : Env := Env.add 11 e_ref03_Deep E_ref03_Check
theorem E_ref03_Deep_ok : EnvOk X0 E_ref03_Deep := by
  refine EnvOk.add E_ref03_Check_ok (fun args c h => ?_)
  unfold e_ref03_Deep at h
  split at h
  · obtain ⟨v0, c0, h⟩ := Option.bind_eq_some_iff.1 h
    obtain ⟨rfl, rfl⟩ := castT_some c0
    cases h
    exact ⟨fun r hr => .inl ⟨by kernel_rfl, ok_ref03_Deep _ r hr⟩, fun hb => fun r => noSl_res (by rfl)⟩
  · cases h

/-! ### 12 onceweb/fail.Leaf -/
def F_fail_Leaf : FnD := { n := 29, rs := [4, 5] }
set_option maxRecDepth 100000 in
theorem ok_fail_Leaf (kind : Int) (text : (List UInt8)) (r : ((List tCrack) × Int)) (h : fail_Leaf kind text = some r) : APure X0 12 ([.s (.int .i64) kind, .s .str text].map DT.toT) (resT ([.own 60 tyCrack r.1, .s (.int .i64) r.2].map DT.toT)) := by
  refine APure_of_straight (F := F_fail_Leaf) (fuel := 3000) (E := E_ref03_Deep) Yok E_ref03_Deep_ok mixed Tryd.func12 rfl rfl rfl (by decide) (args := [.s (.int .i64) kind, .s .str text]) (Nat.le_of_ble_eq_true rfl) (by kernel_rfl) (fun r => [.own 60 tyCrack r.1, .s (.int .i64) r.2]) ?_ h
  intro goto ret
  unfold fail_Leaf
  simp only [bnd_G, bnd_ite, bnd_bind, bnd_some]
  kernel_rfl
noncomputable def e_fail_Leaf : List DT → Option CallRes
  | [.s t0 y0, .s t1 y1] => (castT (b := (.int .i64)) y0).bind fun kind => (castT (b := .str) y1).bind fun text => some ⟨((List tCrack) × Int), fail_Leaf kind text, fun r => .tup [.own 60 tyCrack r.1, .s (.int .i64) r.2], (([] : List tCrack), (0 : Int)), true⟩
  | _ => none
noncomputable def E_fail_Leaf : Env := Env.add 12 e_fail_Leaf E_ref03_Deep
theorem E_fail_Leaf_ok : EnvOk X0 E_fail_Leaf := by
  refine EnvOk.add E_ref03_Deep_ok (fun args c h => ?_)
  unfold e_fail_Leaf at h
  split at h
  · obtain ⟨v0, c0, h⟩ := Option.bind_eq_some_iff.1 h
    obtain ⟨rfl, rfl⟩ := castT_some c0
    obtain ⟨v1, c1, h⟩ := Option.bind_eq_some_iff.1 h
    obtain ⟨rfl, rfl⟩ := castT_some c1
    cases h
    exact ⟨fun r hr => .inl ⟨by kernel_rfl, ok_fail_Leaf _ _ r hr⟩, fun hb => fun r => noSl_res (by rfl)⟩
  · cases h

/-! ### 13 onceweb/oncewebref03.Leaf -/
def F_ref03_Leaf : FnD := { n := 32, rs := [4, 5] }
set_option maxRecDepth 100000 in
theorem ok_ref03_Leaf (kind : Int) (text : (List UInt8)) (r : ((List tCrack) × Int)) (h : ref03_Leaf kind text = some r) : APure X0 13 ([.s (.int .i64) kind, .s .str text].map DT.toT) (resT ([.own 60 tyCrack r.1, .s (.int .i64) r.2].map DT.toT)) := by
  refine APure_of_straight (F := F_ref03_Leaf) (fuel := 3000) (E := E_fail_Leaf) Yok E_fail_Leaf_ok mixed Tryd.func13 rfl rfl rfl (by decide) (args := [.s (.int .i64) kind, .s .str text]) (Nat.le_of_ble_eq_true rfl) (by kernel_rfl) (fun r => [.own 60 tyCrack r.1, .s (.int .i64) r.2]) ?_ h
  intro goto ret
  unfold ref03_Leaf
  simp only [bnd_G, bnd_ite, bnd_bind, bnd_some]
  kernel_rfl
noncomputable def e_ref03_Leaf : List DT → Option CallRes
  | [.s t0 y0, .s t1 y1] => (castT (b := (.int .i64)) y0).bind fun kind => (castT (b := .str) y1).bind fun text => some ⟨((List tCrack) × Int), ref03_Leaf kind text, fun r => .tup [.own 60 tyCrack r.1, .s (.int .i64) r.2], (([] : List tCrack), (0 : Int)), true⟩
  | _ => none
noncomputable def E_ref03_Leaf : Env := Env.add 13 e_ref03_Leaf E_fail_Leaf
theorem E_ref03_Leaf_ok : EnvOk X0 E_ref03_Leaf := by
  refine EnvOk.add E_fail_Leaf_ok (fun args c h => ?_)
  unfold e_ref03_Leaf at h
  split at h
  · obtain ⟨v0, c0, h⟩ := Option.bind_eq_some_iff.1 h
    obtain ⟨rfl, rfl⟩ := castT_some c0
    obtain ⟨v1, c1, h⟩ := Option.bind_eq_some_iff.1 h
    obtain ⟨rfl, rfl⟩ := castT_some c1
    cases h
    exact ⟨fun r hr => .inl ⟨by kernel_rfl, ok_ref03_Leaf _ _ r hr⟩, fun hb => fun r => noSl_res (by rfl)⟩
  · cases h

/-! ### 16 onceweb/oncewebbase.SameFail -/
def F_base_SameFail : FnD := { n := 26, rs := [4], labels := [(4, [0, 1, 5])] }
def lab_base_SameFail : L_base_SameFail → Nat × DSt
  | .l4 a b i => (4, [(0, .t (.s (.sl 3 tyCrack) a)), (1, .t (.s (.sl 3 tyCrack) b)), (5, .t (.s (.int .i64) i))])
set_option maxRecDepth 100000 in
theorem ok_base_SameFail (a : (List tCrack)) (b : (List tCrack)) (r : Bool) (h : base_SameFail a b = some r) : APure X0 16 ([.s (.sl 3 tyCrack) a, .s (.sl 3 tyCrack) b].map DT.toT) (resT ([.s .bool r].map DT.toT)) := by
  refine APure_of_machine (F := F_base_SameFail) (fuel := 3000) (E := E_ref03_Leaf) Yok E_ref03_Leaf_ok mixed Tryd.func16 rfl rfl rfl (by decide) (args := [.s (.sl 3 tyCrack) a, .s (.sl 3 tyCrack) b]) (Nat.le_of_ble_eq_true rfl) (by kernel_rfl) lab_base_SameFail st_base_SameFail (fun r => [.s .bool r]) ?_ ?_ ?_ h
  · intro l; cases l
    · exact WF_list ⟨trivial, trivial, trivial, trivial⟩
  · intro l goto ret; cases l with
    | l4 a b i =>
      show _ = push (sg_base_SameFail_4 a b i) (fun l' => goto (lab_base_SameFail l').1 (lab_base_SameFail l').2) (fun r => ret [.s .bool r])
      unfold sg_base_SameFail_4
      simp only [push_G, push_ite, push_bind, push_inl, push_inr]
      kernel_rfl
  · intro goto ret
    show _ = push (en_base_SameFail a b) (fun l' => goto (lab_base_SameFail l').1 (lab_base_SameFail l').2) (fun r => ret [.s .bool r])
    unfold en_base_SameFail
    simp only [push_G, push_ite, push_bind, push_inl, push_inr]
    kernel_rfl
noncomputable def e_base_SameFail : List DT → Option CallRes
  | [.s t0 y0, .s t1 y1] => (castT (b := (.sl 3 tyCrack)) y0).bind fun a => (castT (b := (.sl 3 tyCrack)) y1).bind fun b => some ⟨Bool, base_SameFail a b, fun r => .s .bool r, false, true⟩
  | _ => none
noncomputable def E_base_SameFail : Env := Env.add 16 e_base_SameFail E_ref03_Leaf
theorem E_base_SameFail_ok : EnvOk X0 E_base_SameFail := by
  refine EnvOk.add E_ref03_Leaf_ok (fun args c h => ?_)
  unfold e_base_SameFail at h
  split at h
  · obtain ⟨v0, c0, h⟩ := Option.bind_eq_some_iff.1 h
    obtain ⟨rfl, rfl⟩ := castT_some c0
    obtain ⟨v1, c1, h⟩ := Option.bind_eq_some_iff.1 h
    obtain ⟨rfl, rfl⟩ := castT_some c1
    cases h
    exact ⟨fun r hr => .inl ⟨by kernel_rfl, ok_base_SameFail _ _ r hr⟩, fun hb => fun r => noSl_res (by rfl)⟩
  · cases h

/-! ### 3 onceweb/onceweblaw03.FailChecks -/
def F_law03_FailChecks : FnD := { n := 70, rs := [6] }
set_option maxRecDepth 100000 in
theorem ok_law03_FailChecks (f : (List tCrack)) (kind : Int) (text : (List UInt8)) (r : Bool) (h : law03_FailChecks f kind text = some r) : APure X0 3 ([.s (.sl 3 tyCrack) f, .s (.int .i64) kind, .s .str text].map DT.toT) (resT ([.s .bool r].map DT.toT)) := by
  refine APure_of_straight (F := F_law03_FailChecks) (fuel := 3000) (E := E_base_SameFail) Yok E_base_SameFail_ok mixed Tryd.func3 rfl rfl rfl (by decide) (args := [.s (.sl 3 tyCrack) f, .s (.int .i64) kind, .s .str text]) (Nat.le_of_ble_eq_true rfl) (by kernel_rfl) (fun r => [.s .bool r]) ?_ h
  intro goto ret
  unfold law03_FailChecks
  simp only [bnd_G, bnd_ite, bnd_bind, bnd_some]
  kernel_rfl
noncomputable def e_law03_FailChecks : List DT → Option CallRes
  | [.s t0 y0, .s t1 y1, .s t2 y2] => (castT (b := (.sl 3 tyCrack)) y0).bind fun f => (castT (b := (.int .i64)) y1).bind fun kind => (castT (b := .str) y2).bind fun text => some ⟨Bool, law03_FailChecks f kind text, fun r => .s .bool r, false, true⟩
  | _ => none
noncomputable def E_law03_FailChecks : Env := Env.add 3 e_law03_FailChecks E_base_SameFail
theorem E_law03_FailChecks_ok : EnvOk X0 E_law03_FailChecks := by
  refine EnvOk.add E_base_SameFail_ok (fun args c h => ?_)
  unfold e_law03_FailChecks at h
  split at h
  · obtain ⟨v0, c0, h⟩ := Option.bind_eq_some_iff.1 h
    obtain ⟨rfl, rfl⟩ := castT_some c0
    obtain ⟨v1, c1, h⟩ := Option.bind_eq_some_iff.1 h
    obtain ⟨rfl, rfl⟩ := castT_some c1
    obtain ⟨v2, c2, h⟩ := Option.bind_eq_some_iff.1 h
    obtain ⟨rfl, rfl⟩ := castT_some c2
    cases h
    exact ⟨fun r hr => .inl ⟨by kernel_rfl, ok_law03_FailChecks _ _ _ r hr⟩, fun hb => fun r => noSl_res (by rfl)⟩
  · cases h

/-! ### 22 law03_spoil: it writes over what it is lent -/
def c_law03_spoil : List Value := valsT tyCrack (((-7 : Int), (0 : Int), ([] : List UInt8), ()) : tCrack)
theorem info_law03_spoil : ∃ inf, Tryd.prog.info? 60 = some inf ∧ inf.size = c_law03_spoil.length := by
  refine ⟨(Tryd.prog.info? 60).getD default, ?_, by kernel_rfl⟩
  kernel_rfl
set_option maxRecDepth 100000 in
theorem walk_law03_spoil (w : World) (g n cap : Nat) (cur : Array Value) (e : TypeId) (hg : w.heap[g]? = some (.cells cur e (0, 0))) (hcur : cur.size = cap * c_law03_spoil.length) (hn : n ≤ cap) (hcap : cap ≤ maxLen) :
    Calls Tryd.prog 22 #[.slice (some ⟨g, 0, none⟩) n cap] w fun e' w' => e' = .returned (.tuple #[]) ∧ But g w w' ∧ ∃ cur' : Array Value, w'.heap[g]? = some (.cells cur' e (0, 0)) ∧ cur'.toList = rowsOf c_law03_spoil cap := by
  obtain ⟨inf, hinf, hsz⟩ := info_law03_spoil
  have hcm : (cap : Int) ≤ 9223372036854775807 := by unfold maxLen at hcap; omega
  go_enter Tryd.func22, Tryd.ntmps22
  go_wp2
  refine spoil_loop (n := 17) (s0 := 0) (s2 := 2) (c := 10) (g := g) (cap := cap) (cs := c_law03_spoil) (e := e) ?_ ?_ ?_ ⟨rfl, rfl, rfl⟩ hg hcur ?_
  · intro tmps w i Q hs hQ
    refine spoil_head (ts := 23) (te := 60) (ti := 3) (s0 := 0) (s2 := 2) (d1 := 7) (d2 := 8) (d3 := 9) (d4 := 10) rfl rfl rfl rfl rfl rfl rfl rfl rfl rfl rfl rfl (by rw [hs.size]; decide) hs.sl hs.ix (by kernel_rfl) (fun t' h1 h2 h3 => hQ t' ⟨by rw [h1, hs.size], by rw [h3 0 (by decide) (by decide) (by decide) (by decide), hs.sl], by rw [h3 2 (by decide) (by decide) (by decide) (by decide), hs.ix]⟩ h2)
  · intro tmps w i Q cur hs hi hg hcur hQ
    refine spoil_body (ts := 23) (te := 60) (s0 := 0) (s2 := 2) (d1 := 13) (d2 := 14) (d3 := 15) (d4 := 16) rfl rfl rfl rfl rfl rfl rfl rfl rfl rfl rfl rfl rfl rfl rfl (by rw [hs.size]; decide) hs.sl hs.ix hi (by kernel_rfl) hinf hsz (by kernel_rfl) (by decide) (fun ev w => by kernel_rfl) hg hcur (fun t' h1 h2 => hQ t' ⟨by rw [h1, hs.size], by rw [h2 0 (by decide) (by decide) (by decide) (by decide), hs.sl], by rw [h2 2 (by decide) (by decide) (by decide) (by decide), hs.ix]⟩)
  · intro tmps w i Q hs hi hQ
    refine spoil_tail (s2 := 2) (d1 := 11) (d2 := 12) rfl rfl rfl rfl rfl rfl rfl rfl rfl (by rw [hs.size]; decide) hs.ix (by omega) (fun t' h1 h2 h3 => hQ t' ⟨by rw [h1, hs.size], by rw [h3 0 (by decide) (by decide) (by decide), hs.sl], h2⟩)
  · intro tmps' cur' w' h1 h2 h3 h4
    simp only [Exit.inBlock, if_true]
    exact ⟨rfl, .tuple #[], by kernel_rfl, rfl, h1, cur', h2, h3⟩
set_option maxRecDepth 100000 in
theorem nil_law03_spoil (w : World) : Calls Tryd.prog 22 #[.slice none 0 0] w fun e' w' => e' = .returned (.tuple #[]) ∧ w' = w := by
  go_enter Tryd.func22, Tryd.ntmps22
  go_wp2
  refine wp_loop_once ?_
  go_wp2
  exact ⟨rfl, .tuple #[], by kernel_rfl, rfl, rfl⟩
theorem ok_law03_spoil (l : List tCrack) : ACall X0 22 [(DT.own 60 tyCrack l).toT] (.tup []) [(DT.own 60 tyCrack (List.replicate l.length (((-7 : Int), (0 : Int), ([] : List UInt8), ()) : tCrack))).toT] :=
  spoil_call (X := X0) (t := tyCrack) (((-7 : Int), (0 : Int), ([] : List UInt8), ()) : tCrack) rfl rfl nil_law03_spoil (fun w g n cap cur hg hcur hn hcap => walk_law03_spoil w g n cap cur 60 hg hcur hn hcap) l
noncomputable def e_law03_spoil : List DT → Option CallRes
  | [.tup [.own e t l]] => (castT (a := .sl 1 t) (b := .sl 1 tyCrack) l).bind fun l => match Nat.beq e 60 with
    | true => some ⟨List tCrack, some (List.replicate (l : List tCrack).length (((-7 : Int), (0 : Int), ([] : List UInt8), ()) : tCrack)), fun r => .own 60 tyCrack r, [], false⟩
    | false => none
  | _ => none
noncomputable def E_law03_spoil : Env := Env.add 22 e_law03_spoil E_law03_FailChecks
theorem E_law03_spoil_ok : EnvOk X0 E_law03_spoil := by
  refine EnvOk.add E_law03_FailChecks_ok (fun args c h => ?_)
  unfold e_law03_spoil at h
  split at h
  · rename_i e t l
    obtain ⟨l1, c1, h⟩ := Option.bind_eq_some_iff.1 h
    obtain ⟨q0, q1⟩ := castT_some c1
    injection q0 with _ q0
    subst q0
    subst q1
    split at h
    · rename_i h0
      have h0 := Nat.eq_of_beq_eq_true h0
      subst h0
      cases h
      intro r hr l' hl'
      cases hr
      cases hl'
      exact ⟨by kernel_rfl, ok_law03_spoil _, rfl⟩
    · cases h
  · cases h


/-! ### 51 onceweb/fail.bounded -/
def F_fail_bounded_o : FnD := { n := 9, rs := [2] }
set_option maxRecDepth 100000 in
theorem ok_fail_bounded_o (f : (List tCrack)) (r : (List tCrack)) (h : fail_bounded_o f = some r) : APure X0 51 ([.own 60 tyCrack f].map DT.toT) (resT ([.own 60 tyCrack r].map DT.toT)) := by
  refine APure_of_straight (F := F_fail_bounded_o) (fuel := 3000) (E := E_law03_spoil) Yok E_law03_spoil_ok mixed Tryd.func51 rfl rfl rfl (by decide) (args := [.own 60 tyCrack f]) (Nat.le_of_ble_eq_true rfl) (by kernel_rfl) (fun r => [.own 60 tyCrack r]) ?_ h
  intro goto ret
  unfold fail_bounded_o
  simp only [bnd_G, bnd_ite, bnd_bind, bnd_some]
  kernel_rfl
noncomputable def e_fail_bounded_o : List DT → Option CallRes
  | [.own e t y0] => (castT (a := .sl 1 t) (b := .sl 1 tyCrack) y0).bind fun f => match Nat.beq e 60 with
    | true => some ⟨(List tCrack), fail_bounded_o f, fun r => .own 60 tyCrack r, ([] : List tCrack), true⟩
    | false => none
  | _ => none
noncomputable def E_fail_bounded_o : Env := Env.add2 51 e_fail_bounded_o E_law03_spoil
theorem E_fail_bounded_o_ok : EnvOk X0 E_fail_bounded_o := by
  refine EnvOk.add2 E_law03_spoil_ok (fun args c h => ?_)
  unfold e_fail_bounded_o at h
  split at h
  · rename_i e t y0
    obtain ⟨l1, c1, h⟩ := Option.bind_eq_some_iff.1 h
    obtain ⟨q0, q1⟩ := castT_some c1
    injection q0 with _ q0
    subst q0
    subst q1
    split at h
    · rename_i h0
      have h0 := Nat.eq_of_beq_eq_true h0
      subst h0
      cases h
      exact ⟨fun r hr => .inl ⟨by kernel_rfl, ok_fail_bounded_o _ r hr⟩, fun hb => fun r => noSl_res (by rfl)⟩
    · cases h
  · cases h

/-! ### 52 slices_Clone -/
def F_slices_Clone : FnD := { n := 8, rs := [2], labels := [(1, [0])] }
set_option maxRecDepth 100000 in
theorem ok_slices_Clone (s_ : List tCrack) (r : List tCrack) (h : slices_Clone s_ = some r) : APure X0 52 ([.s (.sl 3 tyCrack) s_].map DT.toT) (resT ([.own 60 tyCrack r].map DT.toT)) := by
  obtain ⟨hG, h⟩ := G_some h
  cases h
  refine APure_of_nil (e := 60) (F := F_slices_Clone) (fuel := 3000) (E := E_0) (ty := tyCrack) (l := s_) (id := 1) (s0 := 0) (d1 := 3) (d2 := 4) (st1 := [(0, .t (.s (.sl 3 tyCrack) s_))]) Yok E_0_ok mixed Tryd.func52 rfl rfl rfl (by decide) (args := [.s (.sl 3 tyCrack) s_]) (Nat.le_of_ble_eq_true rfl) (by kernel_rfl) rfl rfl rfl rfl rfl rfl rfl (by kernel_rfl) rfl (by kernel_rfl) (by kernel_rfl) (WF_list ⟨trivial, trivial⟩) (fun goto ret => by kernel_rfl) (fun b hb goto ret hret => ?_)
  cases b with
  | false =>
    refine Eq.trans (b := G ((([] : List tCrack).length + s_.length) * 32 ≤ 140737488355328) (ret [.own 60 tyCrack s_])) (by kernel_rfl) ?_
    rw [G_pos hG, hret]
  | true =>
    obtain rfl := hb rfl
    exact Eq.trans (b := ret [.own 60 tyCrack []]) (by kernel_rfl) hret
noncomputable def e_slices_Clone : List DT → Option CallRes
  | [.s t0 y0] => (castT (b := (.sl 3 tyCrack)) y0).bind fun s_ => some ⟨List tCrack, slices_Clone s_, fun r => .own 60 tyCrack r, [], true⟩
  | _ => none
noncomputable def E_slices_Clone : Env := Env.add 52 e_slices_Clone E_fail_bounded_o
theorem E_slices_Clone_ok : EnvOk X0 E_slices_Clone := by
  refine EnvOk.add E_fail_bounded_o_ok (fun args c h => ?_)
  unfold e_slices_Clone at h
  split at h
  · obtain ⟨v0, c0, h⟩ := Option.bind_eq_some_iff.1 h
    obtain ⟨rfl, rfl⟩ := castT_some c0
    cases h
    exact ⟨fun r hr => .inl ⟨by kernel_rfl, ok_slices_Clone _ r hr⟩, fun hb => fun r => noSl_res (by rfl)⟩
  · cases h


/-! ### 26 onceweb/fail.Wrap -/
def F_fail_Wrap : FnD := { n := 22, rs := [4, 5] }
set_option maxRecDepth 100000 in
theorem ok_fail_Wrap (cell : (List UInt8)) (f : (List tCrack)) (r : ((List tCrack) × Int)) (h : fail_Wrap cell f = some r) : APure X0 26 ([.s .str cell, .s (.sl 3 tyCrack) f].map DT.toT) (resT ([.own 60 tyCrack r.1, .s (.int .i64) r.2].map DT.toT)) := by
  refine APure_of_straight (F := F_fail_Wrap) (fuel := 3000) (E := E_slices_Clone) Yok E_slices_Clone_ok mixed Tryd.func26 rfl rfl rfl (by decide) (args := [.s .str cell, .s (.sl 3 tyCrack) f]) (Nat.le_of_ble_eq_true rfl) (by kernel_rfl) (fun r => [.own 60 tyCrack r.1, .s (.int .i64) r.2]) ?_ h
  intro goto ret
  unfold fail_Wrap
  simp only [bnd_G, bnd_ite, bnd_bind, bnd_some]
  kernel_rfl
noncomputable def e_fail_Wrap : List DT → Option CallRes
  | [.s t0 y0, .s t1 y1] => (castT (b := .str) y0).bind fun cell => (castT (b := (.sl 3 tyCrack)) y1).bind fun f => some ⟨((List tCrack) × Int), fail_Wrap cell f, fun r => .tup [.own 60 tyCrack r.1, .s (.int .i64) r.2], (([] : List tCrack), (0 : Int)), true⟩
  | _ => none
noncomputable def E_fail_Wrap : Env := Env.add 26 e_fail_Wrap E_slices_Clone
theorem E_fail_Wrap_ok : EnvOk X0 E_fail_Wrap := by
  refine EnvOk.add E_slices_Clone_ok (fun args c h => ?_)
  unfold e_fail_Wrap at h
  split at h
  · obtain ⟨v0, c0, h⟩ := Option.bind_eq_some_iff.1 h
    obtain ⟨rfl, rfl⟩ := castT_some c0
    obtain ⟨v1, c1, h⟩ := Option.bind_eq_some_iff.1 h
    obtain ⟨rfl, rfl⟩ := castT_some c1
    cases h
    exact ⟨fun r hr => .inl ⟨by kernel_rfl, ok_fail_Wrap _ _ r hr⟩, fun hb => fun r => noSl_res (by rfl)⟩
  · cases h

/-! ### 54 onceweb/oncewebref03.long -/
def F_ref03_long_o : FnD := { n := 9, rs := [2] }
set_option maxRecDepth 100000 in
theorem ok_ref03_long_o (f : (List tCrack)) (r : (List tCrack)) (h : ref03_long_o f = some r) : APure X0 54 ([.own 60 tyCrack f].map DT.toT) (resT ([.own 60 tyCrack r].map DT.toT)) := by
  refine APure_of_straight (F := F_ref03_long_o) (fuel := 3000) (E := E_fail_Wrap) Yok E_fail_Wrap_ok mixed Tryd.func54 rfl rfl rfl (by decide) (args := [.own 60 tyCrack f]) (Nat.le_of_ble_eq_true rfl) (by kernel_rfl) (fun r => [.own 60 tyCrack r]) ?_ h
  intro goto ret
  unfold ref03_long_o
  simp only [bnd_G, bnd_ite, bnd_bind, bnd_some]
  kernel_rfl
noncomputable def e_ref03_long_o : List DT → Option CallRes
  | [.own e t y0] => (castT (a := .sl 1 t) (b := .sl 1 tyCrack) y0).bind fun f => match Nat.beq e 60 with
    | true => some ⟨(List tCrack), ref03_long_o f, fun r => .own 60 tyCrack r, ([] : List tCrack), true⟩
    | false => none
  | _ => none
noncomputable def E_ref03_long_o : Env := Env.add2 54 e_ref03_long_o E_fail_Wrap
theorem E_ref03_long_o_ok : EnvOk X0 E_ref03_long_o := by
  refine EnvOk.add2 E_fail_Wrap_ok (fun args c h => ?_)
  unfold e_ref03_long_o at h
  split at h
  · rename_i e t y0
    obtain ⟨l1, c1, h⟩ := Option.bind_eq_some_iff.1 h
    obtain ⟨q0, q1⟩ := castT_some c1
    injection q0 with _ q0
    subst q0
    subst q1
    split at h
    · rename_i h0
      have h0 := Nat.eq_of_beq_eq_true h0
      subst h0
      cases h
      exact ⟨fun r hr => .inl ⟨by kernel_rfl, ok_ref03_long_o _ r hr⟩, fun hb => fun r => noSl_res (by rfl)⟩
    · cases h
  · cases h

/-! ### 27 onceweb/oncewebref03.Wrap -/
def F_ref03_Wrap : FnD := { n := 22, rs := [4, 5] }
set_option maxRecDepth 100000 in
theorem ok_ref03_Wrap (cell : (List UInt8)) (f : (List tCrack)) (r : ((List tCrack) × Int)) (h : ref03_Wrap cell f = some r) : APure X0 27 ([.s .str cell, .s (.sl 3 tyCrack) f].map DT.toT) (resT ([.own 60 tyCrack r.1, .s (.int .i64) r.2].map DT.toT)) := by
  refine APure_of_straight (F := F_ref03_Wrap) (fuel := 3000) (E := E_ref03_long_o) Yok E_ref03_long_o_ok mixed Tryd.func27 rfl rfl rfl (by decide) (args := [.s .str cell, .s (.sl 3 tyCrack) f]) (Nat.le_of_ble_eq_true rfl) (by kernel_rfl) (fun r => [.own 60 tyCrack r.1, .s (.int .i64) r.2]) ?_ h
  intro goto ret
  unfold ref03_Wrap
  simp only [bnd_G, bnd_ite, bnd_bind, bnd_some]
  kernel_rfl
noncomputable def e_ref03_Wrap : List DT → Option CallRes
  | [.s t0 y0, .s t1 y1] => (castT (b := .str) y0).bind fun cell => (castT (b := (.sl 3 tyCrack)) y1).bind fun f => some ⟨((List tCrack) × Int), ref03_Wrap cell f, fun r => .tup [.own 60 tyCrack r.1, .s (.int .i64) r.2], (([] : List tCrack), (0 : Int)), true⟩
  | _ => none
noncomputable def E_ref03_Wrap : Env := Env.add 27 e_ref03_Wrap E_ref03_long_o
theorem E_ref03_Wrap_ok : EnvOk X0 E_ref03_Wrap := by
  refine EnvOk.add E_ref03_long_o_ok (fun args c h => ?_)
  unfold e_ref03_Wrap at h
  split at h
  · obtain ⟨v0, c0, h⟩ := Option.bind_eq_some_iff.1 h
    obtain ⟨rfl, rfl⟩ := castT_some c0
    obtain ⟨v1, c1, h⟩ := Option.bind_eq_some_iff.1 h
    obtain ⟨rfl, rfl⟩ := castT_some c1
    cases h
    exact ⟨fun r hr => .inl ⟨by kernel_rfl, ok_ref03_Wrap _ _ r hr⟩, fun hb => fun r => noSl_res (by rfl)⟩
  · cases h

/-! ### 28 onceweb/fail.Token -/
def F_fail_Token : FnD := { n := 28, rs := [4, 5] }
set_option maxRecDepth 100000 in
theorem ok_fail_Token (text : (List UInt8)) (cause : (List tCrack)) (r : ((List tCrack) × Int)) (h : fail_Token text cause = some r) : APure X0 28 ([.s .str text, .s (.sl 3 tyCrack) cause].map DT.toT) (resT ([.own 60 tyCrack r.1, .s (.int .i64) r.2].map DT.toT)) := by
  refine APure_of_straight (F := F_fail_Token) (fuel := 3000) (E := E_ref03_Wrap) Yok E_ref03_Wrap_ok mixed Tryd.func28 rfl rfl rfl (by decide) (args := [.s .str text, .s (.sl 3 tyCrack) cause]) (Nat.le_of_ble_eq_true rfl) (by kernel_rfl) (fun r => [.own 60 tyCrack r.1, .s (.int .i64) r.2]) ?_ h
  intro goto ret
  unfold fail_Token
  simp only [bnd_G, bnd_ite, bnd_bind, bnd_some]
  kernel_rfl
noncomputable def e_fail_Token : List DT → Option CallRes
  | [.s t0 y0, .s t1 y1] => (castT (b := .str) y0).bind fun text => (castT (b := (.sl 3 tyCrack)) y1).bind fun cause => some ⟨((List tCrack) × Int), fail_Token text cause, fun r => .tup [.own 60 tyCrack r.1, .s (.int .i64) r.2], (([] : List tCrack), (0 : Int)), true⟩
  | _ => none
noncomputable def E_fail_Token : Env := Env.add 28 e_fail_Token E_ref03_Wrap
theorem E_fail_Token_ok : EnvOk X0 E_fail_Token := by
  refine EnvOk.add E_ref03_Wrap_ok (fun args c h => ?_)
  unfold e_fail_Token at h
  split at h
  · obtain ⟨v0, c0, h⟩ := Option.bind_eq_some_iff.1 h
    obtain ⟨rfl, rfl⟩ := castT_some c0
    obtain ⟨v1, c1, h⟩ := Option.bind_eq_some_iff.1 h
    obtain ⟨rfl, rfl⟩ := castT_some c1
    cases h
    exact ⟨fun r hr => .inl ⟨by kernel_rfl, ok_fail_Token _ _ r hr⟩, fun hb => fun r => noSl_res (by rfl)⟩
  · cases h

/-! ### 29 onceweb/oncewebref03.Token -/
def F_ref03_Token : FnD := { n := 28, rs := [4, 5] }
set_option maxRecDepth 100000 in
theorem ok_ref03_Token (text : (List UInt8)) (cause : (List tCrack)) (r : ((List tCrack) × Int)) (h : ref03_Token text cause = some r) : APure X0 29 ([.s .str text, .s (.sl 3 tyCrack) cause].map DT.toT) (resT ([.own 60 tyCrack r.1, .s (.int .i64) r.2].map DT.toT)) := by
  refine APure_of_straight (F := F_ref03_Token) (fuel := 3000) (E := E_fail_Token) Yok E_fail_Token_ok mixed Tryd.func29 rfl rfl rfl (by decide) (args := [.s .str text, .s (.sl 3 tyCrack) cause]) (Nat.le_of_ble_eq_true rfl) (by kernel_rfl) (fun r => [.own 60 tyCrack r.1, .s (.int .i64) r.2]) ?_ h
  intro goto ret
  unfold ref03_Token
  simp only [bnd_G, bnd_ite, bnd_bind, bnd_some]
  kernel_rfl
noncomputable def e_ref03_Token : List DT → Option CallRes
  | [.s t0 y0, .s t1 y1] => (castT (b := .str) y0).bind fun text => (castT (b := (.sl 3 tyCrack)) y1).bind fun cause => some ⟨((List tCrack) × Int), ref03_Token text cause, fun r => .tup [.own 60 tyCrack r.1, .s (.int .i64) r.2], (([] : List tCrack), (0 : Int)), true⟩
  | _ => none
noncomputable def E_ref03_Token : Env := Env.add 29 e_ref03_Token E_fail_Token
theorem E_ref03_Token_ok : EnvOk X0 E_ref03_Token := by
  refine EnvOk.add E_fail_Token_ok (fun args c h => ?_)
  unfold e_ref03_Token at h
  split at h
  · obtain ⟨v0, c0, h⟩ := Option.bind_eq_some_iff.1 h
    obtain ⟨rfl, rfl⟩ := castT_some c0
    obtain ⟨v1, c1, h⟩ := Option.bind_eq_some_iff.1 h
    obtain ⟨rfl, rfl⟩ := castT_some c1
    cases h
    exact ⟨fun r hr => .inl ⟨by kernel_rfl, ok_ref03_Token _ _ r hr⟩, fun hb => fun r => noSl_res (by rfl)⟩
  · cases h

/-! ### 30 onceweb/fail.Join -/
def F_fail_Join : FnD := { n := 43, rs := [2, 3], labels := [(6, [4, 5, 12, 13, 14])] }
def lab_fail_Join : L_fail_Join → Nat × DSt
  | .l6 n out x12 x13 x14 => (6, [(4, .t (.s (.int .i64) n)), (5, .t (.own 60 tyCrack out)), (12, .t (.s (.sl 1 (.sl 3 tyCrack)) x12)), (13, .t (.s (.int .i64) x13)), (14, .t (.s (.int .i64) x14))])
set_option maxRecDepth 100000 in
theorem ok_fail_Join (l : (List (List tCrack))) (r : ((List tCrack) × Int)) (h : fail_Join l = some r) : APure X0 30 ([.s (.sl 1 (.sl 3 tyCrack)) l].map DT.toT) (resT ([.own 60 tyCrack r.1, .s (.int .i64) r.2].map DT.toT)) := by
  refine APure_of_machine (F := F_fail_Join) (fuel := 3000) (E := E_ref03_Token) Yok E_ref03_Token_ok mixed Tryd.func30 rfl rfl rfl (by decide) (args := [.s (.sl 1 (.sl 3 tyCrack)) l]) (Nat.le_of_ble_eq_true rfl) (by kernel_rfl) lab_fail_Join st_fail_Join (fun r => [.own 60 tyCrack r.1, .s (.int .i64) r.2]) ?_ ?_ ?_ h
  · intro l; cases l
    · exact WF_list ⟨trivial, trivial, trivial, trivial, trivial, trivial⟩
  · intro l goto ret; cases l with
    | l6 n out x12 x13 x14 =>
      show _ = push (sg_fail_Join_6 n out x12 x13 x14) (fun l' => goto (lab_fail_Join l').1 (lab_fail_Join l').2) (fun r => ret [.own 60 tyCrack r.1, .s (.int .i64) r.2])
      unfold sg_fail_Join_6
      simp only [push_G, push_ite, push_bind, push_inl, push_inr]
      kernel_rfl
  · intro goto ret
    show _ = push (en_fail_Join l) (fun l' => goto (lab_fail_Join l').1 (lab_fail_Join l').2) (fun r => ret [.own 60 tyCrack r.1, .s (.int .i64) r.2])
    unfold en_fail_Join
    simp only [push_G, push_ite, push_bind, push_inl, push_inr]
    kernel_rfl
noncomputable def e_fail_Join : List DT → Option CallRes
  | [.s t0 y0] => (castT (b := (.sl 1 (.sl 3 tyCrack))) y0).bind fun l => some ⟨((List tCrack) × Int), fail_Join l, fun r => .tup [.own 60 tyCrack r.1, .s (.int .i64) r.2], (([] : List tCrack), (0 : Int)), true⟩
  | _ => none
noncomputable def E_fail_Join : Env := Env.add 30 e_fail_Join E_ref03_Token
theorem E_fail_Join_ok : EnvOk X0 E_fail_Join := by
  refine EnvOk.add E_ref03_Token_ok (fun args c h => ?_)
  unfold e_fail_Join at h
  split at h
  · obtain ⟨v0, c0, h⟩ := Option.bind_eq_some_iff.1 h
    obtain ⟨rfl, rfl⟩ := castT_some c0
    cases h
    exact ⟨fun r hr => .inl ⟨by kernel_rfl, ok_fail_Join _ r hr⟩, fun hb => fun r => noSl_res (by rfl)⟩
  · cases h

/-! ### 31 onceweb/oncewebref03.Join -/
def F_ref03_Join : FnD := { n := 51, rs := [2, 3], labels := [(6, [0, 4, 5, 6])] }
def lab_ref03_Join : L_ref03_Join → Nat × DSt
  | .l6 l out n i => (6, [(0, .t (.s (.sl 1 (.sl 3 tyCrack)) l)), (4, .t (.own 60 tyCrack out)), (5, .t (.s (.int .i64) n)), (6, .t (.s (.int .i64) i))])
set_option maxRecDepth 100000 in
theorem ok_ref03_Join (l : (List (List tCrack))) (r : ((List tCrack) × Int)) (h : ref03_Join l = some r) : APure X0 31 ([.s (.sl 1 (.sl 3 tyCrack)) l].map DT.toT) (resT ([.own 60 tyCrack r.1, .s (.int .i64) r.2].map DT.toT)) := by
  refine APure_of_machine (F := F_ref03_Join) (fuel := 3000) (E := E_fail_Join) Yok E_fail_Join_ok mixed Tryd.func31 rfl rfl rfl (by decide) (args := [.s (.sl 1 (.sl 3 tyCrack)) l]) (Nat.le_of_ble_eq_true rfl) (by kernel_rfl) lab_ref03_Join st_ref03_Join (fun r => [.own 60 tyCrack r.1, .s (.int .i64) r.2]) ?_ ?_ ?_ h
  · intro l; cases l
    · exact WF_list ⟨trivial, trivial, trivial, trivial, trivial⟩
  · intro l goto ret; cases l with
    | l6 l out n i =>
      show _ = push (sg_ref03_Join_6 l out n i) (fun l' => goto (lab_ref03_Join l').1 (lab_ref03_Join l').2) (fun r => ret [.own 60 tyCrack r.1, .s (.int .i64) r.2])
      unfold sg_ref03_Join_6
      simp only [push_G, push_ite, push_bind, push_inl, push_inr]
      kernel_rfl
  · intro goto ret
    show _ = push (en_ref03_Join l) (fun l' => goto (lab_ref03_Join l').1 (lab_ref03_Join l').2) (fun r => ret [.own 60 tyCrack r.1, .s (.int .i64) r.2])
    unfold en_ref03_Join
    simp only [push_G, push_ite, push_bind, push_inl, push_inr]
    kernel_rfl
noncomputable def e_ref03_Join : List DT → Option CallRes
  | [.s t0 y0] => (castT (b := (.sl 1 (.sl 3 tyCrack))) y0).bind fun l => some ⟨((List tCrack) × Int), ref03_Join l, fun r => .tup [.own 60 tyCrack r.1, .s (.int .i64) r.2], (([] : List tCrack), (0 : Int)), true⟩
  | _ => none
noncomputable def E_ref03_Join : Env := Env.add 31 e_ref03_Join E_fail_Join
theorem E_ref03_Join_ok : EnvOk X0 E_ref03_Join := by
  refine EnvOk.add E_fail_Join_ok (fun args c h => ?_)
  unfold e_ref03_Join at h
  split at h
  · obtain ⟨v0, c0, h⟩ := Option.bind_eq_some_iff.1 h
    obtain ⟨rfl, rfl⟩ := castT_some c0
    cases h
    exact ⟨fun r hr => .inl ⟨by kernel_rfl, ok_ref03_Join _ r hr⟩, fun hb => fun r => noSl_res (by rfl)⟩
  · cases h

/-! ### 5 onceweb/onceweblaw03.FailWraps -/
def F_law03_FailWraps : FnD := { n := 132, rs := [6], labels := [(3, [0, 1, 2, 7, 8]), (9, [0, 1, 2, 7, 9]), (26, [2, 7, 9, 10, 15])], shares := [(7, [9])] }
def lab_law03_FailWraps : L_law03_FailWraps → Nat × DSt
  | .l3 name text l own i => (3, [(0, .t (.s .str name)), (1, .t (.s .str text)), (2, .t (.s (.sl 1 (.sl 3 tyCrack)) l)), (7, .t (.own 23 (.sl 3 tyCrack) own)), (8, .t (.s (.int .i64) i))])
  | .l9 name text l own one => (9, [(0, .t (.s .str name)), (1, .t (.s .str text)), (2, .t (.s (.sl 1 (.sl 3 tyCrack)) l)), (7, .t (.own 23 (.sl 3 tyCrack) own)), (9, .t (.s (.sl 3 tyCrack) one))])
  | .l26 l own one mine i => (26, [(2, .t (.s (.sl 1 (.sl 3 tyCrack)) l)), (7, .t (.own 23 (.sl 3 tyCrack) own)), (9, .t (.s (.sl 3 tyCrack) one)), (10, .t (.own 60 tyCrack mine)), (15, .t (.s (.int .i64) i))])
set_option maxRecDepth 100000 in
theorem ok_law03_FailWraps (name : (List UInt8)) (text : (List UInt8)) (l : (List (List tCrack))) (r : Bool) (h : law03_FailWraps name text l = some r) : APure X0 5 ([.s .str name, .s .str text, .s (.sl 1 (.sl 3 tyCrack)) l].map DT.toT) (resT ([.s .bool r].map DT.toT)) := by
  refine APure_of_machine (F := F_law03_FailWraps) (fuel := 3000) (E := E_ref03_Join) Yok E_ref03_Join_ok mixed Tryd.func5 rfl rfl rfl (by decide) (args := [.s .str name, .s .str text, .s (.sl 1 (.sl 3 tyCrack)) l]) (Nat.le_of_ble_eq_true rfl) (by kernel_rfl) lab_law03_FailWraps st_law03_FailWraps (fun r => [.s .bool r]) ?_ ?_ ?_ h
  · intro l; cases l
    · exact WF_list ⟨trivial, trivial, trivial, trivial, trivial, trivial⟩
    · exact WF_list ⟨trivial, trivial, trivial, trivial, trivial, trivial⟩
    · exact WF_list ⟨trivial, trivial, trivial, trivial, trivial, trivial⟩
  · intro l goto ret; cases l with
    | l3 name text l own i =>
      show _ = push (sg_law03_FailWraps_3 name text l own i) (fun l' => goto (lab_law03_FailWraps l').1 (lab_law03_FailWraps l').2) (fun r => ret [.s .bool r])
      unfold sg_law03_FailWraps_3
      simp only [push_G, push_ite, push_bind, push_inl, push_inr]
      kernel_rfl
    | l9 name text l own one =>
      show _ = push (sg_law03_FailWraps_9 name text l own one) (fun l' => goto (lab_law03_FailWraps l').1 (lab_law03_FailWraps l').2) (fun r => ret [.s .bool r])
      unfold sg_law03_FailWraps_9
      simp only [push_G, push_ite, push_bind, push_inl, push_inr]
      kernel_rfl
    | l26 l own one mine i =>
      show _ = push (sg_law03_FailWraps_26 l own one mine i) (fun l' => goto (lab_law03_FailWraps l').1 (lab_law03_FailWraps l').2) (fun r => ret [.s .bool r])
      unfold sg_law03_FailWraps_26
      simp only [push_G, push_ite, push_bind, push_inl, push_inr]
      kernel_rfl
  · intro goto ret
    show _ = push (en_law03_FailWraps name text l) (fun l' => goto (lab_law03_FailWraps l').1 (lab_law03_FailWraps l').2) (fun r => ret [.s .bool r])
    unfold en_law03_FailWraps
    simp only [push_G, push_ite, push_bind, push_inl, push_inr]
    kernel_rfl
noncomputable def e_law03_FailWraps : List DT → Option CallRes
  | [.s t0 y0, .s t1 y1, .s t2 y2] => (castT (b := .str) y0).bind fun name => (castT (b := .str) y1).bind fun text => (castT (b := (.sl 1 (.sl 3 tyCrack))) y2).bind fun l => some ⟨Bool, law03_FailWraps name text l, fun r => .s .bool r, false, true⟩
  | _ => none
noncomputable def E_law03_FailWraps : Env := Env.add 5 e_law03_FailWraps E_ref03_Join
theorem E_law03_FailWraps_ok : EnvOk X0 E_law03_FailWraps := by
  refine EnvOk.add E_ref03_Join_ok (fun args c h => ?_)
  unfold e_law03_FailWraps at h
  split at h
  · obtain ⟨v0, c0, h⟩ := Option.bind_eq_some_iff.1 h
    obtain ⟨rfl, rfl⟩ := castT_some c0
    obtain ⟨v1, c1, h⟩ := Option.bind_eq_some_iff.1 h
    obtain ⟨rfl, rfl⟩ := castT_some c1
    obtain ⟨v2, c2, h⟩ := Option.bind_eq_some_iff.1 h
    obtain ⟨rfl, rfl⟩ := castT_some c2
    cases h
    exact ⟨fun r hr => .inl ⟨by kernel_rfl, ok_law03_FailWraps _ _ _ r hr⟩, fun hb => fun r => noSl_res (by rfl)⟩
  · cases h

/-! ### 48 onceweb/fail.parts -/
def F_fail_parts : FnD := { n := 35, rs := [6], labels := [(4, [1, 7, 8, 9])] }
def lab_fail_parts : L_fail_parts → Nat × DSt
  | .l4 from_ out k i => (4, [(1, .t (.s (.sl 1 (.int .i64)) from_)), (7, .t (.own 3 (.int .i64) out)), (8, .t (.s (.int .i64) k)), (9, .t (.s (.int .i64) i))])
set_option maxRecDepth 100000 in
theorem ok_fail_parts (f : (List tCrack)) (from_ : (List Int)) (at_ : Int) (r : (List Int)) (h : fail_parts f from_ at_ = some r) : APure X0 48 ([.s (.sl 3 tyCrack) f, .s (.sl 1 (.int .i64)) from_, .s (.int .i64) at_].map DT.toT) (resT ([.own 3 (.int .i64) r].map DT.toT)) := by
  refine APure_of_machine (F := F_fail_parts) (fuel := 3000) (E := E_law03_FailWraps) Yok E_law03_FailWraps_ok mixed Tryd.func48 rfl rfl rfl (by decide) (args := [.s (.sl 3 tyCrack) f, .s (.sl 1 (.int .i64)) from_, .s (.int .i64) at_]) (Nat.le_of_ble_eq_true rfl) (by kernel_rfl) lab_fail_parts st_fail_parts (fun r => [.own 3 (.int .i64) r]) ?_ ?_ ?_ h
  · intro l; cases l
    · exact WF_list ⟨trivial, trivial, trivial, trivial, trivial⟩
  · intro l goto ret; cases l with
    | l4 from_ out k i =>
      show _ = push (sg_fail_parts_4 from_ out k i) (fun l' => goto (lab_fail_parts l').1 (lab_fail_parts l').2) (fun r => ret [.own 3 (.int .i64) r])
      unfold sg_fail_parts_4
      simp only [push_G, push_ite, push_bind, push_inl, push_inr]
      kernel_rfl
  · intro goto ret
    show _ = push (en_fail_parts f from_ at_) (fun l' => goto (lab_fail_parts l').1 (lab_fail_parts l').2) (fun r => ret [.own 3 (.int .i64) r])
    unfold en_fail_parts
    simp only [push_G, push_ite, push_bind, push_inl, push_inr]
    kernel_rfl
noncomputable def e_fail_parts : List DT → Option CallRes
  | [.s t0 y0, .s t1 y1, .s t2 y2] => (castT (b := (.sl 3 tyCrack)) y0).bind fun f => (castT (b := (.sl 1 (.int .i64))) y1).bind fun from_ => (castT (b := (.int .i64)) y2).bind fun at_ => some ⟨(List Int), fail_parts f from_ at_, fun r => .own 3 (.int .i64) r, ([] : List Int), true⟩
  | _ => none
noncomputable def E_fail_parts : Env := Env.add 48 e_fail_parts E_law03_FailWraps
theorem E_fail_parts_ok : EnvOk X0 E_fail_parts := by
  refine EnvOk.add E_law03_FailWraps_ok (fun args c h => ?_)
  unfold e_fail_parts at h
  split at h
  · obtain ⟨v0, c0, h⟩ := Option.bind_eq_some_iff.1 h
    obtain ⟨rfl, rfl⟩ := castT_some c0
    obtain ⟨v1, c1, h⟩ := Option.bind_eq_some_iff.1 h
    obtain ⟨rfl, rfl⟩ := castT_some c1
    obtain ⟨v2, c2, h⟩ := Option.bind_eq_some_iff.1 h
    obtain ⟨rfl, rfl⟩ := castT_some c2
    cases h
    exact ⟨fun r hr => .inl ⟨by kernel_rfl, ok_fail_parts _ _ _ r hr⟩, fun hb => fun r => noSl_res (by rfl)⟩
  · cases h

/-! ### 17 onceweb/fail.Parts -/
def F_fail_Parts : FnD := { n := 31, rs := [4, 5] }
set_option maxRecDepth 100000 in
theorem ok_fail_Parts (f : (List tCrack)) (at_ : Int) (r : ((List Int) × Int)) (h : fail_Parts f at_ = some r) : APure X0 17 ([.s (.sl 3 tyCrack) f, .s (.int .i64) at_].map DT.toT) (resT ([.own 3 (.int .i64) r.1, .s (.int .i64) r.2].map DT.toT)) := by
  refine APure_of_straight (F := F_fail_Parts) (fuel := 3000) (E := E_fail_parts) Yok E_fail_parts_ok mixed Tryd.func17 rfl rfl rfl (by decide) (args := [.s (.sl 3 tyCrack) f, .s (.int .i64) at_]) (Nat.le_of_ble_eq_true rfl) (by kernel_rfl) (fun r => [.own 3 (.int .i64) r.1, .s (.int .i64) r.2]) ?_ h
  intro goto ret
  unfold fail_Parts
  simp only [bnd_G, bnd_ite, bnd_bind, bnd_some]
  kernel_rfl
noncomputable def e_fail_Parts : List DT → Option CallRes
  | [.s t0 y0, .s t1 y1] => (castT (b := (.sl 3 tyCrack)) y0).bind fun f => (castT (b := (.int .i64)) y1).bind fun at_ => some ⟨((List Int) × Int), fail_Parts f at_, fun r => .tup [.own 3 (.int .i64) r.1, .s (.int .i64) r.2], (([] : List Int), (0 : Int)), true⟩
  | _ => none
noncomputable def E_fail_Parts : Env := Env.add 17 e_fail_Parts E_fail_parts
theorem E_fail_Parts_ok : EnvOk X0 E_fail_Parts := by
  refine EnvOk.add E_fail_parts_ok (fun args c h => ?_)
  unfold e_fail_Parts at h
  split at h
  · obtain ⟨v0, c0, h⟩ := Option.bind_eq_some_iff.1 h
    obtain ⟨rfl, rfl⟩ := castT_some c0
    obtain ⟨v1, c1, h⟩ := Option.bind_eq_some_iff.1 h
    obtain ⟨rfl, rfl⟩ := castT_some c1
    cases h
    exact ⟨fun r hr => .inl ⟨by kernel_rfl, ok_fail_Parts _ _ r hr⟩, fun hb => fun r => noSl_res (by rfl)⟩
  · cases h

end Go.Eng
