/- A part of the proof: La1. -/
import Derived.Test.YtnkkbcofijcpbaaDoorLad
import Derived.Test.YtnkkbcofijcpbaaDoorD4
import Derived.Test.YtnkkbcofijcpbaaDoorRows
import Derived.Test.YtnkkbcofijcpbaaDoorShe
import Derived.Test.YtnkkbcofijcpbaaDoorShf
import Derived.Test.YtnkkbcofijcpbaaDoorDvV
namespace Go.Eng
open Go.Proofs Go.RowKit
set_option linter.unusedVariables false
set_option linter.unusedSimpArgs false
set_option maxRecDepth 8000
def globs : List (Nat × Glob) := [(0, .arr .str gl_onceweb_fail_words), (1, .arr (.int .i64) gl_onceweb_fail_sorts), (2, .arr .str gl_onceweb_fail_values), (3, .arr .str gl_onceweb_lex_keys)]
noncomputable def X0 : Ctx := mkCtx Tryd.prog 4 globs (by kernel_rfl)
theorem mixed : X0.P.follows .mixedOrders = true := by kernel_rfl
def Y0 : DX := { tab := [(3, { ty := (.int .i64) }), (4, { ty := .bool }), (5, { ty := .u8 }), (9, { ty := .str }), (23, { ty := (.sl 3 tyCrack), sl := some (60, tyCrack, 32) }), (33, { ty := (.sl 1 (.int .i64)), sl := some (3, (.int .i64), 8) }), (41, { ty := (.sl 1 .str), sl := some (9, .str, 16) }), (60, { ty := tyCrack, fs := [(.int .i64), (.int .i64), .str], eq := true }), (74, { ty := arrTy .str 12, ar := some (12, .str) }), (79, { ty := tyreader, fs := [.str, (.int .i64), (.sl 3 tyCrack), (.int .i64)] }), (83, { ty := .opq, ar := some (12, (.int .i64)) }), (85, { ty := .opq, ar := some (10, .str) }), (89, { ty := (.sl 1 .u8), sl := some (5, .u8, 1) }), (103, { ty := tystuck, fs := [], emp := true, con := true }), (111, { ty := .opq, ar := some (19, .str) })], gl := globs }
theorem td_3 : TDOk Tryd.prog 3 { ty := (.int .i64) } where
  row := .inr (by kernel_rfl)
  und := .inr (by kernel_rfl)
  sli := .inl rfl
  slt := by kernel_rfl
  bye := .inl rfl
  fld := .inl rfl
  lay := .inl rfl
  rowT := .inl rfl
  arr := .inl rfl
  arv := .inl rfl
  fsz := by kernel_rfl
  eqv := .inl rfl
  zer := .inr (by kernel_rfl)
  fnv := .inl rfl
  emp := .inl rfl
  mki := .inl rfl
theorem td_4 : TDOk Tryd.prog 4 { ty := .bool } where
  row := .inr (by kernel_rfl)
  und := .inr (by kernel_rfl)
  sli := .inl rfl
  slt := by kernel_rfl
  bye := .inl rfl
  fld := .inl rfl
  lay := .inl rfl
  rowT := .inl rfl
  arr := .inl rfl
  arv := .inl rfl
  fsz := by kernel_rfl
  eqv := .inl rfl
  zer := .inr (by kernel_rfl)
  fnv := .inl rfl
  emp := .inl rfl
  mki := .inl rfl
theorem td_5 : TDOk Tryd.prog 5 { ty := .u8 } where
  row := .inr (by kernel_rfl)
  und := .inr (by kernel_rfl)
  sli := .inl rfl
  slt := by kernel_rfl
  bye := .inl rfl
  fld := .inl rfl
  lay := .inl rfl
  rowT := .inl rfl
  arr := .inl rfl
  arv := .inl rfl
  fsz := by kernel_rfl
  eqv := .inl rfl
  zer := .inr (by kernel_rfl)
  fnv := .inl rfl
  emp := .inl rfl
  mki := .inl rfl
theorem td_9 : TDOk Tryd.prog 9 { ty := .str } where
  row := .inr (by kernel_rfl)
  und := .inr (by kernel_rfl)
  sli := .inl rfl
  slt := by kernel_rfl
  bye := .inl rfl
  fld := .inl rfl
  lay := .inl rfl
  rowT := .inl rfl
  arr := .inl rfl
  arv := .inl rfl
  fsz := by kernel_rfl
  eqv := .inl rfl
  zer := .inr (by kernel_rfl)
  fnv := .inl rfl
  emp := .inl rfl
  mki := .inl rfl
theorem td_23 : TDOk Tryd.prog 23 { ty := (.sl 3 tyCrack), sl := some (60, tyCrack, 32) } where
  row := .inr (by kernel_rfl)
  und := .inl rfl
  sli := .inr (by kernel_rfl)
  slt := by kernel_rfl
  bye := .inl rfl
  fld := .inl rfl
  lay := .inl rfl
  rowT := .inl rfl
  arr := .inl rfl
  arv := .inl rfl
  fsz := by kernel_rfl
  eqv := .inl rfl
  zer := .inr (by kernel_rfl)
  fnv := .inl rfl
  emp := .inl rfl
  mki := .inl rfl
theorem td_33 : TDOk Tryd.prog 33 { ty := (.sl 1 (.int .i64)), sl := some (3, (.int .i64), 8) } where
  row := .inr (by kernel_rfl)
  und := .inl rfl
  sli := .inr (by kernel_rfl)
  slt := by kernel_rfl
  bye := .inl rfl
  fld := .inl rfl
  lay := .inl rfl
  rowT := .inl rfl
  arr := .inl rfl
  arv := .inl rfl
  fsz := by kernel_rfl
  eqv := .inl rfl
  zer := .inr (by kernel_rfl)
  fnv := .inl rfl
  emp := .inl rfl
  mki := .inl rfl
theorem td_41 : TDOk Tryd.prog 41 { ty := (.sl 1 .str), sl := some (9, .str, 16) } where
  row := .inr (by kernel_rfl)
  und := .inl rfl
  sli := .inr (by kernel_rfl)
  slt := by kernel_rfl
  bye := .inl rfl
  fld := .inl rfl
  lay := .inl rfl
  rowT := .inl rfl
  arr := .inl rfl
  arv := .inl rfl
  fsz := by kernel_rfl
  eqv := .inl rfl
  zer := .inr (by kernel_rfl)
  fnv := .inl rfl
  emp := .inl rfl
  mki := .inl rfl
theorem td_60 : TDOk Tryd.prog 60 { ty := tyCrack, fs := [(.int .i64), (.int .i64), .str], eq := true } where
  row := .inr (by kernel_rfl)
  und := .inl rfl
  sli := .inl rfl
  slt := by kernel_rfl
  bye := .inl rfl
  fld := .inr (by kernel_rfl)
  lay := .inr (by kernel_rfl)
  rowT := .inr rfl
  arr := .inl rfl
  arv := .inl rfl
  fsz := by kernel_rfl
  eqv := .inr (by kernel_rfl)
  zer := .inr (by kernel_rfl)
  fnv := .inl rfl
  emp := .inl rfl
  mki := .inl rfl
theorem td_74 : TDOk Tryd.prog 74 { ty := arrTy .str 12, ar := some (12, .str) } where
  row := .inr (by kernel_rfl)
  und := .inl rfl
  sli := .inl rfl
  slt := by kernel_rfl
  bye := .inl rfl
  fld := .inl rfl
  lay := .inl rfl
  rowT := .inl rfl
  arr := .inr (by kernel_rfl)
  arv := .inr (.inr (by kernel_rfl))
  fsz := by kernel_rfl
  eqv := .inl rfl
  zer := .inr (by kernel_rfl)
  fnv := .inl rfl
  emp := .inl rfl
  mki := .inl rfl
theorem td_79 : TDOk Tryd.prog 79 { ty := tyreader, fs := [.str, (.int .i64), (.sl 3 tyCrack), (.int .i64)] } where
  row := .inr (by kernel_rfl)
  und := .inl rfl
  sli := .inl rfl
  slt := by kernel_rfl
  bye := .inl rfl
  fld := .inr (by kernel_rfl)
  lay := .inr (by kernel_rfl)
  rowT := .inr rfl
  arr := .inl rfl
  arv := .inl rfl
  fsz := by kernel_rfl
  eqv := .inl rfl
  zer := .inr (by kernel_rfl)
  fnv := .inl rfl
  emp := .inl rfl
  mki := .inl rfl
theorem td_83 : TDOk Tryd.prog 83 { ty := .opq, ar := some (12, (.int .i64)) } where
  row := .inl rfl
  und := .inl rfl
  sli := .inl rfl
  slt := by kernel_rfl
  bye := .inl rfl
  fld := .inl rfl
  lay := .inl rfl
  rowT := .inl rfl
  arr := .inr (by kernel_rfl)
  arv := .inr (.inl rfl)
  fsz := by kernel_rfl
  eqv := .inl rfl
  zer := .inl rfl
  fnv := .inl rfl
  emp := .inl rfl
  mki := .inl rfl
theorem td_85 : TDOk Tryd.prog 85 { ty := .opq, ar := some (10, .str) } where
  row := .inl rfl
  und := .inl rfl
  sli := .inl rfl
  slt := by kernel_rfl
  bye := .inl rfl
  fld := .inl rfl
  lay := .inl rfl
  rowT := .inl rfl
  arr := .inr (by kernel_rfl)
  arv := .inr (.inl rfl)
  fsz := by kernel_rfl
  eqv := .inl rfl
  zer := .inl rfl
  fnv := .inl rfl
  emp := .inl rfl
  mki := .inl rfl
theorem td_89 : TDOk Tryd.prog 89 { ty := (.sl 1 .u8), sl := some (5, .u8, 1) } where
  row := .inr (by kernel_rfl)
  und := .inl rfl
  sli := .inr (by kernel_rfl)
  slt := by kernel_rfl
  bye := .inr (by kernel_rfl)
  fld := .inl rfl
  lay := .inl rfl
  rowT := .inl rfl
  arr := .inl rfl
  arv := .inl rfl
  fsz := by kernel_rfl
  eqv := .inl rfl
  zer := .inr (by kernel_rfl)
  fnv := .inl rfl
  emp := .inl rfl
  mki := .inl rfl
theorem td_103 : TDOk Tryd.prog 103 { ty := tystuck, fs := [], emp := true, con := true } where
  row := .inr (by kernel_rfl)
  und := .inl rfl
  sli := .inl rfl
  slt := by kernel_rfl
  bye := .inl rfl
  fld := .inl rfl
  lay := .inl rfl
  rowT := .inl rfl
  arr := .inl rfl
  arv := .inl rfl
  fsz := by kernel_rfl
  eqv := .inl rfl
  zer := .inr (by kernel_rfl)
  fnv := .inl rfl
  emp := .inr (by kernel_rfl)
  mki := .inr (by kernel_rfl)
theorem td_111 : TDOk Tryd.prog 111 { ty := .opq, ar := some (19, .str) } where
  row := .inl rfl
  und := .inl rfl
  sli := .inl rfl
  slt := by kernel_rfl
  bye := .inl rfl
  fld := .inl rfl
  lay := .inl rfl
  rowT := .inl rfl
  arr := .inr (by kernel_rfl)
  arv := .inr (.inl rfl)
  fsz := by kernel_rfl
  eqv := .inl rfl
  zer := .inl rfl
  fnv := .inl rfl
  emp := .inl rfl
  mki := .inl rfl
theorem Yok : DXOk Y0 X0 where
  tab := List.forall_mem_cons.2 ⟨td_3, List.forall_mem_cons.2 ⟨td_4, List.forall_mem_cons.2 ⟨td_5, List.forall_mem_cons.2 ⟨td_9, List.forall_mem_cons.2 ⟨td_23, List.forall_mem_cons.2 ⟨td_33, List.forall_mem_cons.2 ⟨td_41, List.forall_mem_cons.2 ⟨td_60, List.forall_mem_cons.2 ⟨td_74, List.forall_mem_cons.2 ⟨td_79, List.forall_mem_cons.2 ⟨td_83, List.forall_mem_cons.2 ⟨td_85, List.forall_mem_cons.2 ⟨td_89, List.forall_mem_cons.2 ⟨td_103, List.forall_mem_cons.2 ⟨td_111, (fun _ h => by cases h)⟩⟩⟩⟩⟩⟩⟩⟩⟩⟩⟩⟩⟩⟩⟩
  gl := fun _ => rfl
def F_base_SameFail : FnD := { n := 26, rs := [4], labels := [(4, [0, 1, 5])] }
def lab_base_SameFail : L_base_SameFail → Nat × DSt
  | .l4 a b i => (4, [(0, .t (.s (.sl 3 tyCrack) a)), (1, .t (.s (.sl 3 tyCrack) b)), (5, .t (.s (.int .i64) i))])
set_option maxRecDepth 100000 in
theorem ok_base_SameFail (a : (List tCrack)) (b : (List tCrack)) (r : Bool) (h : base_SameFail a b = some r) : APure X0 18 ([.s (.sl 3 tyCrack) a, .s (.sl 3 tyCrack) b].map DT.toT) (resT ([.s .bool r].map DT.toT)) := by
  refine APure_of_machine (F := F_base_SameFail) (fuel := 3000) (E := E_0) Yok E_0_ok mixed Tryd.func18 rfl rfl rfl (by decide) (args := [.s (.sl 3 tyCrack) a, .s (.sl 3 tyCrack) b]) (Nat.le_of_ble_eq_true rfl) (by kernel_rfl) lab_base_SameFail st_base_SameFail (fun r => [.s .bool r]) ?_ ?_ ?_ h
  · intro l; cases l
    · exact WF_list ⟨trivial, trivial, trivial, trivial⟩
  · intro l goto ret; cases l with
    | l4 a b i =>
      show _ = push (sg_base_SameFail_4 a b i) (fun l' => goto (lab_base_SameFail l').1 (lab_base_SameFail l').2) (fun r => ret [.s .bool r])
      unfold sg_base_SameFail_4
      simp only [push_G, push_ite, push_bind, push_inl, push_inr, -eq_self]
      kernel_rfl
  · intro goto ret
    show _ = push (en_base_SameFail a b) (fun l' => goto (lab_base_SameFail l').1 (lab_base_SameFail l').2) (fun r => ret [.s .bool r])
    unfold en_base_SameFail
    simp only [push_G, push_ite, push_bind, push_inl, push_inr, -eq_self]
    kernel_rfl
noncomputable def e_base_SameFail : List DT → Option CallRes
  | [.s t0 y0, .s t1 y1] => (castT (b := (.sl 3 tyCrack)) y0).bind fun a => (castT (b := (.sl 3 tyCrack)) y1).bind fun b => some ⟨Bool, base_SameFail a b, fun r => .s .bool r, false, true⟩
  | _ => none
noncomputable def E_base_SameFail : Env := Env.add 18 e_base_SameFail E_0
theorem E_base_SameFail_ok : EnvOk X0 E_base_SameFail := by
  refine EnvOk.add E_0_ok (fun args c h => ?_)
  unfold e_base_SameFail at h
  split at h
  · obtain ⟨v0, c0, h⟩ := Option.bind_eq_some_iff.1 h
    obtain ⟨rfl, rfl⟩ := castT_some c0
    obtain ⟨v1, c1, h⟩ := Option.bind_eq_some_iff.1 h
    obtain ⟨rfl, rfl⟩ := castT_some c1
    cases h
    exact ⟨fun r hr => .inl ⟨by kernel_rfl, ok_base_SameFail _ _ r hr⟩, fun hb => fun r => noSl_res (by rfl)⟩
  · cases h
def F_fail_sort : FnD := { n := 12, rs := [2] }
set_option maxRecDepth 100000 in
theorem ok_fail_sort (kind : Int) (r : Int) (h : fail_sort kind = some r) : APure X0 46 ([.s (.int .i64) kind].map DT.toT) (resT ([.s (.int .i64) r].map DT.toT)) := by
  refine APure_of_straight (F := F_fail_sort) (fuel := 3000) (E := E_base_SameFail) Yok E_base_SameFail_ok mixed Tryd.func46 rfl rfl rfl (by decide) (args := [.s (.int .i64) kind]) (Nat.le_of_ble_eq_true rfl) (by kernel_rfl) (fun r => [.s (.int .i64) r]) ?_ h
  intro goto ret
  unfold fail_sort
  simp only [bnd_G, bnd_ite, bnd_bind, bnd_some, -eq_self]
  kernel_rfl
noncomputable def e_fail_sort : List DT → Option CallRes
  | [.s t0 y0] => (castT (b := (.int .i64)) y0).bind fun kind => some ⟨Int, fail_sort kind, fun r => .s (.int .i64) r, (0 : Int), true⟩
  | _ => none
noncomputable def E_fail_sort : Env := Env.add 46 e_fail_sort E_base_SameFail
theorem E_fail_sort_ok : EnvOk X0 E_fail_sort := by
  refine EnvOk.add E_base_SameFail_ok (fun args c h => ?_)
  unfold e_fail_sort at h
  split at h
  · obtain ⟨v0, c0, h⟩ := Option.bind_eq_some_iff.1 h
    obtain ⟨rfl, rfl⟩ := castT_some c0
    cases h
    exact ⟨fun r hr => .inl ⟨by kernel_rfl, ok_fail_sort _ r hr⟩, fun hb => fun r => noSl_res (by rfl)⟩
  · cases h
def F_lex_letter : FnD := { n := 9, rs := [2] }
set_option maxRecDepth 100000 in
theorem ok_lex_letter (c : UInt8) (r : Bool) (h : lex_letter c = some r) : APure X0 92 ([.s .u8 c].map DT.toT) (resT ([.s .bool r].map DT.toT)) := by
  refine APure_of_straight (F := F_lex_letter) (fuel := 3000) (E := E_fail_sort) Yok E_fail_sort_ok mixed Tryd.func92 rfl rfl rfl (by decide) (args := [.s .u8 c]) (Nat.le_of_ble_eq_true rfl) (by kernel_rfl) (fun r => [.s .bool r]) ?_ h
  intro goto ret
  unfold lex_letter
  simp only [bnd_G, bnd_ite, bnd_bind, bnd_some, -eq_self]
  kernel_rfl
noncomputable def e_lex_letter : List DT → Option CallRes
  | [.s t0 y0] => (castT (b := .u8) y0).bind fun c => some ⟨Bool, lex_letter c, fun r => .s .bool r, false, true⟩
  | _ => none
noncomputable def E_lex_letter : Env := Env.add 92 e_lex_letter E_fail_sort
theorem E_lex_letter_ok : EnvOk X0 E_lex_letter := by
  refine EnvOk.add E_fail_sort_ok (fun args c h => ?_)
  unfold e_lex_letter at h
  split at h
  · obtain ⟨v0, c0, h⟩ := Option.bind_eq_some_iff.1 h
    obtain ⟨rfl, rfl⟩ := castT_some c0
    cases h
    exact ⟨fun r hr => .inl ⟨by kernel_rfl, ok_lex_letter _ r hr⟩, fun hb => fun r => noSl_res (by rfl)⟩
  · cases h
def F_lex_digit : FnD := { n := 9, rs := [2] }
set_option maxRecDepth 100000 in
theorem ok_lex_digit (c : UInt8) (r : Bool) (h : lex_digit c = some r) : APure X0 93 ([.s .u8 c].map DT.toT) (resT ([.s .bool r].map DT.toT)) := by
  refine APure_of_straight (F := F_lex_digit) (fuel := 3000) (E := E_lex_letter) Yok E_lex_letter_ok mixed Tryd.func93 rfl rfl rfl (by decide) (args := [.s .u8 c]) (Nat.le_of_ble_eq_true rfl) (by kernel_rfl) (fun r => [.s .bool r]) ?_ h
  intro goto ret
  unfold lex_digit
  simp only [bnd_G, bnd_ite, bnd_bind, bnd_some, -eq_self]
  kernel_rfl
noncomputable def e_lex_digit : List DT → Option CallRes
  | [.s t0 y0] => (castT (b := .u8) y0).bind fun c => some ⟨Bool, lex_digit c, fun r => .s .bool r, false, true⟩
  | _ => none
noncomputable def E_lex_digit : Env := Env.add 93 e_lex_digit E_lex_letter
theorem E_lex_digit_ok : EnvOk X0 E_lex_digit := by
  refine EnvOk.add E_lex_letter_ok (fun args c h => ?_)
  unfold e_lex_digit at h
  split at h
  · obtain ⟨v0, c0, h⟩ := Option.bind_eq_some_iff.1 h
    obtain ⟨rfl, rfl⟩ := castT_some c0
    cases h
    exact ⟨fun r hr => .inl ⟨by kernel_rfl, ok_lex_digit _ r hr⟩, fun hb => fun r => noSl_res (by rfl)⟩
  · cases h
def F_lex_word : FnD := { n := 42, rs := [4], labels := [(3, [0, 1])] }
def lab_lex_word : L_lex_word → Nat × DSt
  | .l3 s_ at_ => (3, [(0, .t (.s .str s_)), (1, .t (.s (.int .i64) at_))])
set_option maxRecDepth 100000 in
theorem ok_lex_word (s_ : (List UInt8)) (at_ : Int) (r : Int) (h : lex_word s_ at_ = some r) : APure X0 74 ([.s .str s_, .s (.int .i64) at_].map DT.toT) (resT ([.s (.int .i64) r].map DT.toT)) := by
  refine APure_of_machine (F := F_lex_word) (fuel := 3000) (E := E_lex_digit) Yok E_lex_digit_ok mixed Tryd.func74 rfl rfl rfl (by decide) (args := [.s .str s_, .s (.int .i64) at_]) (Nat.le_of_ble_eq_true rfl) (by kernel_rfl) lab_lex_word st_lex_word (fun r => [.s (.int .i64) r]) ?_ ?_ ?_ h
  · intro l; cases l
    · exact WF_list ⟨trivial, trivial, trivial⟩
  · intro l goto ret; cases l with
    | l3 s_ at_ =>
      show _ = push (sg_lex_word_3 s_ at_) (fun l' => goto (lab_lex_word l').1 (lab_lex_word l').2) (fun r => ret [.s (.int .i64) r])
      unfold sg_lex_word_3
      simp only [push_G, push_ite, push_bind, push_inl, push_inr, -eq_self]
      kernel_rfl
  · intro goto ret
    show _ = push (en_lex_word s_ at_) (fun l' => goto (lab_lex_word l').1 (lab_lex_word l').2) (fun r => ret [.s (.int .i64) r])
    unfold en_lex_word
    simp only [push_G, push_ite, push_bind, push_inl, push_inr, -eq_self]
    kernel_rfl
noncomputable def e_lex_word : List DT → Option CallRes
  | [.s t0 y0, .s t1 y1] => (castT (b := .str) y0).bind fun s_ => (castT (b := (.int .i64)) y1).bind fun at_ => some ⟨Int, lex_word s_ at_, fun r => .s (.int .i64) r, (0 : Int), true⟩
  | _ => none
noncomputable def E_lex_word : Env := Env.add 74 e_lex_word E_lex_digit
theorem E_lex_word_ok : EnvOk X0 E_lex_word := by
  refine EnvOk.add E_lex_digit_ok (fun args c h => ?_)
  unfold e_lex_word at h
  split at h
  · obtain ⟨v0, c0, h⟩ := Option.bind_eq_some_iff.1 h
    obtain ⟨rfl, rfl⟩ := castT_some c0
    obtain ⟨v1, c1, h⟩ := Option.bind_eq_some_iff.1 h
    obtain ⟨rfl, rfl⟩ := castT_some c1
    cases h
    exact ⟨fun r hr => .inl ⟨by kernel_rfl, ok_lex_word _ _ r hr⟩, fun hb => fun r => noSl_res (by rfl)⟩
  · cases h
def F_slices_Index : FnD := { n := 19, rs := [4], labels := [(2, [0, 1, 7, 8])] }
def lab_slices_Index : L_slices_Index → Nat × DSt
  | .l2 s_ v x7 x8 => (2, [(0, .t (.s (.sl 1 .str) s_)), (1, .t (.s .str v)), (7, .t (.s (.int .i64) x7)), (8, .t (.s (.int .i64) x8))])
set_option maxRecDepth 100000 in
theorem ok_slices_Index (s_ : (List (List UInt8))) (v : (List UInt8)) (r : Int) (h : slices_Index s_ v = some r) : APure X0 91 ([.s (.sl 1 .str) s_, .s .str v].map DT.toT) (resT ([.s (.int .i64) r].map DT.toT)) := by
  refine APure_of_machine (F := F_slices_Index) (fuel := 3000) (E := E_lex_word) Yok E_lex_word_ok mixed Tryd.func91 rfl rfl rfl (by decide) (args := [.s (.sl 1 .str) s_, .s .str v]) (Nat.le_of_ble_eq_true rfl) (by kernel_rfl) lab_slices_Index st_slices_Index (fun r => [.s (.int .i64) r]) ?_ ?_ ?_ h
  · intro l; cases l
    · exact WF_list ⟨trivial, trivial, trivial, trivial, trivial⟩
  · intro l goto ret; cases l with
    | l2 s_ v x7 x8 =>
      show _ = push (sg_slices_Index_2 s_ v x7 x8) (fun l' => goto (lab_slices_Index l').1 (lab_slices_Index l').2) (fun r => ret [.s (.int .i64) r])
      unfold sg_slices_Index_2
      simp only [push_G, push_ite, push_bind, push_inl, push_inr, -eq_self]
      kernel_rfl
  · intro goto ret
    show _ = push (en_slices_Index s_ v) (fun l' => goto (lab_slices_Index l').1 (lab_slices_Index l').2) (fun r => ret [.s (.int .i64) r])
    unfold en_slices_Index
    simp only [push_G, push_ite, push_bind, push_inl, push_inr, -eq_self]
    kernel_rfl
noncomputable def e_slices_Index : List DT → Option CallRes
  | [.s t0 y0, .s t1 y1] => (castT (b := (.sl 1 .str)) y0).bind fun s_ => (castT (b := .str) y1).bind fun v => some ⟨Int, slices_Index s_ v, fun r => .s (.int .i64) r, (0 : Int), true⟩
  | _ => none
noncomputable def E_slices_Index : Env := Env.add 91 e_slices_Index E_lex_word
theorem E_slices_Index_ok : EnvOk X0 E_slices_Index := by
  refine EnvOk.add E_lex_word_ok (fun args c h => ?_)
  unfold e_slices_Index at h
  split at h
  · obtain ⟨v0, c0, h⟩ := Option.bind_eq_some_iff.1 h
    obtain ⟨rfl, rfl⟩ := castT_some c0
    obtain ⟨v1, c1, h⟩ := Option.bind_eq_some_iff.1 h
    obtain ⟨rfl, rfl⟩ := castT_some c1
    cases h
    exact ⟨fun r hr => .inl ⟨by kernel_rfl, ok_slices_Index _ _ r hr⟩, fun hb => fun r => noSl_res (by rfl)⟩
  · cases h
def F_slices_Contains : FnD := { n := 9, rs := [4] }
set_option maxRecDepth 100000 in
theorem ok_slices_Contains (s_ : (List (List UInt8))) (v : (List UInt8)) (r : Bool) (h : slices_Contains s_ v = some r) : APure X0 70 ([.s (.sl 1 .str) s_, .s .str v].map DT.toT) (resT ([.s .bool r].map DT.toT)) := by
  refine APure_of_straight (F := F_slices_Contains) (fuel := 3000) (E := E_slices_Index) Yok E_slices_Index_ok mixed Tryd.func70 rfl rfl rfl (by decide) (args := [.s (.sl 1 .str) s_, .s .str v]) (Nat.le_of_ble_eq_true rfl) (by kernel_rfl) (fun r => [.s .bool r]) ?_ h
  intro goto ret
  unfold slices_Contains
  simp only [bnd_G, bnd_ite, bnd_bind, bnd_some, -eq_self]
  kernel_rfl
noncomputable def e_slices_Contains : List DT → Option CallRes
  | [.s t0 y0, .s t1 y1] => (castT (b := (.sl 1 .str)) y0).bind fun s_ => (castT (b := .str) y1).bind fun v => some ⟨Bool, slices_Contains s_ v, fun r => .s .bool r, false, true⟩
  | _ => none
noncomputable def E_slices_Contains : Env := Env.add 70 e_slices_Contains E_slices_Index
theorem E_slices_Contains_ok : EnvOk X0 E_slices_Contains := by
  refine EnvOk.add E_slices_Index_ok (fun args c h => ?_)
  unfold e_slices_Contains at h
  split at h
  · obtain ⟨v0, c0, h⟩ := Option.bind_eq_some_iff.1 h
    obtain ⟨rfl, rfl⟩ := castT_some c0
    obtain ⟨v1, c1, h⟩ := Option.bind_eq_some_iff.1 h
    obtain ⟨rfl, rfl⟩ := castT_some c1
    cases h
    exact ⟨fun r hr => .inl ⟨by kernel_rfl, ok_slices_Contains _ _ r hr⟩, fun hb => fun r => noSl_res (by rfl)⟩
  · cases h
def F_lex_IsKey : FnD := { n := 6, rs := [2] }
set_option maxRecDepth 100000 in
theorem ok_lex_IsKey (s_ : (List UInt8)) (r : Bool) (h : lex_IsKey s_ = some r) : APure X0 75 ([.s .str s_].map DT.toT) (resT ([.s .bool r].map DT.toT)) := by
  refine APure_of_straight (F := F_lex_IsKey) (fuel := 3000) (E := E_slices_Contains) Yok E_slices_Contains_ok mixed Tryd.func75 rfl rfl rfl (by decide) (args := [.s .str s_]) (Nat.le_of_ble_eq_true rfl) (by kernel_rfl) (fun r => [.s .bool r]) ?_ h
  intro goto ret
  unfold lex_IsKey
  simp only [bnd_G, bnd_ite, bnd_bind, bnd_some, -eq_self]
  kernel_rfl
noncomputable def e_lex_IsKey : List DT → Option CallRes
  | [.s t0 y0] => (castT (b := .str) y0).bind fun s_ => some ⟨Bool, lex_IsKey s_, fun r => .s .bool r, false, true⟩
  | _ => none
noncomputable def E_lex_IsKey : Env := Env.add 75 e_lex_IsKey E_slices_Contains
theorem E_lex_IsKey_ok : EnvOk X0 E_lex_IsKey := by
  refine EnvOk.add E_slices_Contains_ok (fun args c h => ?_)
  unfold e_lex_IsKey at h
  split at h
  · obtain ⟨v0, c0, h⟩ := Option.bind_eq_some_iff.1 h
    obtain ⟨rfl, rfl⟩ := castT_some c0
    cases h
    exact ⟨fun r hr => .inl ⟨by kernel_rfl, ok_lex_IsKey _ r hr⟩, fun hb => fun r => noSl_res (by rfl)⟩
  · cases h
def F_lex_IsName : FnD := { n := 22, rs := [2] }
set_option maxRecDepth 100000 in
theorem ok_lex_IsName (s_ : (List UInt8)) (r : Bool) (h : lex_IsName s_ = some r) : APure X0 53 ([.s .str s_].map DT.toT) (resT ([.s .bool r].map DT.toT)) := by
  refine APure_of_straight (F := F_lex_IsName) (fuel := 3000) (E := E_lex_IsKey) Yok E_lex_IsKey_ok mixed Tryd.func53 rfl rfl rfl (by decide) (args := [.s .str s_]) (Nat.le_of_ble_eq_true rfl) (by kernel_rfl) (fun r => [.s .bool r]) ?_ h
  intro goto ret
  unfold lex_IsName
  simp only [bnd_G, bnd_ite, bnd_bind, bnd_some, -eq_self]
  kernel_rfl
noncomputable def e_lex_IsName : List DT → Option CallRes
  | [.s t0 y0] => (castT (b := .str) y0).bind fun s_ => some ⟨Bool, lex_IsName s_, fun r => .s .bool r, false, true⟩
  | _ => none
noncomputable def E_lex_IsName : Env := Env.add 53 e_lex_IsName E_lex_IsKey
theorem E_lex_IsName_ok : EnvOk X0 E_lex_IsName := by
  refine EnvOk.add E_lex_IsKey_ok (fun args c h => ?_)
  unfold e_lex_IsName at h
  split at h
  · obtain ⟨v0, c0, h⟩ := Option.bind_eq_some_iff.1 h
    obtain ⟨rfl, rfl⟩ := castT_some c0
    cases h
    exact ⟨fun r hr => .inl ⟨by kernel_rfl, ok_lex_IsName _ r hr⟩, fun hb => fun r => noSl_res (by rfl)⟩
  · cases h
def F_fail_fits : FnD := { n := 23, rs := [4] }
set_option maxRecDepth 100000 in
theorem ok_fail_fits (kind : Int) (text : (List UInt8)) (r : Bool) (h : fail_fits kind text = some r) : APure X0 47 ([.s (.int .i64) kind, .s .str text].map DT.toT) (resT ([.s .bool r].map DT.toT)) := by
  refine APure_of_straight (F := F_fail_fits) (fuel := 3000) (E := E_lex_IsName) Yok E_lex_IsName_ok mixed Tryd.func47 rfl rfl rfl (by decide) (args := [.s (.int .i64) kind, .s .str text]) (Nat.le_of_ble_eq_true rfl) (by kernel_rfl) (fun r => [.s .bool r]) ?_ h
  intro goto ret
  unfold fail_fits
  simp only [bnd_G, bnd_ite, bnd_bind, bnd_some, -eq_self]
  kernel_rfl
noncomputable def e_fail_fits : List DT → Option CallRes
  | [.s t0 y0, .s t1 y1] => (castT (b := (.int .i64)) y0).bind fun kind => (castT (b := .str) y1).bind fun text => some ⟨Bool, fail_fits kind text, fun r => .s .bool r, false, true⟩
  | _ => none
noncomputable def E_fail_fits : Env := Env.add 47 e_fail_fits E_lex_IsName
theorem E_fail_fits_ok : EnvOk X0 E_fail_fits := by
  refine EnvOk.add E_lex_IsName_ok (fun args c h => ?_)
  unfold e_fail_fits at h
  split at h
  · obtain ⟨v0, c0, h⟩ := Option.bind_eq_some_iff.1 h
    obtain ⟨rfl, rfl⟩ := castT_some c0
    obtain ⟨v1, c1, h⟩ := Option.bind_eq_some_iff.1 h
    obtain ⟨rfl, rfl⟩ := castT_some c1
    cases h
    exact ⟨fun r hr => .inl ⟨by kernel_rfl, ok_fail_fits _ _ r hr⟩, fun hb => fun r => noSl_res (by rfl)⟩
  · cases h
def F_fail_well : FnD := { n := 46, rs := [2], labels := [(11, [1, 3])] }
def lab_fail_well : L_fail_well → Nat × DSt
  | .l11 c c' c'' ok => (11, [(1, .t (.box 60 [.s (.int .i64) c, .s (.int .i64) c', .s .str c''])), (3, .t (.s .bool ok))])
set_option maxRecDepth 100000 in
theorem ok_fail_well (c : tCrack) (r : Bool) (h : fail_well c = some r) : APure X0 73 ([.s tyCrack c].map DT.toT) (resT ([.s .bool r].map DT.toT)) := by
  refine APure_of_machine (F := F_fail_well) (fuel := 3000) (E := E_fail_fits) Yok E_fail_fits_ok mixed Tryd.func73 rfl rfl rfl (by decide) (args := [.s tyCrack c]) (Nat.le_of_ble_eq_true rfl) (by kernel_rfl) lab_fail_well st_fail_well (fun r => [.s .bool r]) ?_ ?_ ?_ h
  · intro l; cases l
    · exact WF_list ⟨trivial, trivial, trivial⟩
  · intro l goto ret; cases l with
    | l11 c c' c'' ok =>
      show _ = push (sg_fail_well_11 c c' c'' ok) (fun l' => goto (lab_fail_well l').1 (lab_fail_well l').2) (fun r => ret [.s .bool r])
      unfold sg_fail_well_11
      simp only [push_G, push_ite, push_bind, push_inl, push_inr, -eq_self]
      kernel_rfl
  · intro goto ret
    show _ = push (en_fail_well c) (fun l' => goto (lab_fail_well l').1 (lab_fail_well l').2) (fun r => ret [.s .bool r])
    unfold en_fail_well
    simp only [push_G, push_ite, push_bind, push_inl, push_inr, -eq_self]
    kernel_rfl
noncomputable def e_fail_well : List DT → Option CallRes
  | [.s t0 y0] => (castT (b := tyCrack) y0).bind fun c => some ⟨Bool, fail_well c, fun r => .s .bool r, false, true⟩
  | _ => none
noncomputable def E_fail_well : Env := Env.add 73 e_fail_well E_fail_fits
theorem E_fail_well_ok : EnvOk X0 E_fail_well := by
  refine EnvOk.add E_fail_fits_ok (fun args c h => ?_)
  unfold e_fail_well at h
  split at h
  · obtain ⟨v0, c0, h⟩ := Option.bind_eq_some_iff.1 h
    obtain ⟨rfl, rfl⟩ := castT_some c0
    cases h
    exact ⟨fun r hr => .inl ⟨by kernel_rfl, ok_fail_well _ r hr⟩, fun hb => fun r => noSl_res (by rfl)⟩
  · cases h
def F_fail_begins : FnD := { n := 65, rs := [2, 3], labels := [(3, [4, 5, 12, 13, 14]), (10, [4, 5, 6, 7, 12, 13, 14])] }
def lab_fail_begins : L_fail_begins → Nat × DSt
  | .l3 from_ stack x12 x13 x14 => (3, [(4, .t (.own 3 (.int .i64) from_)), (5, .t (.own 3 (.int .i64) stack)), (12, .t (.s (.sl 3 tyCrack) x12)), (13, .t (.s (.int .i64) x13)), (14, .t (.s (.int .i64) x14))])
  | .l10 from_ stack i c c' c'' x12 x13 x14 => (10, [(4, .t (.own 3 (.int .i64) from_)), (5, .t (.own 3 (.int .i64) stack)), (6, .t (.s (.int .i64) i)), (7, .t (.box 60 [.s (.int .i64) c, .s (.int .i64) c', .s .str c''])), (12, .t (.s (.sl 3 tyCrack) x12)), (13, .t (.s (.int .i64) x13)), (14, .t (.s (.int .i64) x14))])
set_option maxRecDepth 100000 in
theorem ok_fail_begins (f : (List tCrack)) (r : ((List Int) × Bool)) (h : fail_begins f = some r) : APure X0 49 ([.s (.sl 3 tyCrack) f].map DT.toT) (resT ([.own 3 (.int .i64) r.1, .s .bool r.2].map DT.toT)) := by
  refine APure_of_machine (F := F_fail_begins) (fuel := 3000) (E := E_fail_well) Yok E_fail_well_ok mixed Tryd.func49 rfl rfl rfl (by decide) (args := [.s (.sl 3 tyCrack) f]) (Nat.le_of_ble_eq_true rfl) (by kernel_rfl) lab_fail_begins st_fail_begins (fun r => [.own 3 (.int .i64) r.1, .s .bool r.2]) ?_ ?_ ?_ h
  · intro l; cases l
    · exact WF_list ⟨trivial, trivial, trivial, trivial, trivial, trivial⟩
    · exact WF_list ⟨trivial, trivial, trivial, trivial, trivial, trivial, trivial, trivial⟩
  · intro l goto ret; cases l with
    | l3 from_ stack x12 x13 x14 =>
      show _ = push (sg_fail_begins_3 from_ stack x12 x13 x14) (fun l' => goto (lab_fail_begins l').1 (lab_fail_begins l').2) (fun r => ret [.own 3 (.int .i64) r.1, .s .bool r.2])
      unfold sg_fail_begins_3
      simp only [push_G, push_ite, push_bind, push_inl, push_inr, -eq_self]
      kernel_rfl
    | l10 from_ stack i c c' c'' x12 x13 x14 =>
      show _ = push (sg_fail_begins_10 from_ stack i c c' c'' x12 x13 x14) (fun l' => goto (lab_fail_begins l').1 (lab_fail_begins l').2) (fun r => ret [.own 3 (.int .i64) r.1, .s .bool r.2])
      unfold sg_fail_begins_10
      simp only [push_G, push_ite, push_bind, push_inl, push_inr, -eq_self]
      kernel_rfl
  · intro goto ret
    show _ = push (en_fail_begins f) (fun l' => goto (lab_fail_begins l').1 (lab_fail_begins l').2) (fun r => ret [.own 3 (.int .i64) r.1, .s .bool r.2])
    unfold en_fail_begins
    simp only [push_G, push_ite, push_bind, push_inl, push_inr, -eq_self]
    kernel_rfl
noncomputable def e_fail_begins : List DT → Option CallRes
  | [.s t0 y0] => (castT (b := (.sl 3 tyCrack)) y0).bind fun f => some ⟨((List Int) × Bool), fail_begins f, fun r => .tup [.own 3 (.int .i64) r.1, .s .bool r.2], (([] : List Int), false), true⟩
  | _ => none
noncomputable def E_fail_begins : Env := Env.add 49 e_fail_begins E_fail_well
theorem E_fail_begins_ok : EnvOk X0 E_fail_begins := by
  refine EnvOk.add E_fail_well_ok (fun args c h => ?_)
  unfold e_fail_begins at h
  split at h
  · obtain ⟨v0, c0, h⟩ := Option.bind_eq_some_iff.1 h
    obtain ⟨rfl, rfl⟩ := castT_some c0
    cases h
    exact ⟨fun r hr => .inl ⟨by kernel_rfl, ok_fail_begins _ r hr⟩, fun hb => fun r => noSl_res (by rfl)⟩
  · cases h
def F_fail_Check : FnD := { n := 15, rs := [2] }
set_option maxRecDepth 100000 in
theorem ok_fail_Check (f : (List tCrack)) (r : Int) (h : fail_Check f = some r) : APure X0 16 ([.s (.sl 3 tyCrack) f].map DT.toT) (resT ([.s (.int .i64) r].map DT.toT)) := by
  refine APure_of_straight (F := F_fail_Check) (fuel := 3000) (E := E_fail_begins) Yok E_fail_begins_ok mixed Tryd.func16 rfl rfl rfl (by decide) (args := [.s (.sl 3 tyCrack) f]) (Nat.le_of_ble_eq_true rfl) (by kernel_rfl) (fun r => [.s (.int .i64) r]) ?_ h
  intro goto ret
  unfold fail_Check
  simp only [bnd_G, bnd_ite, bnd_bind, bnd_some, -eq_self]
  kernel_rfl
noncomputable def e_fail_Check : List DT → Option CallRes
  | [.s t0 y0] => (castT (b := (.sl 3 tyCrack)) y0).bind fun f => some ⟨Int, fail_Check f, fun r => .s (.int .i64) r, (0 : Int), true⟩
  | _ => none
noncomputable def E_fail_Check : Env := Env.add 16 e_fail_Check E_fail_begins
theorem E_fail_Check_ok : EnvOk X0 E_fail_Check := by
  refine EnvOk.add E_fail_begins_ok (fun args c h => ?_)
  unfold e_fail_Check at h
  split at h
  · obtain ⟨v0, c0, h⟩ := Option.bind_eq_some_iff.1 h
    obtain ⟨rfl, rfl⟩ := castT_some c0
    cases h
    exact ⟨fun r hr => .inl ⟨by kernel_rfl, ok_fail_Check _ r hr⟩, fun hb => fun r => noSl_res (by rfl)⟩
  · cases h
def F_lex_Quote : FnD := { n := 63, rs := [2], labels := [(4, [0, 3, 14, 15])] }
def lab_lex_Quote : L_lex_Quote → Nat × DSt
  | .l4 s_ out x14 x15 => (4, [(0, .t (.s .str s_)), (3, .t (.own 5 .u8 out)), (14, .t (.s (.int .i64) x14)), (15, .t (.s (.int .i64) x15))])
set_option maxRecDepth 100000 in
theorem ok_lex_Quote (s_ : (List UInt8)) (r : (List UInt8)) (h : lex_Quote s_ = some r) : APure X0 63 ([.s .str s_].map DT.toT) (resT ([.s .str r].map DT.toT)) := by
  refine APure_of_machine (F := F_lex_Quote) (fuel := 3000) (E := E_fail_Check) Yok E_fail_Check_ok mixed Tryd.func63 rfl rfl rfl (by decide) (args := [.s .str s_]) (Nat.le_of_ble_eq_true rfl) (by kernel_rfl) lab_lex_Quote st_lex_Quote (fun r => [.s .str r]) ?_ ?_ ?_ h
  · intro l; cases l
    · exact WF_list ⟨trivial, trivial, trivial, trivial, trivial⟩
  · intro l goto ret; cases l with
    | l4 s_ out x14 x15 =>
      show _ = push (sg_lex_Quote_4 s_ out x14 x15) (fun l' => goto (lab_lex_Quote l').1 (lab_lex_Quote l').2) (fun r => ret [.s .str r])
      unfold sg_lex_Quote_4
      simp only [push_G, push_ite, push_bind, push_inl, push_inr, -eq_self]
      kernel_rfl
  · intro goto ret
    show _ = push (en_lex_Quote s_) (fun l' => goto (lab_lex_Quote l').1 (lab_lex_Quote l').2) (fun r => ret [.s .str r])
    unfold en_lex_Quote
    simp only [push_G, push_ite, push_bind, push_inl, push_inr, -eq_self]
    kernel_rfl
noncomputable def e_lex_Quote : List DT → Option CallRes
  | [.s t0 y0] => (castT (b := .str) y0).bind fun s_ => some ⟨(List UInt8), lex_Quote s_, fun r => .s .str r, ([] : List UInt8), true⟩
  | _ => none
noncomputable def E_lex_Quote : Env := Env.add 63 e_lex_Quote E_fail_Check
theorem E_lex_Quote_ok : EnvOk X0 E_lex_Quote := by
  refine EnvOk.add E_fail_Check_ok (fun args c h => ?_)
  unfold e_lex_Quote at h
  split at h
  · obtain ⟨v0, c0, h⟩ := Option.bind_eq_some_iff.1 h
    obtain ⟨rfl, rfl⟩ := castT_some c0
    cases h
    exact ⟨fun r hr => .inl ⟨by kernel_rfl, ok_lex_Quote _ r hr⟩, fun hb => fun r => noSl_res (by rfl)⟩
  · cases h
theorem ok_strings_Join (l : List (List UInt8)) (sep : List UInt8) (r : List UInt8) (h : strings_Join l sep = some r) : APure X0 64 ([.s (.sl 1 .str) l, .s .str sep].map DT.toT) (DT.s .str r).toT := by
  obtain ⟨⟨h1, h2⟩, h⟩ := G_some h
  cases h
  exact join_call (X := X0) (k := 64) Tryd.strings_Join_none Tryd.strings_Join l sep h1 h2
noncomputable def e_strings_Join : List DT → Option CallRes
  | [.s t0 y0, .s t1 y1] => (castT (b := .sl 1 .str) y0).bind fun l => (castT (b := .str) y1).bind fun sep => some ⟨List UInt8, strings_Join l sep, fun r => .s .str r, ([] : List UInt8), true⟩
  | _ => none
noncomputable def E_strings_Join : Env := Env.add 64 e_strings_Join E_lex_Quote
theorem E_strings_Join_ok : EnvOk X0 E_strings_Join := by
  refine EnvOk.add E_lex_Quote_ok (fun args c h => ?_)
  unfold e_strings_Join at h
  split at h
  · obtain ⟨v0, c0, h⟩ := Option.bind_eq_some_iff.1 h
    obtain ⟨rfl, rfl⟩ := castT_some c0
    obtain ⟨v1, c1, h⟩ := Option.bind_eq_some_iff.1 h
    obtain ⟨rfl, rfl⟩ := castT_some c1
    cases h
    exact ⟨fun r hr => .inl ⟨by kernel_rfl, ok_strings_Join _ _ r hr⟩, fun hb => fun r => noSl_res (d := .s .str r) (by rfl)⟩
  · cases h
def F_fail_Print : FnD := { n := 88, rs := [2, 3], labels := [(6, [5, 16, 17, 18]), (22, [5, 7, 8, 9, 16, 17, 18])] }
def lab_fail_Print : L_fail_Print → Nat × DSt
  | .l6 stack x16 x17 x18 => (6, [(5, .t (.own 9 .str stack)), (16, .t (.s (.sl 3 tyCrack) x16)), (17, .t (.s (.int .i64) x17)), (18, .t (.s (.int .i64) x18))])
  | .l22 stack c c' c'' k s_ x16 x17 x18 => (22, [(5, .t (.own 9 .str stack)), (7, .t (.box 60 [.s (.int .i64) c, .s (.int .i64) c', .s .str c''])), (8, .t (.s (.int .i64) k)), (9, .t (.s .str s_)), (16, .t (.s (.sl 3 tyCrack) x16)), (17, .t (.s (.int .i64) x17)), (18, .t (.s (.int .i64) x18))])
set_option maxRecDepth 100000 in
theorem ok_fail_Print (f : (List tCrack)) (r : ((List UInt8) × Int)) (h : fail_Print f = some r) : APure X0 40 ([.s (.sl 3 tyCrack) f].map DT.toT) (resT ([.s .str r.1, .s (.int .i64) r.2].map DT.toT)) := by
  refine APure_of_machine (F := F_fail_Print) (fuel := 3000) (E := E_strings_Join) Yok E_strings_Join_ok mixed Tryd.func40 rfl rfl rfl (by decide) (args := [.s (.sl 3 tyCrack) f]) (Nat.le_of_ble_eq_true rfl) (by kernel_rfl) lab_fail_Print st_fail_Print (fun r => [.s .str r.1, .s (.int .i64) r.2]) ?_ ?_ ?_ h
  · intro l; cases l
    · exact WF_list ⟨trivial, trivial, trivial, trivial, trivial⟩
    · exact WF_list ⟨trivial, trivial, trivial, trivial, trivial, trivial, trivial, trivial⟩
  · intro l goto ret; cases l with
    | l6 stack x16 x17 x18 =>
      show _ = push (sg_fail_Print_6 stack x16 x17 x18) (fun l' => goto (lab_fail_Print l').1 (lab_fail_Print l').2) (fun r => ret [.s .str r.1, .s (.int .i64) r.2])
      unfold sg_fail_Print_6
      simp only [ax_fail_Print_6_1, ax_fail_Print_6_3, ax_fail_Print_6_4, ax_fail_Print_6_5, ax_fail_Print_6_2, ax_fail_Print_6_6, push_G, push_ite, push_bind, push_inl, push_inr, -eq_self]
      kernel_rfl
    | l22 stack c c' c'' k s_ x16 x17 x18 =>
      show _ = push (sg_fail_Print_22 stack c c' c'' k s_ x16 x17 x18) (fun l' => goto (lab_fail_Print l').1 (lab_fail_Print l').2) (fun r => ret [.s .str r.1, .s (.int .i64) r.2])
      unfold sg_fail_Print_22
      simp only [push_G, push_ite, push_bind, push_inl, push_inr, -eq_self]
      kernel_rfl
  · intro goto ret
    show _ = push (en_fail_Print f) (fun l' => goto (lab_fail_Print l').1 (lab_fail_Print l').2) (fun r => ret [.s .str r.1, .s (.int .i64) r.2])
    unfold en_fail_Print
    simp only [push_G, push_ite, push_bind, push_inl, push_inr, -eq_self]
    kernel_rfl
noncomputable def e_fail_Print : List DT → Option CallRes
  | [.s t0 y0] => (castT (b := (.sl 3 tyCrack)) y0).bind fun f => some ⟨((List UInt8) × Int), fail_Print f, fun r => .tup [.s .str r.1, .s (.int .i64) r.2], (([] : List UInt8), (0 : Int)), true⟩
  | _ => none
noncomputable def E_fail_Print : Env := Env.add 40 e_fail_Print E_strings_Join
theorem E_fail_Print_ok : EnvOk X0 E_fail_Print := by
  refine EnvOk.add E_strings_Join_ok (fun args c h => ?_)
  unfold e_fail_Print at h
  split at h
  · obtain ⟨v0, c0, h⟩ := Option.bind_eq_some_iff.1 h
    obtain ⟨rfl, rfl⟩ := castT_some c0
    cases h
    exact ⟨fun r hr => .inl ⟨by kernel_rfl, ok_fail_Print _ r hr⟩, fun hb => fun r => noSl_res (by rfl)⟩
  · cases h
def F_fail_reader_need : FnD := { n := 8, rs := [], Z := [0] }
set_option maxRecDepth 100000 in
theorem ok_fail_reader_need (r_ : (List UInt8)) (r_' : Int) (r_'' : (List tCrack)) (r_''' : Int) (ok : Bool) (r : (Bool × (Nat × Value) × (List UInt8) × Int × (List tCrack) × Int)) (h : fail_reader_need r_ r_' r_'' r_''' ok = some r) : (r.1 = false → ACall X0 68 ([.box 79 [.s .str r_, .s (.int .i64) r_', .own 60 tyCrack r_'', .s (.int .i64) r_'''], .s .bool ok].map DT.toT) (resT ([].map DT.toT)) (outsL 0 (.box 79 [.s .str r.2.2.1, .s (.int .i64) r.2.2.2.1, .own 60 tyCrack r.2.2.2.2.1, .s (.int .i64) r.2.2.2.2.2] : DT).toT 0 2)) ∧ (r.1 = true → PCall X0 68 ([.box 79 [.s .str r_, .s (.int .i64) r_', .own 60 tyCrack r_'', .s (.int .i64) r_'''], .s .bool ok].map DT.toT) (Value.iface r.2.1.1 r.2.1.2)) := by
  unfold fail_reader_need at h
  refine PLend_of_straight (F := F_fail_reader_need) (fuel := 3000) (E := E_fail_Print) (z := 0) Yok E_fail_Print_ok mixed Tryd.func68 rfl rfl rfl (by decide) rfl rfl (by decide) (args := [.box 79 [.s .str r_, .s (.int .i64) r_', .own 60 tyCrack r_'', .s (.int .i64) r_'''], .s .bool ok]) (Nat.le_of_ble_eq_true rfl) (Nat.le_of_ble_eq_true rfl) (by kernel_rfl) (fun r => []) (fun r => .box 79 [.s .str r.2.2.1, .s (.int .i64) r.2.2.2.1, .own 60 tyCrack r.2.2.2.2.1, .s (.int .i64) r.2.2.2.2.2]) (fun r => r.1) (fun r => Value.iface r.2.1.1 r.2.1.2) ?_ h rfl
  intro pn goto ret
  unfold en_fail_reader_need
  simp only [bnd_G, bnd_ite, bnd_bind, bnd_some, -eq_self]
  kernel_rfl
noncomputable def e_fail_reader_need : List DT → Option CallRes
  | [.tup [.u, .u], .box e0 [.s t1 y1, .s t2 y2, .own e3 t3 y3, .s t4 y4], .s t5 y5] => (beqO e0 79).bind fun _ => (castT (b := .str) y1).bind fun r_ => (castT (b := (.int .i64)) y2).bind fun r_' => (castT (a := .sl 1 t3) (b := .sl 1 tyCrack) y3).bind fun r_'' => (beqO e3 60).bind fun _ => (castT (b := (.int .i64)) y4).bind fun r_''' => (castT (b := .bool) y5).bind fun ok => some ⟨(Bool × (Nat × Value) × (List UInt8) × Int × (List tCrack) × Int), fail_reader_need r_ r_' r_'' r_''' ok, fun r => .tup [.s .bool r.1, .s .opq (Value.iface r.2.1.1 r.2.1.2), .tup [], .box 79 [.s .str r.2.2.1, .s (.int .i64) r.2.2.2.1, .own 60 tyCrack r.2.2.2.2.1, .s (.int .i64) r.2.2.2.2.2]], (false, (0, undef), ([] : List UInt8), (0 : Int), ([] : List tCrack), (0 : Int)), false⟩
  | _ => none
noncomputable def E_fail_reader_need : Env := Env.add2 68 (e_fail_reader_need) E_fail_Print
theorem E_fail_reader_need_ok : EnvOk X0 (E_fail_reader_need) := by
  refine EnvOk.add2 E_fail_Print_ok (fun args c h => ?_)
  unfold e_fail_reader_need at h
  split at h
  · replace h := Option.bind_eq_some_iff.1 h
    obtain ⟨u0, b0, h⟩ := h
    obtain rfl := beqO_some b0
    replace h := Option.bind_eq_some_iff.1 h
    obtain ⟨v1, c1, h⟩ := h
    obtain ⟨rfl, rfl⟩ := castT_some c1
    replace h := Option.bind_eq_some_iff.1 h
    obtain ⟨v2, c2, h⟩ := h
    obtain ⟨rfl, rfl⟩ := castT_some c2
    replace h := Option.bind_eq_some_iff.1 h
    obtain ⟨v3, c3, h⟩ := h
    obtain ⟨rfl, rfl⟩ := castSl_some c3
    replace h := Option.bind_eq_some_iff.1 h
    obtain ⟨u3, b3, h⟩ := h
    obtain rfl := beqO_some b3
    replace h := Option.bind_eq_some_iff.1 h
    obtain ⟨v4, c4, h⟩ := h
    obtain ⟨rfl, rfl⟩ := castT_some c4
    replace h := Option.bind_eq_some_iff.1 h
    obtain ⟨v5, c5, h⟩ := h
    obtain ⟨rfl, rfl⟩ := castT_some c5
    cases h
    intro r hr b pv res out hwr
    cases hwr
    exact ⟨by kernel_rfl, (ok_fail_reader_need _ _ _ _ _ r hr).1, (ok_fail_reader_need _ _ _ _ _ r hr).2, noSl_res (d := .tup []) (by rfl), noSl_res (d := .box 79 [.s .str r.2.2.1, .s (.int .i64) r.2.2.2.1, .own 60 tyCrack r.2.2.2.2.1, .s (.int .i64) r.2.2.2.2.2]) (by rfl), rfl⟩
  · cases h
def F_fail_reader_word : FnD := { n := 95, rs := [2], Z := [0], labels := [(2, [0, 3])] }
def lab_fail_reader_word : L_fail_reader_word → Nat × DSt
  | .l2 r_ r_' r_'' r_''' from_ => (2, [(0, .t (.box 79 [.s .str r_, .s (.int .i64) r_', .own 60 tyCrack r_'', .s (.int .i64) r_'''])), (3, .t (.s (.int .i64) from_))])
set_option maxRecDepth 100000 in
theorem ok_fail_reader_word (r_ : (List UInt8)) (r_' : Int) (r_'' : (List tCrack)) (r_''' : Int) (r : ((List UInt8) × (List UInt8) × Int × (List tCrack) × Int)) (h : fail_reader_word r_ r_' r_'' r_''' = some r) : ACall X0 82 ([.box 79 [.s .str r_, .s (.int .i64) r_', .own 60 tyCrack r_'', .s (.int .i64) r_''']].map DT.toT) (resT ([.s .str r.1].map DT.toT)) (outsL 0 (.box 79 [.s .str r.2.1, .s (.int .i64) r.2.2.1, .own 60 tyCrack r.2.2.2.1, .s (.int .i64) r.2.2.2.2] : DT).toT 0 1) := by
  unfold fail_reader_word at h
  refine ALend_of_machine (F := F_fail_reader_word) (fuel := 3000) (E := E_fail_reader_need) (z := 0) Yok E_fail_reader_need_ok mixed Tryd.func82 rfl rfl rfl (by decide) rfl rfl (by decide) (args := [.box 79 [.s .str r_, .s (.int .i64) r_', .own 60 tyCrack r_'', .s (.int .i64) r_''']]) (Nat.le_of_ble_eq_true rfl) (Nat.le_of_ble_eq_true rfl) (by kernel_rfl) lab_fail_reader_word (st_fail_reader_word) (fun r => [.s .str r.1]) (fun r => .box 79 [.s .str r.2.1, .s (.int .i64) r.2.2.1, .own 60 tyCrack r.2.2.2.1, .s (.int .i64) r.2.2.2.2]) ?_ ?_ ?_ h rfl
  · intro l; cases l
    · exact WF_list ⟨trivial, trivial, trivial⟩
  · intro l goto ret; cases l with
    | l2 r_ r_' r_'' r_''' from_ =>
      show _ = push (sg_fail_reader_word_2 r_ r_' r_'' r_''' from_) (fun l' => goto (lab_fail_reader_word l').1 (lab_fail_reader_word l').2) (fun r => ret [.s .str r.1, .box 79 [.s .str r.2.1, .s (.int .i64) r.2.2.1, .own 60 tyCrack r.2.2.2.1, .s (.int .i64) r.2.2.2.2]])
      unfold sg_fail_reader_word_2
      simp only [push_G, push_ite, push_bind, push_inl, push_inr, -eq_self]
      kernel_rfl
  · intro goto ret
    show _ = push (en_fail_reader_word r_ r_' r_'' r_''') (fun l' => goto (lab_fail_reader_word l').1 (lab_fail_reader_word l').2) (fun r => ret [.s .str r.1, .box 79 [.s .str r.2.1, .s (.int .i64) r.2.2.1, .own 60 tyCrack r.2.2.2.1, .s (.int .i64) r.2.2.2.2]])
    unfold en_fail_reader_word
    simp only [push_G, push_ite, push_bind, push_inl, push_inr, -eq_self]
    kernel_rfl
noncomputable def e_fail_reader_word : List DT → Option CallRes
  | [.tup [.u], .box e0 [.s t1 y1, .s t2 y2, .own e3 t3 y3, .s t4 y4]] => (beqO e0 79).bind fun _ => (castT (b := .str) y1).bind fun r_ => (castT (b := (.int .i64)) y2).bind fun r_' => (castT (a := .sl 1 t3) (b := .sl 1 tyCrack) y3).bind fun r_'' => (beqO e3 60).bind fun _ => (castT (b := (.int .i64)) y4).bind fun r_''' => some ⟨((List UInt8) × (List UInt8) × Int × (List tCrack) × Int), fail_reader_word r_ r_' r_'' r_''', fun r => .tup [.s .str r.1, .box 79 [.s .str r.2.1, .s (.int .i64) r.2.2.1, .own 60 tyCrack r.2.2.2.1, .s (.int .i64) r.2.2.2.2]], (([] : List UInt8), ([] : List UInt8), (0 : Int), ([] : List tCrack), (0 : Int)), false⟩
  | _ => none
noncomputable def E_fail_reader_word : Env := Env.add2 82 (e_fail_reader_word) E_fail_reader_need
theorem E_fail_reader_word_ok : EnvOk X0 (E_fail_reader_word) := by
  refine EnvOk.add2 E_fail_reader_need_ok (fun args c h => ?_)
  unfold e_fail_reader_word at h
  split at h
  · replace h := Option.bind_eq_some_iff.1 h
    obtain ⟨u0, b0, h⟩ := h
    obtain rfl := beqO_some b0
    replace h := Option.bind_eq_some_iff.1 h
    obtain ⟨v1, c1, h⟩ := h
    obtain ⟨rfl, rfl⟩ := castT_some c1
    replace h := Option.bind_eq_some_iff.1 h
    obtain ⟨v2, c2, h⟩ := h
    obtain ⟨rfl, rfl⟩ := castT_some c2
    replace h := Option.bind_eq_some_iff.1 h
    obtain ⟨v3, c3, h⟩ := h
    obtain ⟨rfl, rfl⟩ := castSl_some c3
    replace h := Option.bind_eq_some_iff.1 h
    obtain ⟨u3, b3, h⟩ := h
    obtain rfl := beqO_some b3
    replace h := Option.bind_eq_some_iff.1 h
    obtain ⟨v4, c4, h⟩ := h
    obtain ⟨rfl, rfl⟩ := castT_some c4
    cases h
    intro r hr res out hwr
    cases hwr
    exact ⟨by kernel_rfl, ok_fail_reader_word _ _ _ _ r hr, noSl_res (d := .s .str r.1) (by rfl), noSl_res (d := .box 79 [.s .str r.2.1, .s (.int .i64) r.2.2.1, .own 60 tyCrack r.2.2.2.1, .s (.int .i64) r.2.2.2.2]) (by rfl), rfl⟩
  · cases h
def F_stringslite_HasPrefix : FnD := { n := 18, rs := [4] }
set_option maxRecDepth 100000 in
theorem ok_stringslite_HasPrefix (s_ : (List UInt8)) (prefix_ : (List UInt8)) (r : Bool) (h : stringslite_HasPrefix s_ prefix_ = some r) : APure X0 101 ([.s .str s_, .s .str prefix_].map DT.toT) (resT ([.s .bool r].map DT.toT)) := by
  refine APure_of_straight (F := F_stringslite_HasPrefix) (fuel := 3000) (E := E_fail_reader_word) Yok E_fail_reader_word_ok mixed Tryd.func101 rfl rfl rfl (by decide) (args := [.s .str s_, .s .str prefix_]) (Nat.le_of_ble_eq_true rfl) (by kernel_rfl) (fun r => [.s .bool r]) ?_ h
  intro goto ret
  unfold stringslite_HasPrefix
  simp only [bnd_G, bnd_ite, bnd_bind, bnd_some, -eq_self]
  kernel_rfl
noncomputable def e_stringslite_HasPrefix : List DT → Option CallRes
  | [.s t0 y0, .s t1 y1] => (castT (b := .str) y0).bind fun s_ => (castT (b := .str) y1).bind fun prefix_ => some ⟨Bool, stringslite_HasPrefix s_ prefix_, fun r => .s .bool r, false, true⟩
  | _ => none
noncomputable def E_stringslite_HasPrefix : Env := Env.add 101 e_stringslite_HasPrefix E_fail_reader_word
theorem E_stringslite_HasPrefix_ok : EnvOk X0 E_stringslite_HasPrefix := by
  refine EnvOk.add E_fail_reader_word_ok (fun args c h => ?_)
  unfold e_stringslite_HasPrefix at h
  split at h
  · obtain ⟨v0, c0, h⟩ := Option.bind_eq_some_iff.1 h
    obtain ⟨rfl, rfl⟩ := castT_some c0
    obtain ⟨v1, c1, h⟩ := Option.bind_eq_some_iff.1 h
    obtain ⟨rfl, rfl⟩ := castT_some c1
    cases h
    exact ⟨fun r hr => .inl ⟨by kernel_rfl, ok_stringslite_HasPrefix _ _ r hr⟩, fun hb => fun r => noSl_res (by rfl)⟩
  · cases h
def F_strings_HasPrefix : FnD := { n := 8, rs := [4] }
set_option maxRecDepth 100000 in
theorem ok_strings_HasPrefix (s_ : (List UInt8)) (prefix_ : (List UInt8)) (r : Bool) (h : strings_HasPrefix s_ prefix_ = some r) : APure X0 96 ([.s .str s_, .s .str prefix_].map DT.toT) (resT ([.s .bool r].map DT.toT)) := by
  refine APure_of_straight (F := F_strings_HasPrefix) (fuel := 3000) (E := E_stringslite_HasPrefix) Yok E_stringslite_HasPrefix_ok mixed Tryd.func96 rfl rfl rfl (by decide) (args := [.s .str s_, .s .str prefix_]) (Nat.le_of_ble_eq_true rfl) (by kernel_rfl) (fun r => [.s .bool r]) ?_ h
  intro goto ret
  unfold strings_HasPrefix
  simp only [bnd_G, bnd_ite, bnd_bind, bnd_some, -eq_self]
  kernel_rfl
noncomputable def e_strings_HasPrefix : List DT → Option CallRes
  | [.s t0 y0, .s t1 y1] => (castT (b := .str) y0).bind fun s_ => (castT (b := .str) y1).bind fun prefix_ => some ⟨Bool, strings_HasPrefix s_ prefix_, fun r => .s .bool r, false, true⟩
  | _ => none
noncomputable def E_strings_HasPrefix : Env := Env.add 96 e_strings_HasPrefix E_stringslite_HasPrefix
theorem E_strings_HasPrefix_ok : EnvOk X0 E_strings_HasPrefix := by
  refine EnvOk.add E_stringslite_HasPrefix_ok (fun args c h => ?_)
  unfold e_strings_HasPrefix at h
  split at h
  · obtain ⟨v0, c0, h⟩ := Option.bind_eq_some_iff.1 h
    obtain ⟨rfl, rfl⟩ := castT_some c0
    obtain ⟨v1, c1, h⟩ := Option.bind_eq_some_iff.1 h
    obtain ⟨rfl, rfl⟩ := castT_some c1
    cases h
    exact ⟨fun r hr => .inl ⟨by kernel_rfl, ok_strings_HasPrefix _ _ r hr⟩, fun hb => fun r => noSl_res (by rfl)⟩
  · cases h
def F_fail_reader_take : FnD := { n := 26, rs := [], Z := [0] }
def Y_fail_reader_take : DX := { Y0 with o2 := [16] }
theorem Yok_fail_reader_take : DXOk Y_fail_reader_take X0 := ⟨Yok.tab, Yok.gl⟩
set_option maxRecDepth 100000 in
theorem ok_fail_reader_take (r_ : (List UInt8)) (r_' : Int) (r_'' : (List tCrack)) (r_''' : Int) (t_ : (List UInt8)) (r : (Bool × (Nat × Value) × (List UInt8) × Int × (List tCrack) × Int)) (h : fail_reader_take r_ r_' r_'' r_''' t_ = some r) : (r.1 = false → ACall X0 83 ([.box 79 [.s .str r_, .s (.int .i64) r_', .own 60 tyCrack r_'', .s (.int .i64) r_'''], .s .str t_].map DT.toT) (resT ([].map DT.toT)) (outsL 0 (.box 79 [.s .str r.2.2.1, .s (.int .i64) r.2.2.2.1, .own 60 tyCrack r.2.2.2.2.1, .s (.int .i64) r.2.2.2.2.2] : DT).toT 0 2)) ∧ (r.1 = true → PCall X0 83 ([.box 79 [.s .str r_, .s (.int .i64) r_', .own 60 tyCrack r_'', .s (.int .i64) r_'''], .s .str t_].map DT.toT) (Value.iface r.2.1.1 r.2.1.2)) := by
  unfold fail_reader_take at h
  refine PLend_of_straight (F := F_fail_reader_take) (fuel := 3000) (E := E_strings_HasPrefix) (z := 0) Yok_fail_reader_take E_strings_HasPrefix_ok mixed Tryd.func83 rfl rfl rfl (by decide) rfl rfl (by decide) (args := [.box 79 [.s .str r_, .s (.int .i64) r_', .own 60 tyCrack r_'', .s (.int .i64) r_'''], .s .str t_]) (Nat.le_of_ble_eq_true rfl) (Nat.le_of_ble_eq_true rfl) (by kernel_rfl) (fun r => []) (fun r => .box 79 [.s .str r.2.2.1, .s (.int .i64) r.2.2.2.1, .own 60 tyCrack r.2.2.2.2.1, .s (.int .i64) r.2.2.2.2.2]) (fun r => r.1) (fun r => Value.iface r.2.1.1 r.2.1.2) ?_ h rfl
  intro pn goto ret
  unfold en_fail_reader_take
  simp only [bnd_G, bnd_ite, bnd_bind, bnd_some, -eq_self]
  kernel_rfl
noncomputable def e_fail_reader_take : List DT → Option CallRes
  | [.tup [.u, .u], .box e0 [.s t1 y1, .s t2 y2, .own e3 t3 y3, .s t4 y4], .s t5 y5] => (beqO e0 79).bind fun _ => (castT (b := .str) y1).bind fun r_ => (castT (b := (.int .i64)) y2).bind fun r_' => (castT (a := .sl 1 t3) (b := .sl 1 tyCrack) y3).bind fun r_'' => (beqO e3 60).bind fun _ => (castT (b := (.int .i64)) y4).bind fun r_''' => (castT (b := .str) y5).bind fun t_ => some ⟨(Bool × (Nat × Value) × (List UInt8) × Int × (List tCrack) × Int), fail_reader_take r_ r_' r_'' r_''' t_, fun r => .tup [.s .bool r.1, .s .opq (Value.iface r.2.1.1 r.2.1.2), .tup [], .box 79 [.s .str r.2.2.1, .s (.int .i64) r.2.2.2.1, .own 60 tyCrack r.2.2.2.2.1, .s (.int .i64) r.2.2.2.2.2]], (false, (0, undef), ([] : List UInt8), (0 : Int), ([] : List tCrack), (0 : Int)), false⟩
  | _ => none
noncomputable def E_fail_reader_take : Env := Env.add2 83 (e_fail_reader_take) E_strings_HasPrefix
theorem E_fail_reader_take_ok : EnvOk X0 (E_fail_reader_take) := by
  refine EnvOk.add2 E_strings_HasPrefix_ok (fun args c h => ?_)
  unfold e_fail_reader_take at h
  split at h
  · replace h := Option.bind_eq_some_iff.1 h
    obtain ⟨u0, b0, h⟩ := h
    obtain rfl := beqO_some b0
    replace h := Option.bind_eq_some_iff.1 h
    obtain ⟨v1, c1, h⟩ := h
    obtain ⟨rfl, rfl⟩ := castT_some c1
    replace h := Option.bind_eq_some_iff.1 h
    obtain ⟨v2, c2, h⟩ := h
    obtain ⟨rfl, rfl⟩ := castT_some c2
    replace h := Option.bind_eq_some_iff.1 h
    obtain ⟨v3, c3, h⟩ := h
    obtain ⟨rfl, rfl⟩ := castSl_some c3
    replace h := Option.bind_eq_some_iff.1 h
    obtain ⟨u3, b3, h⟩ := h
    obtain rfl := beqO_some b3
    replace h := Option.bind_eq_some_iff.1 h
    obtain ⟨v4, c4, h⟩ := h
    obtain ⟨rfl, rfl⟩ := castT_some c4
    replace h := Option.bind_eq_some_iff.1 h
    obtain ⟨v5, c5, h⟩ := h
    obtain ⟨rfl, rfl⟩ := castT_some c5
    cases h
    intro r hr b pv res out hwr
    cases hwr
    exact ⟨by kernel_rfl, (ok_fail_reader_take _ _ _ _ _ r hr).1, (ok_fail_reader_take _ _ _ _ _ r hr).2, noSl_res (d := .tup []) (by rfl), noSl_res (d := .box 79 [.s .str r.2.2.1, .s (.int .i64) r.2.2.2.1, .own 60 tyCrack r.2.2.2.2.1, .s (.int .i64) r.2.2.2.2.2]) (by rfl), rfl⟩
  · cases h
set_option maxRecDepth 100000 in
theorem ok_bytealg_IndexByteString (s_ : List UInt8) (c : UInt8) (r : Int) (h : bytealg_IndexByteString s_ c = some r) : AExt X0 108 ([.s .str s_, .s .u8 c].map DT.toT) (DT.s (.int .i64) r).toT := by
  cases h
  have := AExt_indexByteString (X := X0) (f := 108) Tryd.func108 (by decide +kernel) (by decide +kernel) (by kernel_rfl) (by kernel_rfl) (mkS s_) (c.toNat : Int)
  rw [bl_mkS, show ((c.toNat : Int).toNat.toUInt8) = c from by simp] at this
  exact this
noncomputable def e_bytealg_IndexByteString : List DT → Option CallRes
  | [.s t0 y0, .s t1 y1] => (castT (b := .str) y0).bind fun s_ => (castT (b := .u8) y1).bind fun c => some ⟨Int, bytealg_IndexByteString s_ c, fun r => .s (.int .i64) r, (0 : Int), false⟩
  | _ => none
noncomputable def E_bytealg_IndexByteString : Env := Env.add 108 e_bytealg_IndexByteString E_fail_reader_take
theorem E_bytealg_IndexByteString_ok : EnvOk X0 E_bytealg_IndexByteString := by
  refine EnvOk.add E_fail_reader_take_ok (fun args c h => ?_)
  unfold e_bytealg_IndexByteString at h
  split at h
  · obtain ⟨v0, c0, h⟩ := Option.bind_eq_some_iff.1 h
    obtain ⟨rfl, rfl⟩ := castT_some c0
    obtain ⟨v1, c1, h⟩ := Option.bind_eq_some_iff.1 h
    obtain ⟨rfl, rfl⟩ := castT_some c1
    cases h
    exact ⟨fun r hr => .inr ⟨rfl, ok_bytealg_IndexByteString _ _ r hr⟩, fun hb => by cases hb⟩
  · cases h
def F_stringslite_IndexByte : FnD := { n := 8, rs := [4] }
set_option maxRecDepth 100000 in
theorem ok_stringslite_IndexByte (s_ : (List UInt8)) (c : UInt8) (r : Int) (h : stringslite_IndexByte s_ c = some r) : APure X0 107 ([.s .str s_, .s .u8 c].map DT.toT) (resT ([.s (.int .i64) r].map DT.toT)) := by
  refine APure_of_straight (F := F_stringslite_IndexByte) (fuel := 3000) (E := E_bytealg_IndexByteString) Yok E_bytealg_IndexByteString_ok mixed Tryd.func107 rfl rfl rfl (by decide) (args := [.s .str s_, .s .u8 c]) (Nat.le_of_ble_eq_true rfl) (by kernel_rfl) (fun r => [.s (.int .i64) r]) ?_ h
  intro goto ret
  unfold stringslite_IndexByte
  simp only [bnd_G, bnd_ite, bnd_bind, bnd_some, -eq_self]
  kernel_rfl
noncomputable def e_stringslite_IndexByte : List DT → Option CallRes
  | [.s t0 y0, .s t1 y1] => (castT (b := .str) y0).bind fun s_ => (castT (b := .u8) y1).bind fun c => some ⟨Int, stringslite_IndexByte s_ c, fun r => .s (.int .i64) r, (0 : Int), true⟩
  | _ => none
noncomputable def E_stringslite_IndexByte : Env := Env.add 107 e_stringslite_IndexByte E_bytealg_IndexByteString
theorem E_stringslite_IndexByte_ok : EnvOk X0 E_stringslite_IndexByte := by
  refine EnvOk.add E_bytealg_IndexByteString_ok (fun args c h => ?_)
  unfold e_stringslite_IndexByte at h
  split at h
  · obtain ⟨v0, c0, h⟩ := Option.bind_eq_some_iff.1 h
    obtain ⟨rfl, rfl⟩ := castT_some c0
    obtain ⟨v1, c1, h⟩ := Option.bind_eq_some_iff.1 h
    obtain ⟨rfl, rfl⟩ := castT_some c1
    cases h
    exact ⟨fun r hr => .inl ⟨by kernel_rfl, ok_stringslite_IndexByte _ _ r hr⟩, fun hb => fun r => noSl_res (by rfl)⟩
  · cases h
def F_strings_IndexByte : FnD := { n := 8, rs := [4] }
set_option maxRecDepth 100000 in
theorem ok_strings_IndexByte (s_ : (List UInt8)) (c : UInt8) (r : Int) (h : strings_IndexByte s_ c = some r) : APure X0 106 ([.s .str s_, .s .u8 c].map DT.toT) (resT ([.s (.int .i64) r].map DT.toT)) := by
  refine APure_of_straight (F := F_strings_IndexByte) (fuel := 3000) (E := E_stringslite_IndexByte) Yok E_stringslite_IndexByte_ok mixed Tryd.func106 rfl rfl rfl (by decide) (args := [.s .str s_, .s .u8 c]) (Nat.le_of_ble_eq_true rfl) (by kernel_rfl) (fun r => [.s (.int .i64) r]) ?_ h
  intro goto ret
  unfold strings_IndexByte
  simp only [bnd_G, bnd_ite, bnd_bind, bnd_some, -eq_self]
  kernel_rfl
noncomputable def e_strings_IndexByte : List DT → Option CallRes
  | [.s t0 y0, .s t1 y1] => (castT (b := .str) y0).bind fun s_ => (castT (b := .u8) y1).bind fun c => some ⟨Int, strings_IndexByte s_ c, fun r => .s (.int .i64) r, (0 : Int), true⟩
  | _ => none
noncomputable def E_strings_IndexByte : Env := Env.add 106 e_strings_IndexByte E_stringslite_IndexByte
theorem E_strings_IndexByte_ok : EnvOk X0 E_strings_IndexByte := by
  refine EnvOk.add E_stringslite_IndexByte_ok (fun args c h => ?_)
  unfold e_strings_IndexByte at h
  split at h
  · obtain ⟨v0, c0, h⟩ := Option.bind_eq_some_iff.1 h
    obtain ⟨rfl, rfl⟩ := castT_some c0
    obtain ⟨v1, c1, h⟩ := Option.bind_eq_some_iff.1 h
    obtain ⟨rfl, rfl⟩ := castT_some c1
    cases h
    exact ⟨fun r hr => .inl ⟨by kernel_rfl, ok_strings_IndexByte _ _ r hr⟩, fun hb => fun r => noSl_res (by rfl)⟩
  · cases h
def F_lex_escaped : FnD := { n := 60, rs := [4, 5] }
set_option maxRecDepth 100000 in
theorem ok_lex_escaped (s_ : (List UInt8)) (at_ : Int) (r : (UInt8 × Int)) (h : lex_escaped s_ at_ = some r) : APure X0 104 ([.s .str s_, .s (.int .i64) at_].map DT.toT) (resT ([.s .u8 r.1, .s (.int .i64) r.2].map DT.toT)) := by
  refine APure_of_straight (F := F_lex_escaped) (fuel := 3000) (E := E_strings_IndexByte) Yok E_strings_IndexByte_ok mixed Tryd.func104 rfl rfl rfl (by decide) (args := [.s .str s_, .s (.int .i64) at_]) (Nat.le_of_ble_eq_true rfl) (by kernel_rfl) (fun r => [.s .u8 r.1, .s (.int .i64) r.2]) ?_ h
  intro goto ret
  unfold lex_escaped
  simp only [bnd_G, bnd_ite, bnd_bind, bnd_some, -eq_self]
  kernel_rfl
noncomputable def e_lex_escaped : List DT → Option CallRes
  | [.s t0 y0, .s t1 y1] => (castT (b := .str) y0).bind fun s_ => (castT (b := (.int .i64)) y1).bind fun at_ => some ⟨(UInt8 × Int), lex_escaped s_ at_, fun r => .tup [.s .u8 r.1, .s (.int .i64) r.2], ((0 : UInt8), (0 : Int)), true⟩
  | _ => none
noncomputable def E_lex_escaped : Env := Env.add 104 e_lex_escaped E_strings_IndexByte
theorem E_lex_escaped_ok : EnvOk X0 E_lex_escaped := by
  refine EnvOk.add E_strings_IndexByte_ok (fun args c h => ?_)
  unfold e_lex_escaped at h
  split at h
  · obtain ⟨v0, c0, h⟩ := Option.bind_eq_some_iff.1 h
    obtain ⟨rfl, rfl⟩ := castT_some c0
    obtain ⟨v1, c1, h⟩ := Option.bind_eq_some_iff.1 h
    obtain ⟨rfl, rfl⟩ := castT_some c1
    cases h
    exact ⟨fun r hr => .inl ⟨by kernel_rfl, ok_lex_escaped _ _ r hr⟩, fun hb => fun r => noSl_res (by rfl)⟩
  · cases h
def F_lex_quoted : FnD := { n := 69, rs := [4, 5, 6], labels := [(5, [0, 1, 7])] }
def lab_lex_quoted : L_lex_quoted → Nat × DSt
  | .l5 s_ at_ out => (5, [(0, .t (.s .str s_)), (1, .t (.s (.int .i64) at_)), (7, .t (.own 5 .u8 out))])
set_option maxRecDepth 100000 in
theorem ok_lex_quoted (s_ : (List UInt8)) (at_ : Int) (r : ((List UInt8) × Int × Bool)) (h : lex_quoted s_ at_ = some r) : APure X0 102 ([.s .str s_, .s (.int .i64) at_].map DT.toT) (resT ([.s .str r.1, .s (.int .i64) r.2.1, .s .bool r.2.2].map DT.toT)) := by
  refine APure_of_machine (F := F_lex_quoted) (fuel := 3000) (E := E_lex_escaped) Yok E_lex_escaped_ok mixed Tryd.func102 rfl rfl rfl (by decide) (args := [.s .str s_, .s (.int .i64) at_]) (Nat.le_of_ble_eq_true rfl) (by kernel_rfl) lab_lex_quoted st_lex_quoted (fun r => [.s .str r.1, .s (.int .i64) r.2.1, .s .bool r.2.2]) ?_ ?_ ?_ h
  · intro l; cases l
    · exact WF_list ⟨trivial, trivial, trivial, trivial⟩
  · intro l goto ret; cases l with
    | l5 s_ at_ out =>
      show _ = push (sg_lex_quoted_5 s_ at_ out) (fun l' => goto (lab_lex_quoted l').1 (lab_lex_quoted l').2) (fun r => ret [.s .str r.1, .s (.int .i64) r.2.1, .s .bool r.2.2])
      unfold sg_lex_quoted_5
      simp only [push_G, push_ite, push_bind, push_inl, push_inr, -eq_self]
      kernel_rfl
  · intro goto ret
    show _ = push (en_lex_quoted s_ at_) (fun l' => goto (lab_lex_quoted l').1 (lab_lex_quoted l').2) (fun r => ret [.s .str r.1, .s (.int .i64) r.2.1, .s .bool r.2.2])
    unfold en_lex_quoted
    simp only [push_G, push_ite, push_bind, push_inl, push_inr, -eq_self]
    kernel_rfl
noncomputable def e_lex_quoted : List DT → Option CallRes
  | [.s t0 y0, .s t1 y1] => (castT (b := .str) y0).bind fun s_ => (castT (b := (.int .i64)) y1).bind fun at_ => some ⟨((List UInt8) × Int × Bool), lex_quoted s_ at_, fun r => .tup [.s .str r.1, .s (.int .i64) r.2.1, .s .bool r.2.2], (([] : List UInt8), (0 : Int), false), true⟩
  | _ => none
noncomputable def E_lex_quoted : Env := Env.add 102 e_lex_quoted E_lex_escaped
theorem E_lex_quoted_ok : EnvOk X0 E_lex_quoted := by
  refine EnvOk.add E_lex_escaped_ok (fun args c h => ?_)
  unfold e_lex_quoted at h
  split at h
  · obtain ⟨v0, c0, h⟩ := Option.bind_eq_some_iff.1 h
    obtain ⟨rfl, rfl⟩ := castT_some c0
    obtain ⟨v1, c1, h⟩ := Option.bind_eq_some_iff.1 h
    obtain ⟨rfl, rfl⟩ := castT_some c1
    cases h
    exact ⟨fun r hr => .inl ⟨by kernel_rfl, ok_lex_quoted _ _ r hr⟩, fun hb => fun r => noSl_res (by rfl)⟩
  · cases h
def F_lex_Unquote : FnD := { n := 22, rs := [2, 3] }
set_option maxRecDepth 100000 in
theorem ok_lex_Unquote (s_ : (List UInt8)) (r : ((List UInt8) × Bool)) (h : lex_Unquote s_ = some r) : APure X0 97 ([.s .str s_].map DT.toT) (resT ([.s .str r.1, .s .bool r.2].map DT.toT)) := by
  refine APure_of_straight (F := F_lex_Unquote) (fuel := 3000) (E := E_lex_quoted) Yok E_lex_quoted_ok mixed Tryd.func97 rfl rfl rfl (by decide) (args := [.s .str s_]) (Nat.le_of_ble_eq_true rfl) (by kernel_rfl) (fun r => [.s .str r.1, .s .bool r.2]) ?_ h
  intro goto ret
  unfold lex_Unquote
  simp only [bnd_G, bnd_ite, bnd_bind, bnd_some, -eq_self]
  kernel_rfl
noncomputable def e_lex_Unquote : List DT → Option CallRes
  | [.s t0 y0] => (castT (b := .str) y0).bind fun s_ => some ⟨((List UInt8) × Bool), lex_Unquote s_, fun r => .tup [.s .str r.1, .s .bool r.2], (([] : List UInt8), false), true⟩
  | _ => none
noncomputable def E_lex_Unquote : Env := Env.add 97 e_lex_Unquote E_lex_quoted
theorem E_lex_Unquote_ok : EnvOk X0 E_lex_Unquote := by
  refine EnvOk.add E_lex_quoted_ok (fun args c h => ?_)
  unfold e_lex_Unquote at h
  split at h
  · obtain ⟨v0, c0, h⟩ := Option.bind_eq_some_iff.1 h
    obtain ⟨rfl, rfl⟩ := castT_some c0
    cases h
    exact ⟨fun r hr => .inl ⟨by kernel_rfl, ok_lex_Unquote _ r hr⟩, fun hb => fun r => noSl_res (by rfl)⟩
  · cases h
def F_fail_reader_text : FnD := { n := 71, rs := [2], Z := [0], labels := [(2, [0, 3])] }
def Y_fail_reader_text : DX := { Y0 with o2 := [46, 64] }
theorem Yok_fail_reader_text : DXOk Y_fail_reader_text X0 := ⟨Yok.tab, Yok.gl⟩
def lab_fail_reader_text : L_fail_reader_text → Nat × DSt
  | .l2 r_ r_' r_'' r_''' end_ => (2, [(0, .t (.box 79 [.s .str r_, .s (.int .i64) r_', .own 60 tyCrack r_'', .s (.int .i64) r_'''])), (3, .t (.s (.int .i64) end_))])
set_option maxRecDepth 100000 in
theorem ok_fail_reader_text (r_ : (List UInt8)) (r_' : Int) (r_'' : (List tCrack)) (r_''' : Int) (r : (Bool × (Nat × Value) × (List UInt8) × (List UInt8) × Int × (List tCrack) × Int)) (h : fail_reader_text r_ r_' r_'' r_''' = some r) : (r.1 = false → ACall X0 84 ([.box 79 [.s .str r_, .s (.int .i64) r_', .own 60 tyCrack r_'', .s (.int .i64) r_''']].map DT.toT) (resT ([.s .str r.2.2.1].map DT.toT)) (outsL 0 (.box 79 [.s .str r.2.2.2.1, .s (.int .i64) r.2.2.2.2.1, .own 60 tyCrack r.2.2.2.2.2.1, .s (.int .i64) r.2.2.2.2.2.2] : DT).toT 0 1)) ∧ (r.1 = true → PCall X0 84 ([.box 79 [.s .str r_, .s (.int .i64) r_', .own 60 tyCrack r_'', .s (.int .i64) r_''']].map DT.toT) (Value.iface r.2.1.1 r.2.1.2)) := by
  unfold fail_reader_text at h
  refine PLend_of_machine (F := F_fail_reader_text) (fuel := 3000) (E := E_lex_Unquote) (z := 0) Yok_fail_reader_text E_lex_Unquote_ok mixed Tryd.func84 rfl rfl rfl (by decide) rfl rfl (by decide) (args := [.box 79 [.s .str r_, .s (.int .i64) r_', .own 60 tyCrack r_'', .s (.int .i64) r_''']]) (Nat.le_of_ble_eq_true rfl) (Nat.le_of_ble_eq_true rfl) (by kernel_rfl) lab_fail_reader_text (st_fail_reader_text) (fun r => [.s .str r.2.2.1]) (fun r => .box 79 [.s .str r.2.2.2.1, .s (.int .i64) r.2.2.2.2.1, .own 60 tyCrack r.2.2.2.2.2.1, .s (.int .i64) r.2.2.2.2.2.2]) (fun r => r.1) (fun r => Value.iface r.2.1.1 r.2.1.2) ?_ ?_ ?_ h rfl
  · intro l; cases l
    · exact WF_list ⟨trivial, trivial, trivial⟩
  · intro pn l goto ret; cases l with
    | l2 r_ r_' r_'' r_''' end_ =>
      show _ = push (sg_fail_reader_text_2 r_ r_' r_'' r_''' end_) (fun l' => goto (lab_fail_reader_text l').1 (lab_fail_reader_text l').2) (fun r => if r.1 = true then Pan.pan (Value.iface r.2.1.1 r.2.1.2) else ret [.s .str r.2.2.1, .box 79 [.s .str r.2.2.2.1, .s (.int .i64) r.2.2.2.2.1, .own 60 tyCrack r.2.2.2.2.2.1, .s (.int .i64) r.2.2.2.2.2.2]])
      unfold sg_fail_reader_text_2
      simp only [push_G, push_ite, push_bind, push_inl, push_inr, -eq_self]
      kernel_rfl
  · intro pn goto ret
    show _ = push (en_fail_reader_text r_ r_' r_'' r_''') (fun l' => goto (lab_fail_reader_text l').1 (lab_fail_reader_text l').2) (fun r => if r.1 = true then Pan.pan (Value.iface r.2.1.1 r.2.1.2) else ret [.s .str r.2.2.1, .box 79 [.s .str r.2.2.2.1, .s (.int .i64) r.2.2.2.2.1, .own 60 tyCrack r.2.2.2.2.2.1, .s (.int .i64) r.2.2.2.2.2.2]])
    unfold en_fail_reader_text
    simp only [push_G, push_ite, push_bind, push_inl, push_inr, -eq_self]
    kernel_rfl
noncomputable def e_fail_reader_text : List DT → Option CallRes
  | [.tup [.u, .u], .box e0 [.s t1 y1, .s t2 y2, .own e3 t3 y3, .s t4 y4]] => (beqO e0 79).bind fun _ => (castT (b := .str) y1).bind fun r_ => (castT (b := (.int .i64)) y2).bind fun r_' => (castT (a := .sl 1 t3) (b := .sl 1 tyCrack) y3).bind fun r_'' => (beqO e3 60).bind fun _ => (castT (b := (.int .i64)) y4).bind fun r_''' => some ⟨(Bool × (Nat × Value) × (List UInt8) × (List UInt8) × Int × (List tCrack) × Int), fail_reader_text r_ r_' r_'' r_''', fun r => .tup [.s .bool r.1, .s .opq (Value.iface r.2.1.1 r.2.1.2), .s .str r.2.2.1, .box 79 [.s .str r.2.2.2.1, .s (.int .i64) r.2.2.2.2.1, .own 60 tyCrack r.2.2.2.2.2.1, .s (.int .i64) r.2.2.2.2.2.2]], (false, (0, undef), ([] : List UInt8), ([] : List UInt8), (0 : Int), ([] : List tCrack), (0 : Int)), false⟩
  | _ => none
noncomputable def E_fail_reader_text : Env := Env.add2 84 (e_fail_reader_text) E_lex_Unquote
theorem E_fail_reader_text_ok : EnvOk X0 (E_fail_reader_text) := by
  refine EnvOk.add2 E_lex_Unquote_ok (fun args c h => ?_)
  unfold e_fail_reader_text at h
  split at h
  · replace h := Option.bind_eq_some_iff.1 h
    obtain ⟨u0, b0, h⟩ := h
    obtain rfl := beqO_some b0
    replace h := Option.bind_eq_some_iff.1 h
    obtain ⟨v1, c1, h⟩ := h
    obtain ⟨rfl, rfl⟩ := castT_some c1
    replace h := Option.bind_eq_some_iff.1 h
    obtain ⟨v2, c2, h⟩ := h
    obtain ⟨rfl, rfl⟩ := castT_some c2
    replace h := Option.bind_eq_some_iff.1 h
    obtain ⟨v3, c3, h⟩ := h
    obtain ⟨rfl, rfl⟩ := castSl_some c3
    replace h := Option.bind_eq_some_iff.1 h
    obtain ⟨u3, b3, h⟩ := h
    obtain rfl := beqO_some b3
    replace h := Option.bind_eq_some_iff.1 h
    obtain ⟨v4, c4, h⟩ := h
    obtain ⟨rfl, rfl⟩ := castT_some c4
    cases h
    intro r hr b pv res out hwr
    cases hwr
    exact ⟨by kernel_rfl, (ok_fail_reader_text _ _ _ _ r hr).1, (ok_fail_reader_text _ _ _ _ r hr).2, noSl_res (d := .s .str r.2.2.1) (by rfl), noSl_res (d := .box 79 [.s .str r.2.2.2.1, .s (.int .i64) r.2.2.2.2.1, .own 60 tyCrack r.2.2.2.2.2.1, .s (.int .i64) r.2.2.2.2.2.2]) (by rfl), rfl⟩
  · cases h
def F_fail_reader_has : FnD := { n := 28, rs := [4], Z := [0] }
set_option maxRecDepth 100000 in
theorem ok_fail_reader_has (r_ : (List UInt8)) (r_' : Int) (r_'' : (List tCrack)) (r_''' : Int) (t_ : (List UInt8)) (r : (Bool × (List UInt8) × Int × (List tCrack) × Int)) (h : fail_reader_has r_ r_' r_'' r_''' t_ = some r) : ACall X0 85 ([.box 79 [.s .str r_, .s (.int .i64) r_', .own 60 tyCrack r_'', .s (.int .i64) r_'''], .s .str t_].map DT.toT) (resT ([.s .bool r.1].map DT.toT)) (outsL 0 (.box 79 [.s .str r.2.1, .s (.int .i64) r.2.2.1, .own 60 tyCrack r.2.2.2.1, .s (.int .i64) r.2.2.2.2] : DT).toT 0 2) := by
  unfold fail_reader_has at h
  refine ALend_of_straight (F := F_fail_reader_has) (fuel := 3000) (E := E_fail_reader_text) (z := 0) Yok E_fail_reader_text_ok mixed Tryd.func85 rfl rfl rfl (by decide) rfl rfl (by decide) (args := [.box 79 [.s .str r_, .s (.int .i64) r_', .own 60 tyCrack r_'', .s (.int .i64) r_'''], .s .str t_]) (Nat.le_of_ble_eq_true rfl) (Nat.le_of_ble_eq_true rfl) (by kernel_rfl) (fun r => [.s .bool r.1]) (fun r => .box 79 [.s .str r.2.1, .s (.int .i64) r.2.2.1, .own 60 tyCrack r.2.2.2.1, .s (.int .i64) r.2.2.2.2]) ?_ h rfl
  intro goto ret
  unfold en_fail_reader_has
  simp only [bnd_G, bnd_ite, bnd_bind, bnd_some, -eq_self]
  kernel_rfl
noncomputable def e_fail_reader_has : List DT → Option CallRes
  | [.tup [.u], .box e0 [.s t1 y1, .s t2 y2, .own e3 t3 y3, .s t4 y4], .s t5 y5] => (beqO e0 79).bind fun _ => (castT (b := .str) y1).bind fun r_ => (castT (b := (.int .i64)) y2).bind fun r_' => (castT (a := .sl 1 t3) (b := .sl 1 tyCrack) y3).bind fun r_'' => (beqO e3 60).bind fun _ => (castT (b := (.int .i64)) y4).bind fun r_''' => (castT (b := .str) y5).bind fun t_ => some ⟨(Bool × (List UInt8) × Int × (List tCrack) × Int), fail_reader_has r_ r_' r_'' r_''' t_, fun r => .tup [.s .bool r.1, .box 79 [.s .str r.2.1, .s (.int .i64) r.2.2.1, .own 60 tyCrack r.2.2.2.1, .s (.int .i64) r.2.2.2.2]], (false, ([] : List UInt8), (0 : Int), ([] : List tCrack), (0 : Int)), false⟩
  | _ => none
noncomputable def E_fail_reader_has : Env := Env.add2 85 (e_fail_reader_has) E_fail_reader_text
theorem E_fail_reader_has_ok : EnvOk X0 (E_fail_reader_has) := by
  refine EnvOk.add2 E_fail_reader_text_ok (fun args c h => ?_)
  unfold e_fail_reader_has at h
  split at h
  · replace h := Option.bind_eq_some_iff.1 h
    obtain ⟨u0, b0, h⟩ := h
    obtain rfl := beqO_some b0
    replace h := Option.bind_eq_some_iff.1 h
    obtain ⟨v1, c1, h⟩ := h
    obtain ⟨rfl, rfl⟩ := castT_some c1
    replace h := Option.bind_eq_some_iff.1 h
    obtain ⟨v2, c2, h⟩ := h
    obtain ⟨rfl, rfl⟩ := castT_some c2
    replace h := Option.bind_eq_some_iff.1 h
    obtain ⟨v3, c3, h⟩ := h
    obtain ⟨rfl, rfl⟩ := castSl_some c3
    replace h := Option.bind_eq_some_iff.1 h
    obtain ⟨u3, b3, h⟩ := h
    obtain rfl := beqO_some b3
    replace h := Option.bind_eq_some_iff.1 h
    obtain ⟨v4, c4, h⟩ := h
    obtain ⟨rfl, rfl⟩ := castT_some c4
    replace h := Option.bind_eq_some_iff.1 h
    obtain ⟨v5, c5, h⟩ := h
    obtain ⟨rfl, rfl⟩ := castT_some c5
    cases h
    intro r hr res out hwr
    cases hwr
    exact ⟨by kernel_rfl, ok_fail_reader_has _ _ _ _ _ r hr, noSl_res (d := .s .bool r.1) (by rfl), noSl_res (d := .box 79 [.s .str r.2.1, .s (.int .i64) r.2.2.1, .own 60 tyCrack r.2.2.2.1, .s (.int .i64) r.2.2.2.2]) (by rfl), rfl⟩
  · cases h
def F_fail_reader_put : FnD := { n := 26, rs := [], Z := [0] }
def Y_fail_reader_put : DX := { Y0 with o2 := [15] }
theorem Yok_fail_reader_put : DXOk Y_fail_reader_put X0 := ⟨Yok.tab, Yok.gl⟩
set_option maxRecDepth 100000 in
theorem ok_fail_reader_put (r_ : (List UInt8)) (r_' : Int) (r_'' : (List tCrack)) (r_''' : Int) (c : tCrack) (r : (Bool × (Nat × Value) × (List UInt8) × Int × (List tCrack) × Int)) (h : fail_reader_put r_ r_' r_'' r_''' c = some r) : (r.1 = false → ACall X0 86 ([.box 79 [.s .str r_, .s (.int .i64) r_', .own 60 tyCrack r_'', .s (.int .i64) r_'''], .s tyCrack c].map DT.toT) (resT ([].map DT.toT)) (outsL 0 (.box 79 [.s .str r.2.2.1, .s (.int .i64) r.2.2.2.1, .own 60 tyCrack r.2.2.2.2.1, .s (.int .i64) r.2.2.2.2.2] : DT).toT 0 2)) ∧ (r.1 = true → PCall X0 86 ([.box 79 [.s .str r_, .s (.int .i64) r_', .own 60 tyCrack r_'', .s (.int .i64) r_'''], .s tyCrack c].map DT.toT) (Value.iface r.2.1.1 r.2.1.2)) := by
  unfold fail_reader_put at h
  refine PLend_of_straight (F := F_fail_reader_put) (fuel := 3000) (E := E_fail_reader_has) (z := 0) Yok_fail_reader_put E_fail_reader_has_ok mixed Tryd.func86 rfl rfl rfl (by decide) rfl rfl (by decide) (args := [.box 79 [.s .str r_, .s (.int .i64) r_', .own 60 tyCrack r_'', .s (.int .i64) r_'''], .s tyCrack c]) (Nat.le_of_ble_eq_true rfl) (Nat.le_of_ble_eq_true rfl) (by kernel_rfl) (fun r => []) (fun r => .box 79 [.s .str r.2.2.1, .s (.int .i64) r.2.2.2.1, .own 60 tyCrack r.2.2.2.2.1, .s (.int .i64) r.2.2.2.2.2]) (fun r => r.1) (fun r => Value.iface r.2.1.1 r.2.1.2) ?_ h rfl
  intro pn goto ret
  unfold en_fail_reader_put
  simp only [bnd_G, bnd_ite, bnd_bind, bnd_some, -eq_self]
  kernel_rfl
noncomputable def e_fail_reader_put : List DT → Option CallRes
  | [.tup [.u, .u], .box e0 [.s t1 y1, .s t2 y2, .own e3 t3 y3, .s t4 y4], .s t5 y5] => (beqO e0 79).bind fun _ => (castT (b := .str) y1).bind fun r_ => (castT (b := (.int .i64)) y2).bind fun r_' => (castT (a := .sl 1 t3) (b := .sl 1 tyCrack) y3).bind fun r_'' => (beqO e3 60).bind fun _ => (castT (b := (.int .i64)) y4).bind fun r_''' => (castT (b := tyCrack) y5).bind fun c => some ⟨(Bool × (Nat × Value) × (List UInt8) × Int × (List tCrack) × Int), fail_reader_put r_ r_' r_'' r_''' c, fun r => .tup [.s .bool r.1, .s .opq (Value.iface r.2.1.1 r.2.1.2), .tup [], .box 79 [.s .str r.2.2.1, .s (.int .i64) r.2.2.2.1, .own 60 tyCrack r.2.2.2.2.1, .s (.int .i64) r.2.2.2.2.2]], (false, (0, undef), ([] : List UInt8), (0 : Int), ([] : List tCrack), (0 : Int)), false⟩
  | _ => none
noncomputable def E_fail_reader_put : Env := Env.add2 86 (e_fail_reader_put) E_fail_reader_has
theorem E_fail_reader_put_ok : EnvOk X0 (E_fail_reader_put) := by
  refine EnvOk.add2 E_fail_reader_has_ok (fun args c h => ?_)
  unfold e_fail_reader_put at h
  split at h
  · replace h := Option.bind_eq_some_iff.1 h
    obtain ⟨u0, b0, h⟩ := h
    obtain rfl := beqO_some b0
    replace h := Option.bind_eq_some_iff.1 h
    obtain ⟨v1, c1, h⟩ := h
    obtain ⟨rfl, rfl⟩ := castT_some c1
    replace h := Option.bind_eq_some_iff.1 h
    obtain ⟨v2, c2, h⟩ := h
    obtain ⟨rfl, rfl⟩ := castT_some c2
    replace h := Option.bind_eq_some_iff.1 h
    obtain ⟨v3, c3, h⟩ := h
    obtain ⟨rfl, rfl⟩ := castSl_some c3
    replace h := Option.bind_eq_some_iff.1 h
    obtain ⟨u3, b3, h⟩ := h
    obtain rfl := beqO_some b3
    replace h := Option.bind_eq_some_iff.1 h
    obtain ⟨v4, c4, h⟩ := h
    obtain ⟨rfl, rfl⟩ := castT_some c4
    replace h := Option.bind_eq_some_iff.1 h
    obtain ⟨v5, c5, h⟩ := h
    obtain ⟨rfl, rfl⟩ := castT_some c5
    cases h
    intro r hr b pv res out hwr
    cases hwr
    exact ⟨by kernel_rfl, (ok_fail_reader_put _ _ _ _ _ r hr).1, (ok_fail_reader_put _ _ _ _ _ r hr).2, noSl_res (d := .tup []) (by rfl), noSl_res (d := .box 79 [.s .str r.2.2.1, .s (.int .i64) r.2.2.2.1, .own 60 tyCrack r.2.2.2.2.1, .s (.int .i64) r.2.2.2.2.2]) (by rfl), rfl⟩
  · cases h
def F_fail_reader_fail : FnD := { n := 87, rs := [], Z := [0], labels := [(3, [0, 2, 3, 9, 10]), (32, [0, 6])] }
def Y_fail_reader_fail : DX := { Y0 with o2 := [8, 29, 35, 37, 43, 47, 54, 56, 61, 64, 68, 74, 77, 83, 86] }
theorem Yok_fail_reader_fail : DXOk Y_fail_reader_fail X0 := ⟨Yok.tab, Yok.gl⟩
def lab_fail_reader_fail : L_fail_reader_fail → Nat × DSt
  | .l3 r_ r_' r_'' r_''' w kind x9 x10 => (3, [(0, .t (.box 79 [.s .str r_, .s (.int .i64) r_', .own 60 tyCrack r_'', .s (.int .i64) r_'''])), (2, .t (.s .str w)), (3, .t (.s (.int .i64) kind)), (9, .t (.s (arrTy .str 12) x9)), (10, .t (.s (.int .i64) x10))])
  | .l32 r_ r_' r_'' r_''' c c' c'' => (32, [(0, .t (.box 79 [.s .str r_, .s (.int .i64) r_', .own 60 tyCrack r_'', .s (.int .i64) r_'''])), (6, .t (.box 60 [.s (.int .i64) c, .s (.int .i64) c', .s .str c'']))])
noncomputable def e_fail_reader_fail_n (fu_ : Nat) : List DT → Option CallRes
  | [.tup [.u, .u], .box e0 [.s t1 y1, .s t2 y2, .own e3 t3 y3, .s t4 y4]] => (beqO e0 79).bind fun _ => (castT (b := .str) y1).bind fun r_ => (castT (b := (.int .i64)) y2).bind fun r_' => (castT (a := .sl 1 t3) (b := .sl 1 tyCrack) y3).bind fun r_'' => (beqO e3 60).bind fun _ => (castT (b := (.int .i64)) y4).bind fun r_''' => some ⟨(Bool × (Nat × Value) × (List UInt8) × Int × (List tCrack) × Int), fail_reader_fail_n fu_ r_ r_' r_'' r_''', fun r => .tup [.s .bool r.1, .s .opq (Value.iface r.2.1.1 r.2.1.2), .tup [], .box 79 [.s .str r.2.2.1, .s (.int .i64) r.2.2.2.1, .own 60 tyCrack r.2.2.2.2.1, .s (.int .i64) r.2.2.2.2.2]], (false, (0, undef), ([] : List UInt8), (0 : Int), ([] : List tCrack), (0 : Int)), false⟩
  | _ => none
noncomputable def E_fail_reader_fail_n (fu_ : Nat) : Env := Env.add2 67 (e_fail_reader_fail_n fu_) E_fail_reader_put
theorem E_fail_reader_fail_n_ok (fu_ : Nat) (ih : ∀ (r_ : (List UInt8)) (r_' : Int) (r_'' : (List tCrack)) (r_''' : Int) (r : (Bool × (Nat × Value) × (List UInt8) × Int × (List tCrack) × Int)), fail_reader_fail_n fu_ r_ r_' r_'' r_''' = some r → (r.1 = false → ACall X0 67 ([.box 79 [.s .str r_, .s (.int .i64) r_', .own 60 tyCrack r_'', .s (.int .i64) r_''']].map DT.toT) (resT ([].map DT.toT)) (outsL 0 (.box 79 [.s .str r.2.2.1, .s (.int .i64) r.2.2.2.1, .own 60 tyCrack r.2.2.2.2.1, .s (.int .i64) r.2.2.2.2.2] : DT).toT 0 1)) ∧ (r.1 = true → PCall X0 67 ([.box 79 [.s .str r_, .s (.int .i64) r_', .own 60 tyCrack r_'', .s (.int .i64) r_''']].map DT.toT) (Value.iface r.2.1.1 r.2.1.2))) : EnvOk X0 (E_fail_reader_fail_n fu_) := by
  refine EnvOk.add2 E_fail_reader_put_ok (fun args c h => ?_)
  unfold e_fail_reader_fail_n at h
  split at h
  · replace h := Option.bind_eq_some_iff.1 h
    obtain ⟨u0, b0, h⟩ := h
    obtain rfl := beqO_some b0
    replace h := Option.bind_eq_some_iff.1 h
    obtain ⟨v1, c1, h⟩ := h
    obtain ⟨rfl, rfl⟩ := castT_some c1
    replace h := Option.bind_eq_some_iff.1 h
    obtain ⟨v2, c2, h⟩ := h
    obtain ⟨rfl, rfl⟩ := castT_some c2
    replace h := Option.bind_eq_some_iff.1 h
    obtain ⟨v3, c3, h⟩ := h
    obtain ⟨rfl, rfl⟩ := castSl_some c3
    replace h := Option.bind_eq_some_iff.1 h
    obtain ⟨u3, b3, h⟩ := h
    obtain rfl := beqO_some b3
    replace h := Option.bind_eq_some_iff.1 h
    obtain ⟨v4, c4, h⟩ := h
    obtain ⟨rfl, rfl⟩ := castT_some c4
    cases h
    intro r hr b pv res out hwr
    cases hwr
    exact ⟨by kernel_rfl, (ih _ _ _ _ r hr).1, (ih _ _ _ _ r hr).2, noSl_res (d := .tup []) (by rfl), noSl_res (d := .box 79 [.s .str r.2.2.1, .s (.int .i64) r.2.2.2.1, .own 60 tyCrack r.2.2.2.2.1, .s (.int .i64) r.2.2.2.2.2]) (by rfl), rfl⟩
  · cases h
set_option maxRecDepth 100000 in
theorem ok_fail_reader_fail_n : ∀ (fu_ : Nat) (r_ : (List UInt8)) (r_' : Int) (r_'' : (List tCrack)) (r_''' : Int) (r : (Bool × (Nat × Value) × (List UInt8) × Int × (List tCrack) × Int)) (h : fail_reader_fail_n fu_ r_ r_' r_'' r_''' = some r), (r.1 = false → ACall X0 67 ([.box 79 [.s .str r_, .s (.int .i64) r_', .own 60 tyCrack r_'', .s (.int .i64) r_''']].map DT.toT) (resT ([].map DT.toT)) (outsL 0 (.box 79 [.s .str r.2.2.1, .s (.int .i64) r.2.2.2.1, .own 60 tyCrack r.2.2.2.2.1, .s (.int .i64) r.2.2.2.2.2] : DT).toT 0 1)) ∧ (r.1 = true → PCall X0 67 ([.box 79 [.s .str r_, .s (.int .i64) r_', .own 60 tyCrack r_'', .s (.int .i64) r_''']].map DT.toT) (Value.iface r.2.1.1 r.2.1.2))
  | 0, r_, r_', r_'', r_''', r, h => by unfold fail_reader_fail_n at h; cases h
  | fu_ + 1, r_, r_', r_'', r_''', r, h => by
    unfold fail_reader_fail_n at h
    refine PLend_of_machine (F := F_fail_reader_fail) (fuel := 3000) (E := (E_fail_reader_fail_n fu_)) (z := 0) Yok_fail_reader_fail (E_fail_reader_fail_n_ok fu_ (ok_fail_reader_fail_n fu_)) mixed Tryd.func67 rfl rfl rfl (by decide) rfl rfl (by decide) (args := [.box 79 [.s .str r_, .s (.int .i64) r_', .own 60 tyCrack r_'', .s (.int .i64) r_''']]) (Nat.le_of_ble_eq_true rfl) (Nat.le_of_ble_eq_true rfl) (by kernel_rfl) lab_fail_reader_fail (st_fail_reader_fail (fail_reader_fail_n fu_)) (fun r => []) (fun r => .box 79 [.s .str r.2.2.1, .s (.int .i64) r.2.2.2.1, .own 60 tyCrack r.2.2.2.2.1, .s (.int .i64) r.2.2.2.2.2]) (fun r => r.1) (fun r => Value.iface r.2.1.1 r.2.1.2) ?_ ?_ ?_ h rfl
    · intro l; cases l
      · exact WF_list ⟨trivial, trivial, trivial, trivial, trivial, trivial⟩
      · exact WF_list ⟨trivial, trivial, trivial⟩
    · intro pn l goto ret; cases l with
      | l3 r_ r_' r_'' r_''' w kind x9 x10 =>
        show _ = push (sg_fail_reader_fail_3 (fail_reader_fail_n fu_) r_ r_' r_'' r_''' w kind x9 x10) (fun l' => goto (lab_fail_reader_fail l').1 (lab_fail_reader_fail l').2) (fun r => if r.1 = true then Pan.pan (Value.iface r.2.1.1 r.2.1.2) else ret [.box 79 [.s .str r.2.2.1, .s (.int .i64) r.2.2.2.1, .own 60 tyCrack r.2.2.2.2.1, .s (.int .i64) r.2.2.2.2.2]])
        unfold sg_fail_reader_fail_3
        simp only [ax_fail_reader_fail_3_1, ax_fail_reader_fail_3_3, ax_fail_reader_fail_3_4, ax_fail_reader_fail_3_5, ax_fail_reader_fail_3_2, push_G, push_ite, push_bind, push_inl, push_inr, -eq_self]
        kernel_rfl
      | l32 r_ r_' r_'' r_''' c c' c'' =>
        show _ = push (sg_fail_reader_fail_32 (fail_reader_fail_n fu_) r_ r_' r_'' r_''' c c' c'') (fun l' => goto (lab_fail_reader_fail l').1 (lab_fail_reader_fail l').2) (fun r => if r.1 = true then Pan.pan (Value.iface r.2.1.1 r.2.1.2) else ret [.box 79 [.s .str r.2.2.1, .s (.int .i64) r.2.2.2.1, .own 60 tyCrack r.2.2.2.2.1, .s (.int .i64) r.2.2.2.2.2]])
        unfold sg_fail_reader_fail_32
        simp only [push_G, push_ite, push_bind, push_inl, push_inr, -eq_self]
        kernel_rfl
    · intro pn goto ret
      show _ = push (en_fail_reader_fail (fail_reader_fail_n fu_) r_ r_' r_'' r_''') (fun l' => goto (lab_fail_reader_fail l').1 (lab_fail_reader_fail l').2) (fun r => if r.1 = true then Pan.pan (Value.iface r.2.1.1 r.2.1.2) else ret [.box 79 [.s .str r.2.2.1, .s (.int .i64) r.2.2.2.1, .own 60 tyCrack r.2.2.2.2.1, .s (.int .i64) r.2.2.2.2.2]])
      unfold en_fail_reader_fail
      simp only [push_G, push_ite, push_bind, push_inl, push_inr, -eq_self]
      kernel_rfl
theorem ok_fail_reader_fail (r_ : (List UInt8)) (r_' : Int) (r_'' : (List tCrack)) (r_''' : Int) (r : (Bool × (Nat × Value) × (List UInt8) × Int × (List tCrack) × Int)) (h : fail_reader_fail r_ r_' r_'' r_''' = some r) : (r.1 = false → ACall X0 67 ([.box 79 [.s .str r_, .s (.int .i64) r_', .own 60 tyCrack r_'', .s (.int .i64) r_''']].map DT.toT) (resT ([].map DT.toT)) (outsL 0 (.box 79 [.s .str r.2.2.1, .s (.int .i64) r.2.2.2.1, .own 60 tyCrack r.2.2.2.2.1, .s (.int .i64) r.2.2.2.2.2] : DT).toT 0 1)) ∧ (r.1 = true → PCall X0 67 ([.box 79 [.s .str r_, .s (.int .i64) r_', .own 60 tyCrack r_'', .s (.int .i64) r_''']].map DT.toT) (Value.iface r.2.1.1 r.2.1.2)) := ok_fail_reader_fail_n 66000 r_ r_' r_'' r_''' r h
noncomputable def e_fail_reader_fail : List DT → Option CallRes
  | [.tup [.u, .u], .box e0 [.s t1 y1, .s t2 y2, .own e3 t3 y3, .s t4 y4]] => (beqO e0 79).bind fun _ => (castT (b := .str) y1).bind fun r_ => (castT (b := (.int .i64)) y2).bind fun r_' => (castT (a := .sl 1 t3) (b := .sl 1 tyCrack) y3).bind fun r_'' => (beqO e3 60).bind fun _ => (castT (b := (.int .i64)) y4).bind fun r_''' => some ⟨(Bool × (Nat × Value) × (List UInt8) × Int × (List tCrack) × Int), fail_reader_fail r_ r_' r_'' r_''', fun r => .tup [.s .bool r.1, .s .opq (Value.iface r.2.1.1 r.2.1.2), .tup [], .box 79 [.s .str r.2.2.1, .s (.int .i64) r.2.2.2.1, .own 60 tyCrack r.2.2.2.2.1, .s (.int .i64) r.2.2.2.2.2]], (false, (0, undef), ([] : List UInt8), (0 : Int), ([] : List tCrack), (0 : Int)), false⟩
  | _ => none
noncomputable def E_fail_reader_fail : Env := Env.add2 67 (e_fail_reader_fail) E_fail_reader_put
theorem E_fail_reader_fail_ok : EnvOk X0 (E_fail_reader_fail) := by
  refine EnvOk.add2 E_fail_reader_put_ok (fun args c h => ?_)
  unfold e_fail_reader_fail at h
  split at h
  · replace h := Option.bind_eq_some_iff.1 h
    obtain ⟨u0, b0, h⟩ := h
    obtain rfl := beqO_some b0
    replace h := Option.bind_eq_some_iff.1 h
    obtain ⟨v1, c1, h⟩ := h
    obtain ⟨rfl, rfl⟩ := castT_some c1
    replace h := Option.bind_eq_some_iff.1 h
    obtain ⟨v2, c2, h⟩ := h
    obtain ⟨rfl, rfl⟩ := castT_some c2
    replace h := Option.bind_eq_some_iff.1 h
    obtain ⟨v3, c3, h⟩ := h
    obtain ⟨rfl, rfl⟩ := castSl_some c3
    replace h := Option.bind_eq_some_iff.1 h
    obtain ⟨u3, b3, h⟩ := h
    obtain rfl := beqO_some b3
    replace h := Option.bind_eq_some_iff.1 h
    obtain ⟨v4, c4, h⟩ := h
    obtain ⟨rfl, rfl⟩ := castT_some c4
    cases h
    intro r hr b pv res out hwr
    cases hwr
    exact ⟨by kernel_rfl, (ok_fail_reader_fail _ _ _ _ r hr).1, (ok_fail_reader_fail _ _ _ _ r hr).2, noSl_res (d := .tup []) (by rfl), noSl_res (d := .box 79 [.s .str r.2.2.1, .s (.int .i64) r.2.2.2.1, .own 60 tyCrack r.2.2.2.2.1, .s (.int .i64) r.2.2.2.2.2]) (by rfl), rfl⟩
  · cases h
end Go.Eng
