/- A part of the proof: La2. -/
import Derived.Test.YtnkkbcofijcpbaaDoorLa1
import Derived.Test.YtnkkbcofijcpbaaDoorPrs
namespace Go.Eng
open Go.Proofs Go.RowKit
set_option linter.unusedVariables false
set_option linter.unusedSimpArgs false
set_option maxRecDepth 8000
noncomputable def e_fail_Parse : List DT → Option CallRes
  | [.s t0 y0] => (castT (b := .str) y0).bind fun s_ => some ⟨((List tCrack) × Int), fail_Parse s_, fun r => .tup [.s (.sl 3 tyCrack) r.1, .s (.int .i64) r.2], (([] : List tCrack), (0 : Int)), false⟩
  | _ => none
noncomputable def E_fail_Parse : Env := Env.add 42 e_fail_Parse E_fail_reader_fail
theorem E_fail_Parse_ok : EnvOk X0 E_fail_Parse := by
  refine EnvOk.add E_fail_reader_fail_ok (fun args c h => ?_)
  unfold e_fail_Parse at h
  split at h
  · obtain ⟨v0, c0, h⟩ := Option.bind_eq_some_iff.1 h
    obtain ⟨rfl, rfl⟩ := castT_some c0
    cases h
    exact ⟨fun r hr => .inl ⟨by kernel_rfl, ok_fail_Parse _ r hr⟩, fun hb => by cases hb⟩
  · cases h
def F_ref03_word : FnD := { n := 49, rs := [4, 5], labels := [(2, [0, 1, 6])] }
def lab_ref03_word : L_ref03_word → Nat × DSt
  | .l2 s_ at_ end_ => (2, [(0, .t (.s .str s_)), (1, .t (.s (.int .i64) at_)), (6, .t (.s (.int .i64) end_))])
set_option maxRecDepth 100000 in
theorem ok_ref03_word (s_ : (List UInt8)) (at_ : Int) (r : ((List UInt8) × Int)) (h : ref03_word s_ at_ = some r) : APure X0 87 ([.s .str s_, .s (.int .i64) at_].map DT.toT) (resT ([.s .str r.1, .s (.int .i64) r.2].map DT.toT)) := by
  refine APure_of_machine (F := F_ref03_word) (fuel := 3000) (E := E_fail_Parse) Yok E_fail_Parse_ok mixed Tryd.func87 rfl rfl rfl (by decide) (args := [.s .str s_, .s (.int .i64) at_]) (Nat.le_of_ble_eq_true rfl) (by kernel_rfl) lab_ref03_word st_ref03_word (fun r => [.s .str r.1, .s (.int .i64) r.2]) ?_ ?_ ?_ h
  · intro l; cases l
    · exact WF_list ⟨trivial, trivial, trivial, trivial⟩
  · intro l goto ret; cases l with
    | l2 s_ at_ end_ =>
      show _ = push (sg_ref03_word_2 s_ at_ end_) (fun l' => goto (lab_ref03_word l').1 (lab_ref03_word l').2) (fun r => ret [.s .str r.1, .s (.int .i64) r.2])
      unfold sg_ref03_word_2
      simp only [push_G, push_ite, push_bind, push_inl, push_inr, -eq_self]
      kernel_rfl
  · intro goto ret
    show _ = push (en_ref03_word s_ at_) (fun l' => goto (lab_ref03_word l').1 (lab_ref03_word l').2) (fun r => ret [.s .str r.1, .s (.int .i64) r.2])
    unfold en_ref03_word
    simp only [push_G, push_ite, push_bind, push_inl, push_inr, -eq_self]
    kernel_rfl
noncomputable def e_ref03_word : List DT → Option CallRes
  | [.s t0 y0, .s t1 y1] => (castT (b := .str) y0).bind fun s_ => (castT (b := (.int .i64)) y1).bind fun at_ => some ⟨((List UInt8) × Int), ref03_word s_ at_, fun r => .tup [.s .str r.1, .s (.int .i64) r.2], (([] : List UInt8), (0 : Int)), true⟩
  | _ => none
noncomputable def E_ref03_word : Env := Env.add 87 e_ref03_word E_fail_Parse
theorem E_ref03_word_ok : EnvOk X0 E_ref03_word := by
  refine EnvOk.add E_fail_Parse_ok (fun args c h => ?_)
  unfold e_ref03_word at h
  split at h
  · obtain ⟨v0, c0, h⟩ := Option.bind_eq_some_iff.1 h
    obtain ⟨rfl, rfl⟩ := castT_some c0
    obtain ⟨v1, c1, h⟩ := Option.bind_eq_some_iff.1 h
    obtain ⟨rfl, rfl⟩ := castT_some c1
    cases h
    exact ⟨fun r hr => .inl ⟨by kernel_rfl, ok_ref03_word _ _ r hr⟩, fun hb => fun r => noSl_res (by rfl)⟩
  · cases h
def F_ref03_begin : FnD := { n := 25, rs := [6] }
set_option maxRecDepth 100000 in
theorem ok_ref03_begin (s_ : (List UInt8)) (at_ : Int) (w : (List UInt8)) (r : Bool) (h : ref03_begin s_ at_ w = some r) : APure X0 90 ([.s .str s_, .s (.int .i64) at_, .s .str w].map DT.toT) (resT ([.s .bool r].map DT.toT)) := by
  refine APure_of_straight (F := F_ref03_begin) (fuel := 3000) (E := E_ref03_word) Yok E_ref03_word_ok mixed Tryd.func90 rfl rfl rfl (by decide) (args := [.s .str s_, .s (.int .i64) at_, .s .str w]) (Nat.le_of_ble_eq_true rfl) (by kernel_rfl) (fun r => [.s .bool r]) ?_ h
  intro goto ret
  unfold ref03_begin
  simp only [bnd_G, bnd_ite, bnd_bind, bnd_some, -eq_self]
  kernel_rfl
noncomputable def e_ref03_begin : List DT → Option CallRes
  | [.s t0 y0, .s t1 y1, .s t2 y2] => (castT (b := .str) y0).bind fun s_ => (castT (b := (.int .i64)) y1).bind fun at_ => (castT (b := .str) y2).bind fun w => some ⟨Bool, ref03_begin s_ at_ w, fun r => .s .bool r, false, true⟩
  | _ => none
noncomputable def E_ref03_begin : Env := Env.add 90 e_ref03_begin E_ref03_word
theorem E_ref03_begin_ok : EnvOk X0 E_ref03_begin := by
  refine EnvOk.add E_ref03_word_ok (fun args c h => ?_)
  unfold e_ref03_begin at h
  split at h
  · obtain ⟨v0, c0, h⟩ := Option.bind_eq_some_iff.1 h
    obtain ⟨rfl, rfl⟩ := castT_some c0
    obtain ⟨v1, c1, h⟩ := Option.bind_eq_some_iff.1 h
    obtain ⟨rfl, rfl⟩ := castT_some c1
    obtain ⟨v2, c2, h⟩ := Option.bind_eq_some_iff.1 h
    obtain ⟨rfl, rfl⟩ := castT_some c2
    cases h
    exact ⟨fun r hr => .inl ⟨by kernel_rfl, ok_ref03_begin _ _ _ r hr⟩, fun hb => fun r => noSl_res (by rfl)⟩
  · cases h
def F_ref03_joined : FnD := { n := 56, rs := [6, 7, 8], labels := [(6, [0, 1, 2, 9, 10])] }
def lab_ref03_joined : L_ref03_joined → Nat × DSt
  | .l6 s_ at_ deep out n => (6, [(0, .t (.s .str s_)), (1, .t (.s (.int .i64) at_)), (2, .t (.s (.int .i64) deep)), (9, .t (.own 60 tyCrack out)), (10, .t (.s (.int .i64) n))])
noncomputable def e_ref03_joined_rc (rc : (List UInt8) → Int → Int → Option ((List tCrack) × Int × Bool)) : List DT → Option CallRes
  | [.s t0 y0, .s t1 y1, .s t2 y2] => (castT (b := .str) y0).bind fun s_ => (castT (b := (.int .i64)) y1).bind fun at_ => (castT (b := (.int .i64)) y2).bind fun deep => some ⟨((List tCrack) × Int × Bool), rc s_ at_ deep, fun r => .tup [.own 60 tyCrack r.1, .s (.int .i64) r.2.1, .s .bool r.2.2], (([] : List tCrack), (0 : Int), false), true⟩
  | _ => none
theorem he_ref03_joined_rc (rc : (List UInt8) → Int → Int → Option ((List tCrack) × Int × Bool)) (ih : ∀ (s_ : (List UInt8)) (at_ : Int) (deep : Int) (r : ((List tCrack) × Int × Bool)), rc s_ at_ deep = some r → APure X0 69 ([.s .str s_, .s (.int .i64) at_, .s (.int .i64) deep].map DT.toT) (resT ([.own 60 tyCrack r.1, .s (.int .i64) r.2.1, .s .bool r.2.2].map DT.toT))) : ∀ (args : List DT) (c : CallRes), e_ref03_joined_rc rc args = some c → CallOk X0 69 args c := by
  intro args c h
  unfold e_ref03_joined_rc at h
  split at h
  · replace h := Option.bind_eq_some_iff.1 h
    obtain ⟨v0, c0, h⟩ := h
    obtain ⟨rfl, rfl⟩ := castT_some c0
    replace h := Option.bind_eq_some_iff.1 h
    obtain ⟨v1, c1, h⟩ := h
    obtain ⟨rfl, rfl⟩ := castT_some c1
    replace h := Option.bind_eq_some_iff.1 h
    obtain ⟨v2, c2, h⟩ := h
    obtain ⟨rfl, rfl⟩ := castT_some c2
    cases h
    exact ⟨fun r hr => .inl ⟨by kernel_rfl, ih _ _ _ r hr⟩, fun hb => fun r => noSl_res (by rfl)⟩
  · cases h
set_option maxRecDepth 100000 in
theorem ok_ref03_joined (rc : (List UInt8) → Int → Int → Option ((List tCrack) × Int × Bool)) (ih : ∀ (s_ : (List UInt8)) (at_ : Int) (deep : Int) (r : ((List tCrack) × Int × Bool)), rc s_ at_ deep = some r → APure X0 69 ([.s .str s_, .s (.int .i64) at_, .s (.int .i64) deep].map DT.toT) (resT ([.own 60 tyCrack r.1, .s (.int .i64) r.2.1, .s .bool r.2.2].map DT.toT))) (s_ : (List UInt8)) (at_ : Int) (deep : Int) (r : ((List tCrack) × Int × Bool)) (h : ref03_joined rc s_ at_ deep = some r) : APure X0 88 ([.s .str s_, .s (.int .i64) at_, .s (.int .i64) deep].map DT.toT) (resT ([.own 60 tyCrack r.1, .s (.int .i64) r.2.1, .s .bool r.2.2].map DT.toT)) := by
  unfold ref03_joined at h
  refine APure_of_machine (F := F_ref03_joined) (fuel := 3000) (E := (Env.add 69 (e_ref03_joined_rc rc) E_ref03_begin)) Yok (EnvOk.add E_ref03_begin_ok (he_ref03_joined_rc rc ih)) mixed Tryd.func88 rfl rfl rfl (by decide) (args := [.s .str s_, .s (.int .i64) at_, .s (.int .i64) deep]) (Nat.le_of_ble_eq_true rfl) (by kernel_rfl) lab_ref03_joined (st_ref03_joined rc) (fun r => [.own 60 tyCrack r.1, .s (.int .i64) r.2.1, .s .bool r.2.2]) ?_ ?_ ?_ h
  · intro l; cases l
    · exact WF_list ⟨trivial, trivial, trivial, trivial, trivial, trivial⟩
  · intro l goto ret; cases l with
    | l6 s_ at_ deep out n =>
      show _ = push (sg_ref03_joined_6 rc s_ at_ deep out n) (fun l' => goto (lab_ref03_joined l').1 (lab_ref03_joined l').2) (fun r => ret [.own 60 tyCrack r.1, .s (.int .i64) r.2.1, .s .bool r.2.2])
      unfold sg_ref03_joined_6
      simp only [push_G, push_ite, push_bind, push_inl, push_inr, -eq_self]
      kernel_rfl
  · intro goto ret
    show _ = push (en_ref03_joined rc s_ at_ deep) (fun l' => goto (lab_ref03_joined l').1 (lab_ref03_joined l').2) (fun r => ret [.own 60 tyCrack r.1, .s (.int .i64) r.2.1, .s .bool r.2.2])
    unfold en_ref03_joined
    simp only [push_G, push_ite, push_bind, push_inl, push_inr, -eq_self]
    kernel_rfl
noncomputable def e_ref03_joined (rc : (List UInt8) → Int → Int → Option ((List tCrack) × Int × Bool)) : List DT → Option CallRes
  | [.s t0 y0, .s t1 y1, .s t2 y2] => (castT (b := .str) y0).bind fun s_ => (castT (b := (.int .i64)) y1).bind fun at_ => (castT (b := (.int .i64)) y2).bind fun deep => some ⟨((List tCrack) × Int × Bool), ref03_joined rc s_ at_ deep, fun r => .tup [.own 60 tyCrack r.1, .s (.int .i64) r.2.1, .s .bool r.2.2], (([] : List tCrack), (0 : Int), false), true⟩
  | _ => none
theorem he_ref03_joined (rc : (List UInt8) → Int → Int → Option ((List tCrack) × Int × Bool)) (ih : ∀ (s_ : (List UInt8)) (at_ : Int) (deep : Int) (r : ((List tCrack) × Int × Bool)), rc s_ at_ deep = some r → APure X0 69 ([.s .str s_, .s (.int .i64) at_, .s (.int .i64) deep].map DT.toT) (resT ([.own 60 tyCrack r.1, .s (.int .i64) r.2.1, .s .bool r.2.2].map DT.toT))) : ∀ (args : List DT) (c : CallRes), e_ref03_joined rc args = some c → CallOk X0 88 args c := by
  intro args c h
  unfold e_ref03_joined at h
  split at h
  · replace h := Option.bind_eq_some_iff.1 h
    obtain ⟨v0, c0, h⟩ := h
    obtain ⟨rfl, rfl⟩ := castT_some c0
    replace h := Option.bind_eq_some_iff.1 h
    obtain ⟨v1, c1, h⟩ := h
    obtain ⟨rfl, rfl⟩ := castT_some c1
    replace h := Option.bind_eq_some_iff.1 h
    obtain ⟨v2, c2, h⟩ := h
    obtain ⟨rfl, rfl⟩ := castT_some c2
    cases h
    exact ⟨fun r hr => .inl ⟨by kernel_rfl, ok_ref03_joined rc ih _ _ _ r hr⟩, fun hb => fun r => noSl_res (by rfl)⟩
  · cases h
def F_ref01_hex : FnD := { n := 22, rs := [2] }
set_option maxRecDepth 100000 in
theorem ok_ref01_hex (c : UInt8) (r : Int) (h : ref01_hex c = some r) : APure X0 105 ([.s .u8 c].map DT.toT) (resT ([.s (.int .i64) r].map DT.toT)) := by
  refine APure_of_straight (F := F_ref01_hex) (fuel := 3000) (E := E_ref03_begin) Yok E_ref03_begin_ok mixed Tryd.func105 rfl rfl rfl (by decide) (args := [.s .u8 c]) (Nat.le_of_ble_eq_true rfl) (by kernel_rfl) (fun r => [.s (.int .i64) r]) ?_ h
  intro goto ret
  unfold ref01_hex
  simp only [bnd_G, bnd_ite, bnd_bind, bnd_some, -eq_self]
  kernel_rfl
noncomputable def e_ref01_hex : List DT → Option CallRes
  | [.s t0 y0] => (castT (b := .u8) y0).bind fun c => some ⟨Int, ref01_hex c, fun r => .s (.int .i64) r, (0 : Int), true⟩
  | _ => none
noncomputable def E_ref01_hex : Env := Env.add 105 e_ref01_hex E_ref03_begin
theorem E_ref01_hex_ok : EnvOk X0 E_ref01_hex := by
  refine EnvOk.add E_ref03_begin_ok (fun args c h => ?_)
  unfold e_ref01_hex at h
  split at h
  · obtain ⟨v0, c0, h⟩ := Option.bind_eq_some_iff.1 h
    obtain ⟨rfl, rfl⟩ := castT_some c0
    cases h
    exact ⟨fun r hr => .inl ⟨by kernel_rfl, ok_ref01_hex _ r hr⟩, fun hb => fun r => noSl_res (by rfl)⟩
  · cases h
def F_ref01_quoted : FnD := { n := 158, rs := [4, 5, 6], labels := [(5, [0, 7, 8])] }
def lab_ref01_quoted : L_ref01_quoted → Nat × DSt
  | .l5 s_ out i => (5, [(0, .t (.s .str s_)), (7, .t (.own 5 .u8 out)), (8, .t (.s (.int .i64) i))])
set_option maxRecDepth 100000 in
theorem ok_ref01_quoted (s_ : (List UInt8)) (at_ : Int) (r : (Int × (List UInt8) × Bool)) (h : ref01_quoted s_ at_ = some r) : APure X0 103 ([.s .str s_, .s (.int .i64) at_].map DT.toT) (resT ([.s (.int .i64) r.1, .s .str r.2.1, .s .bool r.2.2].map DT.toT)) := by
  refine APure_of_machine (F := F_ref01_quoted) (fuel := 3000) (E := E_ref01_hex) Yok E_ref01_hex_ok mixed Tryd.func103 rfl rfl rfl (by decide) (args := [.s .str s_, .s (.int .i64) at_]) (Nat.le_of_ble_eq_true rfl) (by kernel_rfl) lab_ref01_quoted st_ref01_quoted (fun r => [.s (.int .i64) r.1, .s .str r.2.1, .s .bool r.2.2]) ?_ ?_ ?_ h
  · intro l; cases l
    · exact WF_list ⟨trivial, trivial, trivial, trivial⟩
  · intro l goto ret; cases l with
    | l5 s_ out i =>
      show _ = push (sg_ref01_quoted_5 s_ out i) (fun l' => goto (lab_ref01_quoted l').1 (lab_ref01_quoted l').2) (fun r => ret [.s (.int .i64) r.1, .s .str r.2.1, .s .bool r.2.2])
      unfold sg_ref01_quoted_5
      simp only [push_G, push_ite, push_bind, push_inl, push_inr, -eq_self]
      kernel_rfl
  · intro goto ret
    show _ = push (en_ref01_quoted s_ at_) (fun l' => goto (lab_ref01_quoted l').1 (lab_ref01_quoted l').2) (fun r => ret [.s (.int .i64) r.1, .s .str r.2.1, .s .bool r.2.2])
    unfold en_ref01_quoted
    simp only [push_G, push_ite, push_bind, push_inl, push_inr, -eq_self]
    kernel_rfl
noncomputable def e_ref01_quoted : List DT → Option CallRes
  | [.s t0 y0, .s t1 y1] => (castT (b := .str) y0).bind fun s_ => (castT (b := (.int .i64)) y1).bind fun at_ => some ⟨(Int × (List UInt8) × Bool), ref01_quoted s_ at_, fun r => .tup [.s (.int .i64) r.1, .s .str r.2.1, .s .bool r.2.2], ((0 : Int), ([] : List UInt8), false), true⟩
  | _ => none
noncomputable def E_ref01_quoted : Env := Env.add 103 e_ref01_quoted E_ref01_hex
theorem E_ref01_quoted_ok : EnvOk X0 E_ref01_quoted := by
  refine EnvOk.add E_ref01_hex_ok (fun args c h => ?_)
  unfold e_ref01_quoted at h
  split at h
  · obtain ⟨v0, c0, h⟩ := Option.bind_eq_some_iff.1 h
    obtain ⟨rfl, rfl⟩ := castT_some c0
    obtain ⟨v1, c1, h⟩ := Option.bind_eq_some_iff.1 h
    obtain ⟨rfl, rfl⟩ := castT_some c1
    cases h
    exact ⟨fun r hr => .inl ⟨by kernel_rfl, ok_ref01_quoted _ _ r hr⟩, fun hb => fun r => noSl_res (by rfl)⟩
  · cases h
def F_ref01_Unquote : FnD := { n := 22, rs := [2, 3] }
set_option maxRecDepth 100000 in
theorem ok_ref01_Unquote (s_ : (List UInt8)) (r : ((List UInt8) × Bool)) (h : ref01_Unquote s_ = some r) : APure X0 98 ([.s .str s_].map DT.toT) (resT ([.s .str r.1, .s .bool r.2].map DT.toT)) := by
  refine APure_of_straight (F := F_ref01_Unquote) (fuel := 3000) (E := E_ref01_quoted) Yok E_ref01_quoted_ok mixed Tryd.func98 rfl rfl rfl (by decide) (args := [.s .str s_]) (Nat.le_of_ble_eq_true rfl) (by kernel_rfl) (fun r => [.s .str r.1, .s .bool r.2]) ?_ h
  intro goto ret
  unfold ref01_Unquote
  simp only [bnd_G, bnd_ite, bnd_bind, bnd_some, -eq_self]
  kernel_rfl
noncomputable def e_ref01_Unquote : List DT → Option CallRes
  | [.s t0 y0] => (castT (b := .str) y0).bind fun s_ => some ⟨((List UInt8) × Bool), ref01_Unquote s_, fun r => .tup [.s .str r.1, .s .bool r.2], (([] : List UInt8), false), true⟩
  | _ => none
noncomputable def E_ref01_Unquote : Env := Env.add 98 e_ref01_Unquote E_ref01_quoted
theorem E_ref01_Unquote_ok : EnvOk X0 E_ref01_Unquote := by
  refine EnvOk.add E_ref01_quoted_ok (fun args c h => ?_)
  unfold e_ref01_Unquote at h
  split at h
  · obtain ⟨v0, c0, h⟩ := Option.bind_eq_some_iff.1 h
    obtain ⟨rfl, rfl⟩ := castT_some c0
    cases h
    exact ⟨fun r hr => .inl ⟨by kernel_rfl, ok_ref01_Unquote _ r hr⟩, fun hb => fun r => noSl_res (by rfl)⟩
  · cases h
def F_ref03_text : FnD := { n := 57, rs := [4, 5, 6], labels := [(4, [0, 1, 7])] }
def lab_ref03_text : L_ref03_text → Nat × DSt
  | .l4 s_ at_ end_ => (4, [(0, .t (.s .str s_)), (1, .t (.s (.int .i64) at_)), (7, .t (.s (.int .i64) end_))])
set_option maxRecDepth 100000 in
theorem ok_ref03_text (s_ : (List UInt8)) (at_ : Int) (r : ((List UInt8) × Int × Bool)) (h : ref03_text s_ at_ = some r) : APure X0 89 ([.s .str s_, .s (.int .i64) at_].map DT.toT) (resT ([.s .str r.1, .s (.int .i64) r.2.1, .s .bool r.2.2].map DT.toT)) := by
  refine APure_of_machine (F := F_ref03_text) (fuel := 3000) (E := E_ref01_Unquote) Yok E_ref01_Unquote_ok mixed Tryd.func89 rfl rfl rfl (by decide) (args := [.s .str s_, .s (.int .i64) at_]) (Nat.le_of_ble_eq_true rfl) (by kernel_rfl) lab_ref03_text st_ref03_text (fun r => [.s .str r.1, .s (.int .i64) r.2.1, .s .bool r.2.2]) ?_ ?_ ?_ h
  · intro l; cases l
    · exact WF_list ⟨trivial, trivial, trivial, trivial⟩
  · intro l goto ret; cases l with
    | l4 s_ at_ end_ =>
      show _ = push (sg_ref03_text_4 s_ at_ end_) (fun l' => goto (lab_ref03_text l').1 (lab_ref03_text l').2) (fun r => ret [.s .str r.1, .s (.int .i64) r.2.1, .s .bool r.2.2])
      unfold sg_ref03_text_4
      simp only [push_G, push_ite, push_bind, push_inl, push_inr, -eq_self]
      kernel_rfl
  · intro goto ret
    show _ = push (en_ref03_text s_ at_) (fun l' => goto (lab_ref03_text l').1 (lab_ref03_text l').2) (fun r => ret [.s .str r.1, .s (.int .i64) r.2.1, .s .bool r.2.2])
    unfold en_ref03_text
    simp only [push_G, push_ite, push_bind, push_inl, push_inr, -eq_self]
    kernel_rfl
noncomputable def e_ref03_text : List DT → Option CallRes
  | [.s t0 y0, .s t1 y1] => (castT (b := .str) y0).bind fun s_ => (castT (b := (.int .i64)) y1).bind fun at_ => some ⟨((List UInt8) × Int × Bool), ref03_text s_ at_, fun r => .tup [.s .str r.1, .s (.int .i64) r.2.1, .s .bool r.2.2], (([] : List UInt8), (0 : Int), false), true⟩
  | _ => none
noncomputable def E_ref03_text : Env := Env.add 89 e_ref03_text E_ref01_Unquote
theorem E_ref03_text_ok : EnvOk X0 E_ref03_text := by
  refine EnvOk.add E_ref01_Unquote_ok (fun args c h => ?_)
  unfold e_ref03_text at h
  split at h
  · obtain ⟨v0, c0, h⟩ := Option.bind_eq_some_iff.1 h
    obtain ⟨rfl, rfl⟩ := castT_some c0
    obtain ⟨v1, c1, h⟩ := Option.bind_eq_some_iff.1 h
    obtain ⟨rfl, rfl⟩ := castT_some c1
    cases h
    exact ⟨fun r hr => .inl ⟨by kernel_rfl, ok_ref03_text _ _ r hr⟩, fun hb => fun r => noSl_res (by rfl)⟩
  · cases h
def F_ref03_parse : FnD := { n := 181, rs := [6, 7, 8], labels := [(30, [9, 15, 16, 17])] }
def lab_ref03_parse : L_ref03_parse → Nat × DSt
  | .l30 head w next kind => (30, [(9, .t (.s .str head)), (15, .t (.s .str w)), (16, .t (.s (.int .i64) next)), (17, .t (.s (.int .i64) kind))])
noncomputable def e_ref03_parse_n (fu_ : Nat) : List DT → Option CallRes
  | [.s t0 y0, .s t1 y1, .s t2 y2] => (castT (b := .str) y0).bind fun s_ => (castT (b := (.int .i64)) y1).bind fun at_ => (castT (b := (.int .i64)) y2).bind fun deep => some ⟨((List tCrack) × Int × Bool), ref03_parse_n fu_ s_ at_ deep, fun r => .tup [.own 60 tyCrack r.1, .s (.int .i64) r.2.1, .s .bool r.2.2], (([] : List tCrack), (0 : Int), false), true⟩
  | _ => none
noncomputable def E_ref03_parse_n (fu_ : Nat) : Env := Env.add 69 (e_ref03_parse_n fu_) E_ref03_text
theorem E_ref03_parse_n_ok (fu_ : Nat) (ih : ∀ (s_ : (List UInt8)) (at_ : Int) (deep : Int) (r : ((List tCrack) × Int × Bool)), ref03_parse_n fu_ s_ at_ deep = some r → APure X0 69 ([.s .str s_, .s (.int .i64) at_, .s (.int .i64) deep].map DT.toT) (resT ([.own 60 tyCrack r.1, .s (.int .i64) r.2.1, .s .bool r.2.2].map DT.toT))) : EnvOk X0 (E_ref03_parse_n fu_) := by
  refine EnvOk.add E_ref03_text_ok (fun args c h => ?_)
  unfold e_ref03_parse_n at h
  split at h
  · replace h := Option.bind_eq_some_iff.1 h
    obtain ⟨v0, c0, h⟩ := h
    obtain ⟨rfl, rfl⟩ := castT_some c0
    replace h := Option.bind_eq_some_iff.1 h
    obtain ⟨v1, c1, h⟩ := h
    obtain ⟨rfl, rfl⟩ := castT_some c1
    replace h := Option.bind_eq_some_iff.1 h
    obtain ⟨v2, c2, h⟩ := h
    obtain ⟨rfl, rfl⟩ := castT_some c2
    cases h
    exact ⟨fun r hr => .inl ⟨by kernel_rfl, ih _ _ _ r hr⟩, fun hb => fun r => noSl_res (by rfl)⟩
  · cases h
set_option maxRecDepth 100000 in
theorem ok_ref03_parse_n : ∀ (fu_ : Nat) (s_ : (List UInt8)) (at_ : Int) (deep : Int) (r : ((List tCrack) × Int × Bool)) (h : ref03_parse_n fu_ s_ at_ deep = some r), APure X0 69 ([.s .str s_, .s (.int .i64) at_, .s (.int .i64) deep].map DT.toT) (resT ([.own 60 tyCrack r.1, .s (.int .i64) r.2.1, .s .bool r.2.2].map DT.toT))
  | 0, s_, at_, deep, r, h => by unfold ref03_parse_n at h; cases h
  | fu_ + 1, s_, at_, deep, r, h => by
    unfold ref03_parse_n at h
    refine APure_of_machine (F := F_ref03_parse) (fuel := 3000) (E := (Env.add 88 (e_ref03_joined (ref03_parse_n fu_)) (E_ref03_parse_n fu_))) Yok (EnvOk.add (E_ref03_parse_n_ok fu_ (ok_ref03_parse_n fu_)) (he_ref03_joined (ref03_parse_n fu_) (ok_ref03_parse_n fu_))) mixed Tryd.func69 rfl rfl rfl (by decide) (args := [.s .str s_, .s (.int .i64) at_, .s (.int .i64) deep]) (Nat.le_of_ble_eq_true rfl) (by kernel_rfl) lab_ref03_parse (st_ref03_parse (ref03_parse_n fu_)) (fun r => [.own 60 tyCrack r.1, .s (.int .i64) r.2.1, .s .bool r.2.2]) ?_ ?_ ?_ h
    · intro l; cases l
      · exact WF_list ⟨trivial, trivial, trivial, trivial, trivial⟩
    · intro l goto ret; cases l with
      | l30 head w next kind =>
        show _ = push (sg_ref03_parse_30 (ref03_parse_n fu_) head w next kind) (fun l' => goto (lab_ref03_parse l').1 (lab_ref03_parse l').2) (fun r => ret [.own 60 tyCrack r.1, .s (.int .i64) r.2.1, .s .bool r.2.2])
        unfold sg_ref03_parse_30
        simp only [push_G, push_ite, push_bind, push_inl, push_inr, -eq_self]
        kernel_rfl
    · intro goto ret
      show _ = push (en_ref03_parse (ref03_parse_n fu_) s_ at_ deep) (fun l' => goto (lab_ref03_parse l').1 (lab_ref03_parse l').2) (fun r => ret [.own 60 tyCrack r.1, .s (.int .i64) r.2.1, .s .bool r.2.2])
      unfold en_ref03_parse
      simp only [ax_ref03_parse_e_1, ax_ref03_parse_e_3, ax_ref03_parse_e_4, ax_ref03_parse_e_2, push_G, push_ite, push_bind, push_inl, push_inr, -eq_self]
      kernel_rfl
theorem ok_ref03_parse (s_ : (List UInt8)) (at_ : Int) (deep : Int) (r : ((List tCrack) × Int × Bool)) (h : ref03_parse s_ at_ deep = some r) : APure X0 69 ([.s .str s_, .s (.int .i64) at_, .s (.int .i64) deep].map DT.toT) (resT ([.own 60 tyCrack r.1, .s (.int .i64) r.2.1, .s .bool r.2.2].map DT.toT)) := ok_ref03_parse_n 1100 s_ at_ deep r h
noncomputable def e_ref03_parse : List DT → Option CallRes
  | [.s t0 y0, .s t1 y1, .s t2 y2] => (castT (b := .str) y0).bind fun s_ => (castT (b := (.int .i64)) y1).bind fun at_ => (castT (b := (.int .i64)) y2).bind fun deep => some ⟨((List tCrack) × Int × Bool), ref03_parse s_ at_ deep, fun r => .tup [.own 60 tyCrack r.1, .s (.int .i64) r.2.1, .s .bool r.2.2], (([] : List tCrack), (0 : Int), false), true⟩
  | _ => none
noncomputable def E_ref03_parse : Env := Env.add 69 (e_ref03_parse) E_ref03_text
theorem E_ref03_parse_ok : EnvOk X0 (E_ref03_parse) := by
  refine EnvOk.add E_ref03_text_ok (fun args c h => ?_)
  unfold e_ref03_parse at h
  split at h
  · replace h := Option.bind_eq_some_iff.1 h
    obtain ⟨v0, c0, h⟩ := h
    obtain ⟨rfl, rfl⟩ := castT_some c0
    replace h := Option.bind_eq_some_iff.1 h
    obtain ⟨v1, c1, h⟩ := h
    obtain ⟨rfl, rfl⟩ := castT_some c1
    replace h := Option.bind_eq_some_iff.1 h
    obtain ⟨v2, c2, h⟩ := h
    obtain ⟨rfl, rfl⟩ := castT_some c2
    cases h
    exact ⟨fun r hr => .inl ⟨by kernel_rfl, ok_ref03_parse _ _ _ r hr⟩, fun hb => fun r => noSl_res (by rfl)⟩
  · cases h
def F_ref03_Parse : FnD := { n := 30, rs := [2, 3] }
set_option maxRecDepth 100000 in
theorem ok_ref03_Parse (s_ : (List UInt8)) (r : ((List tCrack) × Int)) (h : ref03_Parse s_ = some r) : APure X0 43 ([.s .str s_].map DT.toT) (resT ([.own 60 tyCrack r.1, .s (.int .i64) r.2].map DT.toT)) := by
  refine APure_of_straight (F := F_ref03_Parse) (fuel := 3000) (E := E_ref03_parse) Yok E_ref03_parse_ok mixed Tryd.func43 rfl rfl rfl (by decide) (args := [.s .str s_]) (Nat.le_of_ble_eq_true rfl) (by kernel_rfl) (fun r => [.own 60 tyCrack r.1, .s (.int .i64) r.2]) ?_ h
  intro goto ret
  unfold ref03_Parse
  simp only [bnd_G, bnd_ite, bnd_bind, bnd_some, -eq_self]
  kernel_rfl
noncomputable def e_ref03_Parse : List DT → Option CallRes
  | [.s t0 y0] => (castT (b := .str) y0).bind fun s_ => some ⟨((List tCrack) × Int), ref03_Parse s_, fun r => .tup [.own 60 tyCrack r.1, .s (.int .i64) r.2], (([] : List tCrack), (0 : Int)), true⟩
  | _ => none
noncomputable def E_ref03_Parse : Env := Env.add 43 e_ref03_Parse E_ref03_parse
theorem E_ref03_Parse_ok : EnvOk X0 E_ref03_Parse := by
  refine EnvOk.add E_ref03_parse_ok (fun args c h => ?_)
  unfold e_ref03_Parse at h
  split at h
  · obtain ⟨v0, c0, h⟩ := Option.bind_eq_some_iff.1 h
    obtain ⟨rfl, rfl⟩ := castT_some c0
    cases h
    exact ⟨fun r hr => .inl ⟨by kernel_rfl, ok_ref03_Parse _ r hr⟩, fun hb => fun r => noSl_res (by rfl)⟩
  · cases h
def F_law03_FailTexts : FnD := { n := 56, rs := [4] }
set_option maxRecDepth 100000 in
theorem ok_law03_FailTexts (f : (List tCrack)) (s_ : (List UInt8)) (r : Bool) (h : law03_FailTexts f s_ = some r) : APure X0 7 ([.s (.sl 3 tyCrack) f, .s .str s_].map DT.toT) (resT ([.s .bool r].map DT.toT)) := by
  refine APure_of_straight (F := F_law03_FailTexts) (fuel := 3000) (E := E_ref03_Parse) Yok E_ref03_Parse_ok mixed Tryd.func7 rfl rfl rfl (by decide) (args := [.s (.sl 3 tyCrack) f, .s .str s_]) (Nat.le_of_ble_eq_true rfl) (by kernel_rfl) (fun r => [.s .bool r]) ?_ h
  intro goto ret
  unfold law03_FailTexts
  simp only [bnd_G, bnd_ite, bnd_bind, bnd_some, -eq_self]
  kernel_rfl
end Go.Eng
