/- A part of the proof: Lv2. -/
import Derived.Test.YtnjcbogckfiamaaDoorLv1
namespace Go.Eng
open Go.Proofs Go.RowKit
set_option linter.unusedVariables false
set_option linter.unusedSimpArgs false

/-! ### 67 onceweb/oncewebref01.quoted -/
def F_ref01_quoted : FnD := { n := 158, rs := [4, 5, 6], labels := [(5, [0, 7, 8])] }
def lab_ref01_quoted : L_ref01_quoted → Nat × DSt
  | .l5 s_ out i => (5, [(0, .t (.s .str s_)), (7, .t (.own 5 .u8 out)), (8, .t (.s (.int .i64) i))])
set_option maxRecDepth 100000 in
theorem ok_ref01_quoted (s_ : (List UInt8)) (at_ : Int) (r : (Int × (List UInt8) × Bool)) (h : ref01_quoted s_ at_ = some r) : APure X0 67 ([.s .str s_, .s (.int .i64) at_].map DT.toT) (resT ([.s (.int .i64) r.1, .s .str r.2.1, .s .bool r.2.2].map DT.toT)) := by
  refine APure_of_machine (F := F_ref01_quoted) (fuel := 3000) (E := E_ref01_hex) Yok E_ref01_hex_ok mixed Tryd.func67 rfl rfl rfl (by decide) (args := [.s .str s_, .s (.int .i64) at_]) (Nat.le_of_ble_eq_true rfl) (by kernel_rfl) lab_ref01_quoted st_ref01_quoted (fun r => [.s (.int .i64) r.1, .s .str r.2.1, .s .bool r.2.2]) ?_ ?_ ?_ h
  · intro l; cases l
    · exact WF_list ⟨trivial, trivial, trivial, trivial⟩
  · intro l goto ret; cases l with
    | l5 s_ out i =>
      show _ = push (sg_ref01_quoted_5 s_ out i) (fun l' => goto (lab_ref01_quoted l').1 (lab_ref01_quoted l').2) (fun r => ret [.s (.int .i64) r.1, .s .str r.2.1, .s .bool r.2.2])
      unfold sg_ref01_quoted_5
      simp only [push_G, push_ite, push_bind, push_inl, push_inr, -eq_self]
      kernel_rfl
  · intro goto ret
    show _ = push (en_ref01_quoted s_ at_) (fun l' => goto (lab_ref01_quoted l').1 (lab_ref01_quoted l').2) (fun r => ret [.s (.int .i64) r.1, .s .str r.2.1, .s .bool r.2.2])
    unfold en_ref01_quoted
    simp only [push_G, push_ite, push_bind, push_inl, push_inr, -eq_self]
    kernel_rfl
noncomputable def e_ref01_quoted : List DT → Option CallRes
  | [.s t0 y0, .s t1 y1] => (castT (b := .str) y0).bind fun s_ => (castT (b := (.int .i64)) y1).bind fun at_ => some ⟨(Int × (List UInt8) × Bool), ref01_quoted s_ at_, fun r => .tup [.s (.int .i64) r.1, .s .str r.2.1, .s .bool r.2.2], ((0 : Int), ([] : List UInt8), false), true⟩
  | _ => none
noncomputable def E_ref01_quoted : Env := Env.add 67 e_ref01_quoted E_ref01_hex
theorem E_ref01_quoted_ok : EnvOk X0 E_ref01_quoted := by
  refine EnvOk.add E_ref01_hex_ok (fun args c h => ?_)
  unfold e_ref01_quoted at h
  split at h
  · obtain ⟨v0, c0, h⟩ := Option.bind_eq_some_iff.1 h
    obtain ⟨rfl, rfl⟩ := castT_some c0
    obtain ⟨v1, c1, h⟩ := Option.bind_eq_some_iff.1 h
    obtain ⟨rfl, rfl⟩ := castT_some c1
    cases h
    exact ⟨fun r hr => .inl ⟨by kernel_rfl, ok_ref01_quoted _ _ r hr⟩, fun hb => fun r => noSl_res (by rfl)⟩
  · cases h

/-! ### 52 onceweb/oncewebref01.Unquote -/
def F_ref01_Unquote : FnD := { n := 22, rs := [2, 3] }
set_option maxRecDepth 100000 in
theorem ok_ref01_Unquote (s_ : (List UInt8)) (r : ((List UInt8) × Bool)) (h : ref01_Unquote s_ = some r) : APure X0 52 ([.s .str s_].map DT.toT) (resT ([.s .str r.1, .s .bool r.2].map DT.toT)) := by
  refine APure_of_straight (F := F_ref01_Unquote) (fuel := 3000) (E := E_ref01_quoted) Yok E_ref01_quoted_ok mixed Tryd.func52 rfl rfl rfl (by decide) (args := [.s .str s_]) (Nat.le_of_ble_eq_true rfl) (by kernel_rfl) (fun r => [.s .str r.1, .s .bool r.2]) ?_ h
  intro goto ret
  unfold ref01_Unquote
  simp only [bnd_G, bnd_ite, bnd_bind, bnd_some, -eq_self]
  kernel_rfl
noncomputable def e_ref01_Unquote : List DT → Option CallRes
  | [.s t0 y0] => (castT (b := .str) y0).bind fun s_ => some ⟨((List UInt8) × Bool), ref01_Unquote s_, fun r => .tup [.s .str r.1, .s .bool r.2], (([] : List UInt8), false), true⟩
  | _ => none
noncomputable def E_ref01_Unquote : Env := Env.add 52 e_ref01_Unquote E_ref01_quoted
theorem E_ref01_Unquote_ok : EnvOk X0 E_ref01_Unquote := by
  refine EnvOk.add E_ref01_quoted_ok (fun args c h => ?_)
  unfold e_ref01_Unquote at h
  split at h
  · obtain ⟨v0, c0, h⟩ := Option.bind_eq_some_iff.1 h
    obtain ⟨rfl, rfl⟩ := castT_some c0
    cases h
    exact ⟨fun r hr => .inl ⟨by kernel_rfl, ok_ref01_Unquote _ r hr⟩, fun hb => fun r => noSl_res (by rfl)⟩
  · cases h

/-! ### 53 onceweb/oncewebbase.Whole -/
def F_base_Whole : FnD := { n := 61, rs := [4, 5], labels := [(5, [0, 1, 6, 7])] }
def lab_base_Whole : L_base_Whole → Nat × DSt
  | .l5 s_ most n i => (5, [(0, .t (.s .str s_)), (1, .t (.s (.int .i64) most)), (6, .t (.s (.int .i64) n)), (7, .t (.s (.int .i64) i))])
set_option maxRecDepth 100000 in
theorem ok_base_Whole (s_ : (List UInt8)) (most : Int) (r : (Int × Bool)) (h : base_Whole s_ most = some r) : APure X0 53 ([.s .str s_, .s (.int .i64) most].map DT.toT) (resT ([.s (.int .i64) r.1, .s .bool r.2].map DT.toT)) := by
  refine APure_of_machine (F := F_base_Whole) (fuel := 3000) (E := E_ref01_Unquote) Yok E_ref01_Unquote_ok mixed Tryd.func53 rfl rfl rfl (by decide) (args := [.s .str s_, .s (.int .i64) most]) (Nat.le_of_ble_eq_true rfl) (by kernel_rfl) lab_base_Whole st_base_Whole (fun r => [.s (.int .i64) r.1, .s .bool r.2]) ?_ ?_ ?_ h
  · intro l; cases l
    · exact WF_list ⟨trivial, trivial, trivial, trivial, trivial⟩
  · intro l goto ret; cases l with
    | l5 s_ most n i =>
      show _ = push (sg_base_Whole_5 s_ most n i) (fun l' => goto (lab_base_Whole l').1 (lab_base_Whole l').2) (fun r => ret [.s (.int .i64) r.1, .s .bool r.2])
      unfold sg_base_Whole_5
      simp only [push_G, push_ite, push_bind, push_inl, push_inr, -eq_self]
      kernel_rfl
  · intro goto ret
    show _ = push (en_base_Whole s_ most) (fun l' => goto (lab_base_Whole l').1 (lab_base_Whole l').2) (fun r => ret [.s (.int .i64) r.1, .s .bool r.2])
    unfold en_base_Whole
    simp only [push_G, push_ite, push_bind, push_inl, push_inr, -eq_self]
    kernel_rfl
noncomputable def e_base_Whole : List DT → Option CallRes
  | [.s t0 y0, .s t1 y1] => (castT (b := .str) y0).bind fun s_ => (castT (b := (.int .i64)) y1).bind fun most => some ⟨(Int × Bool), base_Whole s_ most, fun r => .tup [.s (.int .i64) r.1, .s .bool r.2], ((0 : Int), false), true⟩
  | _ => none
noncomputable def E_base_Whole : Env := Env.add 53 e_base_Whole E_ref01_Unquote
theorem E_base_Whole_ok : EnvOk X0 E_base_Whole := by
  refine EnvOk.add E_ref01_Unquote_ok (fun args c h => ?_)
  unfold e_base_Whole at h
  split at h
  · obtain ⟨v0, c0, h⟩ := Option.bind_eq_some_iff.1 h
    obtain ⟨rfl, rfl⟩ := castT_some c0
    obtain ⟨v1, c1, h⟩ := Option.bind_eq_some_iff.1 h
    obtain ⟨rfl, rfl⟩ := castT_some c1
    cases h
    exact ⟨fun r hr => .inl ⟨by kernel_rfl, ok_base_Whole _ _ r hr⟩, fun hb => fun r => noSl_res (by rfl)⟩
  · cases h

/-! ### 28 onceweb/oncewebref07.parse -/
def F_ref07_parse : FnD := { n := 197, rs := [6, 7, 8], labels := [(6, [0, 1, 10]), (19, [0, 2, 10, 13, 14]), (34, [0, 10, 18]), (35, [0, 10, 18, 19])] }
def lab_ref07_parse : L_ref07_parse → Nat × DSt
  | .l6 s_ at_ end_ => (6, [(0, .t (.s .str s_)), (1, .t (.s (.int .i64) at_)), (10, .t (.s (.int .i64) end_))])
  | .l19 s_ deep end_ out n => (19, [(0, .t (.s .str s_)), (2, .t (.s (.int .i64) deep)), (10, .t (.s (.int .i64) end_)), (13, .t (.own 50 tyAtom out)), (14, .t (.s (.int .i64) n))])
  | .l34 s_ end_ neg => (34, [(0, .t (.s .str s_)), (10, .t (.s (.int .i64) end_)), (18, .t (.s .bool neg))])
  | .l35 s_ end_ neg from_ => (35, [(0, .t (.s .str s_)), (10, .t (.s (.int .i64) end_)), (18, .t (.s .bool neg)), (19, .t (.s (.int .i64) from_))])
noncomputable def e_ref07_parse_n (fu_ : Nat) : List DT → Option CallRes
  | [.s t0 y0, .s t1 y1, .s t2 y2] => (castT (b := .str) y0).bind fun s_ => (castT (b := (.int .i64)) y1).bind fun at_ => (castT (b := (.int .i64)) y2).bind fun deep => some ⟨((List tAtom) × Int × Bool), ref07_parse_n fu_ s_ at_ deep, fun r => .tup [.own 50 tyAtom r.1, .s (.int .i64) r.2.1, .s .bool r.2.2], (([] : List tAtom), (0 : Int), false), true⟩
  | _ => none
noncomputable def E_ref07_parse_n (fu_ : Nat) : Env := Env.add 28 (e_ref07_parse_n fu_) E_base_Whole
theorem E_ref07_parse_n_ok (fu_ : Nat) (ih : ∀ (s_ : (List UInt8)) (at_ : Int) (deep : Int) (r : ((List tAtom) × Int × Bool)), ref07_parse_n fu_ s_ at_ deep = some r → APure X0 28 ([.s .str s_, .s (.int .i64) at_, .s (.int .i64) deep].map DT.toT) (resT ([.own 50 tyAtom r.1, .s (.int .i64) r.2.1, .s .bool r.2.2].map DT.toT))) : EnvOk X0 (E_ref07_parse_n fu_) := by
  refine EnvOk.add E_base_Whole_ok (fun args c h => ?_)
  unfold e_ref07_parse_n at h
  split at h
  · replace h := Option.bind_eq_some_iff.1 h
    obtain ⟨v0, c0, h⟩ := h
    obtain ⟨rfl, rfl⟩ := castT_some c0
    replace h := Option.bind_eq_some_iff.1 h
    obtain ⟨v1, c1, h⟩ := h
    obtain ⟨rfl, rfl⟩ := castT_some c1
    replace h := Option.bind_eq_some_iff.1 h
    obtain ⟨v2, c2, h⟩ := h
    obtain ⟨rfl, rfl⟩ := castT_some c2
    cases h
    exact ⟨fun r hr => .inl ⟨by kernel_rfl, ih _ _ _ r hr⟩, fun hb => fun r => noSl_res (by rfl)⟩
  · cases h
set_option maxRecDepth 100000 in
theorem ok_ref07_parse_n : ∀ (fu_ : Nat) (s_ : (List UInt8)) (at_ : Int) (deep : Int) (r : ((List tAtom) × Int × Bool)) (h : ref07_parse_n fu_ s_ at_ deep = some r), APure X0 28 ([.s .str s_, .s (.int .i64) at_, .s (.int .i64) deep].map DT.toT) (resT ([.own 50 tyAtom r.1, .s (.int .i64) r.2.1, .s .bool r.2.2].map DT.toT))
  | 0, s_, at_, deep, r, h => by unfold ref07_parse_n at h; cases h
  | fu_ + 1, s_, at_, deep, r, h => by
    unfold ref07_parse_n at h
    refine APure_of_machine (F := F_ref07_parse) (fuel := 3000) (E := (E_ref07_parse_n fu_)) Yok (E_ref07_parse_n_ok fu_ (ok_ref07_parse_n fu_)) mixed Tryd.func28 rfl rfl rfl (by decide) (args := [.s .str s_, .s (.int .i64) at_, .s (.int .i64) deep]) (Nat.le_of_ble_eq_true rfl) (by kernel_rfl) lab_ref07_parse (st_ref07_parse (ref07_parse_n fu_)) (fun r => [.own 50 tyAtom r.1, .s (.int .i64) r.2.1, .s .bool r.2.2]) ?_ ?_ ?_ h
    · intro l; cases l
      · exact WF_list ⟨trivial, trivial, trivial, trivial⟩
      · exact WF_list ⟨trivial, trivial, trivial, trivial, trivial, trivial⟩
      · exact WF_list ⟨trivial, trivial, trivial, trivial⟩
      · exact WF_list ⟨trivial, trivial, trivial, trivial, trivial⟩
    · intro l goto ret; cases l with
      | l6 s_ at_ end_ =>
        show _ = push (sg_ref07_parse_6 (ref07_parse_n fu_) s_ at_ end_) (fun l' => goto (lab_ref07_parse l').1 (lab_ref07_parse l').2) (fun r => ret [.own 50 tyAtom r.1, .s (.int .i64) r.2.1, .s .bool r.2.2])
        unfold sg_ref07_parse_6
        simp only [push_G, push_ite, push_bind, push_inl, push_inr, -eq_self]
        kernel_rfl
      | l19 s_ deep end_ out n =>
        show _ = push (sg_ref07_parse_19 (ref07_parse_n fu_) s_ deep end_ out n) (fun l' => goto (lab_ref07_parse l').1 (lab_ref07_parse l').2) (fun r => ret [.own 50 tyAtom r.1, .s (.int .i64) r.2.1, .s .bool r.2.2])
        unfold sg_ref07_parse_19
        simp only [push_G, push_ite, push_bind, push_inl, push_inr, -eq_self]
        kernel_rfl
      | l34 s_ end_ neg =>
        show _ = push (sg_ref07_parse_34 (ref07_parse_n fu_) s_ end_ neg) (fun l' => goto (lab_ref07_parse l').1 (lab_ref07_parse l').2) (fun r => ret [.own 50 tyAtom r.1, .s (.int .i64) r.2.1, .s .bool r.2.2])
        unfold sg_ref07_parse_34
        simp only [push_G, push_ite, push_bind, push_inl, push_inr, -eq_self]
        kernel_rfl
      | l35 s_ end_ neg from_ =>
        show _ = push (sg_ref07_parse_35 (ref07_parse_n fu_) s_ end_ neg from_) (fun l' => goto (lab_ref07_parse l').1 (lab_ref07_parse l').2) (fun r => ret [.own 50 tyAtom r.1, .s (.int .i64) r.2.1, .s .bool r.2.2])
        unfold sg_ref07_parse_35
        simp only [push_G, push_ite, push_bind, push_inl, push_inr, -eq_self]
        kernel_rfl
    · intro goto ret
      show _ = push (en_ref07_parse (ref07_parse_n fu_) s_ at_ deep) (fun l' => goto (lab_ref07_parse l').1 (lab_ref07_parse l').2) (fun r => ret [.own 50 tyAtom r.1, .s (.int .i64) r.2.1, .s .bool r.2.2])
      unfold en_ref07_parse
      simp only [push_G, push_ite, push_bind, push_inl, push_inr, -eq_self]
      kernel_rfl
theorem ok_ref07_parse (s_ : (List UInt8)) (at_ : Int) (deep : Int) (r : ((List tAtom) × Int × Bool)) (h : ref07_parse s_ at_ deep = some r) : APure X0 28 ([.s .str s_, .s (.int .i64) at_, .s (.int .i64) deep].map DT.toT) (resT ([.own 50 tyAtom r.1, .s (.int .i64) r.2.1, .s .bool r.2.2].map DT.toT)) := ok_ref07_parse_n 64 s_ at_ deep r h
noncomputable def e_ref07_parse : List DT → Option CallRes
  | [.s t0 y0, .s t1 y1, .s t2 y2] => (castT (b := .str) y0).bind fun s_ => (castT (b := (.int .i64)) y1).bind fun at_ => (castT (b := (.int .i64)) y2).bind fun deep => some ⟨((List tAtom) × Int × Bool), ref07_parse s_ at_ deep, fun r => .tup [.own 50 tyAtom r.1, .s (.int .i64) r.2.1, .s .bool r.2.2], (([] : List tAtom), (0 : Int), false), true⟩
  | _ => none
noncomputable def E_ref07_parse : Env := Env.add 28 (e_ref07_parse) E_base_Whole
theorem E_ref07_parse_ok : EnvOk X0 (E_ref07_parse) := by
  refine EnvOk.add E_base_Whole_ok (fun args c h => ?_)
  unfold e_ref07_parse at h
  split at h
  · replace h := Option.bind_eq_some_iff.1 h
    obtain ⟨v0, c0, h⟩ := h
    obtain ⟨rfl, rfl⟩ := castT_some c0
    replace h := Option.bind_eq_some_iff.1 h
    obtain ⟨v1, c1, h⟩ := h
    obtain ⟨rfl, rfl⟩ := castT_some c1
    replace h := Option.bind_eq_some_iff.1 h
    obtain ⟨v2, c2, h⟩ := h
    obtain ⟨rfl, rfl⟩ := castT_some c2
    cases h
    exact ⟨fun r hr => .inl ⟨by kernel_rfl, ok_ref07_parse _ _ _ r hr⟩, fun hb => fun r => noSl_res (by rfl)⟩
  · cases h

/-! ### 12 onceweb/oncewebref07.Parse -/
def F_ref07_Parse : FnD := { n := 30, rs := [2, 3] }
set_option maxRecDepth 100000 in
theorem ok_ref07_Parse (s_ : (List UInt8)) (r : ((List tAtom) × Int)) (h : ref07_Parse s_ = some r) : APure X0 12 ([.s .str s_].map DT.toT) (resT ([.own 50 tyAtom r.1, .s (.int .i64) r.2].map DT.toT)) := by
  refine APure_of_straight (F := F_ref07_Parse) (fuel := 3000) (E := E_ref07_parse) Yok E_ref07_parse_ok mixed Tryd.func12 rfl rfl rfl (by decide) (args := [.s .str s_]) (Nat.le_of_ble_eq_true rfl) (by kernel_rfl) (fun r => [.own 50 tyAtom r.1, .s (.int .i64) r.2]) ?_ h
  intro goto ret
  unfold ref07_Parse
  simp only [bnd_G, bnd_ite, bnd_bind, bnd_some, -eq_self]
  kernel_rfl
noncomputable def e_ref07_Parse : List DT → Option CallRes
  | [.s t0 y0] => (castT (b := .str) y0).bind fun s_ => some ⟨((List tAtom) × Int), ref07_Parse s_, fun r => .tup [.own 50 tyAtom r.1, .s (.int .i64) r.2], (([] : List tAtom), (0 : Int)), true⟩
  | _ => none
noncomputable def E_ref07_Parse : Env := Env.add 12 e_ref07_Parse E_ref07_parse
theorem E_ref07_Parse_ok : EnvOk X0 E_ref07_Parse := by
  refine EnvOk.add E_ref07_parse_ok (fun args c h => ?_)
  unfold e_ref07_Parse at h
  split at h
  · obtain ⟨v0, c0, h⟩ := Option.bind_eq_some_iff.1 h
    obtain ⟨rfl, rfl⟩ := castT_some c0
    cases h
    exact ⟨fun r hr => .inl ⟨by kernel_rfl, ok_ref07_Parse _ r hr⟩, fun hb => fun r => noSl_res (by rfl)⟩
  · cases h

/-! ### 3 onceweb/onceweblaw07.ValueTexts -/
def F_law07_ValueTexts : FnD := { n := 56, rs := [4] }
set_option maxRecDepth 100000 in
theorem ok_law07_ValueTexts (v : (List tAtom)) (s_ : (List UInt8)) (r : Bool) (h : law07_ValueTexts v s_ = some r) : APure X0 3 ([.s (.sl 4 tyAtom) v, .s .str s_].map DT.toT) (resT ([.s .bool r].map DT.toT)) := by
  refine APure_of_straight (F := F_law07_ValueTexts) (fuel := 3000) (E := E_ref07_Parse) Yok E_ref07_Parse_ok mixed Tryd.func3 rfl rfl rfl (by decide) (args := [.s (.sl 4 tyAtom) v, .s .str s_]) (Nat.le_of_ble_eq_true rfl) (by kernel_rfl) (fun r => [.s .bool r]) ?_ h
  intro goto ret
  unfold law07_ValueTexts
  simp only [bnd_G, bnd_ite, bnd_bind, bnd_some, -eq_self]
  kernel_rfl
noncomputable def e_law07_ValueTexts : List DT → Option CallRes
  | [.s t0 y0, .s t1 y1] => (castT (b := (.sl 4 tyAtom)) y0).bind fun v => (castT (b := .str) y1).bind fun s_ => some ⟨Bool, law07_ValueTexts v s_, fun r => .s .bool r, false, true⟩
  | _ => none
noncomputable def E_law07_ValueTexts : Env := Env.add 3 e_law07_ValueTexts E_ref07_Parse
theorem E_law07_ValueTexts_ok : EnvOk X0 E_law07_ValueTexts := by
  refine EnvOk.add E_ref07_Parse_ok (fun args c h => ?_)
  unfold e_law07_ValueTexts at h
  split at h
  · obtain ⟨v0, c0, h⟩ := Option.bind_eq_some_iff.1 h
    obtain ⟨rfl, rfl⟩ := castT_some c0
    obtain ⟨v1, c1, h⟩ := Option.bind_eq_some_iff.1 h
    obtain ⟨rfl, rfl⟩ := castT_some c1
    cases h
    exact ⟨fun r hr => .inl ⟨by kernel_rfl, ok_law07_ValueTexts _ _ r hr⟩, fun hb => fun r => noSl_res (by rfl)⟩
  · cases h

end Go.Eng
