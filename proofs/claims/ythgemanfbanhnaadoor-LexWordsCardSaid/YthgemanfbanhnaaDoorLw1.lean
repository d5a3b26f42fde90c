/- Printed by a program of ours (wip/gen): the functions of seat YthgemanfbanhnaaDoor, and that the code comes to them. -/
import Derived.Test.YthgemanfbanhnaaDoorDvO
import Derived.Test.YthgemanfbanhnaaDoorRows
namespace Go.Eng
open Go.Proofs
set_option linter.unusedVariables false
set_option linter.unusedSimpArgs false

def gl0 : List (List UInt8) := [[99, 101, 108, 108], [97, 103, 97, 105, 110], [116, 114, 105, 101, 115], [98, 97, 115, 101], [102, 97, 99, 116, 111, 114], [99, 97, 112], [99, 108, 111, 115, 101], [102, 105, 110, 101], [102, 97, 105, 108], [112, 97, 110, 105, 99], [105, 102], [116, 104, 101, 110], [101, 108, 115, 101], [116, 114, 121], [119, 97, 105, 116], [108, 101, 116], [105, 110], [105, 116, 101, 109], [115, 105, 122, 101]]
def globs : List (Nat × Glob) := [(0, .arr .str gl0)]
noncomputable def X0 : Ctx := mkCtx Tryd.prog 1 globs (by kernel_rfl)
theorem mixed : X0.P.follows .mixedOrders = true := by kernel_rfl
def Y0 : DX := { tab := [(3, { ty := (.int .i64) }), (4, { ty := .bool }), (5, { ty := .u8 }), (9, { ty := .str }), (51, { ty := (.sl 1 .str), sl := some (9, .str, 16) }), (52, { ty := .opq, ar := some (19, .str) })], gl := globs }
theorem td_3 : TDOk Tryd.prog 3 { ty := (.int .i64) } where
  row := .inr (by kernel_rfl)
  und := .inr (by kernel_rfl)
  sli := .inl rfl
  slt := by kernel_rfl
  bye := .inl rfl
  fld := .inl rfl
  lay := .inl rfl
  rowT := .inl rfl
  arr := .inl rfl
  fsz := by kernel_rfl
  zer := .inr (by kernel_rfl)
theorem td_4 : TDOk Tryd.prog 4 { ty := .bool } where
  row := .inr (by kernel_rfl)
  und := .inr (by kernel_rfl)
  sli := .inl rfl
  slt := by kernel_rfl
  bye := .inl rfl
  fld := .inl rfl
  lay := .inl rfl
  rowT := .inl rfl
  arr := .inl rfl
  fsz := by kernel_rfl
  zer := .inr (by kernel_rfl)
theorem td_5 : TDOk Tryd.prog 5 { ty := .u8 } where
  row := .inr (by kernel_rfl)
  und := .inr (by kernel_rfl)
  sli := .inl rfl
  slt := by kernel_rfl
  bye := .inl rfl
  fld := .inl rfl
  lay := .inl rfl
  rowT := .inl rfl
  arr := .inl rfl
  fsz := by kernel_rfl
  zer := .inr (by kernel_rfl)
theorem td_9 : TDOk Tryd.prog 9 { ty := .str } where
  row := .inr (by kernel_rfl)
  und := .inr (by kernel_rfl)
  sli := .inl rfl
  slt := by kernel_rfl
  bye := .inl rfl
  fld := .inl rfl
  lay := .inl rfl
  rowT := .inl rfl
  arr := .inl rfl
  fsz := by kernel_rfl
  zer := .inr (by kernel_rfl)
theorem td_51 : TDOk Tryd.prog 51 { ty := (.sl 1 .str), sl := some (9, .str, 16) } where
  row := .inr (by kernel_rfl)
  und := .inl rfl
  sli := .inr (by kernel_rfl)
  slt := by kernel_rfl
  bye := .inl rfl
  fld := .inl rfl
  lay := .inl rfl
  rowT := .inl rfl
  arr := .inl rfl
  fsz := by kernel_rfl
  zer := .inr (by kernel_rfl)
theorem td_52 : TDOk Tryd.prog 52 { ty := .opq, ar := some (19, .str) } where
  row := .inl rfl
  und := .inl rfl
  sli := .inl rfl
  slt := by kernel_rfl
  bye := .inl rfl
  fld := .inl rfl
  lay := .inl rfl
  rowT := .inl rfl
  arr := .inr (by kernel_rfl)
  fsz := by kernel_rfl
  zer := .inl rfl
theorem Yok : DXOk Y0 X0 where
  tab := List.forall_mem_cons.2 ⟨td_3, List.forall_mem_cons.2 ⟨td_4, List.forall_mem_cons.2 ⟨td_5, List.forall_mem_cons.2 ⟨td_9, List.forall_mem_cons.2 ⟨td_51, List.forall_mem_cons.2 ⟨td_52, (fun _ h => by cases h)⟩⟩⟩⟩⟩⟩
  gl := fun _ => rfl

/-! ### 22 onceweb/lex.digit -/
def F_lex_digit : FnD := { n := 9, rs := [2] }
noncomputable def lex_digit (c : UInt8) : Option Bool :=
  some ((decide (48 ≤ (c.toNat : Int))) && (decide ((c.toNat : Int) ≤ 57)))
set_option maxRecDepth 100000 in
theorem ok_lex_digit (c : UInt8) (r : Bool) (h : lex_digit c = some r) : APure X0 22 ([.s .u8 c].map DT.toT) (resT ([.s .bool r].map DT.toT)) := by
  refine APure_of_straight (F := F_lex_digit) (fuel := 3000) (E := E_0) Yok E_0_ok mixed Tryd.func22 rfl rfl rfl (by decide) (args := [.s .u8 c]) (Nat.le_of_ble_eq_true rfl) (by kernel_rfl) (fun r => [.s .bool r]) ?_ h
  intro goto ret
  unfold lex_digit
  simp only [bnd_G, bnd_ite, bnd_bind, bnd_some]
  kernel_rfl
noncomputable def e_lex_digit : List DT → Option CallRes
  | [.s .u8 c] => some ⟨Bool, lex_digit c, fun r => .s .bool r, false, true⟩
  | _ => none
noncomputable def E_lex_digit : Env := Env.add 22 e_lex_digit E_0
theorem E_lex_digit_ok : EnvOk X0 E_lex_digit := by
  refine EnvOk.add E_0_ok (fun args c h => ?_)
  unfold e_lex_digit at h
  split at h
  · cases h
    exact ⟨fun r hr => .inl ⟨by kernel_rfl, ok_lex_digit _ r hr⟩, fun hb => fun r => noSl_res (by rfl)⟩
  · cases h

/-! ### 8 onceweb/lex.Number -/
def F_lex_Number : FnD := { n := 40, rs := [2, 3], labels := [(5, [0, 4, 19, 20])] }
inductive L_lex_Number where
  | l5 (s_ : (List UInt8)) (n : Int) (x19 : Int) (x20 : Int)
def lab_lex_Number : L_lex_Number → Nat × DSt
  | .l5 s_ n x19 x20 => (5, [(0, .t (.s .str s_)), (4, .t (.s (.int .i64) n)), (19, .t (.s (.int .i64) x19)), (20, .t (.s (.int .i64) x20))])
noncomputable def sg_lex_Number_5 (s_ : (List UInt8)) (n : Int) (x19 : Int) (x20 : Int) : Option (L_lex_Number ⊕ (Int × Bool)) :=
  if (decide (x20 < x19)) = true then
  (G (0 ≤ x20 ∧ x20 < (s_.length : Int)) <|
  (lex_digit (s_.getD x20.toNat 0)).bind fun t26 =>
  if (!t26) = true then
  some (.inr ((0 : Int), false))
  else
  G (0 ≤ x20 ∧ x20 < (s_.length : Int)) <|
  if (decide ((9007199254740992 : Int) < (w64 ((w64 ((10 : Int) * n)) + (w64 (((((IntKind.wrap .u8 (((s_.getD x20.toNat 0).toNat : Int) - 48))).toNat.toUInt8).toNat : Int))))))) = true then
  some (.inr ((0 : Int), false))
  else
  some (.inl (.l5 s_ (w64 ((w64 ((10 : Int) * n)) + (w64 (((((IntKind.wrap .u8 (((s_.getD x20.toNat 0).toNat : Int) - 48))).toNat.toUInt8).toNat : Int))))) x19 (w64 (x20 + (1 : Int))))))
  else
  some (.inr (n, true))
noncomputable def st_lex_Number : L_lex_Number → Option (L_lex_Number ⊕ (Int × Bool))
  | .l5 s_ n x19 x20 => sg_lex_Number_5 s_ n x19 x20
noncomputable def en_lex_Number (s_ : (List UInt8)) : Option (L_lex_Number ⊕ (Int × Bool)) :=
  G (((!(decide (s_ = ([] : List UInt8)))) && (decide ((1 : Int) < (s_.length : Int)))) = true → (0 ≤ (0 : Int) ∧ (0 : Int) < (s_.length : Int))) <|
  if ((decide (s_ = ([] : List UInt8))) || ((decide ((1 : Int) < (s_.length : Int))) && (decide (((s_.getD (0 : Int).toNat 0).toNat : Int) = 48)))) = true then
  some (.inr ((0 : Int), false))
  else
  some (.inl (.l5 s_ (0 : Int) (s_.length : Int) (0 : Int)))
noncomputable def lex_Number (s_ : (List UInt8)) : Option (Int × Bool) := runL st_lex_Number (en_lex_Number s_)
set_option maxRecDepth 100000 in
theorem ok_lex_Number (s_ : (List UInt8)) (r : (Int × Bool)) (h : lex_Number s_ = some r) : APure X0 8 ([.s .str s_].map DT.toT) (resT ([.s (.int .i64) r.1, .s .bool r.2].map DT.toT)) := by
  refine APure_of_machine (F := F_lex_Number) (fuel := 3000) (E := E_lex_digit) Yok E_lex_digit_ok mixed Tryd.func8 rfl rfl rfl (by decide) (args := [.s .str s_]) (Nat.le_of_ble_eq_true rfl) (by kernel_rfl) lab_lex_Number st_lex_Number (fun r => [.s (.int .i64) r.1, .s .bool r.2]) ?_ ?_ ?_ h
  · intro l; cases l
    · exact WF_list ⟨trivial, trivial, trivial, trivial, trivial⟩
  · intro l goto ret; cases l
    · show _ = push (sg_lex_Number_5 _ _ _ _) (fun l' => goto (lab_lex_Number l').1 (lab_lex_Number l').2) (fun r => ret [.s (.int .i64) r.1, .s .bool r.2])
      unfold sg_lex_Number_5
      simp only [push_G, push_ite, push_bind, push_inl, push_inr]
      kernel_rfl
  · intro goto ret
    show _ = push (en_lex_Number s_) (fun l' => goto (lab_lex_Number l').1 (lab_lex_Number l').2) (fun r => ret [.s (.int .i64) r.1, .s .bool r.2])
    unfold en_lex_Number
    simp only [push_G, push_ite, push_bind, push_inl, push_inr]
    kernel_rfl
noncomputable def e_lex_Number : List DT → Option CallRes
  | [.s .str s_] => some ⟨(Int × Bool), lex_Number s_, fun r => .tup [.s (.int .i64) r.1, .s .bool r.2], ((0 : Int), false), true⟩
  | _ => none
noncomputable def E_lex_Number : Env := Env.add 8 e_lex_Number E_lex_digit
theorem E_lex_Number_ok : EnvOk X0 E_lex_Number := by
  refine EnvOk.add E_lex_digit_ok (fun args c h => ?_)
  unfold e_lex_Number at h
  split at h
  · cases h
    exact ⟨fun r hr => .inl ⟨by kernel_rfl, ok_lex_Number _ r hr⟩, fun hb => fun r => noSl_res (by rfl)⟩
  · cases h

/-! ### 23 onceweb/oncewebbase.Whole -/
def F_base_Whole : FnD := { n := 61, rs := [4, 5], labels := [(5, [0, 1, 6, 7])] }
inductive L_base_Whole where
  | l5 (s_ : (List UInt8)) (most : Int) (n : Int) (i : Int)
def lab_base_Whole : L_base_Whole → Nat × DSt
  | .l5 s_ most n i => (5, [(0, .t (.s .str s_)), (1, .t (.s (.int .i64) most)), (6, .t (.s (.int .i64) n)), (7, .t (.s (.int .i64) i))])
noncomputable def sg_base_Whole_5 (s_ : (List UInt8)) (most : Int) (n : Int) (i : Int) : Option (L_base_Whole ⊕ (Int × Bool)) :=
  if (decide (i < (s_.length : Int))) = true then
  (G (0 ≤ i ∧ i < (s_.length : Int)) <|
  G ((!(decide (((s_.getD i.toNat 0).toNat : Int) < 48))) = true → (0 ≤ i ∧ i < (s_.length : Int))) <|
  if ((decide (((s_.getD i.toNat 0).toNat : Int) < 48)) || (decide (57 < ((s_.getD i.toNat 0).toNat : Int)))) = true then
  some (.inr ((0 : Int), false))
  else
  G (0 ≤ i ∧ i < (s_.length : Int)) <|
  if (decide ((w64 (Int.tdiv (w64 (most - (w64 (((((IntKind.wrap .u8 (((s_.getD i.toNat 0).toNat : Int) - 48))).toNat.toUInt8).toNat : Int))))) (10 : Int))) < n)) = true then
  some (.inr ((0 : Int), false))
  else
  some (.inl (.l5 s_ most (w64 ((w64 (n * (10 : Int))) + (w64 (((((IntKind.wrap .u8 (((s_.getD i.toNat 0).toNat : Int) - 48))).toNat.toUInt8).toNat : Int))))) (w64 (i + (1 : Int))))))
  else
  some (.inr (n, (decide (n ≤ most))))
noncomputable def st_base_Whole : L_base_Whole → Option (L_base_Whole ⊕ (Int × Bool))
  | .l5 s_ most n i => sg_base_Whole_5 s_ most n i
noncomputable def en_base_Whole (s_ : (List UInt8)) (most : Int) : Option (L_base_Whole ⊕ (Int × Bool)) :=
  G ((!((decide (s_ = ([] : List UInt8))) || (decide ((19 : Int) < (s_.length : Int))))) = true → (0 ≤ (0 : Int) ∧ (0 : Int) < (s_.length : Int))) <|
  if (((decide (s_ = ([] : List UInt8))) || (decide ((19 : Int) < (s_.length : Int)))) || ((decide (((s_.getD (0 : Int).toNat 0).toNat : Int) = 48)) && (decide ((1 : Int) < (s_.length : Int))))) = true then
  some (.inr ((0 : Int), false))
  else
  some (.inl (.l5 s_ most (0 : Int) (0 : Int)))
noncomputable def base_Whole (s_ : (List UInt8)) (most : Int) : Option (Int × Bool) := runL st_base_Whole (en_base_Whole s_ most)
set_option maxRecDepth 100000 in
theorem ok_base_Whole (s_ : (List UInt8)) (most : Int) (r : (Int × Bool)) (h : base_Whole s_ most = some r) : APure X0 23 ([.s .str s_, .s (.int .i64) most].map DT.toT) (resT ([.s (.int .i64) r.1, .s .bool r.2].map DT.toT)) := by
  refine APure_of_machine (F := F_base_Whole) (fuel := 3000) (E := E_lex_Number) Yok E_lex_Number_ok mixed Tryd.func23 rfl rfl rfl (by decide) (args := [.s .str s_, .s (.int .i64) most]) (Nat.le_of_ble_eq_true rfl) (by kernel_rfl) lab_base_Whole st_base_Whole (fun r => [.s (.int .i64) r.1, .s .bool r.2]) ?_ ?_ ?_ h
  · intro l; cases l
    · exact WF_list ⟨trivial, trivial, trivial, trivial, trivial⟩
  · intro l goto ret; cases l
    · show _ = push (sg_base_Whole_5 _ _ _ _) (fun l' => goto (lab_base_Whole l').1 (lab_base_Whole l').2) (fun r => ret [.s (.int .i64) r.1, .s .bool r.2])
      unfold sg_base_Whole_5
      simp only [push_G, push_ite, push_bind, push_inl, push_inr]
      kernel_rfl
  · intro goto ret
    show _ = push (en_base_Whole s_ most) (fun l' => goto (lab_base_Whole l').1 (lab_base_Whole l').2) (fun r => ret [.s (.int .i64) r.1, .s .bool r.2])
    unfold en_base_Whole
    simp only [push_G, push_ite, push_bind, push_inl, push_inr]
    kernel_rfl
noncomputable def e_base_Whole : List DT → Option CallRes
  | [.s .str s_, .s (.int .i64) most] => some ⟨(Int × Bool), base_Whole s_ most, fun r => .tup [.s (.int .i64) r.1, .s .bool r.2], ((0 : Int), false), true⟩
  | _ => none
noncomputable def E_base_Whole : Env := Env.add 23 e_base_Whole E_lex_Number
theorem E_base_Whole_ok : EnvOk X0 E_base_Whole := by
  refine EnvOk.add E_lex_Number_ok (fun args c h => ?_)
  unfold e_base_Whole at h
  split at h
  · cases h
    exact ⟨fun r hr => .inl ⟨by kernel_rfl, ok_base_Whole _ _ r hr⟩, fun hb => fun r => noSl_res (by rfl)⟩
  · cases h

/-! ### 9 onceweb/oncewebref01.Number -/
def F_ref01_Number : FnD := { n := 8, rs := [2, 3] }
noncomputable def ref01_Number (s_ : (List UInt8)) : Option (Int × Bool) :=
  (base_Whole s_ (9007199254740992 : Int)).bind fun t5 =>
  some (t5.1, t5.2)
set_option maxRecDepth 100000 in
theorem ok_ref01_Number (s_ : (List UInt8)) (r : (Int × Bool)) (h : ref01_Number s_ = some r) : APure X0 9 ([.s .str s_].map DT.toT) (resT ([.s (.int .i64) r.1, .s .bool r.2].map DT.toT)) := by
  refine APure_of_straight (F := F_ref01_Number) (fuel := 3000) (E := E_base_Whole) Yok E_base_Whole_ok mixed Tryd.func9 rfl rfl rfl (by decide) (args := [.s .str s_]) (Nat.le_of_ble_eq_true rfl) (by kernel_rfl) (fun r => [.s (.int .i64) r.1, .s .bool r.2]) ?_ h
  intro goto ret
  unfold ref01_Number
  simp only [bnd_G, bnd_ite, bnd_bind, bnd_some]
  kernel_rfl
noncomputable def e_ref01_Number : List DT → Option CallRes
  | [.s .str s_] => some ⟨(Int × Bool), ref01_Number s_, fun r => .tup [.s (.int .i64) r.1, .s .bool r.2], ((0 : Int), false), true⟩
  | _ => none
noncomputable def E_ref01_Number : Env := Env.add 9 e_ref01_Number E_base_Whole
theorem E_ref01_Number_ok : EnvOk X0 E_ref01_Number := by
  refine EnvOk.add E_base_Whole_ok (fun args c h => ?_)
  unfold e_ref01_Number at h
  split at h
  · cases h
    exact ⟨fun r hr => .inl ⟨by kernel_rfl, ok_ref01_Number _ r hr⟩, fun hb => fun r => noSl_res (by rfl)⟩
  · cases h

/-! ### 39 slices.Index[[]string,string] -/
def F_slices_Index : FnD := { n := 19, rs := [4], labels := [(2, [0, 1, 7, 8])] }
inductive L_slices_Index where
  | l2 (s_ : (List (List UInt8))) (v : (List UInt8)) (x7 : Int) (x8 : Int)
def lab_slices_Index : L_slices_Index → Nat × DSt
  | .l2 s_ v x7 x8 => (2, [(0, .t (.s (.sl 1 .str) s_)), (1, .t (.s .str v)), (7, .t (.s (.int .i64) x7)), (8, .t (.s (.int .i64) x8))])
noncomputable def sg_slices_Index_2 (s_ : (List (List UInt8))) (v : (List UInt8)) (x7 : Int) (x8 : Int) : Option (L_slices_Index ⊕ Int) :=
  if (decide (x8 < x7)) = true then
  (G (0 ≤ x8 ∧ x8 < (s_.length : Int)) <|
  if (decide (v = (s_.getD x8.toNat ([] : List UInt8)))) = true then
  some (.inr x8)
  else
  some (.inl (.l2 s_ v x7 (w64 (x8 + (1 : Int))))))
  else
  some (.inr (-1 : Int))
noncomputable def st_slices_Index : L_slices_Index → Option (L_slices_Index ⊕ Int)
  | .l2 s_ v x7 x8 => sg_slices_Index_2 s_ v x7 x8
noncomputable def en_slices_Index (s_ : (List (List UInt8))) (v : (List UInt8)) : Option (L_slices_Index ⊕ Int) :=
  some (.inl (.l2 s_ v (s_.length : Int) (0 : Int)))
noncomputable def slices_Index (s_ : (List (List UInt8))) (v : (List UInt8)) : Option Int := runL st_slices_Index (en_slices_Index s_ v)
set_option maxRecDepth 100000 in
theorem ok_slices_Index (s_ : (List (List UInt8))) (v : (List UInt8)) (r : Int) (h : slices_Index s_ v = some r) : APure X0 39 ([.s (.sl 1 .str) s_, .s .str v].map DT.toT) (resT ([.s (.int .i64) r].map DT.toT)) := by
  refine APure_of_machine (F := F_slices_Index) (fuel := 3000) (E := E_ref01_Number) Yok E_ref01_Number_ok mixed Tryd.func39 rfl rfl rfl (by decide) (args := [.s (.sl 1 .str) s_, .s .str v]) (Nat.le_of_ble_eq_true rfl) (by kernel_rfl) lab_slices_Index st_slices_Index (fun r => [.s (.int .i64) r]) ?_ ?_ ?_ h
  · intro l; cases l
    · exact WF_list ⟨trivial, trivial, trivial, trivial, trivial⟩
  · intro l goto ret; cases l
    · show _ = push (sg_slices_Index_2 _ _ _ _) (fun l' => goto (lab_slices_Index l').1 (lab_slices_Index l').2) (fun r => ret [.s (.int .i64) r])
      unfold sg_slices_Index_2
      simp only [push_G, push_ite, push_bind, push_inl, push_inr]
      kernel_rfl
  · intro goto ret
    show _ = push (en_slices_Index s_ v) (fun l' => goto (lab_slices_Index l').1 (lab_slices_Index l').2) (fun r => ret [.s (.int .i64) r])
    unfold en_slices_Index
    simp only [push_G, push_ite, push_bind, push_inl, push_inr]
    kernel_rfl
noncomputable def e_slices_Index : List DT → Option CallRes
  | [.s (.sl 1 .str) s_, .s .str v] => some ⟨Int, slices_Index s_ v, fun r => .s (.int .i64) r, (0 : Int), true⟩
  | _ => none
noncomputable def E_slices_Index : Env := Env.add 39 e_slices_Index E_ref01_Number
theorem E_slices_Index_ok : EnvOk X0 E_slices_Index := by
  refine EnvOk.add E_ref01_Number_ok (fun args c h => ?_)
  unfold e_slices_Index at h
  split at h
  · cases h
    exact ⟨fun r hr => .inl ⟨by kernel_rfl, ok_slices_Index _ _ r hr⟩, fun hb => fun r => noSl_res (by rfl)⟩
  · cases h

/-! ### 26 slices.Contains[[]string,string] -/
def F_slices_Contains : FnD := { n := 9, rs := [4] }
noncomputable def slices_Contains (s_ : (List (List UInt8))) (v : (List UInt8)) : Option Bool :=
  (slices_Index s_ v).bind fun t7 =>
  some (decide ((0 : Int) ≤ t7))
set_option maxRecDepth 100000 in
theorem ok_slices_Contains (s_ : (List (List UInt8))) (v : (List UInt8)) (r : Bool) (h : slices_Contains s_ v = some r) : APure X0 26 ([.s (.sl 1 .str) s_, .s .str v].map DT.toT) (resT ([.s .bool r].map DT.toT)) := by
  refine APure_of_straight (F := F_slices_Contains) (fuel := 3000) (E := E_slices_Index) Yok E_slices_Index_ok mixed Tryd.func26 rfl rfl rfl (by decide) (args := [.s (.sl 1 .str) s_, .s .str v]) (Nat.le_of_ble_eq_true rfl) (by kernel_rfl) (fun r => [.s .bool r]) ?_ h
  intro goto ret
  unfold slices_Contains
  simp only [bnd_G, bnd_ite, bnd_bind, bnd_some]
  kernel_rfl
noncomputable def e_slices_Contains : List DT → Option CallRes
  | [.s (.sl 1 .str) s_, .s .str v] => some ⟨Bool, slices_Contains s_ v, fun r => .s .bool r, false, true⟩
  | _ => none
noncomputable def E_slices_Contains : Env := Env.add 26 e_slices_Contains E_slices_Index
theorem E_slices_Contains_ok : EnvOk X0 E_slices_Contains := by
  refine EnvOk.add E_slices_Index_ok (fun args c h => ?_)
  unfold e_slices_Contains at h
  split at h
  · cases h
    exact ⟨fun r hr => .inl ⟨by kernel_rfl, ok_slices_Contains _ _ r hr⟩, fun hb => fun r => noSl_res (by rfl)⟩
  · cases h

/-! ### 12 onceweb/lex.IsKey -/
def F_lex_IsKey : FnD := { n := 6, rs := [2] }
noncomputable def lex_IsKey (s_ : (List UInt8)) : Option Bool :=
  (slices_Contains gl0 s_).bind fun t5 =>
  some t5
set_option maxRecDepth 100000 in
theorem ok_lex_IsKey (s_ : (List UInt8)) (r : Bool) (h : lex_IsKey s_ = some r) : APure X0 12 ([.s .str s_].map DT.toT) (resT ([.s .bool r].map DT.toT)) := by
  refine APure_of_straight (F := F_lex_IsKey) (fuel := 3000) (E := E_slices_Contains) Yok E_slices_Contains_ok mixed Tryd.func12 rfl rfl rfl (by decide) (args := [.s .str s_]) (Nat.le_of_ble_eq_true rfl) (by kernel_rfl) (fun r => [.s .bool r]) ?_ h
  intro goto ret
  unfold lex_IsKey
  simp only [bnd_G, bnd_ite, bnd_bind, bnd_some]
  kernel_rfl
noncomputable def e_lex_IsKey : List DT → Option CallRes
  | [.s .str s_] => some ⟨Bool, lex_IsKey s_, fun r => .s .bool r, false, true⟩
  | _ => none
noncomputable def E_lex_IsKey : Env := Env.add 12 e_lex_IsKey E_slices_Contains
theorem E_lex_IsKey_ok : EnvOk X0 E_lex_IsKey := by
  refine EnvOk.add E_slices_Contains_ok (fun args c h => ?_)
  unfold e_lex_IsKey at h
  split at h
  · cases h
    exact ⟨fun r hr => .inl ⟨by kernel_rfl, ok_lex_IsKey _ r hr⟩, fun hb => fun r => noSl_res (by rfl)⟩
  · cases h

/-! ### 37 onceweb/lex.letter -/
def F_lex_letter : FnD := { n := 9, rs := [2] }
noncomputable def lex_letter (c : UInt8) : Option Bool :=
  some ((decide (97 ≤ (c.toNat : Int))) && (decide ((c.toNat : Int) ≤ 122)))
set_option maxRecDepth 100000 in
theorem ok_lex_letter (c : UInt8) (r : Bool) (h : lex_letter c = some r) : APure X0 37 ([.s .u8 c].map DT.toT) (resT ([.s .bool r].map DT.toT)) := by
  refine APure_of_straight (F := F_lex_letter) (fuel := 3000) (E := E_lex_IsKey) Yok E_lex_IsKey_ok mixed Tryd.func37 rfl rfl rfl (by decide) (args := [.s .u8 c]) (Nat.le_of_ble_eq_true rfl) (by kernel_rfl) (fun r => [.s .bool r]) ?_ h
  intro goto ret
  unfold lex_letter
  simp only [bnd_G, bnd_ite, bnd_bind, bnd_some]
  kernel_rfl
noncomputable def e_lex_letter : List DT → Option CallRes
  | [.s .u8 c] => some ⟨Bool, lex_letter c, fun r => .s .bool r, false, true⟩
  | _ => none
noncomputable def E_lex_letter : Env := Env.add 37 e_lex_letter E_lex_IsKey
theorem E_lex_letter_ok : EnvOk X0 E_lex_letter := by
  refine EnvOk.add E_lex_IsKey_ok (fun args c h => ?_)
  unfold e_lex_letter at h
  split at h
  · cases h
    exact ⟨fun r hr => .inl ⟨by kernel_rfl, ok_lex_letter _ r hr⟩, fun hb => fun r => noSl_res (by rfl)⟩
  · cases h

/-! ### 24 onceweb/lex.word -/
def F_lex_word : FnD := { n := 42, rs := [4], labels := [(3, [0, 1])] }
inductive L_lex_word where
  | l3 (s_ : (List UInt8)) (at_ : Int)
def lab_lex_word : L_lex_word → Nat × DSt
  | .l3 s_ at_ => (3, [(0, .t (.s .str s_)), (1, .t (.s (.int .i64) at_))])
noncomputable def sg_lex_word_3 (s_ : (List UInt8)) (at_ : Int) : Option (L_lex_word ⊕ Int) :=
  G ((decide (at_ < (s_.length : Int))) = true → (0 ≤ at_ ∧ at_ < (s_.length : Int))) <|
  (if (decide (at_ < (s_.length : Int))) = true then lex_letter (s_.getD at_.toNat 0) else some false).bind fun t25 =>
  G (((decide (at_ < (s_.length : Int))) && !t25) = true → (0 ≤ at_ ∧ at_ < (s_.length : Int))) <|
  (if ((decide (at_ < (s_.length : Int))) && !t25) = true then lex_digit (s_.getD at_.toNat 0) else some false).bind fun t30 =>
  G (((decide (at_ < (s_.length : Int))) && !(t25 || t30)) = true → (0 ≤ at_ ∧ at_ < (s_.length : Int))) <|
  if ((decide (at_ < (s_.length : Int))) && ((t25 || t30) || (decide (((s_.getD at_.toNat 0).toNat : Int) = 95)))) = true then
  some (.inl (.l3 s_ (w64 (at_ + (1 : Int)))))
  else
  some (.inr at_)
noncomputable def st_lex_word : L_lex_word → Option (L_lex_word ⊕ Int)
  | .l3 s_ at_ => sg_lex_word_3 s_ at_
noncomputable def en_lex_word (s_ : (List UInt8)) (at_ : Int) : Option (L_lex_word ⊕ Int) :=
  G ((!(decide ((s_.length : Int) ≤ at_))) = true → (0 ≤ at_ ∧ at_ < (s_.length : Int))) <|
  (if (!(decide ((s_.length : Int) ≤ at_))) = true then lex_letter (s_.getD at_.toNat 0) else some false).bind fun t13 =>
  if ((decide ((s_.length : Int) ≤ at_)) || (!t13)) = true then
  some (.inr at_)
  else
  some (.inl (.l3 s_ at_))
noncomputable def lex_word (s_ : (List UInt8)) (at_ : Int) : Option Int := runL st_lex_word (en_lex_word s_ at_)
set_option maxRecDepth 100000 in
theorem ok_lex_word (s_ : (List UInt8)) (at_ : Int) (r : Int) (h : lex_word s_ at_ = some r) : APure X0 24 ([.s .str s_, .s (.int .i64) at_].map DT.toT) (resT ([.s (.int .i64) r].map DT.toT)) := by
  refine APure_of_machine (F := F_lex_word) (fuel := 3000) (E := E_lex_letter) Yok E_lex_letter_ok mixed Tryd.func24 rfl rfl rfl (by decide) (args := [.s .str s_, .s (.int .i64) at_]) (Nat.le_of_ble_eq_true rfl) (by kernel_rfl) lab_lex_word st_lex_word (fun r => [.s (.int .i64) r]) ?_ ?_ ?_ h
  · intro l; cases l
    · exact WF_list ⟨trivial, trivial, trivial⟩
  · intro l goto ret; cases l
    · show _ = push (sg_lex_word_3 _ _) (fun l' => goto (lab_lex_word l').1 (lab_lex_word l').2) (fun r => ret [.s (.int .i64) r])
      unfold sg_lex_word_3
      simp only [push_G, push_ite, push_bind, push_inl, push_inr]
      kernel_rfl
  · intro goto ret
    show _ = push (en_lex_word s_ at_) (fun l' => goto (lab_lex_word l').1 (lab_lex_word l').2) (fun r => ret [.s (.int .i64) r])
    unfold en_lex_word
    simp only [push_G, push_ite, push_bind, push_inl, push_inr]
    kernel_rfl
noncomputable def e_lex_word : List DT → Option CallRes
  | [.s .str s_, .s (.int .i64) at_] => some ⟨Int, lex_word s_ at_, fun r => .s (.int .i64) r, (0 : Int), true⟩
  | _ => none
noncomputable def E_lex_word : Env := Env.add 24 e_lex_word E_lex_letter
theorem E_lex_word_ok : EnvOk X0 E_lex_word := by
  refine EnvOk.add E_lex_letter_ok (fun args c h => ?_)
  unfold e_lex_word at h
  split at h
  · cases h
    exact ⟨fun r hr => .inl ⟨by kernel_rfl, ok_lex_word _ _ r hr⟩, fun hb => fun r => noSl_res (by rfl)⟩
  · cases h

/-! ### 10 onceweb/lex.IsName -/
def F_lex_IsName : FnD := { n := 22, rs := [2] }
noncomputable def lex_IsName (s_ : (List UInt8)) : Option Bool :=
  (if ((!decide (s_ = ([] : List UInt8))) && (decide ((s_.length : Int) ≤ (24 : Int)))) = true then lex_word s_ (0 : Int) else some (0 : Int)).bind fun t12 =>
  (if (((!decide (s_ = ([] : List UInt8))) && (decide ((s_.length : Int) ≤ (24 : Int)))) && (decide (t12 = (s_.length : Int)))) = true then lex_IsKey s_ else some false).bind fun t19 =>
  some ((((!decide (s_ = ([] : List UInt8))) && (decide ((s_.length : Int) ≤ (24 : Int)))) && (decide (t12 = (s_.length : Int)))) && (!t19))
set_option maxRecDepth 100000 in
theorem ok_lex_IsName (s_ : (List UInt8)) (r : Bool) (h : lex_IsName s_ = some r) : APure X0 10 ([.s .str s_].map DT.toT) (resT ([.s .bool r].map DT.toT)) := by
  refine APure_of_straight (F := F_lex_IsName) (fuel := 3000) (E := E_lex_word) Yok E_lex_word_ok mixed Tryd.func10 rfl rfl rfl (by decide) (args := [.s .str s_]) (Nat.le_of_ble_eq_true rfl) (by kernel_rfl) (fun r => [.s .bool r]) ?_ h
  intro goto ret
  unfold lex_IsName
  simp only [bnd_G, bnd_ite, bnd_bind, bnd_some]
  kernel_rfl
noncomputable def e_lex_IsName : List DT → Option CallRes
  | [.s .str s_] => some ⟨Bool, lex_IsName s_, fun r => .s .bool r, false, true⟩
  | _ => none
noncomputable def E_lex_IsName : Env := Env.add 10 e_lex_IsName E_lex_word
theorem E_lex_IsName_ok : EnvOk X0 E_lex_IsName := by
  refine EnvOk.add E_lex_word_ok (fun args c h => ?_)
  unfold e_lex_IsName at h
  split at h
  · cases h
    exact ⟨fun r hr => .inl ⟨by kernel_rfl, ok_lex_IsName _ r hr⟩, fun hb => fun r => noSl_res (by rfl)⟩
  · cases h

/-! ### 27 onceweb/oncewebbase.In -/
def F_base_In : FnD := { n := 18, rs := [4], labels := [(2, [0, 1, 5])] }
inductive L_base_In where
  | l2 (l : (List (List UInt8))) (s_ : (List UInt8)) (i : Int)
def lab_base_In : L_base_In → Nat × DSt
  | .l2 l s_ i => (2, [(0, .t (.s (.sl 1 .str) l)), (1, .t (.s .str s_)), (5, .t (.s (.int .i64) i))])
noncomputable def sg_base_In_2 (l : (List (List UInt8))) (s_ : (List UInt8)) (i : Int) : Option (L_base_In ⊕ Bool) :=
  if (decide (i < (l.length : Int))) = true then
  (G (0 ≤ i ∧ i < (l.length : Int)) <|
  if (decide ((l.getD i.toNat ([] : List UInt8)) = s_)) = true then
  some (.inr true)
  else
  some (.inl (.l2 l s_ (w64 (i + (1 : Int))))))
  else
  some (.inr false)
noncomputable def st_base_In : L_base_In → Option (L_base_In ⊕ Bool)
  | .l2 l s_ i => sg_base_In_2 l s_ i
noncomputable def en_base_In (l : (List (List UInt8))) (s_ : (List UInt8)) : Option (L_base_In ⊕ Bool) :=
  some (.inl (.l2 l s_ (0 : Int)))
noncomputable def base_In (l : (List (List UInt8))) (s_ : (List UInt8)) : Option Bool := runL st_base_In (en_base_In l s_)
set_option maxRecDepth 100000 in
theorem ok_base_In (l : (List (List UInt8))) (s_ : (List UInt8)) (r : Bool) (h : base_In l s_ = some r) : APure X0 27 ([.s (.sl 1 .str) l, .s .str s_].map DT.toT) (resT ([.s .bool r].map DT.toT)) := by
  refine APure_of_machine (F := F_base_In) (fuel := 3000) (E := E_lex_IsName) Yok E_lex_IsName_ok mixed Tryd.func27 rfl rfl rfl (by decide) (args := [.s (.sl 1 .str) l, .s .str s_]) (Nat.le_of_ble_eq_true rfl) (by kernel_rfl) lab_base_In st_base_In (fun r => [.s .bool r]) ?_ ?_ ?_ h
  · intro l; cases l
    · exact WF_list ⟨trivial, trivial, trivial, trivial⟩
  · intro l goto ret; cases l
    · show _ = push (sg_base_In_2 _ _ _) (fun l' => goto (lab_base_In l').1 (lab_base_In l').2) (fun r => ret [.s .bool r])
      unfold sg_base_In_2
      simp only [push_G, push_ite, push_bind, push_inl, push_inr]
      kernel_rfl
  · intro goto ret
    show _ = push (en_base_In l s_) (fun l' => goto (lab_base_In l').1 (lab_base_In l').2) (fun r => ret [.s .bool r])
    unfold en_base_In
    simp only [push_G, push_ite, push_bind, push_inl, push_inr]
    kernel_rfl
noncomputable def e_base_In : List DT → Option CallRes
  | [.s (.sl 1 .str) l, .s .str s_] => some ⟨Bool, base_In l s_, fun r => .s .bool r, false, true⟩
  | _ => none
noncomputable def E_base_In : Env := Env.add 27 e_base_In E_lex_IsName
theorem E_base_In_ok : EnvOk X0 E_base_In := by
  refine EnvOk.add E_lex_IsName_ok (fun args c h => ?_)
  unfold e_base_In at h
  split at h
  · cases h
    exact ⟨fun r hr => .inl ⟨by kernel_rfl, ok_base_In _ _ r hr⟩, fun hb => fun r => noSl_res (by rfl)⟩
  · cases h

/-! ### 28 onceweb/oncewebbase.Keys -/
def F_base_Keys : FnD := { n := 2, rs := [0] }
noncomputable def base_Keys  : Option (List (List UInt8)) :=
  some ([([99, 101, 108, 108] : List UInt8), ([97, 103, 97, 105, 110] : List UInt8), ([116, 114, 105, 101, 115] : List UInt8), ([98, 97, 115, 101] : List UInt8), ([102, 97, 99, 116, 111, 114] : List UInt8), ([99, 97, 112] : List UInt8), ([99, 108, 111, 115, 101] : List UInt8), ([102, 105, 110, 101] : List UInt8), ([102, 97, 105, 108] : List UInt8), ([112, 97, 110, 105, 99] : List UInt8), ([105, 102] : List UInt8), ([116, 104, 101, 110] : List UInt8), ([101, 108, 115, 101] : List UInt8), ([116, 114, 121] : List UInt8), ([119, 97, 105, 116] : List UInt8), ([108, 101, 116] : List UInt8), ([105, 110] : List UInt8), ([105, 116, 101, 109] : List UInt8), ([115, 105, 122, 101] : List UInt8)])
set_option maxRecDepth 100000 in
theorem ok_base_Keys  (r : (List (List UInt8))) (h : base_Keys  = some r) : APure X0 28 ([].map DT.toT) (resT ([.own 9 .str r].map DT.toT)) := by
  refine APure_of_straight (F := F_base_Keys) (fuel := 3000) (E := E_base_In) Yok E_base_In_ok mixed Tryd.func28 rfl rfl rfl (by decide) (args := []) (Nat.le_of_ble_eq_true rfl) (by kernel_rfl) (fun r => [.own 9 .str r]) ?_ h
  intro goto ret
  unfold base_Keys
  simp only [bnd_G, bnd_ite, bnd_bind, bnd_some]
  kernel_rfl
noncomputable def e_base_Keys : List DT → Option CallRes
  | [] => some ⟨(List (List UInt8)), base_Keys , fun r => .own 9 .str r, [], true⟩
  | _ => none
noncomputable def E_base_Keys : Env := Env.add 28 e_base_Keys E_base_In
theorem E_base_Keys_ok : EnvOk X0 E_base_Keys := by
  refine EnvOk.add E_base_In_ok (fun args c h => ?_)
  unfold e_base_Keys at h
  split at h
  · cases h
    exact ⟨fun r hr => .inl ⟨by kernel_rfl, ok_base_Keys r hr⟩, fun hb => fun r => noSl_res (by rfl)⟩
  · cases h

/-! ### 38 onceweb/oncewebbase.Word -/
def F_base_Word : FnD := { n := 45, rs := [2], labels := [(4, [0, 3])] }
inductive L_base_Word where
  | l4 (s_ : (List UInt8)) (i : Int)
def lab_base_Word : L_base_Word → Nat × DSt
  | .l4 s_ i => (4, [(0, .t (.s .str s_)), (3, .t (.s (.int .i64) i))])
noncomputable def sg_base_Word_4 (s_ : (List UInt8)) (i : Int) : Option (L_base_Word ⊕ Bool) :=
  if (decide (i < (s_.length : Int))) = true then
  (G (0 ≤ i ∧ i < (s_.length : Int)) <|
  if (!((((decide (97 ≤ ((s_.getD i.toNat 0).toNat : Int))) && (decide (((s_.getD i.toNat 0).toNat : Int) ≤ 122))) || ((decide (48 ≤ ((s_.getD i.toNat 0).toNat : Int))) && (decide (((s_.getD i.toNat 0).toNat : Int) ≤ 57)))) || (decide (((s_.getD i.toNat 0).toNat : Int) = 95)))) = true then
  some (.inr false)
  else
  some (.inl (.l4 s_ (w64 (i + (1 : Int))))))
  else
  some (.inr true)
noncomputable def st_base_Word : L_base_Word → Option (L_base_Word ⊕ Bool)
  | .l4 s_ i => sg_base_Word_4 s_ i
noncomputable def en_base_Word (s_ : (List UInt8)) : Option (L_base_Word ⊕ Bool) :=
  G ((!(decide (s_ = ([] : List UInt8)))) = true → (0 ≤ (0 : Int) ∧ (0 : Int) < (s_.length : Int))) <|
  G ((!((decide (s_ = ([] : List UInt8))) || (decide (((s_.getD (0 : Int).toNat 0).toNat : Int) < 97)))) = true → (0 ≤ (0 : Int) ∧ (0 : Int) < (s_.length : Int))) <|
  if (((decide (s_ = ([] : List UInt8))) || (decide (((s_.getD (0 : Int).toNat 0).toNat : Int) < 97))) || (decide (122 < ((s_.getD (0 : Int).toNat 0).toNat : Int)))) = true then
  some (.inr false)
  else
  some (.inl (.l4 s_ (1 : Int)))
noncomputable def base_Word (s_ : (List UInt8)) : Option Bool := runL st_base_Word (en_base_Word s_)
set_option maxRecDepth 100000 in
theorem ok_base_Word (s_ : (List UInt8)) (r : Bool) (h : base_Word s_ = some r) : APure X0 38 ([.s .str s_].map DT.toT) (resT ([.s .bool r].map DT.toT)) := by
  refine APure_of_machine (F := F_base_Word) (fuel := 3000) (E := E_base_Keys) Yok E_base_Keys_ok mixed Tryd.func38 rfl rfl rfl (by decide) (args := [.s .str s_]) (Nat.le_of_ble_eq_true rfl) (by kernel_rfl) lab_base_Word st_base_Word (fun r => [.s .bool r]) ?_ ?_ ?_ h
  · intro l; cases l
    · exact WF_list ⟨trivial, trivial, trivial⟩
  · intro l goto ret; cases l
    · show _ = push (sg_base_Word_4 _ _) (fun l' => goto (lab_base_Word l').1 (lab_base_Word l').2) (fun r => ret [.s .bool r])
      unfold sg_base_Word_4
      simp only [push_G, push_ite, push_bind, push_inl, push_inr]
      kernel_rfl
  · intro goto ret
    show _ = push (en_base_Word s_) (fun l' => goto (lab_base_Word l').1 (lab_base_Word l').2) (fun r => ret [.s .bool r])
    unfold en_base_Word
    simp only [push_G, push_ite, push_bind, push_inl, push_inr]
    kernel_rfl
noncomputable def e_base_Word : List DT → Option CallRes
  | [.s .str s_] => some ⟨Bool, base_Word s_, fun r => .s .bool r, false, true⟩
  | _ => none
noncomputable def E_base_Word : Env := Env.add 38 e_base_Word E_base_Keys
theorem E_base_Word_ok : EnvOk X0 E_base_Word := by
  refine EnvOk.add E_base_Keys_ok (fun args c h => ?_)
  unfold e_base_Word at h
  split at h
  · cases h
    exact ⟨fun r hr => .inl ⟨by kernel_rfl, ok_base_Word _ r hr⟩, fun hb => fun r => noSl_res (by rfl)⟩
  · cases h

/-! ### 25 onceweb/oncewebbase.Name -/
def F_base_Name : FnD := { n := 16, rs := [2] }
noncomputable def base_Name (s_ : (List UInt8)) : Option Bool :=
  (if (decide ((s_.length : Int) ≤ (24 : Int))) = true then base_Word s_ else some false).bind fun t8 =>
  (if ((decide ((s_.length : Int) ≤ (24 : Int))) && t8) = true then base_Keys else some []).bind fun t11 =>
  (if ((decide ((s_.length : Int) ≤ (24 : Int))) && t8) = true then base_In t11 s_ else some false).bind fun t13 =>
  some (((decide ((s_.length : Int) ≤ (24 : Int))) && t8) && (!t13))
set_option maxRecDepth 100000 in
theorem ok_base_Name (s_ : (List UInt8)) (r : Bool) (h : base_Name s_ = some r) : APure X0 25 ([.s .str s_].map DT.toT) (resT ([.s .bool r].map DT.toT)) := by
  refine APure_of_straight (F := F_base_Name) (fuel := 3000) (E := E_base_Word) Yok E_base_Word_ok mixed Tryd.func25 rfl rfl rfl (by decide) (args := [.s .str s_]) (Nat.le_of_ble_eq_true rfl) (by kernel_rfl) (fun r => [.s .bool r]) ?_ h
  intro goto ret
  unfold base_Name
  simp only [bnd_G, bnd_ite, bnd_bind, bnd_some]
  kernel_rfl
noncomputable def e_base_Name : List DT → Option CallRes
  | [.s .str s_] => some ⟨Bool, base_Name s_, fun r => .s .bool r, false, true⟩
  | _ => none
noncomputable def E_base_Name : Env := Env.add 25 e_base_Name E_base_Word
theorem E_base_Name_ok : EnvOk X0 E_base_Name := by
  refine EnvOk.add E_base_Word_ok (fun args c h => ?_)
  unfold e_base_Name at h
  split at h
  · cases h
    exact ⟨fun r hr => .inl ⟨by kernel_rfl, ok_base_Name _ r hr⟩, fun hb => fun r => noSl_res (by rfl)⟩
  · cases h

/-! ### 11 onceweb/oncewebref01.IsName -/
def F_ref01_IsName : FnD := { n := 5, rs := [2] }
noncomputable def ref01_IsName (s_ : (List UInt8)) : Option Bool :=
  (base_Name s_).bind fun t4 =>
  some t4
set_option maxRecDepth 100000 in
theorem ok_ref01_IsName (s_ : (List UInt8)) (r : Bool) (h : ref01_IsName s_ = some r) : APure X0 11 ([.s .str s_].map DT.toT) (resT ([.s .bool r].map DT.toT)) := by
  refine APure_of_straight (F := F_ref01_IsName) (fuel := 3000) (E := E_base_Name) Yok E_base_Name_ok mixed Tryd.func11 rfl rfl rfl (by decide) (args := [.s .str s_]) (Nat.le_of_ble_eq_true rfl) (by kernel_rfl) (fun r => [.s .bool r]) ?_ h
  intro goto ret
  unfold ref01_IsName
  simp only [bnd_G, bnd_ite, bnd_bind, bnd_some]
  kernel_rfl
noncomputable def e_ref01_IsName : List DT → Option CallRes
  | [.s .str s_] => some ⟨Bool, ref01_IsName s_, fun r => .s .bool r, false, true⟩
  | _ => none
noncomputable def E_ref01_IsName : Env := Env.add 11 e_ref01_IsName E_base_Name
theorem E_ref01_IsName_ok : EnvOk X0 E_ref01_IsName := by
  refine EnvOk.add E_base_Name_ok (fun args c h => ?_)
  unfold e_ref01_IsName at h
  split at h
  · cases h
    exact ⟨fun r hr => .inl ⟨by kernel_rfl, ok_ref01_IsName _ r hr⟩, fun hb => fun r => noSl_res (by rfl)⟩
  · cases h

/-! ### 13 onceweb/oncewebref01.IsKey -/
def F_ref01_IsKey : FnD := { n := 6, rs := [2] }
noncomputable def ref01_IsKey (s_ : (List UInt8)) : Option Bool :=
  (base_Keys).bind fun t3 =>
  (base_In t3 s_).bind fun t5 =>
  some t5
set_option maxRecDepth 100000 in
theorem ok_ref01_IsKey (s_ : (List UInt8)) (r : Bool) (h : ref01_IsKey s_ = some r) : APure X0 13 ([.s .str s_].map DT.toT) (resT ([.s .bool r].map DT.toT)) := by
  refine APure_of_straight (F := F_ref01_IsKey) (fuel := 3000) (E := E_ref01_IsName) Yok E_ref01_IsName_ok mixed Tryd.func13 rfl rfl rfl (by decide) (args := [.s .str s_]) (Nat.le_of_ble_eq_true rfl) (by kernel_rfl) (fun r => [.s .bool r]) ?_ h
  intro goto ret
  unfold ref01_IsKey
  simp only [bnd_G, bnd_ite, bnd_bind, bnd_some]
  kernel_rfl
noncomputable def e_ref01_IsKey : List DT → Option CallRes
  | [.s .str s_] => some ⟨Bool, ref01_IsKey s_, fun r => .s .bool r, false, true⟩
  | _ => none
noncomputable def E_ref01_IsKey : Env := Env.add 13 e_ref01_IsKey E_ref01_IsName
theorem E_ref01_IsKey_ok : EnvOk X0 E_ref01_IsKey := by
  refine EnvOk.add E_ref01_IsName_ok (fun args c h => ?_)
  unfold e_ref01_IsKey at h
  split at h
  · cases h
    exact ⟨fun r hr => .inl ⟨by kernel_rfl, ok_ref01_IsKey _ r hr⟩, fun hb => fun r => noSl_res (by rfl)⟩
  · cases h

/-! ### 3 onceweb/onceweblaw01.LexWords -/
def F_law01_LexWords : FnD := { n := 39, rs := [2] }
noncomputable def law01_LexWords (s_ : (List UInt8)) : Option Bool :=
  (lex_Number s_).bind fun t9 =>
  (ref01_Number s_).bind fun t14 =>
  (lex_IsName s_).bind fun t18 =>
  (ref01_IsName s_).bind fun t20 =>
  (if (t18 == t20) = true then lex_IsKey s_ else some false).bind fun t24 =>
  (if (t18 == t20) = true then ref01_IsKey s_ else some false).bind fun t26 =>
  some ((((t18 == t20) && (t24 == t26)) && (decide (t9.1 = t14.1))) && (t9.2 == t14.2))
set_option maxRecDepth 100000 in
theorem ok_law01_LexWords (s_ : (List UInt8)) (r : Bool) (h : law01_LexWords s_ = some r) : APure X0 3 ([.s .str s_].map DT.toT) (resT ([.s .bool r].map DT.toT)) := by
  refine APure_of_straight (F := F_law01_LexWords) (fuel := 3000) (E := E_ref01_IsKey) Yok E_ref01_IsKey_ok mixed Tryd.func3 rfl rfl rfl (by decide) (args := [.s .str s_]) (Nat.le_of_ble_eq_true rfl) (by kernel_rfl) (fun r => [.s .bool r]) ?_ h
  intro goto ret
  unfold law01_LexWords
  simp only [bnd_G, bnd_ite, bnd_bind, bnd_some]
  kernel_rfl
noncomputable def e_law01_LexWords : List DT → Option CallRes
  | [.s .str s_] => some ⟨Bool, law01_LexWords s_, fun r => .s .bool r, false, true⟩
  | _ => none
noncomputable def E_law01_LexWords : Env := Env.add 3 e_law01_LexWords E_ref01_IsKey
theorem E_law01_LexWords_ok : EnvOk X0 E_law01_LexWords := by
  refine EnvOk.add E_ref01_IsKey_ok (fun args c h => ?_)
  unfold e_law01_LexWords at h
  split at h
  · cases h
    exact ⟨fun r hr => .inl ⟨by kernel_rfl, ok_law01_LexWords _ r hr⟩, fun hb => fun r => noSl_res (by rfl)⟩
  · cases h

end Go.Eng
