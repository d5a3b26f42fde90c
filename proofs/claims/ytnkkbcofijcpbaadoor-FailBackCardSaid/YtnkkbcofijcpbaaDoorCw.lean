/- A part of the proof: Cw. -/
import Derived.Test.YtnkkbcofijcpbaaDoorLad
import Derived.Test.YtnkkbcofijcpbaaDoorCn
namespace Go.Eng
set_option linter.unusedVariables false
set_option linter.unusedSimpArgs false
set_option maxRecDepth 8000
noncomputable def sg_base_SameFail_4_c (a : (List tCrack)) (b : (List tCrack)) (i : Int) : Option (L_base_SameFail ⊕ Bool) :=
  if (decide (i < (a.length : Int))) = true then
  (G (0 ≤ i ∧ i < (a.length : Int)) <|
  G (0 ≤ i ∧ i < (b.length : Int)) <|
  if (!(eqR tyCrack (a.getD i.toNat dCrack) (b.getD i.toNat dCrack))) = true then
  some (.inr false)
  else
  some (.inl (.l4 a b (w64 (i + (1 : Int))))))
  else
  some (.inr true)
theorem sg_base_SameFail_4_le (a : (List tCrack)) (b : (List tCrack)) (i : Int) : Le (sg_base_SameFail_4_c a b i) (sg_base_SameFail_4 a b i) := by
  unfold sg_base_SameFail_4_c sg_base_SameFail_4
  repeat' first
    | with_reducible refine Le.bind ?_ (fun _ => ?_)
    | with_reducible refine Le.ite ?_ ?_
    | with_reducible refine Le.G ?_
    | exact Le.refl _
noncomputable def st_base_SameFail_c : L_base_SameFail → Option (L_base_SameFail ⊕ Bool)
  | .l4 a b i => sg_base_SameFail_4_c a b i
theorem st_base_SameFail_le : ∀ l, Le (st_base_SameFail_c l) (st_base_SameFail l)
  | .l4 a b i => sg_base_SameFail_4_le a b i
noncomputable def en_base_SameFail_c (a : (List tCrack)) (b : (List tCrack)) : Option (L_base_SameFail ⊕ Bool) :=
  if (!decide ((a.length : Int) = (b.length : Int))) = true then
  some (.inr false)
  else
  some (.inl (.l4 a b (0 : Int)))
theorem en_base_SameFail_le (a : (List tCrack)) (b : (List tCrack)) : Le (en_base_SameFail_c a b) (en_base_SameFail a b) := by
  unfold en_base_SameFail_c en_base_SameFail
  repeat' first
    | with_reducible refine Le.bind ?_ (fun _ => ?_)
    | with_reducible refine Le.ite ?_ ?_
    | with_reducible refine Le.G ?_
    | exact Le.refl _
noncomputable def base_SameFail_c (a : (List tCrack)) (b : (List tCrack)) : Option Bool := runLN 400 st_base_SameFail_c (en_base_SameFail_c a b)
theorem base_SameFail_le (a : (List tCrack)) (b : (List tCrack)) : Le (base_SameFail_c a b) (base_SameFail a b) := by
  unfold base_SameFail_c base_SameFail
  exact Le.runL st_base_SameFail_le (en_base_SameFail_le _ _)
noncomputable def sg_lex_word_3_c (s_ : (List UInt8)) (at_ : Int) : Option (L_lex_word ⊕ Int) :=
  G ((decide (at_ < (s_.length : Int))) = true → (0 ≤ at_ ∧ at_ < (s_.length : Int))) <|
  (if (decide (at_ < (s_.length : Int))) = true then lex_letter (s_.getD at_.toNat 0) else some false).bind fun t25 =>
  G (((decide (at_ < (s_.length : Int))) && !t25) = true → (0 ≤ at_ ∧ at_ < (s_.length : Int))) <|
  (if ((decide (at_ < (s_.length : Int))) && !t25) = true then lex_digit (s_.getD at_.toNat 0) else some false).bind fun t30 =>
  G (((decide (at_ < (s_.length : Int))) && !(t25 || t30)) = true → (0 ≤ at_ ∧ at_ < (s_.length : Int))) <|
  if ((decide (at_ < (s_.length : Int))) && ((t25 || t30) || (decide (((s_.getD at_.toNat 0).toNat : Int) = 95)))) = true then
  some (.inl (.l3 s_ (w64 (at_ + (1 : Int)))))
  else
  some (.inr at_)
theorem sg_lex_word_3_le (s_ : (List UInt8)) (at_ : Int) : Le (sg_lex_word_3_c s_ at_) (sg_lex_word_3 s_ at_) := by
  unfold sg_lex_word_3_c sg_lex_word_3
  repeat' first
    | with_reducible refine Le.bind ?_ (fun _ => ?_)
    | with_reducible refine Le.ite ?_ ?_
    | with_reducible refine Le.G ?_
    | exact Le.refl _
noncomputable def st_lex_word_c : L_lex_word → Option (L_lex_word ⊕ Int)
  | .l3 s_ at_ => sg_lex_word_3_c s_ at_
theorem st_lex_word_le : ∀ l, Le (st_lex_word_c l) (st_lex_word l)
  | .l3 s_ at_ => sg_lex_word_3_le s_ at_
noncomputable def en_lex_word_c (s_ : (List UInt8)) (at_ : Int) : Option (L_lex_word ⊕ Int) :=
  G ((!(decide ((s_.length : Int) ≤ at_))) = true → (0 ≤ at_ ∧ at_ < (s_.length : Int))) <|
  (if (!(decide ((s_.length : Int) ≤ at_))) = true then lex_letter (s_.getD at_.toNat 0) else some false).bind fun t13 =>
  if ((decide ((s_.length : Int) ≤ at_)) || (!t13)) = true then
  some (.inr at_)
  else
  some (.inl (.l3 s_ at_))
theorem en_lex_word_le (s_ : (List UInt8)) (at_ : Int) : Le (en_lex_word_c s_ at_) (en_lex_word s_ at_) := by
  unfold en_lex_word_c en_lex_word
  repeat' first
    | with_reducible refine Le.bind ?_ (fun _ => ?_)
    | with_reducible refine Le.ite ?_ ?_
    | with_reducible refine Le.G ?_
    | exact Le.refl _
noncomputable def lex_word_c (s_ : (List UInt8)) (at_ : Int) : Option Int := runLN 400 st_lex_word_c (en_lex_word_c s_ at_)
theorem lex_word_le (s_ : (List UInt8)) (at_ : Int) : Le (lex_word_c s_ at_) (lex_word s_ at_) := by
  unfold lex_word_c lex_word
  exact Le.runL st_lex_word_le (en_lex_word_le _ _)
noncomputable def sg_slices_Index_2_c (s_ : (List (List UInt8))) (v : (List UInt8)) (x7 : Int) (x8 : Int) : Option (L_slices_Index ⊕ Int) :=
  if (decide (x8 < x7)) = true then
  (G (0 ≤ x8 ∧ x8 < (s_.length : Int)) <|
  if (decide (v = (s_.getD x8.toNat ([] : List UInt8)))) = true then
  some (.inr x8)
  else
  some (.inl (.l2 s_ v x7 (w64 (x8 + (1 : Int))))))
  else
  some (.inr (-1 : Int))
theorem sg_slices_Index_2_le (s_ : (List (List UInt8))) (v : (List UInt8)) (x7 : Int) (x8 : Int) : Le (sg_slices_Index_2_c s_ v x7 x8) (sg_slices_Index_2 s_ v x7 x8) := by
  unfold sg_slices_Index_2_c sg_slices_Index_2
  repeat' first
    | with_reducible refine Le.bind ?_ (fun _ => ?_)
    | with_reducible refine Le.ite ?_ ?_
    | with_reducible refine Le.G ?_
    | exact Le.refl _
noncomputable def st_slices_Index_c : L_slices_Index → Option (L_slices_Index ⊕ Int)
  | .l2 s_ v x7 x8 => sg_slices_Index_2_c s_ v x7 x8
theorem st_slices_Index_le : ∀ l, Le (st_slices_Index_c l) (st_slices_Index l)
  | .l2 s_ v x7 x8 => sg_slices_Index_2_le s_ v x7 x8
noncomputable def en_slices_Index_c (s_ : (List (List UInt8))) (v : (List UInt8)) : Option (L_slices_Index ⊕ Int) :=
  some (.inl (.l2 s_ v (s_.length : Int) (0 : Int)))
theorem en_slices_Index_le (s_ : (List (List UInt8))) (v : (List UInt8)) : Le (en_slices_Index_c s_ v) (en_slices_Index s_ v) := by
  unfold en_slices_Index_c en_slices_Index
  repeat' first
    | with_reducible refine Le.bind ?_ (fun _ => ?_)
    | with_reducible refine Le.ite ?_ ?_
    | with_reducible refine Le.G ?_
    | exact Le.refl _
noncomputable def slices_Index_c (s_ : (List (List UInt8))) (v : (List UInt8)) : Option Int := runLN 400 st_slices_Index_c (en_slices_Index_c s_ v)
theorem slices_Index_le (s_ : (List (List UInt8))) (v : (List UInt8)) : Le (slices_Index_c s_ v) (slices_Index s_ v) := by
  unfold slices_Index_c slices_Index
  exact Le.runL st_slices_Index_le (en_slices_Index_le _ _)
noncomputable def slices_Contains_c (s_ : (List (List UInt8))) (v : (List UInt8)) : Option Bool :=
  (slices_Index_c s_ v).bind fun t7 =>
  some (decide ((0 : Int) ≤ t7))
theorem slices_Contains_le (s_ : (List (List UInt8))) (v : (List UInt8)) : Le (slices_Contains_c s_ v) (slices_Contains s_ v) := by
  unfold slices_Contains_c slices_Contains
  repeat' first
    | with_reducible refine Le.bind ?_ (fun _ => ?_)
    | with_reducible refine Le.ite ?_ ?_
    | with_reducible refine Le.G ?_
    | with_reducible apply slices_Index_le
    | exact Le.refl _
noncomputable def lex_IsKey_c (s_ : (List UInt8)) : Option Bool :=
  (slices_Contains_c gl_onceweb_lex_keys s_).bind fun t5 =>
  some t5
theorem lex_IsKey_le (s_ : (List UInt8)) : Le (lex_IsKey_c s_) (lex_IsKey s_) := by
  unfold lex_IsKey_c lex_IsKey
  repeat' first
    | with_reducible refine Le.bind ?_ (fun _ => ?_)
    | with_reducible refine Le.ite ?_ ?_
    | with_reducible refine Le.G ?_
    | with_reducible apply slices_Contains_le
    | exact Le.refl _
noncomputable def lex_IsName_c (s_ : (List UInt8)) : Option Bool :=
  (if ((!decide (s_ = ([] : List UInt8))) && (decide ((s_.length : Int) ≤ (24 : Int)))) = true then lex_word_c s_ (0 : Int) else some (0 : Int)).bind fun t12 =>
  (if (((!decide (s_ = ([] : List UInt8))) && (decide ((s_.length : Int) ≤ (24 : Int)))) && (decide (t12 = (s_.length : Int)))) = true then lex_IsKey_c s_ else some false).bind fun t19 =>
  some ((((!decide (s_ = ([] : List UInt8))) && (decide ((s_.length : Int) ≤ (24 : Int)))) && (decide (t12 = (s_.length : Int)))) && (!t19))
theorem lex_IsName_le (s_ : (List UInt8)) : Le (lex_IsName_c s_) (lex_IsName s_) := by
  unfold lex_IsName_c lex_IsName
  repeat' first
    | with_reducible refine Le.bind ?_ (fun _ => ?_)
    | with_reducible refine Le.ite ?_ ?_
    | with_reducible refine Le.G ?_
    | with_reducible apply lex_word_le
    | with_reducible apply lex_IsKey_le
    | exact Le.refl _
noncomputable def fail_fits_c (kind : Int) (text : (List UInt8)) : Option Bool :=
  if (decide (kind = (1 : Int))) = true then
  (if (decide (kind = (1 : Int))) = true then
  some true
  else
  if (decide (kind = (3 : Int))) = true then
  ((slices_Contains_c gl_onceweb_fail_values text).bind fun t14 =>
  some t14)
  else
  if (decide (kind = (4 : Int))) = true then
  (if (decide (kind = (4 : Int))) = true then
  ((lex_IsName_c text).bind fun t20 =>
  some t20)
  else
  some (decide (text = ([] : List UInt8))))
  else
  if (decide (kind = (5 : Int))) = true then
  (if (decide (kind = (5 : Int))) = true then
  ((lex_IsName_c text).bind fun t20 =>
  some t20)
  else
  some (decide (text = ([] : List UInt8))))
  else
  if (decide (kind = (9 : Int))) = true then
  ((lex_IsName_c text).bind fun t20 =>
  some t20)
  else
  some (decide (text = ([] : List UInt8))))
  else
  if (decide (kind = (2 : Int))) = true then
  (if (decide (kind = (2 : Int))) = true then
  some true
  else
  if (decide (kind = (3 : Int))) = true then
  ((slices_Contains_c gl_onceweb_fail_values text).bind fun t14 =>
  some t14)
  else
  if (decide (kind = (4 : Int))) = true then
  (if (decide (kind = (4 : Int))) = true then
  ((lex_IsName_c text).bind fun t20 =>
  some t20)
  else
  some (decide (text = ([] : List UInt8))))
  else
  if (decide (kind = (5 : Int))) = true then
  (if (decide (kind = (5 : Int))) = true then
  ((lex_IsName_c text).bind fun t20 =>
  some t20)
  else
  some (decide (text = ([] : List UInt8))))
  else
  if (decide (kind = (9 : Int))) = true then
  ((lex_IsName_c text).bind fun t20 =>
  some t20)
  else
  some (decide (text = ([] : List UInt8))))
  else
  if (decide (kind = (8 : Int))) = true then
  some true
  else
  if (decide (kind = (3 : Int))) = true then
  ((slices_Contains_c gl_onceweb_fail_values text).bind fun t14 =>
  some t14)
  else
  if (decide (kind = (4 : Int))) = true then
  (if (decide (kind = (4 : Int))) = true then
  ((lex_IsName_c text).bind fun t20 =>
  some t20)
  else
  some (decide (text = ([] : List UInt8))))
  else
  if (decide (kind = (5 : Int))) = true then
  (if (decide (kind = (5 : Int))) = true then
  ((lex_IsName_c text).bind fun t20 =>
  some t20)
  else
  some (decide (text = ([] : List UInt8))))
  else
  if (decide (kind = (9 : Int))) = true then
  ((lex_IsName_c text).bind fun t20 =>
  some t20)
  else
  some (decide (text = ([] : List UInt8)))
theorem fail_fits_le (kind : Int) (text : (List UInt8)) : Le (fail_fits_c kind text) (fail_fits kind text) := by
  unfold fail_fits_c fail_fits
  repeat' first
    | with_reducible refine Le.bind ?_ (fun _ => ?_)
    | with_reducible refine Le.ite ?_ ?_
    | with_reducible refine Le.G ?_
    | with_reducible apply slices_Contains_le
    | with_reducible apply lex_IsName_le
    | exact Le.refl _
noncomputable def sg_fail_well_11_c (c : Int) (c' : Int) (c'' : (List UInt8)) (ok : Bool) : Option (L_fail_well ⊕ Bool) :=
  (if (ok && (decide ((c''.length : Int) ≤ (4096 : Int)))) = true then fail_fits_c c c'' else some false).bind fun t44 =>
  some (.inr ((ok && (decide ((c''.length : Int) ≤ (4096 : Int)))) && t44))
theorem sg_fail_well_11_le (c : Int) (c' : Int) (c'' : (List UInt8)) (ok : Bool) : Le (sg_fail_well_11_c c c' c'' ok) (sg_fail_well_11 c c' c'' ok) := by
  unfold sg_fail_well_11_c sg_fail_well_11
  repeat' first
    | with_reducible refine Le.bind ?_ (fun _ => ?_)
    | with_reducible refine Le.ite ?_ ?_
    | with_reducible refine Le.G ?_
    | with_reducible apply fail_fits_le
    | exact Le.refl _
noncomputable def st_fail_well_c : L_fail_well → Option (L_fail_well ⊕ Bool)
  | .l11 c c' c'' ok => sg_fail_well_11_c c c' c'' ok
theorem st_fail_well_le : ∀ l, Le (st_fail_well_c l) (st_fail_well l)
  | .l11 c c' c'' ok => sg_fail_well_11_le c c' c'' ok
noncomputable def en_fail_well_c (c : tCrack) : Option (L_fail_well ⊕ Bool) :=
  (fail_sort c.1).bind fun t6 =>
  if (decide (t6 = (1 : Int))) = true then
  some (.inl (.l11 c.1 c.2.1 c.2.2.1 (decide (c.2.1 = (0 : Int)))))
  else
  if (decide (t6 = (2 : Int))) = true then
  some (.inl (.l11 c.1 c.2.1 c.2.2.1 ((decide (c.2.1 = (0 : Int))) || (decide (c.2.1 = (1 : Int))))))
  else
  if (decide (t6 = (3 : Int))) = true then
  some (.inl (.l11 c.1 c.2.1 c.2.2.1 (decide (c.2.1 = (1 : Int)))))
  else
  if (decide (t6 = (4 : Int))) = true then
  some (.inl (.l11 c.1 c.2.1 c.2.2.1 (decide ((1 : Int) ≤ c.2.1))))
  else
  some (.inl (.l11 c.1 c.2.1 c.2.2.1 false))
theorem en_fail_well_le (c : tCrack) : Le (en_fail_well_c c) (en_fail_well c) := by
  unfold en_fail_well_c en_fail_well
  repeat' first
    | with_reducible refine Le.bind ?_ (fun _ => ?_)
    | with_reducible refine Le.ite ?_ ?_
    | with_reducible refine Le.G ?_
    | exact Le.refl _
noncomputable def fail_well_c (c : tCrack) : Option Bool := runLN 400 st_fail_well_c (en_fail_well_c c)
theorem fail_well_le (c : tCrack) : Le (fail_well_c c) (fail_well c) := by
  unfold fail_well_c fail_well
  exact Le.runL st_fail_well_le (en_fail_well_le _)
noncomputable def sg_fail_begins_3_c (from_ : (List Int)) (stack : (List Int)) (x12 : (List tCrack)) (x13 : Int) (x14 : Int) : Option (L_fail_begins ⊕ ((List Int) × Bool)) :=
  if (decide (x14 < x13)) = true then
  (G (0 ≤ x14 ∧ x14 < (x12.length : Int)) <|
  (fail_well_c ((x12.getD x14.toNat dCrack).1, (x12.getD x14.toNat dCrack).2.1, (x12.getD x14.toNat dCrack).2.2.1, ())).bind fun t20 =>
  if ((!t20) || (decide ((stack.length : Int) < (x12.getD x14.toNat dCrack).2.1))) = true then
  some (.inr (([] : List Int), false))
  else
  G (0 ≤ x14 ∧ x14 < (from_.length : Int)) <|
  if (decide ((0 : Int) < (x12.getD x14.toNat dCrack).2.1)) = true then
  (G (0 ≤ (w64 ((stack.length : Int) - (x12.getD x14.toNat dCrack).2.1)) ∧ (w64 ((stack.length : Int) - (x12.getD x14.toNat dCrack).2.1)) < (stack.length : Int)) <|
  G (0 ≤ x14 ∧ x14 < (((from_.set x14.toNat x14).length : Nat) : Int)) <|
  some (.inl (.l10 ((from_.set x14.toNat x14).set x14.toNat (stack.getD ((w64 ((stack.length : Int) - (x12.getD x14.toNat dCrack).2.1)).toNat) (0 : Int))) stack x14 ((x12.getD x14.toNat dCrack).1) ((x12.getD x14.toNat dCrack).2.1) ((x12.getD x14.toNat dCrack).2.2.1) x12 x13 x14)))
  else
  some (.inl (.l10 (from_.set x14.toNat x14) stack x14 ((x12.getD x14.toNat dCrack).1) ((x12.getD x14.toNat dCrack).2.1) ((x12.getD x14.toNat dCrack).2.2.1) x12 x13 x14)))
  else
  some (.inr (from_, (decide ((stack.length : Int) = (1 : Int)))))
theorem sg_fail_begins_3_le (from_ : (List Int)) (stack : (List Int)) (x12 : (List tCrack)) (x13 : Int) (x14 : Int) : Le (sg_fail_begins_3_c from_ stack x12 x13 x14) (sg_fail_begins_3 from_ stack x12 x13 x14) := by
  unfold sg_fail_begins_3_c sg_fail_begins_3
  repeat' first
    | with_reducible refine Le.bind ?_ (fun _ => ?_)
    | with_reducible refine Le.ite ?_ ?_
    | with_reducible refine Le.G ?_
    | with_reducible apply fail_well_le
    | exact Le.refl _
noncomputable def sg_fail_begins_10_c (from_ : (List Int)) (stack : (List Int)) (i : Int) (c : Int) (c' : Int) (c'' : (List UInt8)) (x12 : (List tCrack)) (x13 : Int) (x14 : Int) : Option (L_fail_begins ⊕ ((List Int) × Bool)) :=
  G (0 ≤ (w64 ((stack.length : Int) - c')) ∧ (w64 ((stack.length : Int) - c')) ≤ (stack.length : Int)) <|
  G (0 ≤ i ∧ i < (from_.length : Int)) <|
  G (((w64 ((stack.length : Int) - c')).toNat + ([(from_.getD i.toNat (0 : Int))] : List Int).length) * 8 ≤ 140737488355328) <|
  some (.inl (.l3 from_ ((stack.take ((w64 ((stack.length : Int) - c')).toNat)) ++ ([(from_.getD i.toNat (0 : Int))] : List Int)) x12 x13 (w64 (x14 + (1 : Int)))))
theorem sg_fail_begins_10_le (from_ : (List Int)) (stack : (List Int)) (i : Int) (c : Int) (c' : Int) (c'' : (List UInt8)) (x12 : (List tCrack)) (x13 : Int) (x14 : Int) : Le (sg_fail_begins_10_c from_ stack i c c' c'' x12 x13 x14) (sg_fail_begins_10 from_ stack i c c' c'' x12 x13 x14) := by
  unfold sg_fail_begins_10_c sg_fail_begins_10
  repeat' first
    | with_reducible refine Le.bind ?_ (fun _ => ?_)
    | with_reducible refine Le.ite ?_ ?_
    | with_reducible refine Le.G ?_
    | exact Le.refl _
noncomputable def st_fail_begins_c : L_fail_begins → Option (L_fail_begins ⊕ ((List Int) × Bool))
  | .l3 from_ stack x12 x13 x14 => sg_fail_begins_3_c from_ stack x12 x13 x14
  | .l10 from_ stack i c c' c'' x12 x13 x14 => sg_fail_begins_10_c from_ stack i c c' c'' x12 x13 x14
theorem st_fail_begins_le : ∀ l, Le (st_fail_begins_c l) (st_fail_begins l)
  | .l3 from_ stack x12 x13 x14 => sg_fail_begins_3_le from_ stack x12 x13 x14
  | .l10 from_ stack i c c' c'' x12 x13 x14 => sg_fail_begins_10_le from_ stack i c c' c'' x12 x13 x14
noncomputable def en_fail_begins_c (f : (List tCrack)) : Option (L_fail_begins ⊕ ((List Int) × Bool)) :=
  G (0 ≤ (f.length : Int) ∧ (f.length : Int) ≤ (f.length : Int) ∧ (8 : Int) * (f.length : Int) ≤ 281474976710656) <|
  some (.inl (.l3 (List.replicate (f.length : Int).toNat (0 : Int)) ([] : List Int) f (f.length : Int) (0 : Int)))
theorem en_fail_begins_le (f : (List tCrack)) : Le (en_fail_begins_c f) (en_fail_begins f) := by
  unfold en_fail_begins_c en_fail_begins
  repeat' first
    | with_reducible refine Le.bind ?_ (fun _ => ?_)
    | with_reducible refine Le.ite ?_ ?_
    | with_reducible refine Le.G ?_
    | exact Le.refl _
noncomputable def fail_begins_c (f : (List tCrack)) : Option ((List Int) × Bool) := runLN 400 st_fail_begins_c (en_fail_begins_c f)
theorem fail_begins_le (f : (List tCrack)) : Le (fail_begins_c f) (fail_begins f) := by
  unfold fail_begins_c fail_begins
  exact Le.runL st_fail_begins_le (en_fail_begins_le _)
noncomputable def fail_Check_c (f : (List tCrack)) : Option Int :=
  if (decide ((1024 : Int) < (f.length : Int))) = true then
  some (3 : Int)
  else
  (fail_begins_c f).bind fun t10 =>
  if (!t10.2) = true then
  some (5 : Int)
  else
  some (0 : Int)
theorem fail_Check_le (f : (List tCrack)) : Le (fail_Check_c f) (fail_Check f) := by
  unfold fail_Check_c fail_Check
  repeat' first
    | with_reducible refine Le.bind ?_ (fun _ => ?_)
    | with_reducible refine Le.ite ?_ ?_
    | with_reducible refine Le.G ?_
    | with_reducible apply fail_begins_le
    | exact Le.refl _
noncomputable def sg_lex_Quote_4_c (s_ : (List UInt8)) (out : (List UInt8)) (x14 : Int) (x15 : Int) : Option (L_lex_Quote ⊕ (List UInt8)) :=
  if (decide (x15 < x14)) = true then
  (G (0 ≤ x15 ∧ x15 < (s_.length : Int)) <|
  if ((decide (((s_.getD x15.toNat 0).toNat : Int) = 34)) || (decide (((s_.getD x15.toNat 0).toNat : Int) = 92))) = true then
  (G ((out.length + ([(92 : UInt8), (s_.getD x15.toNat 0)] : List UInt8).length) * 1 ≤ 140737488355328) <|
  some (.inl (.l4 s_ (out ++ ([(92 : UInt8), (s_.getD x15.toNat 0)] : List UInt8)) x14 (w64 (x15 + (1 : Int))))))
  else
  if (decide (((s_.getD x15.toNat 0).toNat : Int) = 10)) = true then
  (G ((out.length + ([(92 : UInt8), (110 : UInt8)] : List UInt8).length) * 1 ≤ 140737488355328) <|
  some (.inl (.l4 s_ (out ++ ([(92 : UInt8), (110 : UInt8)] : List UInt8)) x14 (w64 (x15 + (1 : Int))))))
  else
  if ((decide (((s_.getD x15.toNat 0).toNat : Int) < 32)) || (decide (126 < ((s_.getD x15.toNat 0).toNat : Int)))) = true then
  (G (0 ≤ ((((Int.fdiv ((s_.getD x15.toNat 0).toNat : Int) (2 ^ (min ((4 : Int)).toNat IntKind.u8.bits)))).toNat.toUInt8).toNat : Int) ∧ ((((Int.fdiv ((s_.getD x15.toNat 0).toNat : Int) (2 ^ (min ((4 : Int)).toNat IntKind.u8.bits)))).toNat.toUInt8).toNat : Int) < (([48, 49, 50, 51, 52, 53, 54, 55, 56, 57, 97, 98, 99, 100, 101, 102] : List UInt8).length : Int)) <|
  G (0 ≤ ((((IntKind.wrap .u8 ((BitVec.ofInt IntKind.u8.bits ((s_.getD x15.toNat 0).toNat : Int) &&& BitVec.ofInt IntKind.u8.bits 15).toNat))).toNat.toUInt8).toNat : Int) ∧ ((((IntKind.wrap .u8 ((BitVec.ofInt IntKind.u8.bits ((s_.getD x15.toNat 0).toNat : Int) &&& BitVec.ofInt IntKind.u8.bits 15).toNat))).toNat.toUInt8).toNat : Int) < (([48, 49, 50, 51, 52, 53, 54, 55, 56, 57, 97, 98, 99, 100, 101, 102] : List UInt8).length : Int)) <|
  G ((out.length + ([(92 : UInt8), (120 : UInt8), (([48, 49, 50, 51, 52, 53, 54, 55, 56, 57, 97, 98, 99, 100, 101, 102] : List UInt8).getD ((((Int.fdiv ((s_.getD x15.toNat 0).toNat : Int) (2 ^ (min ((4 : Int)).toNat IntKind.u8.bits)))).toNat.toUInt8).toNat : Int).toNat 0), (([48, 49, 50, 51, 52, 53, 54, 55, 56, 57, 97, 98, 99, 100, 101, 102] : List UInt8).getD ((((IntKind.wrap .u8 ((BitVec.ofInt IntKind.u8.bits ((s_.getD x15.toNat 0).toNat : Int) &&& BitVec.ofInt IntKind.u8.bits 15).toNat))).toNat.toUInt8).toNat : Int).toNat 0)] : List UInt8).length) * 1 ≤ 140737488355328) <|
  some (.inl (.l4 s_ (out ++ ([(92 : UInt8), (120 : UInt8), (([48, 49, 50, 51, 52, 53, 54, 55, 56, 57, 97, 98, 99, 100, 101, 102] : List UInt8).getD ((((Int.fdiv ((s_.getD x15.toNat 0).toNat : Int) (2 ^ (min ((4 : Int)).toNat IntKind.u8.bits)))).toNat.toUInt8).toNat : Int).toNat 0), (([48, 49, 50, 51, 52, 53, 54, 55, 56, 57, 97, 98, 99, 100, 101, 102] : List UInt8).getD ((((IntKind.wrap .u8 ((BitVec.ofInt IntKind.u8.bits ((s_.getD x15.toNat 0).toNat : Int) &&& BitVec.ofInt IntKind.u8.bits 15).toNat))).toNat.toUInt8).toNat : Int).toNat 0)] : List UInt8)) x14 (w64 (x15 + (1 : Int))))))
  else
  G ((out.length + ([(s_.getD x15.toNat 0)] : List UInt8).length) * 1 ≤ 140737488355328) <|
  some (.inl (.l4 s_ (out ++ ([(s_.getD x15.toNat 0)] : List UInt8)) x14 (w64 (x15 + (1 : Int))))))
  else
  G ((out.length + ([(34 : UInt8)] : List UInt8).length) * 1 ≤ 140737488355328) <|
  some (.inr (out ++ ([(34 : UInt8)] : List UInt8)))
theorem sg_lex_Quote_4_le (s_ : (List UInt8)) (out : (List UInt8)) (x14 : Int) (x15 : Int) : Le (sg_lex_Quote_4_c s_ out x14 x15) (sg_lex_Quote_4 s_ out x14 x15) := by
  unfold sg_lex_Quote_4_c sg_lex_Quote_4
  repeat' first
    | with_reducible refine Le.bind ?_ (fun _ => ?_)
    | with_reducible refine Le.ite ?_ ?_
    | with_reducible refine Le.G ?_
    | exact Le.refl _
noncomputable def st_lex_Quote_c : L_lex_Quote → Option (L_lex_Quote ⊕ (List UInt8))
  | .l4 s_ out x14 x15 => sg_lex_Quote_4_c s_ out x14 x15
theorem st_lex_Quote_le : ∀ l, Le (st_lex_Quote_c l) (st_lex_Quote l)
  | .l4 s_ out x14 x15 => sg_lex_Quote_4_le s_ out x14 x15
noncomputable def en_lex_Quote_c (s_ : (List UInt8)) : Option (L_lex_Quote ⊕ (List UInt8)) :=
  G (0 ≤ (0 : Int) ∧ (0 : Int) ≤ (w64 ((s_.length : Int) + (2 : Int))) ∧ (1 : Int) * (w64 ((s_.length : Int) + (2 : Int))) ≤ 281474976710656) <|
  G (((List.replicate (0 : Int).toNat (0 : UInt8)).length + ([(34 : UInt8)] : List UInt8).length) * 1 ≤ 140737488355328) <|
  some (.inl (.l4 s_ ((List.replicate (0 : Int).toNat (0 : UInt8)) ++ ([(34 : UInt8)] : List UInt8)) (s_.length : Int) (0 : Int)))
theorem en_lex_Quote_le (s_ : (List UInt8)) : Le (en_lex_Quote_c s_) (en_lex_Quote s_) := by
  unfold en_lex_Quote_c en_lex_Quote
  repeat' first
    | with_reducible refine Le.bind ?_ (fun _ => ?_)
    | with_reducible refine Le.ite ?_ ?_
    | with_reducible refine Le.G ?_
    | exact Le.refl _
noncomputable def lex_Quote_c (s_ : (List UInt8)) : Option (List UInt8) := runLN 400 st_lex_Quote_c (en_lex_Quote_c s_)
theorem lex_Quote_le (s_ : (List UInt8)) : Le (lex_Quote_c s_) (lex_Quote s_) := by
  unfold lex_Quote_c lex_Quote
  exact Le.runL st_lex_Quote_le (en_lex_Quote_le _)
noncomputable def ax_fail_Print_6_1_c (x16 : (List tCrack)) (x18 : Int) (stack : (List (List UInt8))) (x17 : Int) : Option (L_fail_Print ⊕ ((List UInt8) × Int)) :=
  (lex_Quote_c ((x16.getD x18.toNat dCrack).2.2.1)).bind fun t40 =>
  G (([32] : List UInt8).length + t40.length ≤ 9223372036854775807) <|
  G ((gl_onceweb_fail_words.getD ((x16.getD x18.toNat dCrack).1).toNat ([] : List UInt8)).length + (([32] : List UInt8) ++ t40).length ≤ 9223372036854775807) <|
  some (.inl (.l22 stack ((x16.getD x18.toNat dCrack).1) ((x16.getD x18.toNat dCrack).2.1) ((x16.getD x18.toNat dCrack).2.2.1) (w64 ((stack.length : Int) - (x16.getD x18.toNat dCrack).2.1)) ((gl_onceweb_fail_words.getD ((x16.getD x18.toNat dCrack).1).toNat ([] : List UInt8)) ++ (([32] : List UInt8) ++ t40)) x16 x17 x18))
theorem ax_fail_Print_6_1_le (x16 : (List tCrack)) (x18 : Int) (stack : (List (List UInt8))) (x17 : Int) : Le (ax_fail_Print_6_1_c x16 x18 stack x17) (ax_fail_Print_6_1 x16 x18 stack x17) := by
  unfold ax_fail_Print_6_1_c ax_fail_Print_6_1
  repeat' first
    | with_reducible refine Le.bind ?_ (fun _ => ?_)
    | with_reducible refine Le.ite ?_ ?_
    | with_reducible refine Le.G ?_
    | with_reducible apply lex_Quote_le
    | exact Le.refl _
noncomputable def sg_fail_Print_6_c (stack : (List (List UInt8))) (x16 : (List tCrack)) (x17 : Int) (x18 : Int) : Option (L_fail_Print ⊕ ((List UInt8) × Int)) :=
  if (decide (x18 < x17)) = true then
  G (0 ≤ x18 ∧ x18 < (x16.length : Int)) <|
  G (0 ≤ (x16.getD x18.toNat dCrack).1 ∧ (x16.getD x18.toNat dCrack).1 < (gl_onceweb_fail_words.length : Int)) <|
  if (decide ((x16.getD x18.toNat dCrack).1 = (1 : Int))) = true then
  if (decide ((x16.getD x18.toNat dCrack).1 = (1 : Int))) = true then
  ax_fail_Print_6_1_c x16 x18 stack x17
  else
  if (decide ((x16.getD x18.toNat dCrack).1 = (3 : Int))) = true then
  ax_fail_Print_6_2 x16 x18 stack x17
  else
  ax_fail_Print_6_6 x16 x18 stack x17
  else
  if (decide ((x16.getD x18.toNat dCrack).1 = (2 : Int))) = true then
  if (decide ((x16.getD x18.toNat dCrack).1 = (2 : Int))) = true then
  ax_fail_Print_6_1_c x16 x18 stack x17
  else
  if (decide ((x16.getD x18.toNat dCrack).1 = (3 : Int))) = true then
  ax_fail_Print_6_2 x16 x18 stack x17
  else
  ax_fail_Print_6_6 x16 x18 stack x17
  else
  if (decide ((x16.getD x18.toNat dCrack).1 = (8 : Int))) = true then
  ax_fail_Print_6_1_c x16 x18 stack x17
  else
  if (decide ((x16.getD x18.toNat dCrack).1 = (3 : Int))) = true then
  ax_fail_Print_6_2 x16 x18 stack x17
  else
  ax_fail_Print_6_6 x16 x18 stack x17
  else
  G (0 ≤ (0 : Int) ∧ (0 : Int) < (stack.length : Int)) <|
  some (.inr ((stack.getD ((0 : Int).toNat) ([] : List UInt8)), (0 : Int)))
theorem sg_fail_Print_6_le (stack : (List (List UInt8))) (x16 : (List tCrack)) (x17 : Int) (x18 : Int) : Le (sg_fail_Print_6_c stack x16 x17 x18) (sg_fail_Print_6 stack x16 x17 x18) := by
  unfold sg_fail_Print_6_c sg_fail_Print_6
  repeat' first
    | with_reducible refine Le.bind ?_ (fun _ => ?_)
    | with_reducible refine Le.ite ?_ ?_
    | with_reducible refine Le.G ?_
    | with_reducible apply ax_fail_Print_6_1_le
    | exact Le.refl _
noncomputable def sg_fail_Print_22_c (stack : (List (List UInt8))) (c : Int) (c' : Int) (c'' : (List UInt8)) (k : Int) (s_ : (List UInt8)) (x16 : (List tCrack)) (x17 : Int) (x18 : Int) : Option (L_fail_Print ⊕ ((List UInt8) × Int)) :=
  if ((decide (c' = (1 : Int))) && (!decide (c = (10 : Int)))) = true then
  G (0 ≤ k ∧ k < (stack.length : Int)) <|
  G (([58, 32] : List UInt8).length + (stack.getD k.toNat ([] : List UInt8)).length ≤ 9223372036854775807) <|
  G (s_.length + (([58, 32] : List UInt8) ++ (stack.getD k.toNat ([] : List UInt8))).length ≤ 9223372036854775807) <|
  G (0 ≤ k ∧ k ≤ (stack.length : Int)) <|
  G ((k.toNat + ([(s_ ++ (([58, 32] : List UInt8) ++ (stack.getD k.toNat ([] : List UInt8))))] : List (List UInt8)).length) * 16 ≤ 140737488355328) <|
  some (.inl (.l6 ((stack.take k.toNat) ++ ([(s_ ++ (([58, 32] : List UInt8) ++ (stack.getD k.toNat ([] : List UInt8))))] : List (List UInt8))) x16 x17 (w64 (x18 + (1 : Int)))))
  else
  G (0 ≤ k ∧ k ≤ (stack.length : Int)) <|
  G ((k.toNat + ([s_] : List (List UInt8)).length) * 16 ≤ 140737488355328) <|
  some (.inl (.l6 ((stack.take k.toNat) ++ ([s_] : List (List UInt8))) x16 x17 (w64 (x18 + (1 : Int)))))
theorem sg_fail_Print_22_le (stack : (List (List UInt8))) (c : Int) (c' : Int) (c'' : (List UInt8)) (k : Int) (s_ : (List UInt8)) (x16 : (List tCrack)) (x17 : Int) (x18 : Int) : Le (sg_fail_Print_22_c stack c c' c'' k s_ x16 x17 x18) (sg_fail_Print_22 stack c c' c'' k s_ x16 x17 x18) := by
  unfold sg_fail_Print_22_c sg_fail_Print_22
  repeat' first
    | with_reducible refine Le.bind ?_ (fun _ => ?_)
    | with_reducible refine Le.ite ?_ ?_
    | with_reducible refine Le.G ?_
    | exact Le.refl _
noncomputable def st_fail_Print_c : L_fail_Print → Option (L_fail_Print ⊕ ((List UInt8) × Int))
  | .l6 stack x16 x17 x18 => sg_fail_Print_6_c stack x16 x17 x18
  | .l22 stack c c' c'' k s_ x16 x17 x18 => sg_fail_Print_22_c stack c c' c'' k s_ x16 x17 x18
theorem st_fail_Print_le : ∀ l, Le (st_fail_Print_c l) (st_fail_Print l)
  | .l6 stack x16 x17 x18 => sg_fail_Print_6_le stack x16 x17 x18
  | .l22 stack c c' c'' k s_ x16 x17 x18 => sg_fail_Print_22_le stack c c' c'' k s_ x16 x17 x18
noncomputable def en_fail_Print_c (f : (List tCrack)) : Option (L_fail_Print ⊕ ((List UInt8) × Int)) :=
  (fail_Check_c f).bind fun t11 =>
  if (!decide (t11 = (0 : Int))) = true then
  some (.inr (([] : List UInt8), t11))
  else
  some (.inl (.l6 ([] : List (List UInt8)) f (f.length : Int) (0 : Int)))
theorem en_fail_Print_le (f : (List tCrack)) : Le (en_fail_Print_c f) (en_fail_Print f) := by
  unfold en_fail_Print_c en_fail_Print
  repeat' first
    | with_reducible refine Le.bind ?_ (fun _ => ?_)
    | with_reducible refine Le.ite ?_ ?_
    | with_reducible refine Le.G ?_
    | with_reducible apply fail_Check_le
    | exact Le.refl _
noncomputable def fail_Print_c (f : (List tCrack)) : Option ((List UInt8) × Int) := runLN 400 st_fail_Print_c (en_fail_Print_c f)
theorem fail_Print_le (f : (List tCrack)) : Le (fail_Print_c f) (fail_Print f) := by
  unfold fail_Print_c fail_Print
  exact Le.runL st_fail_Print_le (en_fail_Print_le _)
noncomputable def sg_fail_reader_word_2_c (r_ : (List UInt8)) (r_' : Int) (r_'' : (List tCrack)) (r_''' : Int) (from_ : Int) : Option (L_fail_reader_word ⊕ ((List UInt8) × (List UInt8) × Int × (List tCrack) × Int)) :=
  G ((decide (r_' < (r_.length : Int))) = true → (0 ≤ r_' ∧ r_' < (r_.length : Int))) <|
  G (((decide (r_' < (r_.length : Int))) && (decide (97 ≤ ((r_.getD r_'.toNat 0).toNat : Int)))) = true → (0 ≤ r_' ∧ r_' < (r_.length : Int))) <|
  G (((decide (r_' < (r_.length : Int))) && !((decide (97 ≤ ((r_.getD r_'.toNat 0).toNat : Int))) && (decide (((r_.getD r_'.toNat 0).toNat : Int) ≤ 122)))) = true → (0 ≤ r_' ∧ r_' < (r_.length : Int))) <|
  G ((((decide (r_' < (r_.length : Int))) && !((decide (97 ≤ ((r_.getD r_'.toNat 0).toNat : Int))) && (decide (((r_.getD r_'.toNat 0).toNat : Int) ≤ 122)))) && (decide (48 ≤ ((r_.getD r_'.toNat 0).toNat : Int)))) = true → (0 ≤ r_' ∧ r_' < (r_.length : Int))) <|
  G (((decide (r_' < (r_.length : Int))) && !(((decide (97 ≤ ((r_.getD r_'.toNat 0).toNat : Int))) && (decide (((r_.getD r_'.toNat 0).toNat : Int) ≤ 122))) || ((decide (48 ≤ ((r_.getD r_'.toNat 0).toNat : Int))) && (decide (((r_.getD r_'.toNat 0).toNat : Int) ≤ 57))))) = true → (0 ≤ r_' ∧ r_' < (r_.length : Int))) <|
  if ((decide (r_' < (r_.length : Int))) && ((((decide (97 ≤ ((r_.getD r_'.toNat 0).toNat : Int))) && (decide (((r_.getD r_'.toNat 0).toNat : Int) ≤ 122))) || ((decide (48 ≤ ((r_.getD r_'.toNat 0).toNat : Int))) && (decide (((r_.getD r_'.toNat 0).toNat : Int) ≤ 57)))) || (decide (((r_.getD r_'.toNat 0).toNat : Int) = 95)))) = true then
  some (.inl (.l2 r_ (w64 (r_' + (1 : Int))) r_'' r_''' from_))
  else
  G (0 ≤ from_ ∧ from_ ≤ r_' ∧ r_' ≤ (r_.length : Int)) <|
  some (.inr ((cut r_ from_.toNat r_'.toNat), r_, r_', r_'', r_'''))
theorem sg_fail_reader_word_2_le (r_ : (List UInt8)) (r_' : Int) (r_'' : (List tCrack)) (r_''' : Int) (from_ : Int) : Le (sg_fail_reader_word_2_c r_ r_' r_'' r_''' from_) (sg_fail_reader_word_2 r_ r_' r_'' r_''' from_) := by
  unfold sg_fail_reader_word_2_c sg_fail_reader_word_2
  repeat' first
    | with_reducible refine Le.bind ?_ (fun _ => ?_)
    | with_reducible refine Le.ite ?_ ?_
    | with_reducible refine Le.G ?_
    | exact Le.refl _
noncomputable def st_fail_reader_word_c : L_fail_reader_word → Option (L_fail_reader_word ⊕ ((List UInt8) × (List UInt8) × Int × (List tCrack) × Int))
  | .l2 r_ r_' r_'' r_''' from_ => sg_fail_reader_word_2_c r_ r_' r_'' r_''' from_
theorem st_fail_reader_word_le : ∀ l, Le (st_fail_reader_word_c l) (st_fail_reader_word l)
  | .l2 r_ r_' r_'' r_''' from_ => sg_fail_reader_word_2_le r_ r_' r_'' r_''' from_
noncomputable def en_fail_reader_word_c (r_ : (List UInt8)) (r_' : Int) (r_'' : (List tCrack)) (r_''' : Int) : Option (L_fail_reader_word ⊕ ((List UInt8) × (List UInt8) × Int × (List tCrack) × Int)) :=
  some (.inl (.l2 r_ r_' r_'' r_''' r_'))
theorem en_fail_reader_word_le (r_ : (List UInt8)) (r_' : Int) (r_'' : (List tCrack)) (r_''' : Int) : Le (en_fail_reader_word_c r_ r_' r_'' r_''') (en_fail_reader_word r_ r_' r_'' r_''') := by
  unfold en_fail_reader_word_c en_fail_reader_word
  repeat' first
    | with_reducible refine Le.bind ?_ (fun _ => ?_)
    | with_reducible refine Le.ite ?_ ?_
    | with_reducible refine Le.G ?_
    | exact Le.refl _
noncomputable def fail_reader_word_c (r_ : (List UInt8)) (r_' : Int) (r_'' : (List tCrack)) (r_''' : Int) : Option ((List UInt8) × (List UInt8) × Int × (List tCrack) × Int) := runLN 400 (st_fail_reader_word_c) (en_fail_reader_word_c r_ r_' r_'' r_''')
theorem fail_reader_word_le (r_ : (List UInt8)) (r_' : Int) (r_'' : (List tCrack)) (r_''' : Int) : Le (fail_reader_word_c r_ r_' r_'' r_''') (fail_reader_word r_ r_' r_'' r_''') := by
  unfold fail_reader_word_c fail_reader_word
  exact Le.runL st_fail_reader_word_le (en_fail_reader_word_le _ _ _ _)
noncomputable def sg_lex_quoted_5_c (s_ : (List UInt8)) (at_ : Int) (out : (List UInt8)) : Option (L_lex_quoted ⊕ ((List UInt8) × Int × Bool)) :=
  if (decide (at_ < (s_.length : Int))) = true then
  (G (0 ≤ at_ ∧ at_ < (s_.length : Int)) <|
  if (decide (((s_.getD at_.toNat 0).toNat : Int) = 34)) = true then
  some (.inr (out, (w64 (at_ + (1 : Int))), true))
  else
  if (decide (((s_.getD at_.toNat 0).toNat : Int) = 92)) = true then
  ((lex_escaped s_ at_).bind fun t50 =>
  if (decide (t50.2 = (0 : Int))) = true then
  some (.inr (([] : List UInt8), (0 : Int), false))
  else
  G ((out.length + ([t50.1] : List UInt8).length) * 1 ≤ 140737488355328) <|
  some (.inl (.l5 s_ (w64 (at_ + t50.2)) (out ++ ([t50.1] : List UInt8)))))
  else
  if ((decide (((s_.getD at_.toNat 0).toNat : Int) < 32)) || (decide (126 < ((s_.getD at_.toNat 0).toNat : Int)))) = true then
  some (.inr (([] : List UInt8), (0 : Int), false))
  else
  G ((out.length + ([(s_.getD at_.toNat 0)] : List UInt8).length) * 1 ≤ 140737488355328) <|
  some (.inl (.l5 s_ (w64 (at_ + (1 : Int))) (out ++ ([(s_.getD at_.toNat 0)] : List UInt8)))))
  else
  some (.inr (([] : List UInt8), (0 : Int), false))
theorem sg_lex_quoted_5_le (s_ : (List UInt8)) (at_ : Int) (out : (List UInt8)) : Le (sg_lex_quoted_5_c s_ at_ out) (sg_lex_quoted_5 s_ at_ out) := by
  unfold sg_lex_quoted_5_c sg_lex_quoted_5
  repeat' first
    | with_reducible refine Le.bind ?_ (fun _ => ?_)
    | with_reducible refine Le.ite ?_ ?_
    | with_reducible refine Le.G ?_
    | exact Le.refl _
noncomputable def st_lex_quoted_c : L_lex_quoted → Option (L_lex_quoted ⊕ ((List UInt8) × Int × Bool))
  | .l5 s_ at_ out => sg_lex_quoted_5_c s_ at_ out
theorem st_lex_quoted_le : ∀ l, Le (st_lex_quoted_c l) (st_lex_quoted l)
  | .l5 s_ at_ out => sg_lex_quoted_5_le s_ at_ out
noncomputable def en_lex_quoted_c (s_ : (List UInt8)) (at_ : Int) : Option (L_lex_quoted ⊕ ((List UInt8) × Int × Bool)) :=
  G ((!(decide ((s_.length : Int) ≤ at_))) = true → (0 ≤ at_ ∧ at_ < (s_.length : Int))) <|
  if ((decide ((s_.length : Int) ≤ at_)) || (!decide (((s_.getD at_.toNat 0).toNat : Int) = 34))) = true then
  some (.inr (([] : List UInt8), (0 : Int), false))
  else
  some (.inl (.l5 s_ (w64 (at_ + (1 : Int))) ([] : List UInt8)))
theorem en_lex_quoted_le (s_ : (List UInt8)) (at_ : Int) : Le (en_lex_quoted_c s_ at_) (en_lex_quoted s_ at_) := by
  unfold en_lex_quoted_c en_lex_quoted
  repeat' first
    | with_reducible refine Le.bind ?_ (fun _ => ?_)
    | with_reducible refine Le.ite ?_ ?_
    | with_reducible refine Le.G ?_
    | exact Le.refl _
noncomputable def lex_quoted_c (s_ : (List UInt8)) (at_ : Int) : Option ((List UInt8) × Int × Bool) := runLN 400 st_lex_quoted_c (en_lex_quoted_c s_ at_)
theorem lex_quoted_le (s_ : (List UInt8)) (at_ : Int) : Le (lex_quoted_c s_ at_) (lex_quoted s_ at_) := by
  unfold lex_quoted_c lex_quoted
  exact Le.runL st_lex_quoted_le (en_lex_quoted_le _ _)
noncomputable def lex_Unquote_c (s_ : (List UInt8)) : Option ((List UInt8) × Bool) :=
  (lex_quoted_c s_ (0 : Int)).bind fun t9 =>
  if ((!t9.2.2) || (!decide (t9.2.1 = (s_.length : Int)))) = true then
  some (([] : List UInt8), false)
  else
  some (t9.1, true)
theorem lex_Unquote_le (s_ : (List UInt8)) : Le (lex_Unquote_c s_) (lex_Unquote s_) := by
  unfold lex_Unquote_c lex_Unquote
  repeat' first
    | with_reducible refine Le.bind ?_ (fun _ => ?_)
    | with_reducible refine Le.ite ?_ ?_
    | with_reducible refine Le.G ?_
    | with_reducible apply lex_quoted_le
    | exact Le.refl _
noncomputable def sg_fail_reader_text_2_c (r_ : (List UInt8)) (r_' : Int) (r_'' : (List tCrack)) (r_''' : Int) (end_ : Int) : Option (L_fail_reader_text ⊕ (Bool × (Nat × Value) × (List UInt8) × (List UInt8) × Int × (List tCrack) × Int)) :=
  G ((decide (end_ < (r_.length : Int))) = true → (0 ≤ end_ ∧ end_ < (r_.length : Int))) <|
  if ((decide (end_ < (r_.length : Int))) && (!decide (((r_.getD end_.toNat 0).toNat : Int) = 34))) = true then
  (G (0 ≤ end_ ∧ end_ < (r_.length : Int)) <|
  if (decide (((r_.getD end_.toNat 0).toNat : Int) = 92)) = true then
  some (.inl (.l2 r_ r_' r_'' r_''' (w64 ((w64 (end_ + (1 : Int))) + (1 : Int)))))
  else
  some (.inl (.l2 r_ r_' r_'' r_''' (w64 (end_ + (1 : Int))))))
  else
  (fail_reader_need r_ r_' r_'' r_''' (decide (end_ < (r_.length : Int)))).bind fun t46 =>
  if t46.1 = true then
  some (.inr (true, t46.2.1, ([] : List UInt8), ([] : List UInt8), (0 : Int), ([] : List tCrack), (0 : Int)))
  else
  G (0 ≤ t46.2.2.2.1 ∧ t46.2.2.2.1 ≤ (w64 (end_ + (1 : Int))) ∧ (w64 (end_ + (1 : Int))) ≤ (t46.2.2.1.length : Int)) <|
  (lex_Unquote_c (cut t46.2.2.1 t46.2.2.2.1.toNat (w64 (end_ + (1 : Int))).toNat)).bind fun t59 =>
  (fail_reader_need t46.2.2.1 t46.2.2.2.1 t46.2.2.2.2.1 t46.2.2.2.2.2 t59.2).bind fun t64 =>
  if t64.1 = true then
  some (.inr (true, t64.2.1, ([] : List UInt8), ([] : List UInt8), (0 : Int), ([] : List tCrack), (0 : Int)))
  else
  some (.inr (false, (0, undef), t59.1, t64.2.2.1, (w64 (end_ + (1 : Int))), t64.2.2.2.2.1, t64.2.2.2.2.2))
theorem sg_fail_reader_text_2_le (r_ : (List UInt8)) (r_' : Int) (r_'' : (List tCrack)) (r_''' : Int) (end_ : Int) : Le (sg_fail_reader_text_2_c r_ r_' r_'' r_''' end_) (sg_fail_reader_text_2 r_ r_' r_'' r_''' end_) := by
  unfold sg_fail_reader_text_2_c sg_fail_reader_text_2
  repeat' first
    | with_reducible refine Le.bind ?_ (fun _ => ?_)
    | with_reducible refine Le.ite ?_ ?_
    | with_reducible refine Le.G ?_
    | with_reducible apply lex_Unquote_le
    | exact Le.refl _
noncomputable def st_fail_reader_text_c : L_fail_reader_text → Option (L_fail_reader_text ⊕ (Bool × (Nat × Value) × (List UInt8) × (List UInt8) × Int × (List tCrack) × Int))
  | .l2 r_ r_' r_'' r_''' end_ => sg_fail_reader_text_2_c r_ r_' r_'' r_''' end_
theorem st_fail_reader_text_le : ∀ l, Le (st_fail_reader_text_c l) (st_fail_reader_text l)
  | .l2 r_ r_' r_'' r_''' end_ => sg_fail_reader_text_2_le r_ r_' r_'' r_''' end_
noncomputable def en_fail_reader_text_c (r_ : (List UInt8)) (r_' : Int) (r_'' : (List tCrack)) (r_''' : Int) : Option (L_fail_reader_text ⊕ (Bool × (Nat × Value) × (List UInt8) × (List UInt8) × Int × (List tCrack) × Int)) :=
  some (.inl (.l2 r_ r_' r_'' r_''' (w64 (r_' + (1 : Int)))))
theorem en_fail_reader_text_le (r_ : (List UInt8)) (r_' : Int) (r_'' : (List tCrack)) (r_''' : Int) : Le (en_fail_reader_text_c r_ r_' r_'' r_''') (en_fail_reader_text r_ r_' r_'' r_''') := by
  unfold en_fail_reader_text_c en_fail_reader_text
  repeat' first
    | with_reducible refine Le.bind ?_ (fun _ => ?_)
    | with_reducible refine Le.ite ?_ ?_
    | with_reducible refine Le.G ?_
    | exact Le.refl _
noncomputable def fail_reader_text_c (r_ : (List UInt8)) (r_' : Int) (r_'' : (List tCrack)) (r_''' : Int) : Option (Bool × (Nat × Value) × (List UInt8) × (List UInt8) × Int × (List tCrack) × Int) := runLN 400 (st_fail_reader_text_c) (en_fail_reader_text_c r_ r_' r_'' r_''')
theorem fail_reader_text_le (r_ : (List UInt8)) (r_' : Int) (r_'' : (List tCrack)) (r_''' : Int) : Le (fail_reader_text_c r_ r_' r_'' r_''') (fail_reader_text r_ r_' r_'' r_''') := by
  unfold fail_reader_text_c fail_reader_text
  exact Le.runL st_fail_reader_text_le (en_fail_reader_text_le _ _ _ _)
noncomputable def en_fail_reader_put_c (r_ : (List UInt8)) (r_' : Int) (r_'' : (List tCrack)) (r_''' : Int) (c : tCrack) : Option (Bool × (Nat × Value) × (List UInt8) × Int × (List tCrack) × Int) :=
  (if (decide ((r_''.length : Int) < (1024 : Int))) = true then fail_well_c (c.1, c.2.1, c.2.2.1, ()) else some false).bind fun t13 =>
  (fail_reader_need r_ r_' r_'' r_''' ((decide ((r_''.length : Int) < (1024 : Int))) && t13)).bind fun t15 =>
  if t15.1 = true then
  some (true, t15.2.1, ([] : List UInt8), (0 : Int), ([] : List tCrack), (0 : Int))
  else
  G ((t15.2.2.2.2.1.length + ([(c.1, c.2.1, c.2.2.1, ())] : List tCrack).length) * 32 ≤ 140737488355328) <|
  some (false, (0, undef), t15.2.2.1, t15.2.2.2.1, (t15.2.2.2.2.1 ++ ([(c.1, c.2.1, c.2.2.1, ())] : List tCrack)), t15.2.2.2.2.2)
theorem en_fail_reader_put_le (r_ : (List UInt8)) (r_' : Int) (r_'' : (List tCrack)) (r_''' : Int) (c : tCrack) : Le (en_fail_reader_put_c r_ r_' r_'' r_''' c) (en_fail_reader_put r_ r_' r_'' r_''' c) := by
  unfold en_fail_reader_put_c en_fail_reader_put
  repeat' first
    | with_reducible refine Le.bind ?_ (fun _ => ?_)
    | with_reducible refine Le.ite ?_ ?_
    | with_reducible refine Le.G ?_
    | with_reducible apply fail_well_le
    | exact Le.refl _
noncomputable def fail_reader_put_c (r_ : (List UInt8)) (r_' : Int) (r_'' : (List tCrack)) (r_''' : Int) (c : tCrack) : Option (Bool × (Nat × Value) × (List UInt8) × Int × (List tCrack) × Int) := en_fail_reader_put_c r_ r_' r_'' r_''' c
theorem fail_reader_put_le (r_ : (List UInt8)) (r_' : Int) (r_'' : (List tCrack)) (r_''' : Int) (c : tCrack) : Le (fail_reader_put_c r_ r_' r_'' r_''' c) (fail_reader_put r_ r_' r_'' r_''' c) := by
  unfold fail_reader_put_c fail_reader_put
  repeat' first
    | with_reducible refine Le.bind ?_ (fun _ => ?_)
    | with_reducible refine Le.ite ?_ ?_
    | with_reducible refine Le.G ?_
    | with_reducible apply en_fail_reader_put_le
    | exact Le.refl _
noncomputable def ax_fail_reader_fail_3_1_c (rc : (List UInt8) → Int → (List tCrack) → Int → Option (Bool × (Nat × Value) × (List UInt8) × Int × (List tCrack) × Int)) (r_ : (List UInt8)) (r_' : Int) (r_'' : (List tCrack)) (r_''' : Int) (kind : Int) : Option (L_fail_reader_fail ⊕ (Bool × (Nat × Value) × (List UInt8) × Int × (List tCrack) × Int)) :=
  (fail_reader_take r_ r_' r_'' r_''' ([32] : List UInt8)).bind fun t35 =>
  if t35.1 = true then
  some (.inr (true, t35.2.1, ([] : List UInt8), (0 : Int), ([] : List tCrack), (0 : Int)))
  else
  (fail_reader_text_c t35.2.2.1 t35.2.2.2.1 t35.2.2.2.2.1 t35.2.2.2.2.2).bind fun t37 =>
  if t37.1 = true then
  some (.inr (true, t37.2.1, ([] : List UInt8), (0 : Int), ([] : List tCrack), (0 : Int)))
  else
  if (decide (kind = (8 : Int))) = true then
  (fail_reader_has t37.2.2.2.1 t37.2.2.2.2.1 t37.2.2.2.2.2.1 t37.2.2.2.2.2.2 ([58, 32] : List UInt8)).bind fun t43 =>
  if ((decide (kind = (8 : Int))) && t43.1) = true then
  (rc t43.2.1 t43.2.2.1 t43.2.2.2.1 t43.2.2.2.2).bind fun t47 =>
  if t47.1 = true then
  some (.inr (true, t47.2.1, ([] : List UInt8), (0 : Int), ([] : List tCrack), (0 : Int)))
  else
  (fail_reader_put_c t47.2.2.1 t47.2.2.2.1 t47.2.2.2.2.1 t47.2.2.2.2.2 ((kind, (0 : Int), ([] : List UInt8), ()).1, (1 : Int), t37.2.2.1, ())).bind fun t86 =>
  if t86.1 = true then
  some (.inr (true, t86.2.1, ([] : List UInt8), (0 : Int), ([] : List tCrack), (0 : Int)))
  else
  some (.inr (false, (0, undef), t86.2.2.1, t86.2.2.2.1, t86.2.2.2.2.1, t86.2.2.2.2.2))
  else
  (fail_reader_put_c t43.2.1 t43.2.2.1 t43.2.2.2.1 t43.2.2.2.2 ((kind, (0 : Int), ([] : List UInt8), ()).1, (kind, (0 : Int), ([] : List UInt8), ()).2.1, t37.2.2.1, ())).bind fun t86 =>
  if t86.1 = true then
  some (.inr (true, t86.2.1, ([] : List UInt8), (0 : Int), ([] : List tCrack), (0 : Int)))
  else
  some (.inr (false, (0, undef), t86.2.2.1, t86.2.2.2.1, t86.2.2.2.2.1, t86.2.2.2.2.2))
  else
  if ((decide (kind = (8 : Int))) && false) = true then
  (rc t37.2.2.2.1 t37.2.2.2.2.1 t37.2.2.2.2.2.1 t37.2.2.2.2.2.2).bind fun t47 =>
  if t47.1 = true then
  some (.inr (true, t47.2.1, ([] : List UInt8), (0 : Int), ([] : List tCrack), (0 : Int)))
  else
  (fail_reader_put_c t47.2.2.1 t47.2.2.2.1 t47.2.2.2.2.1 t47.2.2.2.2.2 ((kind, (0 : Int), ([] : List UInt8), ()).1, (1 : Int), t37.2.2.1, ())).bind fun t86 =>
  if t86.1 = true then
  some (.inr (true, t86.2.1, ([] : List UInt8), (0 : Int), ([] : List tCrack), (0 : Int)))
  else
  some (.inr (false, (0, undef), t86.2.2.1, t86.2.2.2.1, t86.2.2.2.2.1, t86.2.2.2.2.2))
  else
  (fail_reader_put_c t37.2.2.2.1 t37.2.2.2.2.1 t37.2.2.2.2.2.1 t37.2.2.2.2.2.2 ((kind, (0 : Int), ([] : List UInt8), ()).1, (kind, (0 : Int), ([] : List UInt8), ()).2.1, t37.2.2.1, ())).bind fun t86 =>
  if t86.1 = true then
  some (.inr (true, t86.2.1, ([] : List UInt8), (0 : Int), ([] : List tCrack), (0 : Int)))
  else
  some (.inr (false, (0, undef), t86.2.2.1, t86.2.2.2.1, t86.2.2.2.2.1, t86.2.2.2.2.2))
theorem ax_fail_reader_fail_3_1_le {rc rc2 : (List UInt8) → Int → (List tCrack) → Int → Option (Bool × (Nat × Value) × (List UInt8) × Int × (List tCrack) × Int)} (h : ∀ a0 a1 a2 a3, Le (rc a0 a1 a2 a3) (rc2 a0 a1 a2 a3)) (r_ : (List UInt8)) (r_' : Int) (r_'' : (List tCrack)) (r_''' : Int) (kind : Int) : Le (ax_fail_reader_fail_3_1_c rc r_ r_' r_'' r_''' kind) (ax_fail_reader_fail_3_1 rc2 r_ r_' r_'' r_''' kind) := by
  unfold ax_fail_reader_fail_3_1_c ax_fail_reader_fail_3_1
  repeat' first
    | with_reducible refine Le.bind ?_ (fun _ => ?_)
    | with_reducible refine Le.ite ?_ ?_
    | with_reducible refine Le.G ?_
    | with_reducible apply h
    | with_reducible apply fail_reader_text_le
    | with_reducible apply fail_reader_put_le
    | exact Le.refl _
noncomputable def ax_fail_reader_fail_3_3_c (rc : (List UInt8) → Int → (List tCrack) → Int → Option (Bool × (Nat × Value) × (List UInt8) × Int × (List tCrack) × Int)) (r_ : (List UInt8)) (r_' : Int) (r_'' : (List tCrack)) (r_''' : Int) (kind : Int) : Option (L_fail_reader_fail ⊕ (Bool × (Nat × Value) × (List UInt8) × Int × (List tCrack) × Int)) :=
  (fail_reader_take r_ r_' r_'' r_''' ([32] : List UInt8)).bind fun t54 =>
  if t54.1 = true then
  some (.inr (true, t54.2.1, ([] : List UInt8), (0 : Int), ([] : List tCrack), (0 : Int)))
  else
  (fail_reader_word_c t54.2.2.1 t54.2.2.2.1 t54.2.2.2.2.1 t54.2.2.2.2.2).bind fun t56 =>
  if (decide (kind = (9 : Int))) = true then
  (fail_reader_take t56.2.1 t56.2.2.1 t56.2.2.2.1 t56.2.2.2.2 ([58, 32] : List UInt8)).bind fun t61 =>
  if t61.1 = true then
  some (.inr (true, t61.2.1, ([] : List UInt8), (0 : Int), ([] : List tCrack), (0 : Int)))
  else
  (rc t61.2.2.1 t61.2.2.2.1 t61.2.2.2.2.1 t61.2.2.2.2.2).bind fun t64 =>
  if t64.1 = true then
  some (.inr (true, t64.2.1, ([] : List UInt8), (0 : Int), ([] : List tCrack), (0 : Int)))
  else
  (fail_reader_put_c t64.2.2.1 t64.2.2.2.1 t64.2.2.2.2.1 t64.2.2.2.2.2 ((kind, (0 : Int), ([] : List UInt8), ()).1, (1 : Int), t56.1, ())).bind fun t86 =>
  if t86.1 = true then
  some (.inr (true, t86.2.1, ([] : List UInt8), (0 : Int), ([] : List tCrack), (0 : Int)))
  else
  some (.inr (false, (0, undef), t86.2.2.1, t86.2.2.2.1, t86.2.2.2.2.1, t86.2.2.2.2.2))
  else
  (fail_reader_put_c t56.2.1 t56.2.2.1 t56.2.2.2.1 t56.2.2.2.2 ((kind, (0 : Int), ([] : List UInt8), ()).1, (kind, (0 : Int), ([] : List UInt8), ()).2.1, t56.1, ())).bind fun t86 =>
  if t86.1 = true then
  some (.inr (true, t86.2.1, ([] : List UInt8), (0 : Int), ([] : List tCrack), (0 : Int)))
  else
  some (.inr (false, (0, undef), t86.2.2.1, t86.2.2.2.1, t86.2.2.2.2.1, t86.2.2.2.2.2))
theorem ax_fail_reader_fail_3_3_le {rc rc2 : (List UInt8) → Int → (List tCrack) → Int → Option (Bool × (Nat × Value) × (List UInt8) × Int × (List tCrack) × Int)} (h : ∀ a0 a1 a2 a3, Le (rc a0 a1 a2 a3) (rc2 a0 a1 a2 a3)) (r_ : (List UInt8)) (r_' : Int) (r_'' : (List tCrack)) (r_''' : Int) (kind : Int) : Le (ax_fail_reader_fail_3_3_c rc r_ r_' r_'' r_''' kind) (ax_fail_reader_fail_3_3 rc2 r_ r_' r_'' r_''' kind) := by
  unfold ax_fail_reader_fail_3_3_c ax_fail_reader_fail_3_3
  repeat' first
    | with_reducible refine Le.bind ?_ (fun _ => ?_)
    | with_reducible refine Le.ite ?_ ?_
    | with_reducible refine Le.G ?_
    | with_reducible apply h
    | with_reducible apply fail_reader_word_le
    | with_reducible apply fail_reader_put_le
    | exact Le.refl _
noncomputable def ax_fail_reader_fail_3_5_c (rc : (List UInt8) → Int → (List tCrack) → Int → Option (Bool × (Nat × Value) × (List UInt8) × Int × (List tCrack) × Int)) (r_ : (List UInt8)) (r_' : Int) (r_'' : (List tCrack)) (r_''' : Int) (kind : Int) : Option (L_fail_reader_fail ⊕ (Bool × (Nat × Value) × (List UInt8) × Int × (List tCrack) × Int)) :=
  (fail_reader_put_c r_ r_' r_'' r_''' ((kind, (0 : Int), ([] : List UInt8), ()).1, (kind, (0 : Int), ([] : List UInt8), ()).2.1, (kind, (0 : Int), ([] : List UInt8), ()).2.2.1, ())).bind fun t86 =>
  if t86.1 = true then
  some (.inr (true, t86.2.1, ([] : List UInt8), (0 : Int), ([] : List tCrack), (0 : Int)))
  else
  some (.inr (false, (0, undef), t86.2.2.1, t86.2.2.2.1, t86.2.2.2.2.1, t86.2.2.2.2.2))
theorem ax_fail_reader_fail_3_5_le {rc rc2 : (List UInt8) → Int → (List tCrack) → Int → Option (Bool × (Nat × Value) × (List UInt8) × Int × (List tCrack) × Int)} (h : ∀ a0 a1 a2 a3, Le (rc a0 a1 a2 a3) (rc2 a0 a1 a2 a3)) (r_ : (List UInt8)) (r_' : Int) (r_'' : (List tCrack)) (r_''' : Int) (kind : Int) : Le (ax_fail_reader_fail_3_5_c rc r_ r_' r_'' r_''' kind) (ax_fail_reader_fail_3_5 rc2 r_ r_' r_'' r_''' kind) := by
  unfold ax_fail_reader_fail_3_5_c ax_fail_reader_fail_3_5
  repeat' first
    | with_reducible refine Le.bind ?_ (fun _ => ?_)
    | with_reducible refine Le.ite ?_ ?_
    | with_reducible refine Le.G ?_
    | with_reducible apply h
    | with_reducible apply fail_reader_put_le
    | exact Le.refl _
noncomputable def ax_fail_reader_fail_3_2_c (rc : (List UInt8) → Int → (List tCrack) → Int → Option (Bool × (Nat × Value) × (List UInt8) × Int × (List tCrack) × Int)) (kind : Int) (r_ : (List UInt8)) (r_' : Int) (r_'' : (List tCrack)) (r_''' : Int) : Option (L_fail_reader_fail ⊕ (Bool × (Nat × Value) × (List UInt8) × Int × (List tCrack) × Int)) :=
  if (decide (kind = (3 : Int))) = true then
  (if (decide (kind = (3 : Int))) = true then
  ax_fail_reader_fail_3_3_c rc r_ r_' r_'' r_''' kind
  else
  if (decide (kind = (10 : Int))) = true then
  ax_fail_reader_fail_3_4 rc r_ r_' r_'' r_''' kind
  else
  ax_fail_reader_fail_3_5_c rc r_ r_' r_'' r_''' kind)
  else
  if (decide (kind = (4 : Int))) = true then
  (if (decide (kind = (4 : Int))) = true then
  ax_fail_reader_fail_3_3_c rc r_ r_' r_'' r_''' kind
  else
  if (decide (kind = (10 : Int))) = true then
  ax_fail_reader_fail_3_4 rc r_ r_' r_'' r_''' kind
  else
  ax_fail_reader_fail_3_5_c rc r_ r_' r_'' r_''' kind)
  else
  if (decide (kind = (5 : Int))) = true then
  (if (decide (kind = (5 : Int))) = true then
  ax_fail_reader_fail_3_3_c rc r_ r_' r_'' r_''' kind
  else
  if (decide (kind = (10 : Int))) = true then
  ax_fail_reader_fail_3_4 rc r_ r_' r_'' r_''' kind
  else
  ax_fail_reader_fail_3_5_c rc r_ r_' r_'' r_''' kind)
  else
  if (decide (kind = (9 : Int))) = true then
  ax_fail_reader_fail_3_3_c rc r_ r_' r_'' r_''' kind
  else
  if (decide (kind = (10 : Int))) = true then
  ax_fail_reader_fail_3_4 rc r_ r_' r_'' r_''' kind
  else
  ax_fail_reader_fail_3_5_c rc r_ r_' r_'' r_''' kind
theorem ax_fail_reader_fail_3_2_le {rc rc2 : (List UInt8) → Int → (List tCrack) → Int → Option (Bool × (Nat × Value) × (List UInt8) × Int × (List tCrack) × Int)} (h : ∀ a0 a1 a2 a3, Le (rc a0 a1 a2 a3) (rc2 a0 a1 a2 a3)) (kind : Int) (r_ : (List UInt8)) (r_' : Int) (r_'' : (List tCrack)) (r_''' : Int) : Le (ax_fail_reader_fail_3_2_c rc kind r_ r_' r_'' r_''') (ax_fail_reader_fail_3_2 rc2 kind r_ r_' r_'' r_''') := by
  unfold ax_fail_reader_fail_3_2_c ax_fail_reader_fail_3_2
  repeat' first
    | with_reducible refine Le.bind ?_ (fun _ => ?_)
    | with_reducible refine Le.ite ?_ ?_
    | with_reducible refine Le.G ?_
    | with_reducible apply h
    | with_reducible apply ax_fail_reader_fail_3_3_le
    | with_reducible apply ax_fail_reader_fail_3_5_le
    | exact Le.refl _
noncomputable def sg_fail_reader_fail_3_c (rc : (List UInt8) → Int → (List tCrack) → Int → Option (Bool × (Nat × Value) × (List UInt8) × Int × (List tCrack) × Int)) (r_ : (List UInt8)) (r_' : Int) (r_'' : (List tCrack)) (r_''' : Int) (w : (List UInt8)) (kind : Int) (x9 : ((List UInt8) × (List UInt8) × (List UInt8) × (List UInt8) × (List UInt8) × (List UInt8) × (List UInt8) × (List UInt8) × (List UInt8) × (List UInt8) × (List UInt8) × (List UInt8) × Unit)) (x10 : Int) : Option (L_fail_reader_fail ⊕ (Bool × (Nat × Value) × (List UInt8) × Int × (List tCrack) × Int)) :=
  if (decide (x10 < (12 : Int))) = true then
  G (0 ≤ x10 ∧ x10 < (12 : Int)) <|
  if ((decide ((([x9.1, x9.2.1, x9.2.2.1, x9.2.2.2.1, x9.2.2.2.2.1, x9.2.2.2.2.2.1, x9.2.2.2.2.2.2.1, x9.2.2.2.2.2.2.2.1, x9.2.2.2.2.2.2.2.2.1, x9.2.2.2.2.2.2.2.2.2.1, x9.2.2.2.2.2.2.2.2.2.2.1, x9.2.2.2.2.2.2.2.2.2.2.2.1] : List (List UInt8)).getD x10.toNat ([] : List UInt8)) = w)) && (decide ((0 : Int) < x10))) = true then
  some (.inl (.l3 r_ r_' r_'' r_''' w x10 x9 (w64 (x10 + (1 : Int)))))
  else
  some (.inl (.l3 r_ r_' r_'' r_''' w kind x9 (w64 (x10 + (1 : Int)))))
  else
  if (decide (kind = (0 : Int))) = true then
  (fail_reader_need r_ r_' r_'' r_''' false).bind fun t29 =>
  if t29.1 = true then
  some (.inr (true, t29.2.1, ([] : List UInt8), (0 : Int), ([] : List tCrack), (0 : Int)))
  else
  (fail_reader_put_c t29.2.2.1 t29.2.2.2.1 t29.2.2.2.2.1 t29.2.2.2.2.2 ((kind, (0 : Int), ([] : List UInt8), ()).1, (kind, (0 : Int), ([] : List UInt8), ()).2.1, (kind, (0 : Int), ([] : List UInt8), ()).2.2.1, ())).bind fun t86 =>
  if t86.1 = true then
  some (.inr (true, t86.2.1, ([] : List UInt8), (0 : Int), ([] : List tCrack), (0 : Int)))
  else
  some (.inr (false, (0, undef), t86.2.2.1, t86.2.2.2.1, t86.2.2.2.2.1, t86.2.2.2.2.2))
  else
  if (decide (kind = (1 : Int))) = true then
  (if (decide (kind = (1 : Int))) = true then
  ax_fail_reader_fail_3_1_c rc r_ r_' r_'' r_''' kind
  else
  ax_fail_reader_fail_3_2_c rc kind r_ r_' r_'' r_''')
  else
  if (decide (kind = (2 : Int))) = true then
  (if (decide (kind = (2 : Int))) = true then
  ax_fail_reader_fail_3_1_c rc r_ r_' r_'' r_''' kind
  else
  ax_fail_reader_fail_3_2_c rc kind r_ r_' r_'' r_''')
  else
  if (decide (kind = (8 : Int))) = true then
  ax_fail_reader_fail_3_1_c rc r_ r_' r_'' r_''' kind
  else
  ax_fail_reader_fail_3_2_c rc kind r_ r_' r_'' r_'''
theorem sg_fail_reader_fail_3_le {rc rc2 : (List UInt8) → Int → (List tCrack) → Int → Option (Bool × (Nat × Value) × (List UInt8) × Int × (List tCrack) × Int)} (h : ∀ a0 a1 a2 a3, Le (rc a0 a1 a2 a3) (rc2 a0 a1 a2 a3)) (r_ : (List UInt8)) (r_' : Int) (r_'' : (List tCrack)) (r_''' : Int) (w : (List UInt8)) (kind : Int) (x9 : ((List UInt8) × (List UInt8) × (List UInt8) × (List UInt8) × (List UInt8) × (List UInt8) × (List UInt8) × (List UInt8) × (List UInt8) × (List UInt8) × (List UInt8) × (List UInt8) × Unit)) (x10 : Int) : Le (sg_fail_reader_fail_3_c rc r_ r_' r_'' r_''' w kind x9 x10) (sg_fail_reader_fail_3 rc2 r_ r_' r_'' r_''' w kind x9 x10) := by
  unfold sg_fail_reader_fail_3_c sg_fail_reader_fail_3
  repeat' first
    | with_reducible refine Le.bind ?_ (fun _ => ?_)
    | with_reducible refine Le.ite ?_ ?_
    | with_reducible refine Le.G ?_
    | with_reducible apply h
    | with_reducible apply fail_reader_put_le
    | with_reducible apply ax_fail_reader_fail_3_1_le
    | with_reducible apply ax_fail_reader_fail_3_2_le
    | exact Le.refl _
noncomputable def sg_fail_reader_fail_32_c (rc : (List UInt8) → Int → (List tCrack) → Int → Option (Bool × (Nat × Value) × (List UInt8) × Int × (List tCrack) × Int)) (r_ : (List UInt8)) (r_' : Int) (r_'' : (List tCrack)) (r_''' : Int) (c : Int) (c' : Int) (c'' : (List UInt8)) : Option (L_fail_reader_fail ⊕ (Bool × (Nat × Value) × (List UInt8) × Int × (List tCrack) × Int)) :=
  if (!(decide (c' = (0 : Int)))) = true then
  ((fail_reader_has r_ r_' r_'' r_''' ([59, 32] : List UInt8)).bind fun t74 =>
  if ((decide (c' = (0 : Int))) || t74.1) = true then
  (rc t74.2.1 t74.2.2.1 t74.2.2.2.1 t74.2.2.2.2).bind fun t77 =>
  if t77.1 = true then
  some (.inr (true, t77.2.1, ([] : List UInt8), (0 : Int), ([] : List tCrack), (0 : Int)))
  else
  some (.inl (.l32 t77.2.2.1 t77.2.2.2.1 t77.2.2.2.2.1 t77.2.2.2.2.2 c (w64 (c' + (1 : Int))) c''))
  else
  (fail_reader_take t74.2.1 t74.2.2.1 t74.2.2.2.1 t74.2.2.2.2 ([41] : List UInt8)).bind fun t83 =>
  if t83.1 = true then
  some (.inr (true, t83.2.1, ([] : List UInt8), (0 : Int), ([] : List tCrack), (0 : Int)))
  else
  (fail_reader_put_c t83.2.2.1 t83.2.2.2.1 t83.2.2.2.2.1 t83.2.2.2.2.2 (c, c', c'', ())).bind fun t86 =>
  if t86.1 = true then
  some (.inr (true, t86.2.1, ([] : List UInt8), (0 : Int), ([] : List tCrack), (0 : Int)))
  else
  some (.inr (false, (0, undef), t86.2.2.1, t86.2.2.2.1, t86.2.2.2.2.1, t86.2.2.2.2.2)))
  else
  if ((decide (c' = (0 : Int))) || false) = true then
  (rc r_ r_' r_'' r_''').bind fun t77 =>
  if t77.1 = true then
  some (.inr (true, t77.2.1, ([] : List UInt8), (0 : Int), ([] : List tCrack), (0 : Int)))
  else
  some (.inl (.l32 t77.2.2.1 t77.2.2.2.1 t77.2.2.2.2.1 t77.2.2.2.2.2 c (w64 (c' + (1 : Int))) c''))
  else
  (fail_reader_take r_ r_' r_'' r_''' ([41] : List UInt8)).bind fun t83 =>
  if t83.1 = true then
  some (.inr (true, t83.2.1, ([] : List UInt8), (0 : Int), ([] : List tCrack), (0 : Int)))
  else
  (fail_reader_put_c t83.2.2.1 t83.2.2.2.1 t83.2.2.2.2.1 t83.2.2.2.2.2 (c, c', c'', ())).bind fun t86 =>
  if t86.1 = true then
  some (.inr (true, t86.2.1, ([] : List UInt8), (0 : Int), ([] : List tCrack), (0 : Int)))
  else
  some (.inr (false, (0, undef), t86.2.2.1, t86.2.2.2.1, t86.2.2.2.2.1, t86.2.2.2.2.2))
theorem sg_fail_reader_fail_32_le {rc rc2 : (List UInt8) → Int → (List tCrack) → Int → Option (Bool × (Nat × Value) × (List UInt8) × Int × (List tCrack) × Int)} (h : ∀ a0 a1 a2 a3, Le (rc a0 a1 a2 a3) (rc2 a0 a1 a2 a3)) (r_ : (List UInt8)) (r_' : Int) (r_'' : (List tCrack)) (r_''' : Int) (c : Int) (c' : Int) (c'' : (List UInt8)) : Le (sg_fail_reader_fail_32_c rc r_ r_' r_'' r_''' c c' c'') (sg_fail_reader_fail_32 rc2 r_ r_' r_'' r_''' c c' c'') := by
  unfold sg_fail_reader_fail_32_c sg_fail_reader_fail_32
  repeat' first
    | with_reducible refine Le.bind ?_ (fun _ => ?_)
    | with_reducible refine Le.ite ?_ ?_
    | with_reducible refine Le.G ?_
    | with_reducible apply h
    | with_reducible apply fail_reader_put_le
    | exact Le.refl _
noncomputable def st_fail_reader_fail_c (rc : (List UInt8) → Int → (List tCrack) → Int → Option (Bool × (Nat × Value) × (List UInt8) × Int × (List tCrack) × Int)) : L_fail_reader_fail → Option (L_fail_reader_fail ⊕ (Bool × (Nat × Value) × (List UInt8) × Int × (List tCrack) × Int))
  | .l3 r_ r_' r_'' r_''' w kind x9 x10 => sg_fail_reader_fail_3_c rc r_ r_' r_'' r_''' w kind x9 x10
  | .l32 r_ r_' r_'' r_''' c c' c'' => sg_fail_reader_fail_32_c rc r_ r_' r_'' r_''' c c' c''
theorem st_fail_reader_fail_le {rc rc2 : (List UInt8) → Int → (List tCrack) → Int → Option (Bool × (Nat × Value) × (List UInt8) × Int × (List tCrack) × Int)} (h : ∀ a0 a1 a2 a3, Le (rc a0 a1 a2 a3) (rc2 a0 a1 a2 a3)) : ∀ l, Le (st_fail_reader_fail_c rc l) (st_fail_reader_fail rc2 l)
  | .l3 r_ r_' r_'' r_''' w kind x9 x10 => sg_fail_reader_fail_3_le h r_ r_' r_'' r_''' w kind x9 x10
  | .l32 r_ r_' r_'' r_''' c c' c'' => sg_fail_reader_fail_32_le h r_ r_' r_'' r_''' c c' c''
noncomputable def en_fail_reader_fail_c (rc : (List UInt8) → Int → (List tCrack) → Int → Option (Bool × (Nat × Value) × (List UInt8) × Int × (List tCrack) × Int)) (r_ : (List UInt8)) (r_' : Int) (r_'' : (List tCrack)) (r_''' : Int) : Option (L_fail_reader_fail ⊕ (Bool × (Nat × Value) × (List UInt8) × Int × (List tCrack) × Int)) :=
  (fail_reader_word_c r_ r_' r_'' r_''').bind fun t8 =>
  some (.inl (.l3 t8.2.1 t8.2.2.1 t8.2.2.2.1 t8.2.2.2.2 t8.1 (0 : Int) (arrX .str gl_onceweb_fail_words) (0 : Int)))
theorem en_fail_reader_fail_le {rc rc2 : (List UInt8) → Int → (List tCrack) → Int → Option (Bool × (Nat × Value) × (List UInt8) × Int × (List tCrack) × Int)} (h : ∀ a0 a1 a2 a3, Le (rc a0 a1 a2 a3) (rc2 a0 a1 a2 a3)) (r_ : (List UInt8)) (r_' : Int) (r_'' : (List tCrack)) (r_''' : Int) : Le (en_fail_reader_fail_c rc r_ r_' r_'' r_''') (en_fail_reader_fail rc2 r_ r_' r_'' r_''') := by
  unfold en_fail_reader_fail_c en_fail_reader_fail
  repeat' first
    | with_reducible refine Le.bind ?_ (fun _ => ?_)
    | with_reducible refine Le.ite ?_ ?_
    | with_reducible refine Le.G ?_
    | with_reducible apply h
    | with_reducible apply fail_reader_word_le
    | exact Le.refl _
noncomputable def fail_reader_fail_n_c : Nat → (List UInt8) → Int → (List tCrack) → Int → Option (Bool × (Nat × Value) × (List UInt8) × Int × (List tCrack) × Int)
  | 0, _, _, _, _ => none
  | fu_ + 1, r_, r_', r_'', r_''' => runLN 400 (st_fail_reader_fail_c (fail_reader_fail_n_c fu_)) (en_fail_reader_fail_c (fail_reader_fail_n_c fu_) r_ r_' r_'' r_''')
theorem fail_reader_fail_n_le : ∀ (fu_ : Nat) r_ r_' r_'' r_''', Le (fail_reader_fail_n_c fu_ r_ r_' r_'' r_''') (fail_reader_fail_n fu_ r_ r_' r_'' r_''')
  | 0, _, _, _, _ => fun _ h => by cases h
  | fu_ + 1, r_, r_', r_'', r_''' => Le.runL (st_fail_reader_fail_le (fail_reader_fail_n_le fu_)) (en_fail_reader_fail_le (fail_reader_fail_n_le fu_) _ _ _ _)
noncomputable def fail_reader_fail_c (r_ : (List UInt8)) (r_' : Int) (r_'' : (List tCrack)) (r_''' : Int) : Option (Bool × (Nat × Value) × (List UInt8) × Int × (List tCrack) × Int) := fail_reader_fail_n_c 66000 r_ r_' r_'' r_'''
theorem fail_reader_fail_le (r_ : (List UInt8)) (r_' : Int) (r_'' : (List tCrack)) (r_''' : Int) : Le (fail_reader_fail_c r_ r_' r_'' r_''') (fail_reader_fail r_ r_' r_'' r_''') := by
  unfold fail_reader_fail_c fail_reader_fail
  repeat' first
    | with_reducible refine Le.bind ?_ (fun _ => ?_)
    | with_reducible refine Le.ite ?_ ?_
    | with_reducible refine Le.G ?_
    | with_reducible apply fail_reader_fail_n_le
    | exact Le.refl _
noncomputable def fail_Parse_c (s_ : List UInt8) : Option ((List tCrack) × Int) :=
  if (decide ((65536 : Int) < (s_.length : Int))) = true then
  some (([] : List tCrack), (3 : Int))
  else
  (fail_reader_fail_c s_ (0 : Int) ([] : List tCrack) (0 : Int)).bind fun t =>
  if t.1 = true then some (([] : List tCrack), (2 : Int))
  else if t.2.2.2.1 = (s_.length : Int) then some (t.2.2.2.2.1, (0 : Int)) else some (([] : List tCrack), (2 : Int))
theorem fail_Parse_le (s_ : List UInt8) : Le (fail_Parse_c s_) (fail_Parse s_) := by
  unfold fail_Parse_c fail_Parse
  repeat' first
    | with_reducible refine Le.bind ?_ (fun _ => ?_)
    | with_reducible refine Le.ite ?_ ?_
    | with_reducible refine Le.G ?_
    | with_reducible apply fail_reader_fail_le
    | exact Le.refl _
noncomputable def sg_slices_Equal_4_c (s1 : (List tCrack)) (s2 : (List tCrack)) (x12 : Int) (x13 : Int) : Option (L_slices_Equal ⊕ Bool) :=
  if (decide (x13 < x12)) = true then
  (G (0 ≤ x13 ∧ x13 < (s1.length : Int)) <|
  G (0 ≤ x13 ∧ x13 < (s2.length : Int)) <|
  if (!(eqR tyCrack (s1.getD x13.toNat dCrack) (s2.getD x13.toNat dCrack))) = true then
  some (.inr false)
  else
  some (.inl (.l4 s1 s2 x12 (w64 (x13 + (1 : Int))))))
  else
  some (.inr true)
theorem sg_slices_Equal_4_le (s1 : (List tCrack)) (s2 : (List tCrack)) (x12 : Int) (x13 : Int) : Le (sg_slices_Equal_4_c s1 s2 x12 x13) (sg_slices_Equal_4 s1 s2 x12 x13) := by
  unfold sg_slices_Equal_4_c sg_slices_Equal_4
  repeat' first
    | with_reducible refine Le.bind ?_ (fun _ => ?_)
    | with_reducible refine Le.ite ?_ ?_
    | with_reducible refine Le.G ?_
    | exact Le.refl _
noncomputable def st_slices_Equal_c : L_slices_Equal → Option (L_slices_Equal ⊕ Bool)
  | .l4 s1 s2 x12 x13 => sg_slices_Equal_4_c s1 s2 x12 x13
theorem st_slices_Equal_le : ∀ l, Le (st_slices_Equal_c l) (st_slices_Equal l)
  | .l4 s1 s2 x12 x13 => sg_slices_Equal_4_le s1 s2 x12 x13
noncomputable def en_slices_Equal_c (s1 : (List tCrack)) (s2 : (List tCrack)) : Option (L_slices_Equal ⊕ Bool) :=
  if (!decide ((s1.length : Int) = (s2.length : Int))) = true then
  some (.inr false)
  else
  some (.inl (.l4 s1 s2 (s1.length : Int) (0 : Int)))
theorem en_slices_Equal_le (s1 : (List tCrack)) (s2 : (List tCrack)) : Le (en_slices_Equal_c s1 s2) (en_slices_Equal s1 s2) := by
  unfold en_slices_Equal_c en_slices_Equal
  repeat' first
    | with_reducible refine Le.bind ?_ (fun _ => ?_)
    | with_reducible refine Le.ite ?_ ?_
    | with_reducible refine Le.G ?_
    | exact Le.refl _
noncomputable def slices_Equal_c (s1 : (List tCrack)) (s2 : (List tCrack)) : Option Bool := runLN 400 st_slices_Equal_c (en_slices_Equal_c s1 s2)
theorem slices_Equal_le (s1 : (List tCrack)) (s2 : (List tCrack)) : Le (slices_Equal_c s1 s2) (slices_Equal s1 s2) := by
  unfold slices_Equal_c slices_Equal
  exact Le.runL st_slices_Equal_le (en_slices_Equal_le _ _)
noncomputable def sg_fail_Is_9_c (f : (List tCrack)) (g : (List tCrack)) (from_ : (List Int)) (x28 : Int) (x29 : Int) : Option (L_fail_Is ⊕ (Bool × Int)) :=
  if (decide (x29 < x28)) = true then
  (G (0 ≤ x29 ∧ x29 < (from_.length : Int)) <|
  G (0 ≤ (from_.getD x29.toNat (0 : Int)) ∧ (from_.getD x29.toNat (0 : Int)) ≤ (w64 (x29 + (1 : Int))) ∧ (w64 (x29 + (1 : Int))) ≤ (f.length : Int)) <|
  (slices_Equal_c (cut f (from_.getD x29.toNat (0 : Int)).toNat (w64 (x29 + (1 : Int))).toNat) g).bind fun t40 =>
  if t40 = true then
  some (.inr (true, (0 : Int)))
  else
  some (.inl (.l9 f g from_ x28 (w64 (x29 + (1 : Int))))))
  else
  some (.inr (false, (0 : Int)))
theorem sg_fail_Is_9_le (f : (List tCrack)) (g : (List tCrack)) (from_ : (List Int)) (x28 : Int) (x29 : Int) : Le (sg_fail_Is_9_c f g from_ x28 x29) (sg_fail_Is_9 f g from_ x28 x29) := by
  unfold sg_fail_Is_9_c sg_fail_Is_9
  repeat' first
    | with_reducible refine Le.bind ?_ (fun _ => ?_)
    | with_reducible refine Le.ite ?_ ?_
    | with_reducible refine Le.G ?_
    | with_reducible apply slices_Equal_le
    | exact Le.refl _
noncomputable def st_fail_Is_c : L_fail_Is → Option (L_fail_Is ⊕ (Bool × Int))
  | .l9 f g from_ x28 x29 => sg_fail_Is_9_c f g from_ x28 x29
theorem st_fail_Is_le : ∀ l, Le (st_fail_Is_c l) (st_fail_Is l)
  | .l9 f g from_ x28 x29 => sg_fail_Is_9_le f g from_ x28 x29
noncomputable def en_fail_Is_c (f : (List tCrack)) (g : (List tCrack)) : Option (L_fail_Is ⊕ (Bool × Int)) :=
  (fail_Check_c f).bind fun t13 =>
  if (!decide (t13 = (0 : Int))) = true then
  some (.inr (false, t13))
  else
  (fail_Check_c g).bind fun t18 =>
  if (!decide (t18 = (0 : Int))) = true then
  some (.inr (false, t18))
  else
  (fail_begins_c f).bind fun t24 =>
  some (.inl (.l9 f g t24.1 (t24.1.length : Int) (0 : Int)))
theorem en_fail_Is_le (f : (List tCrack)) (g : (List tCrack)) : Le (en_fail_Is_c f g) (en_fail_Is f g) := by
  unfold en_fail_Is_c en_fail_Is
  repeat' first
    | with_reducible refine Le.bind ?_ (fun _ => ?_)
    | with_reducible refine Le.ite ?_ ?_
    | with_reducible refine Le.G ?_
    | with_reducible apply fail_Check_le
    | with_reducible apply fail_begins_le
    | exact Le.refl _
noncomputable def fail_Is_c (f : (List tCrack)) (g : (List tCrack)) : Option (Bool × Int) := runLN 400 st_fail_Is_c (en_fail_Is_c f g)
theorem fail_Is_le (f : (List tCrack)) (g : (List tCrack)) : Le (fail_Is_c f g) (fail_Is f g) := by
  unfold fail_Is_c fail_Is
  exact Le.runL st_fail_Is_le (en_fail_Is_le _ _)
noncomputable def law03_works_c  : Option Bool :=
  (fail_Print_c ([((5 : Int), (0 : Int), ([97] : List UInt8), ()), ((8 : Int), (1 : Int), ([115, 116, 111, 112] : List UInt8), ()), ((9 : Int), (1 : Int), ([100, 98] : List UInt8), ())] : List tCrack)).bind fun t14 =>
  (fail_Parse_c t14.1).bind fun t19 =>
  G (0 ≤ (1 : Int) ∧ (1 : Int) ≤ ((([((5 : Int), (0 : Int), ([97] : List UInt8), ()), ((8 : Int), (1 : Int), ([115, 116, 111, 112] : List UInt8), ()), ((9 : Int), (1 : Int), ([100, 98] : List UInt8), ())] : List tCrack).length : Nat) : Int)) <|
  (fail_Is_c ([((5 : Int), (0 : Int), ([97] : List UInt8), ()), ((8 : Int), (1 : Int), ([115, 116, 111, 112] : List UInt8), ()), ((9 : Int), (1 : Int), ([100, 98] : List UInt8), ())] : List tCrack) (([((5 : Int), (0 : Int), ([97] : List UInt8), ()), ((8 : Int), (1 : Int), ([115, 116, 111, 112] : List UInt8), ()), ((9 : Int), (1 : Int), ([100, 98] : List UInt8), ())] : List tCrack).take ((1 : Int).toNat))).bind fun t26 =>
  (if (((((decide (t14.2 = (0 : Int))) && (decide (t19.2 = (0 : Int)))) && (decide (t26.2 = (0 : Int)))) && t26.1) && (decide (t14.1 = ([99, 101, 108, 108, 32, 100, 98, 58, 32, 116, 111, 107, 101, 110, 32, 34, 115, 116, 111, 112, 34, 58, 32, 99, 121, 99, 108, 101, 32, 97] : List UInt8)))) = true then base_SameFail_c ([((5 : Int), (0 : Int), ([97] : List UInt8), ()), ((8 : Int), (1 : Int), ([115, 116, 111, 112] : List UInt8), ()), ((9 : Int), (1 : Int), ([100, 98] : List UInt8), ())] : List tCrack) t19.1 else some false).bind fun t49 =>
  some ((((((decide (t14.2 = (0 : Int))) && (decide (t19.2 = (0 : Int)))) && (decide (t26.2 = (0 : Int)))) && t26.1) && (decide (t14.1 = ([99, 101, 108, 108, 32, 100, 98, 58, 32, 116, 111, 107, 101, 110, 32, 34, 115, 116, 111, 112, 34, 58, 32, 99, 121, 99, 108, 101, 32, 97] : List UInt8)))) && t49)
theorem law03_works_le  : Le (law03_works_c ) (law03_works ) := by
  unfold law03_works_c law03_works
  repeat' first
    | with_reducible refine Le.bind ?_ (fun _ => ?_)
    | with_reducible refine Le.ite ?_ ?_
    | with_reducible refine Le.G ?_
    | with_reducible apply fail_Print_le
    | with_reducible apply fail_Parse_le
    | with_reducible apply fail_Is_le
    | with_reducible apply base_SameFail_le
    | exact Le.refl _
end Go.Eng
