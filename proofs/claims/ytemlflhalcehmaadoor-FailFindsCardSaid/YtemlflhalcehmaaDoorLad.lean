/- A part of the proof: Lad. -/
import Derived.Test.YtemlflhalcehmaaDoorD3
namespace Go.Eng
set_option linter.unusedVariables false
set_option linter.unusedSimpArgs false

abbrev tyCrack : Ty := rowOf [(.int .i64), (.int .i64), .str]
abbrev tCrack := Int × Int × (List UInt8) × Unit
abbrev dCrack : tCrack := ((0 : Int), (0 : Int), ([] : List UInt8), ())
def gl_onceweb_fail_sorts : List Int := [0, 1, 1, 1, 1, 1, 1, 1, 2, 3, 4, 1]
def gl_onceweb_fail_values : List (List UInt8) := [[108, 105, 115, 116], [97, 100, 100], [115, 117, 98], [109, 117, 108], [106, 111, 105, 110], [105, 116, 101, 109], [115, 105, 122, 101], [105, 102], [102, 97, 105, 108], [112, 97, 110, 105, 99]]
def gl_onceweb_lex_keys : List (List UInt8) := [[99, 101, 108, 108], [97, 103, 97, 105, 110], [116, 114, 105, 101, 115], [98, 97, 115, 101], [102, 97, 99, 116, 111, 114], [99, 97, 112], [99, 108, 111, 115, 101], [102, 105, 110, 101], [102, 97, 105, 108], [112, 97, 110, 105, 99], [105, 102], [116, 104, 101, 110], [101, 108, 115, 101], [116, 114, 121], [119, 97, 105, 116], [108, 101, 116], [105, 110], [105, 116, 101, 109], [115, 105, 122, 101]]
/-! ### onceweb/oncewebbase.CopyFail -/
noncomputable def base_CopyFail (f : (List tCrack)) : Option (List tCrack) :=
  G ((([] : List tCrack).length + f.length) * 32 ≤ 140737488355328) <|
  some f
/-! ### onceweb/fail.sort -/
noncomputable def fail_sort (kind : Int) : Option Int :=
  if ((decide (kind < (0 : Int))) || (decide ((12 : Int) ≤ kind))) = true then
  some (0 : Int)
  else
  G (0 ≤ kind ∧ kind < (gl_onceweb_fail_sorts.length : Int)) <|
  some (gl_onceweb_fail_sorts.getD kind.toNat (0 : Int))
/-! ### onceweb/lex.letter -/
noncomputable def lex_letter (c : UInt8) : Option Bool :=
  some ((decide (97 ≤ (c.toNat : Int))) && (decide ((c.toNat : Int) ≤ 122)))
/-! ### onceweb/lex.digit -/
noncomputable def lex_digit (c : UInt8) : Option Bool :=
  some ((decide (48 ≤ (c.toNat : Int))) && (decide ((c.toNat : Int) ≤ 57)))
/-! ### onceweb/lex.word -/
inductive L_lex_word where
  | l3 (s_ : (List UInt8)) (at_ : Int)
noncomputable def sg_lex_word_3 (s_ : (List UInt8)) (at_ : Int) : Option (L_lex_word ⊕ Int) :=
  G ((decide (at_ < (s_.length : Int))) = true → (0 ≤ at_ ∧ at_ < (s_.length : Int))) <|
  (if (decide (at_ < (s_.length : Int))) = true then lex_letter (s_.getD at_.toNat 0) else some false).bind fun t25 =>
  G (((decide (at_ < (s_.length : Int))) && !t25) = true → (0 ≤ at_ ∧ at_ < (s_.length : Int))) <|
  (if ((decide (at_ < (s_.length : Int))) && !t25) = true then lex_digit (s_.getD at_.toNat 0) else some false).bind fun t30 =>
  G (((decide (at_ < (s_.length : Int))) && !(t25 || t30)) = true → (0 ≤ at_ ∧ at_ < (s_.length : Int))) <|
  if ((decide (at_ < (s_.length : Int))) && ((t25 || t30) || (decide (((s_.getD at_.toNat 0).toNat : Int) = 95)))) = true then
  some (.inl (.l3 s_ (w64 (at_ + (1 : Int)))))
  else
  some (.inr at_)
noncomputable def st_lex_word : L_lex_word → Option (L_lex_word ⊕ Int)
  | .l3 s_ at_ => sg_lex_word_3 s_ at_
noncomputable def en_lex_word (s_ : (List UInt8)) (at_ : Int) : Option (L_lex_word ⊕ Int) :=
  G ((!(decide ((s_.length : Int) ≤ at_))) = true → (0 ≤ at_ ∧ at_ < (s_.length : Int))) <|
  (if (!(decide ((s_.length : Int) ≤ at_))) = true then lex_letter (s_.getD at_.toNat 0) else some false).bind fun t13 =>
  if ((decide ((s_.length : Int) ≤ at_)) || (!t13)) = true then
  some (.inr at_)
  else
  some (.inl (.l3 s_ at_))
noncomputable def lex_word (s_ : (List UInt8)) (at_ : Int) : Option Int := runL st_lex_word (en_lex_word s_ at_)
/-! ### slices.Index[[]string,string] -/
inductive L_slices_Index where
  | l2 (s_ : (List (List UInt8))) (v : (List UInt8)) (x7 : Int) (x8 : Int)
noncomputable def sg_slices_Index_2 (s_ : (List (List UInt8))) (v : (List UInt8)) (x7 : Int) (x8 : Int) : Option (L_slices_Index ⊕ Int) :=
  if (decide (x8 < x7)) = true then
  (G (0 ≤ x8 ∧ x8 < (s_.length : Int)) <|
  if (decide (v = (s_.getD x8.toNat ([] : List UInt8)))) = true then
  some (.inr x8)
  else
  some (.inl (.l2 s_ v x7 (w64 (x8 + (1 : Int))))))
  else
  some (.inr (-1 : Int))
noncomputable def st_slices_Index : L_slices_Index → Option (L_slices_Index ⊕ Int)
  | .l2 s_ v x7 x8 => sg_slices_Index_2 s_ v x7 x8
noncomputable def en_slices_Index (s_ : (List (List UInt8))) (v : (List UInt8)) : Option (L_slices_Index ⊕ Int) :=
  some (.inl (.l2 s_ v (s_.length : Int) (0 : Int)))
noncomputable def slices_Index (s_ : (List (List UInt8))) (v : (List UInt8)) : Option Int := runL st_slices_Index (en_slices_Index s_ v)
/-! ### slices.Contains[[]string,string] -/
noncomputable def slices_Contains (s_ : (List (List UInt8))) (v : (List UInt8)) : Option Bool :=
  (slices_Index s_ v).bind fun t7 =>
  some (decide ((0 : Int) ≤ t7))
/-! ### onceweb/lex.IsKey -/
noncomputable def lex_IsKey (s_ : (List UInt8)) : Option Bool :=
  (slices_Contains gl_onceweb_lex_keys s_).bind fun t5 =>
  some t5
/-! ### onceweb/lex.IsName -/
noncomputable def lex_IsName (s_ : (List UInt8)) : Option Bool :=
  (if ((!decide (s_ = ([] : List UInt8))) && (decide ((s_.length : Int) ≤ (24 : Int)))) = true then lex_word s_ (0 : Int) else some (0 : Int)).bind fun t12 =>
  (if (((!decide (s_ = ([] : List UInt8))) && (decide ((s_.length : Int) ≤ (24 : Int)))) && (decide (t12 = (s_.length : Int)))) = true then lex_IsKey s_ else some false).bind fun t19 =>
  some ((((!decide (s_ = ([] : List UInt8))) && (decide ((s_.length : Int) ≤ (24 : Int)))) && (decide (t12 = (s_.length : Int)))) && (!t19))
/-! ### onceweb/fail.fits -/
noncomputable def fail_fits (kind : Int) (text : (List UInt8)) : Option Bool :=
  if (decide (kind = (1 : Int))) = true then
  (if (decide (kind = (1 : Int))) = true then
  some true
  else
  if (decide (kind = (3 : Int))) = true then
  ((slices_Contains gl_onceweb_fail_values text).bind fun t14 =>
  some t14)
  else
  if (decide (kind = (4 : Int))) = true then
  (if (decide (kind = (4 : Int))) = true then
  ((lex_IsName text).bind fun t20 =>
  some t20)
  else
  some (decide (text = ([] : List UInt8))))
  else
  if (decide (kind = (5 : Int))) = true then
  (if (decide (kind = (5 : Int))) = true then
  ((lex_IsName text).bind fun t20 =>
  some t20)
  else
  some (decide (text = ([] : List UInt8))))
  else
  if (decide (kind = (9 : Int))) = true then
  ((lex_IsName text).bind fun t20 =>
  some t20)
  else
  some (decide (text = ([] : List UInt8))))
  else
  if (decide (kind = (2 : Int))) = true then
  (if (decide (kind = (2 : Int))) = true then
  some true
  else
  if (decide (kind = (3 : Int))) = true then
  ((slices_Contains gl_onceweb_fail_values text).bind fun t14 =>
  some t14)
  else
  if (decide (kind = (4 : Int))) = true then
  (if (decide (kind = (4 : Int))) = true then
  ((lex_IsName text).bind fun t20 =>
  some t20)
  else
  some (decide (text = ([] : List UInt8))))
  else
  if (decide (kind = (5 : Int))) = true then
  (if (decide (kind = (5 : Int))) = true then
  ((lex_IsName text).bind fun t20 =>
  some t20)
  else
  some (decide (text = ([] : List UInt8))))
  else
  if (decide (kind = (9 : Int))) = true then
  ((lex_IsName text).bind fun t20 =>
  some t20)
  else
  some (decide (text = ([] : List UInt8))))
  else
  if (decide (kind = (8 : Int))) = true then
  some true
  else
  if (decide (kind = (3 : Int))) = true then
  ((slices_Contains gl_onceweb_fail_values text).bind fun t14 =>
  some t14)
  else
  if (decide (kind = (4 : Int))) = true then
  (if (decide (kind = (4 : Int))) = true then
  ((lex_IsName text).bind fun t20 =>
  some t20)
  else
  some (decide (text = ([] : List UInt8))))
  else
  if (decide (kind = (5 : Int))) = true then
  (if (decide (kind = (5 : Int))) = true then
  ((lex_IsName text).bind fun t20 =>
  some t20)
  else
  some (decide (text = ([] : List UInt8))))
  else
  if (decide (kind = (9 : Int))) = true then
  ((lex_IsName text).bind fun t20 =>
  some t20)
  else
  some (decide (text = ([] : List UInt8)))
/-! ### onceweb/fail.well -/
inductive L_fail_well where
  | l11 (c : Int) (c' : Int) (c'' : (List UInt8)) (ok : Bool)
noncomputable def sg_fail_well_11 (c : Int) (c' : Int) (c'' : (List UInt8)) (ok : Bool) : Option (L_fail_well ⊕ Bool) :=
  (if (ok && (decide ((c''.length : Int) ≤ (4096 : Int)))) = true then fail_fits c c'' else some false).bind fun t44 =>
  some (.inr ((ok && (decide ((c''.length : Int) ≤ (4096 : Int)))) && t44))
noncomputable def st_fail_well : L_fail_well → Option (L_fail_well ⊕ Bool)
  | .l11 c c' c'' ok => sg_fail_well_11 c c' c'' ok
noncomputable def en_fail_well (c : tCrack) : Option (L_fail_well ⊕ Bool) :=
  (fail_sort c.1).bind fun t6 =>
  if (decide (t6 = (1 : Int))) = true then
  some (.inl (.l11 c.1 c.2.1 c.2.2.1 (decide (c.2.1 = (0 : Int)))))
  else
  if (decide (t6 = (2 : Int))) = true then
  some (.inl (.l11 c.1 c.2.1 c.2.2.1 ((decide (c.2.1 = (0 : Int))) || (decide (c.2.1 = (1 : Int))))))
  else
  if (decide (t6 = (3 : Int))) = true then
  some (.inl (.l11 c.1 c.2.1 c.2.2.1 (decide (c.2.1 = (1 : Int)))))
  else
  if (decide (t6 = (4 : Int))) = true then
  some (.inl (.l11 c.1 c.2.1 c.2.2.1 (decide ((1 : Int) ≤ c.2.1))))
  else
  some (.inl (.l11 c.1 c.2.1 c.2.2.1 false))
noncomputable def fail_well (c : tCrack) : Option Bool := runL st_fail_well (en_fail_well c)
/-! ### onceweb/fail.begins -/
inductive L_fail_begins where
  | l3 (from_ : (List Int)) (stack : (List Int)) (x12 : (List tCrack)) (x13 : Int) (x14 : Int)
  | l10 (from_ : (List Int)) (stack : (List Int)) (i : Int) (c : Int) (c' : Int) (c'' : (List UInt8)) (x12 : (List tCrack)) (x13 : Int) (x14 : Int)
noncomputable def sg_fail_begins_3 (from_ : (List Int)) (stack : (List Int)) (x12 : (List tCrack)) (x13 : Int) (x14 : Int) : Option (L_fail_begins ⊕ ((List Int) × Bool)) :=
  if (decide (x14 < x13)) = true then
  (G (0 ≤ x14 ∧ x14 < (x12.length : Int)) <|
  (fail_well ((x12.getD x14.toNat dCrack).1, (x12.getD x14.toNat dCrack).2.1, (x12.getD x14.toNat dCrack).2.2.1, ())).bind fun t20 =>
  if ((!t20) || (decide ((stack.length : Int) < (x12.getD x14.toNat dCrack).2.1))) = true then
  some (.inr (([] : List Int), false))
  else
  G (0 ≤ x14 ∧ x14 < (from_.length : Int)) <|
  if (decide ((0 : Int) < (x12.getD x14.toNat dCrack).2.1)) = true then
  (G (0 ≤ (w64 ((stack.length : Int) - (x12.getD x14.toNat dCrack).2.1)) ∧ (w64 ((stack.length : Int) - (x12.getD x14.toNat dCrack).2.1)) < (stack.length : Int)) <|
  G (0 ≤ x14 ∧ x14 < (((from_.set x14.toNat x14).length : Nat) : Int)) <|
  some (.inl (.l10 ((from_.set x14.toNat x14).set x14.toNat (stack.getD ((w64 ((stack.length : Int) - (x12.getD x14.toNat dCrack).2.1)).toNat) (0 : Int))) stack x14 ((x12.getD x14.toNat dCrack).1) ((x12.getD x14.toNat dCrack).2.1) ((x12.getD x14.toNat dCrack).2.2.1) x12 x13 x14)))
  else
  some (.inl (.l10 (from_.set x14.toNat x14) stack x14 ((x12.getD x14.toNat dCrack).1) ((x12.getD x14.toNat dCrack).2.1) ((x12.getD x14.toNat dCrack).2.2.1) x12 x13 x14)))
  else
  some (.inr (from_, (decide ((stack.length : Int) = (1 : Int)))))
noncomputable def sg_fail_begins_10 (from_ : (List Int)) (stack : (List Int)) (i : Int) (c : Int) (c' : Int) (c'' : (List UInt8)) (x12 : (List tCrack)) (x13 : Int) (x14 : Int) : Option (L_fail_begins ⊕ ((List Int) × Bool)) :=
  G (0 ≤ (w64 ((stack.length : Int) - c')) ∧ (w64 ((stack.length : Int) - c')) ≤ (stack.length : Int)) <|
  G (0 ≤ i ∧ i < (from_.length : Int)) <|
  G (((w64 ((stack.length : Int) - c')).toNat + ([(from_.getD i.toNat (0 : Int))] : List Int).length) * 8 ≤ 140737488355328) <|
  some (.inl (.l3 from_ ((stack.take ((w64 ((stack.length : Int) - c')).toNat)) ++ ([(from_.getD i.toNat (0 : Int))] : List Int)) x12 x13 (w64 (x14 + (1 : Int)))))
noncomputable def st_fail_begins : L_fail_begins → Option (L_fail_begins ⊕ ((List Int) × Bool))
  | .l3 from_ stack x12 x13 x14 => sg_fail_begins_3 from_ stack x12 x13 x14
  | .l10 from_ stack i c c' c'' x12 x13 x14 => sg_fail_begins_10 from_ stack i c c' c'' x12 x13 x14
noncomputable def en_fail_begins (f : (List tCrack)) : Option (L_fail_begins ⊕ ((List Int) × Bool)) :=
  G (0 ≤ (f.length : Int) ∧ (f.length : Int) ≤ (f.length : Int) ∧ (8 : Int) * (f.length : Int) ≤ 281474976710656) <|
  some (.inl (.l3 (List.replicate (f.length : Int).toNat (0 : Int)) ([] : List Int) f (f.length : Int) (0 : Int)))
noncomputable def fail_begins (f : (List tCrack)) : Option ((List Int) × Bool) := runL st_fail_begins (en_fail_begins f)
/-! ### onceweb/fail.Check -/
noncomputable def fail_Check (f : (List tCrack)) : Option Int :=
  if (decide ((1024 : Int) < (f.length : Int))) = true then
  some (3 : Int)
  else
  (fail_begins f).bind fun t10 =>
  if (!t10.2) = true then
  some (5 : Int)
  else
  some (0 : Int)
/-! ### onceweb/fail.Deep -/
inductive L_fail_Deep where
  | l6 (stack : (List Int)) (x18 : (List tCrack)) (x19 : Int) (x20 : Int)
  | l10 (stack : (List Int)) (k : Int) (n : Int) (x18 : (List tCrack)) (x19 : Int) (x20 : Int) (x31 : Nat) (x31' : Nat) (x32 : Int) (x33 : Int)
noncomputable def sg_fail_Deep_6 (stack : (List Int)) (x18 : (List tCrack)) (x19 : Int) (x20 : Int) : Option (L_fail_Deep ⊕ (Int × Int)) :=
  if (decide (x20 < x19)) = true then
  (G (0 ≤ x20 ∧ x20 < (x18.length : Int)) <|
  G (0 ≤ (w64 ((stack.length : Int) - (x18.getD x20.toNat dCrack).2.1)) ∧ (w64 ((stack.length : Int) - (x18.getD x20.toNat dCrack).2.1)) ≤ (stack.length : Int)) <|
  some (.inl (.l10 stack (w64 ((stack.length : Int) - (x18.getD x20.toNat dCrack).2.1)) (0 : Int) x18 x19 x20 ((w64 ((stack.length : Int) - (x18.getD x20.toNat dCrack).2.1)).toNat) (stack.length - (w64 ((stack.length : Int) - (x18.getD x20.toNat dCrack).2.1)).toNat) (((stack.length - (w64 ((stack.length : Int) - (x18.getD x20.toNat dCrack).2.1)).toNat) : Nat) : Int) (0 : Int))))
  else
  G (0 ≤ (0 : Int) ∧ (0 : Int) < (stack.length : Int)) <|
  some (.inr ((stack.getD ((0 : Int).toNat) (0 : Int)), (0 : Int)))
noncomputable def sg_fail_Deep_10 (stack : (List Int)) (k : Int) (n : Int) (x18 : (List tCrack)) (x19 : Int) (x20 : Int) (x31 : Nat) (x31' : Nat) (x32 : Int) (x33 : Int) : Option (L_fail_Deep ⊕ (Int × Int)) :=
  if (decide (x33 < x32)) = true then
  (G (0 ≤ x33 ∧ x33 < (x31' : Int)) <|
  some (.inl (.l10 stack k (mxI n (stack.getD (x31 + x33.toNat) (0 : Int))) x18 x19 x20 x31 x31' x32 (w64 (x33 + (1 : Int))))))
  else
  G (0 ≤ k ∧ k ≤ (stack.length : Int)) <|
  G ((k.toNat + ([(w64 (n + (1 : Int)))] : List Int).length) * 8 ≤ 140737488355328) <|
  some (.inl (.l6 ((stack.take k.toNat) ++ ([(w64 (n + (1 : Int)))] : List Int)) x18 x19 (w64 (x20 + (1 : Int)))))
noncomputable def st_fail_Deep : L_fail_Deep → Option (L_fail_Deep ⊕ (Int × Int))
  | .l6 stack x18 x19 x20 => sg_fail_Deep_6 stack x18 x19 x20
  | .l10 stack k n x18 x19 x20 x31 x31' x32 x33 => sg_fail_Deep_10 stack k n x18 x19 x20 x31 x31' x32 x33
noncomputable def en_fail_Deep (f : (List tCrack)) : Option (L_fail_Deep ⊕ (Int × Int)) :=
  (fail_Check f).bind fun t13 =>
  if (!decide (t13 = (0 : Int))) = true then
  some (.inr ((0 : Int), t13))
  else
  some (.inl (.l6 ([] : List Int) f (f.length : Int) (0 : Int)))
noncomputable def fail_Deep (f : (List tCrack)) : Option (Int × Int) := runL st_fail_Deep (en_fail_Deep f)
/-! ### onceweb/oncewebbase.In -/
inductive L_base_In where
  | l2 (l : (List (List UInt8))) (s_ : (List UInt8)) (i : Int)
noncomputable def sg_base_In_2 (l : (List (List UInt8))) (s_ : (List UInt8)) (i : Int) : Option (L_base_In ⊕ Bool) :=
  if (decide (i < (l.length : Int))) = true then
  (G (0 ≤ i ∧ i < (l.length : Int)) <|
  if (decide ((l.getD i.toNat ([] : List UInt8)) = s_)) = true then
  some (.inr true)
  else
  some (.inl (.l2 l s_ (w64 (i + (1 : Int))))))
  else
  some (.inr false)
noncomputable def st_base_In : L_base_In → Option (L_base_In ⊕ Bool)
  | .l2 l s_ i => sg_base_In_2 l s_ i
noncomputable def en_base_In (l : (List (List UInt8))) (s_ : (List UInt8)) : Option (L_base_In ⊕ Bool) :=
  some (.inl (.l2 l s_ (0 : Int)))
noncomputable def base_In (l : (List (List UInt8))) (s_ : (List UInt8)) : Option Bool := runL st_base_In (en_base_In l s_)
/-! ### onceweb/oncewebbase.Word -/
inductive L_base_Word where
  | l4 (s_ : (List UInt8)) (i : Int)
noncomputable def sg_base_Word_4 (s_ : (List UInt8)) (i : Int) : Option (L_base_Word ⊕ Bool) :=
  if (decide (i < (s_.length : Int))) = true then
  (G (0 ≤ i ∧ i < (s_.length : Int)) <|
  if (!((((decide (97 ≤ ((s_.getD i.toNat 0).toNat : Int))) && (decide (((s_.getD i.toNat 0).toNat : Int) ≤ 122))) || ((decide (48 ≤ ((s_.getD i.toNat 0).toNat : Int))) && (decide (((s_.getD i.toNat 0).toNat : Int) ≤ 57)))) || (decide (((s_.getD i.toNat 0).toNat : Int) = 95)))) = true then
  some (.inr false)
  else
  some (.inl (.l4 s_ (w64 (i + (1 : Int))))))
  else
  some (.inr true)
noncomputable def st_base_Word : L_base_Word → Option (L_base_Word ⊕ Bool)
  | .l4 s_ i => sg_base_Word_4 s_ i
noncomputable def en_base_Word (s_ : (List UInt8)) : Option (L_base_Word ⊕ Bool) :=
  G ((!(decide (s_ = ([] : List UInt8)))) = true → (0 ≤ (0 : Int) ∧ (0 : Int) < (s_.length : Int))) <|
  G ((!((decide (s_ = ([] : List UInt8))) || (decide (((s_.getD (0 : Int).toNat 0).toNat : Int) < 97)))) = true → (0 ≤ (0 : Int) ∧ (0 : Int) < (s_.length : Int))) <|
  if (((decide (s_ = ([] : List UInt8))) || (decide (((s_.getD (0 : Int).toNat 0).toNat : Int) < 97))) || (decide (122 < ((s_.getD (0 : Int).toNat 0).toNat : Int)))) = true then
  some (.inr false)
  else
  some (.inl (.l4 s_ (1 : Int)))
noncomputable def base_Word (s_ : (List UInt8)) : Option Bool := runL st_base_Word (en_base_Word s_)
/-! ### onceweb/oncewebbase.Keys -/
noncomputable def base_Keys  : Option (List (List UInt8)) :=
  some ([([99, 101, 108, 108] : List UInt8), ([97, 103, 97, 105, 110] : List UInt8), ([116, 114, 105, 101, 115] : List UInt8), ([98, 97, 115, 101] : List UInt8), ([102, 97, 99, 116, 111, 114] : List UInt8), ([99, 97, 112] : List UInt8), ([99, 108, 111, 115, 101] : List UInt8), ([102, 105, 110, 101] : List UInt8), ([102, 97, 105, 108] : List UInt8), ([112, 97, 110, 105, 99] : List UInt8), ([105, 102] : List UInt8), ([116, 104, 101, 110] : List UInt8), ([101, 108, 115, 101] : List UInt8), ([116, 114, 121] : List UInt8), ([119, 97, 105, 116] : List UInt8), ([108, 101, 116] : List UInt8), ([105, 110] : List UInt8), ([105, 116, 101, 109] : List UInt8), ([115, 105, 122, 101] : List UInt8)] : List (List UInt8))
/-! ### onceweb/oncewebbase.Name -/
noncomputable def base_Name (s_ : (List UInt8)) : Option Bool :=
  (if (decide ((s_.length : Int) ≤ (24 : Int))) = true then base_Word s_ else some false).bind fun t8 =>
  (if ((decide ((s_.length : Int) ≤ (24 : Int))) && t8) = true then base_Keys else some ([] : List (List UInt8))).bind fun t11 =>
  (if ((decide ((s_.length : Int) ≤ (24 : Int))) && t8) = true then base_In t11 s_ else some false).bind fun t13 =>
  some (((decide ((s_.length : Int) ≤ (24 : Int))) && t8) && (!t13))
/-! ### onceweb/oncewebref03.words -/
noncomputable def ref03_words  : Option (List (List UInt8)) :=
  some ([([108, 105, 115, 116] : List UInt8), ([97, 100, 100] : List UInt8), ([115, 117, 98] : List UInt8), ([109, 117, 108] : List UInt8), ([106, 111, 105, 110] : List UInt8), ([105, 116, 101, 109] : List UInt8), ([115, 105, 122, 101] : List UInt8), ([105, 102] : List UInt8), ([102, 97, 105, 108] : List UInt8), ([112, 97, 110, 105, 99] : List UInt8)] : List (List UInt8))
/-! ### onceweb/oncewebref03.crack -/
noncomputable def ref03_crack (c : tCrack) : Option Bool :=
  if (decide (c.1 = (1 : Int))) = true then
  (if (decide (c.1 = (1 : Int))) = true then
  some ((decide (c.2.1 = (0 : Int))) && (decide ((c.2.2.1.length : Int) ≤ (4096 : Int))))
  else
  if (decide (c.1 = (8 : Int))) = true then
  some (((decide (c.2.1 = (0 : Int))) || (decide (c.2.1 = (1 : Int)))) && (decide ((c.2.2.1.length : Int) ≤ (4096 : Int))))
  else
  if (decide (c.1 = (3 : Int))) = true then
  ((if (decide (c.2.1 = (0 : Int))) = true then ref03_words else some ([] : List (List UInt8))).bind fun t39 =>
  (if (decide (c.2.1 = (0 : Int))) = true then base_In t39 c.2.2.1 else some false).bind fun t42 =>
  some ((decide (c.2.1 = (0 : Int))) && t42))
  else
  if (decide (c.1 = (4 : Int))) = true then
  (if (decide (c.1 = (4 : Int))) = true then
  ((if (decide (c.2.1 = (0 : Int))) = true then base_Name c.2.2.1 else some false).bind fun t53 =>
  some ((decide (c.2.1 = (0 : Int))) && t53))
  else
  if (decide (c.1 = (6 : Int))) = true then
  (if (decide (c.1 = (6 : Int))) = true then
  some ((decide (c.2.1 = (0 : Int))) && (decide (c.2.2.1 = ([] : List UInt8))))
  else
  if (decide (c.1 = (9 : Int))) = true then
  ((if (decide (c.2.1 = (1 : Int))) = true then base_Name c.2.2.1 else some false).bind fun t75 =>
  some ((decide (c.2.1 = (1 : Int))) && t75))
  else
  if (decide (c.1 = (10 : Int))) = true then
  some ((decide ((1 : Int) ≤ c.2.1)) && (decide (c.2.2.1 = ([] : List UInt8))))
  else
  some false)
  else
  if (decide (c.1 = (7 : Int))) = true then
  (if (decide (c.1 = (7 : Int))) = true then
  some ((decide (c.2.1 = (0 : Int))) && (decide (c.2.2.1 = ([] : List UInt8))))
  else
  if (decide (c.1 = (9 : Int))) = true then
  ((if (decide (c.2.1 = (1 : Int))) = true then base_Name c.2.2.1 else some false).bind fun t75 =>
  some ((decide (c.2.1 = (1 : Int))) && t75))
  else
  if (decide (c.1 = (10 : Int))) = true then
  some ((decide ((1 : Int) ≤ c.2.1)) && (decide (c.2.2.1 = ([] : List UInt8))))
  else
  some false)
  else
  if (decide (c.1 = (11 : Int))) = true then
  some ((decide (c.2.1 = (0 : Int))) && (decide (c.2.2.1 = ([] : List UInt8))))
  else
  if (decide (c.1 = (9 : Int))) = true then
  ((if (decide (c.2.1 = (1 : Int))) = true then base_Name c.2.2.1 else some false).bind fun t75 =>
  some ((decide (c.2.1 = (1 : Int))) && t75))
  else
  if (decide (c.1 = (10 : Int))) = true then
  some ((decide ((1 : Int) ≤ c.2.1)) && (decide (c.2.2.1 = ([] : List UInt8))))
  else
  some false)
  else
  if (decide (c.1 = (5 : Int))) = true then
  ((if (decide (c.2.1 = (0 : Int))) = true then base_Name c.2.2.1 else some false).bind fun t53 =>
  some ((decide (c.2.1 = (0 : Int))) && t53))
  else
  if (decide (c.1 = (6 : Int))) = true then
  (if (decide (c.1 = (6 : Int))) = true then
  some ((decide (c.2.1 = (0 : Int))) && (decide (c.2.2.1 = ([] : List UInt8))))
  else
  if (decide (c.1 = (9 : Int))) = true then
  ((if (decide (c.2.1 = (1 : Int))) = true then base_Name c.2.2.1 else some false).bind fun t75 =>
  some ((decide (c.2.1 = (1 : Int))) && t75))
  else
  if (decide (c.1 = (10 : Int))) = true then
  some ((decide ((1 : Int) ≤ c.2.1)) && (decide (c.2.2.1 = ([] : List UInt8))))
  else
  some false)
  else
  if (decide (c.1 = (7 : Int))) = true then
  (if (decide (c.1 = (7 : Int))) = true then
  some ((decide (c.2.1 = (0 : Int))) && (decide (c.2.2.1 = ([] : List UInt8))))
  else
  if (decide (c.1 = (9 : Int))) = true then
  ((if (decide (c.2.1 = (1 : Int))) = true then base_Name c.2.2.1 else some false).bind fun t75 =>
  some ((decide (c.2.1 = (1 : Int))) && t75))
  else
  if (decide (c.1 = (10 : Int))) = true then
  some ((decide ((1 : Int) ≤ c.2.1)) && (decide (c.2.2.1 = ([] : List UInt8))))
  else
  some false)
  else
  if (decide (c.1 = (11 : Int))) = true then
  some ((decide (c.2.1 = (0 : Int))) && (decide (c.2.2.1 = ([] : List UInt8))))
  else
  if (decide (c.1 = (9 : Int))) = true then
  ((if (decide (c.2.1 = (1 : Int))) = true then base_Name c.2.2.1 else some false).bind fun t75 =>
  some ((decide (c.2.1 = (1 : Int))) && t75))
  else
  if (decide (c.1 = (10 : Int))) = true then
  some ((decide ((1 : Int) ≤ c.2.1)) && (decide (c.2.2.1 = ([] : List UInt8))))
  else
  some false)
  else
  if (decide (c.1 = (2 : Int))) = true then
  some ((decide (c.2.1 = (0 : Int))) && (decide ((c.2.2.1.length : Int) ≤ (4096 : Int))))
  else
  if (decide (c.1 = (8 : Int))) = true then
  some (((decide (c.2.1 = (0 : Int))) || (decide (c.2.1 = (1 : Int)))) && (decide ((c.2.2.1.length : Int) ≤ (4096 : Int))))
  else
  if (decide (c.1 = (3 : Int))) = true then
  ((if (decide (c.2.1 = (0 : Int))) = true then ref03_words else some ([] : List (List UInt8))).bind fun t39 =>
  (if (decide (c.2.1 = (0 : Int))) = true then base_In t39 c.2.2.1 else some false).bind fun t42 =>
  some ((decide (c.2.1 = (0 : Int))) && t42))
  else
  if (decide (c.1 = (4 : Int))) = true then
  (if (decide (c.1 = (4 : Int))) = true then
  ((if (decide (c.2.1 = (0 : Int))) = true then base_Name c.2.2.1 else some false).bind fun t53 =>
  some ((decide (c.2.1 = (0 : Int))) && t53))
  else
  if (decide (c.1 = (6 : Int))) = true then
  (if (decide (c.1 = (6 : Int))) = true then
  some ((decide (c.2.1 = (0 : Int))) && (decide (c.2.2.1 = ([] : List UInt8))))
  else
  if (decide (c.1 = (9 : Int))) = true then
  ((if (decide (c.2.1 = (1 : Int))) = true then base_Name c.2.2.1 else some false).bind fun t75 =>
  some ((decide (c.2.1 = (1 : Int))) && t75))
  else
  if (decide (c.1 = (10 : Int))) = true then
  some ((decide ((1 : Int) ≤ c.2.1)) && (decide (c.2.2.1 = ([] : List UInt8))))
  else
  some false)
  else
  if (decide (c.1 = (7 : Int))) = true then
  (if (decide (c.1 = (7 : Int))) = true then
  some ((decide (c.2.1 = (0 : Int))) && (decide (c.2.2.1 = ([] : List UInt8))))
  else
  if (decide (c.1 = (9 : Int))) = true then
  ((if (decide (c.2.1 = (1 : Int))) = true then base_Name c.2.2.1 else some false).bind fun t75 =>
  some ((decide (c.2.1 = (1 : Int))) && t75))
  else
  if (decide (c.1 = (10 : Int))) = true then
  some ((decide ((1 : Int) ≤ c.2.1)) && (decide (c.2.2.1 = ([] : List UInt8))))
  else
  some false)
  else
  if (decide (c.1 = (11 : Int))) = true then
  some ((decide (c.2.1 = (0 : Int))) && (decide (c.2.2.1 = ([] : List UInt8))))
  else
  if (decide (c.1 = (9 : Int))) = true then
  ((if (decide (c.2.1 = (1 : Int))) = true then base_Name c.2.2.1 else some false).bind fun t75 =>
  some ((decide (c.2.1 = (1 : Int))) && t75))
  else
  if (decide (c.1 = (10 : Int))) = true then
  some ((decide ((1 : Int) ≤ c.2.1)) && (decide (c.2.2.1 = ([] : List UInt8))))
  else
  some false)
  else
  if (decide (c.1 = (5 : Int))) = true then
  ((if (decide (c.2.1 = (0 : Int))) = true then base_Name c.2.2.1 else some false).bind fun t53 =>
  some ((decide (c.2.1 = (0 : Int))) && t53))
  else
  if (decide (c.1 = (6 : Int))) = true then
  (if (decide (c.1 = (6 : Int))) = true then
  some ((decide (c.2.1 = (0 : Int))) && (decide (c.2.2.1 = ([] : List UInt8))))
  else
  if (decide (c.1 = (9 : Int))) = true then
  ((if (decide (c.2.1 = (1 : Int))) = true then base_Name c.2.2.1 else some false).bind fun t75 =>
  some ((decide (c.2.1 = (1 : Int))) && t75))
  else
  if (decide (c.1 = (10 : Int))) = true then
  some ((decide ((1 : Int) ≤ c.2.1)) && (decide (c.2.2.1 = ([] : List UInt8))))
  else
  some false)
  else
  if (decide (c.1 = (7 : Int))) = true then
  (if (decide (c.1 = (7 : Int))) = true then
  some ((decide (c.2.1 = (0 : Int))) && (decide (c.2.2.1 = ([] : List UInt8))))
  else
  if (decide (c.1 = (9 : Int))) = true then
  ((if (decide (c.2.1 = (1 : Int))) = true then base_Name c.2.2.1 else some false).bind fun t75 =>
  some ((decide (c.2.1 = (1 : Int))) && t75))
  else
  if (decide (c.1 = (10 : Int))) = true then
  some ((decide ((1 : Int) ≤ c.2.1)) && (decide (c.2.2.1 = ([] : List UInt8))))
  else
  some false)
  else
  if (decide (c.1 = (11 : Int))) = true then
  some ((decide (c.2.1 = (0 : Int))) && (decide (c.2.2.1 = ([] : List UInt8))))
  else
  if (decide (c.1 = (9 : Int))) = true then
  ((if (decide (c.2.1 = (1 : Int))) = true then base_Name c.2.2.1 else some false).bind fun t75 =>
  some ((decide (c.2.1 = (1 : Int))) && t75))
  else
  if (decide (c.1 = (10 : Int))) = true then
  some ((decide ((1 : Int) ≤ c.2.1)) && (decide (c.2.2.1 = ([] : List UInt8))))
  else
  some false
/-! ### onceweb/oncewebref03.begins -/
inductive L_ref03_begins where
  | l4 (f : (List tCrack)) (from_ : (List Int)) (stack : (List Int)) (i : Int)
  | l13 (f : (List tCrack)) (from_ : (List Int)) (stack : (List Int)) (i : Int) (b : Int)
noncomputable def sg_ref03_begins_4 (f : (List tCrack)) (from_ : (List Int)) (stack : (List Int)) (i : Int) : Option (L_ref03_begins ⊕ ((List Int) × Bool)) :=
  if (decide (i < (f.length : Int))) = true then
  (G (0 ≤ i ∧ i < (f.length : Int)) <|
  (ref03_crack ((f.getD i.toNat dCrack).1, (f.getD i.toNat dCrack).2.1, (f.getD i.toNat dCrack).2.2.1, ())).bind fun t22 =>
  if ((!t22) || (decide ((stack.length : Int) < (f.getD i.toNat dCrack).2.1))) = true then
  some (.inr (([] : List Int), false))
  else
  if (decide ((0 : Int) < (f.getD i.toNat dCrack).2.1)) = true then
  (G (0 ≤ (w64 ((stack.length : Int) - (f.getD i.toNat dCrack).2.1)) ∧ (w64 ((stack.length : Int) - (f.getD i.toNat dCrack).2.1)) < (stack.length : Int)) <|
  G (0 ≤ (w64 ((stack.length : Int) - (f.getD i.toNat dCrack).2.1)) ∧ (w64 ((stack.length : Int) - (f.getD i.toNat dCrack).2.1)) ≤ (stack.length : Int)) <|
  some (.inl (.l13 f from_ (stack.take ((w64 ((stack.length : Int) - (f.getD i.toNat dCrack).2.1)).toNat)) i (stack.getD ((w64 ((stack.length : Int) - (f.getD i.toNat dCrack).2.1)).toNat) (0 : Int)))))
  else
  some (.inl (.l13 f from_ stack i i)))
  else
  some (.inr (from_, (decide ((stack.length : Int) = (1 : Int)))))
noncomputable def sg_ref03_begins_13 (f : (List tCrack)) (from_ : (List Int)) (stack : (List Int)) (i : Int) (b : Int) : Option (L_ref03_begins ⊕ ((List Int) × Bool)) :=
  G ((stack.length + ([b] : List Int).length) * 8 ≤ 140737488355328) <|
  G ((from_.length + ([b] : List Int).length) * 8 ≤ 140737488355328) <|
  some (.inl (.l4 f (from_ ++ ([b] : List Int)) (stack ++ ([b] : List Int)) (w64 (i + (1 : Int)))))
noncomputable def st_ref03_begins : L_ref03_begins → Option (L_ref03_begins ⊕ ((List Int) × Bool))
  | .l4 f from_ stack i => sg_ref03_begins_4 f from_ stack i
  | .l13 f from_ stack i b => sg_ref03_begins_13 f from_ stack i b
noncomputable def en_ref03_begins (f : (List tCrack)) : Option (L_ref03_begins ⊕ ((List Int) × Bool)) :=
  some (.inl (.l4 f ([] : List Int) ([] : List Int) (0 : Int)))
noncomputable def ref03_begins (f : (List tCrack)) : Option ((List Int) × Bool) := runL st_ref03_begins (en_ref03_begins f)
/-! ### onceweb/oncewebref03.Check -/
noncomputable def ref03_Check (f : (List tCrack)) : Option Int :=
  if (decide ((1024 : Int) < (f.length : Int))) = true then
  some (3 : Int)
  else
  (ref03_begins f).bind fun t10 =>
  if (!t10.2) = true then
  some (5 : Int)
  else
  some (0 : Int)
/-! ### onceweb/oncewebref03.Deep -/
inductive L_ref03_Deep where
  | l6 (f : (List tCrack)) (stack : (List Int)) (i : Int)
  | l10 (f : (List tCrack)) (stack : (List Int)) (i : Int) (d : Int) (k : Int)
noncomputable def sg_ref03_Deep_6 (f : (List tCrack)) (stack : (List Int)) (i : Int) : Option (L_ref03_Deep ⊕ (Int × Int)) :=
  if (decide (i < (f.length : Int))) = true then
  some (.inl (.l10 f stack i (0 : Int) (0 : Int)))
  else
  G (0 ≤ (0 : Int) ∧ (0 : Int) < (stack.length : Int)) <|
  some (.inr ((stack.getD ((0 : Int).toNat) (0 : Int)), (0 : Int)))
noncomputable def sg_ref03_Deep_10 (f : (List tCrack)) (stack : (List Int)) (i : Int) (d : Int) (k : Int) : Option (L_ref03_Deep ⊕ (Int × Int)) :=
  G (0 ≤ i ∧ i < (f.length : Int)) <|
  if (decide (k < (f.getD i.toNat dCrack).2.1)) = true then
  (G (0 ≤ (w64 ((stack.length : Int) - (1 : Int))) ∧ (w64 ((stack.length : Int) - (1 : Int))) < (stack.length : Int)) <|
  G (0 ≤ (w64 ((stack.length : Int) - (1 : Int))) ∧ (w64 ((stack.length : Int) - (1 : Int))) ≤ (stack.length : Int)) <|
  some (.inl (.l10 f (stack.take ((w64 ((stack.length : Int) - (1 : Int))).toNat)) i (mxI d (stack.getD ((w64 ((stack.length : Int) - (1 : Int))).toNat) (0 : Int))) (w64 (k + (1 : Int))))))
  else
  G ((stack.length + ([(w64 (d + (1 : Int)))] : List Int).length) * 8 ≤ 140737488355328) <|
  some (.inl (.l6 f (stack ++ ([(w64 (d + (1 : Int)))] : List Int)) (w64 (i + (1 : Int)))))
noncomputable def st_ref03_Deep : L_ref03_Deep → Option (L_ref03_Deep ⊕ (Int × Int))
  | .l6 f stack i => sg_ref03_Deep_6 f stack i
  | .l10 f stack i d k => sg_ref03_Deep_10 f stack i d k
noncomputable def en_ref03_Deep (f : (List tCrack)) : Option (L_ref03_Deep ⊕ (Int × Int)) :=
  (ref03_Check f).bind fun t10 =>
  if (!decide (t10 = (0 : Int))) = true then
  some (.inr ((0 : Int), t10))
  else
  some (.inl (.l6 f ([] : List Int) (0 : Int)))
noncomputable def ref03_Deep (f : (List tCrack)) : Option (Int × Int) := runL st_ref03_Deep (en_ref03_Deep f)
/-! ### onceweb/fail.Leaf -/
noncomputable def fail_Leaf (kind : Int) (text : (List UInt8)) : Option ((List tCrack) × Int) :=
  (fail_sort kind).bind fun t8 =>
  if ((!decide (t8 = (1 : Int))) && (!decide (t8 = (2 : Int)))) = true then
  some (([] : List tCrack), (1 : Int))
  else
  if (decide ((4096 : Int) < (text.length : Int))) = true then
  some (([] : List tCrack), (3 : Int))
  else
  (fail_fits kind text).bind fun t23 =>
  if (!t23) = true then
  some (([] : List tCrack), (2 : Int))
  else
  some (([(kind, (0 : Int), text, ())] : List tCrack), (0 : Int))
/-! ### onceweb/oncewebref03.Leaf -/
noncomputable def ref03_Leaf (kind : Int) (text : (List UInt8)) : Option ((List tCrack) × Int) :=
  if ((((decide (kind < (1 : Int))) || (decide ((11 : Int) < kind))) || (decide (kind = (9 : Int)))) || (decide (kind = (10 : Int)))) = true then
  some (([] : List tCrack), (1 : Int))
  else
  if (decide ((4096 : Int) < (text.length : Int))) = true then
  some (([] : List tCrack), (3 : Int))
  else
  (ref03_crack ((kind, (0 : Int), text, ()).1, (kind, (0 : Int), text, ()).2.1, (kind, (0 : Int), text, ()).2.2.1, ())).bind fun t28 =>
  if (!t28) = true then
  some (([] : List tCrack), (2 : Int))
  else
  some (([((kind, (0 : Int), text, ()).1, (kind, (0 : Int), text, ()).2.1, (kind, (0 : Int), text, ()).2.2.1, ())] : List tCrack), (0 : Int))
/-! ### onceweb/oncewebbase.SameFail -/
inductive L_base_SameFail where
  | l4 (a : (List tCrack)) (b : (List tCrack)) (i : Int)
noncomputable def sg_base_SameFail_4 (a : (List tCrack)) (b : (List tCrack)) (i : Int) : Option (L_base_SameFail ⊕ Bool) :=
  if (decide (i < (a.length : Int))) = true then
  (G (0 ≤ i ∧ i < (a.length : Int)) <|
  G (0 ≤ i ∧ i < (b.length : Int)) <|
  if (!(eqR tyCrack (a.getD i.toNat dCrack) (b.getD i.toNat dCrack))) = true then
  some (.inr false)
  else
  some (.inl (.l4 a b (w64 (i + (1 : Int))))))
  else
  some (.inr true)
noncomputable def st_base_SameFail : L_base_SameFail → Option (L_base_SameFail ⊕ Bool)
  | .l4 a b i => sg_base_SameFail_4 a b i
noncomputable def en_base_SameFail (a : (List tCrack)) (b : (List tCrack)) : Option (L_base_SameFail ⊕ Bool) :=
  if (!decide ((a.length : Int) = (b.length : Int))) = true then
  some (.inr false)
  else
  some (.inl (.l4 a b (0 : Int)))
noncomputable def base_SameFail (a : (List tCrack)) (b : (List tCrack)) : Option Bool := runL st_base_SameFail (en_base_SameFail a b)
/-! ### onceweb/onceweblaw03.FailChecks -/
noncomputable def law03_FailChecks (f : (List tCrack)) (kind : Int) (text : (List UInt8)) : Option Bool :=
  (base_CopyFail f).bind fun t17 =>
  (fail_Deep t17).bind fun t20 =>
  (ref03_Deep f).bind fun t25 =>
  (fail_Leaf kind text).bind fun t31 =>
  (ref03_Leaf kind text).bind fun t37 =>
  (fail_Check t17).bind fun t41 =>
  (ref03_Check f).bind fun t43 =>
  (if ((((decide (t41 = t43)) && (decide (t20.1 = t25.1))) && (decide (t20.2 = t25.2))) && (decide (t31.2 = t37.2))) = true then base_SameFail t31.1 t37.1 else some false).bind fun t63 =>
  (if (((((decide (t41 = t43)) && (decide (t20.1 = t25.1))) && (decide (t20.2 = t25.2))) && (decide (t31.2 = t37.2))) && t63) = true then base_SameFail t17 f else some false).bind fun t68 =>
  some ((((((decide (t41 = t43)) && (decide (t20.1 = t25.1))) && (decide (t20.2 = t25.2))) && (decide (t31.2 = t37.2))) && t63) && t68)

/-! ### onceweb/fail.bounded -/
noncomputable def fail_bounded_o (f : (List tCrack)) : Option (List tCrack) :=
  if (decide ((1024 : Int) < (f.length : Int))) = true then
  some ([((11 : Int), (0 : Int), ([] : List UInt8), ())] : List tCrack)
  else
  some f
/-! ### slices_Clone -/
noncomputable def slices_Clone (s_ : List tCrack) : Option (List tCrack) := G ((([] : List tCrack).length + s_.length) * 32 ≤ 140737488355328) <| some s_
/-! ### onceweb/fail.Wrap -/
noncomputable def fail_Wrap (cell : (List UInt8)) (f : (List tCrack)) : Option ((List tCrack) × Int) :=
  (lex_IsName cell).bind fun t8 =>
  if (!t8) = true then
  some (([] : List tCrack), (2 : Int))
  else
  (fail_Check f).bind fun t11 =>
  if (!decide (t11 = (0 : Int))) = true then
  some (([] : List tCrack), t11)
  else
  (slices_Clone f).bind fun t16 =>
  G ((t16.length + ([((9 : Int), (1 : Int), cell, ())] : List tCrack).length) * 32 ≤ 140737488355328) <|
  (fail_bounded_o (t16 ++ ([((9 : Int), (1 : Int), cell, ())] : List tCrack))).bind fun t21 =>
  some (t21, (0 : Int))
/-! ### onceweb/oncewebref03.long -/
noncomputable def ref03_long_o (f : (List tCrack)) : Option (List tCrack) :=
  if (decide ((1024 : Int) < (f.length : Int))) = true then
  some ([((11 : Int), (0 : Int), ([] : List UInt8), ())] : List tCrack)
  else
  some f
/-! ### onceweb/oncewebref03.Wrap -/
noncomputable def ref03_Wrap (cell : (List UInt8)) (f : (List tCrack)) : Option ((List tCrack) × Int) :=
  (base_Name cell).bind fun t8 =>
  if (!t8) = true then
  some (([] : List tCrack), (2 : Int))
  else
  (ref03_Check f).bind fun t11 =>
  if (!decide (t11 = (0 : Int))) = true then
  some (([] : List tCrack), t11)
  else
  (base_CopyFail f).bind fun t16 =>
  G ((t16.length + ([((9 : Int), (1 : Int), cell, ())] : List tCrack).length) * 32 ≤ 140737488355328) <|
  (ref03_long_o (t16 ++ ([((9 : Int), (1 : Int), cell, ())] : List tCrack))).bind fun t21 =>
  some (t21, (0 : Int))
/-! ### onceweb/fail.Token -/
noncomputable def fail_Token (text : (List UInt8)) (cause : (List tCrack)) : Option ((List tCrack) × Int) :=
  if (decide ((4096 : Int) < (text.length : Int))) = true then
  some (([] : List tCrack), (3 : Int))
  else
  if (decide ((cause.length : Int) = (0 : Int))) = true then
  some (([((8 : Int), (0 : Int), text, ())] : List tCrack), (0 : Int))
  else
  (fail_Check cause).bind fun t17 =>
  if (!decide (t17 = (0 : Int))) = true then
  some (([] : List tCrack), t17)
  else
  (slices_Clone cause).bind fun t22 =>
  G ((t22.length + ([((8 : Int), (1 : Int), text, ())] : List tCrack).length) * 32 ≤ 140737488355328) <|
  (fail_bounded_o (t22 ++ ([((8 : Int), (1 : Int), text, ())] : List tCrack))).bind fun t27 =>
  some (t27, (0 : Int))
/-! ### onceweb/oncewebref03.Token -/
noncomputable def ref03_Token (text : (List UInt8)) (cause : (List tCrack)) : Option ((List tCrack) × Int) :=
  if (decide ((4096 : Int) < (text.length : Int))) = true then
  some (([] : List tCrack), (3 : Int))
  else
  if (decide ((cause.length : Int) = (0 : Int))) = true then
  some (([((8 : Int), (0 : Int), text, ())] : List tCrack), (0 : Int))
  else
  (ref03_Check cause).bind fun t17 =>
  if (!decide (t17 = (0 : Int))) = true then
  some (([] : List tCrack), t17)
  else
  (base_CopyFail cause).bind fun t22 =>
  G ((t22.length + ([((8 : Int), (1 : Int), text, ())] : List tCrack).length) * 32 ≤ 140737488355328) <|
  (ref03_long_o (t22 ++ ([((8 : Int), (1 : Int), text, ())] : List tCrack))).bind fun t27 =>
  some (t27, (0 : Int))
/-! ### onceweb/fail.Join -/
inductive L_fail_Join where
  | l6 (n : Int) (out : (List tCrack)) (x12 : (List (List tCrack))) (x13 : Int) (x14 : Int)
noncomputable def sg_fail_Join_6 (n : Int) (out : (List tCrack)) (x12 : (List (List tCrack))) (x13 : Int) (x14 : Int) : Option (L_fail_Join ⊕ ((List tCrack) × Int)) :=
  if (decide (x14 < x13)) = true then
  (G (0 ≤ x14 ∧ x14 < (x12.length : Int)) <|
  if (decide (((x12.getD x14.toNat ([] : List tCrack)).length : Int) = (0 : Int))) = true then
  some (.inl (.l6 n out x12 x13 (w64 (x14 + (1 : Int)))))
  else
  (fail_Check (x12.getD x14.toNat ([] : List tCrack))).bind fun t22 =>
  if (!decide (t22 = (0 : Int))) = true then
  some (.inr (([] : List tCrack), t22))
  else
  if (decide ((out.length : Int) ≤ (1024 : Int))) = true then
  (G ((out.length + (x12.getD x14.toNat ([] : List tCrack)).length) * 32 ≤ 140737488355328) <|
  some (.inl (.l6 (w64 (n + (1 : Int))) (out ++ (x12.getD x14.toNat ([] : List tCrack))) x12 x13 (w64 (x14 + (1 : Int))))))
  else
  some (.inl (.l6 (w64 (n + (1 : Int))) out x12 x13 (w64 (x14 + (1 : Int))))))
  else
  if (decide (n = (0 : Int))) = true then
  some (.inr (([] : List tCrack), (0 : Int)))
  else
  G ((out.length + ([((10 : Int), n, ([] : List UInt8), ())] : List tCrack).length) * 32 ≤ 140737488355328) <|
  (fail_bounded_o (out ++ ([((10 : Int), n, ([] : List UInt8), ())] : List tCrack))).bind fun t42 =>
  some (.inr (t42, (0 : Int)))
noncomputable def st_fail_Join : L_fail_Join → Option (L_fail_Join ⊕ ((List tCrack) × Int))
  | .l6 n out x12 x13 x14 => sg_fail_Join_6 n out x12 x13 x14
noncomputable def en_fail_Join (l : (List (List tCrack))) : Option (L_fail_Join ⊕ ((List tCrack) × Int)) :=
  if (decide ((4096 : Int) < (l.length : Int))) = true then
  some (.inr (([] : List tCrack), (3 : Int)))
  else
  some (.inl (.l6 (0 : Int) ([] : List tCrack) l (l.length : Int) (0 : Int)))
noncomputable def fail_Join (l : (List (List tCrack))) : Option ((List tCrack) × Int) := runL st_fail_Join (en_fail_Join l)
/-! ### onceweb/oncewebref03.Join -/
inductive L_ref03_Join where
  | l6 (l : (List (List tCrack))) (out : (List tCrack)) (n : Int) (i : Int)
noncomputable def sg_ref03_Join_6 (l : (List (List tCrack))) (out : (List tCrack)) (n : Int) (i : Int) : Option (L_ref03_Join ⊕ ((List tCrack) × Int)) :=
  if (decide (i < (l.length : Int))) = true then
  (G (0 ≤ i ∧ i < (l.length : Int)) <|
  if (decide (((l.getD i.toNat ([] : List tCrack)).length : Int) = (0 : Int))) = true then
  some (.inl (.l6 l out n (w64 (i + (1 : Int)))))
  else
  G (0 ≤ i ∧ i < (l.length : Int)) <|
  (ref03_Check (l.getD i.toNat ([] : List tCrack))).bind fun t28 =>
  if (!decide (t28 = (0 : Int))) = true then
  some (.inr (([] : List tCrack), t28))
  else
  if (decide ((out.length : Int) ≤ (1024 : Int))) = true then
  (G (0 ≤ i ∧ i < (l.length : Int)) <|
  G ((out.length + (l.getD i.toNat ([] : List tCrack)).length) * 32 ≤ 140737488355328) <|
  some (.inl (.l6 l (out ++ (l.getD i.toNat ([] : List tCrack))) (w64 (n + (1 : Int))) (w64 (i + (1 : Int))))))
  else
  some (.inl (.l6 l out (w64 (n + (1 : Int))) (w64 (i + (1 : Int))))))
  else
  if (decide (n = (0 : Int))) = true then
  some (.inr (([] : List tCrack), (0 : Int)))
  else
  G ((out.length + ([((10 : Int), n, ([] : List UInt8), ())] : List tCrack).length) * 32 ≤ 140737488355328) <|
  (ref03_long_o (out ++ ([((10 : Int), n, ([] : List UInt8), ())] : List tCrack))).bind fun t50 =>
  some (.inr (t50, (0 : Int)))
noncomputable def st_ref03_Join : L_ref03_Join → Option (L_ref03_Join ⊕ ((List tCrack) × Int))
  | .l6 l out n i => sg_ref03_Join_6 l out n i
noncomputable def en_ref03_Join (l : (List (List tCrack))) : Option (L_ref03_Join ⊕ ((List tCrack) × Int)) :=
  if (decide ((4096 : Int) < (l.length : Int))) = true then
  some (.inr (([] : List tCrack), (3 : Int)))
  else
  some (.inl (.l6 l ([] : List tCrack) (0 : Int) (0 : Int)))
noncomputable def ref03_Join (l : (List (List tCrack))) : Option ((List tCrack) × Int) := runL st_ref03_Join (en_ref03_Join l)
/-! ### onceweb/onceweblaw03.FailWraps -/
inductive L_law03_FailWraps where
  | l3 (name : (List UInt8)) (text : (List UInt8)) (l : (List (List tCrack))) (own : (List (List tCrack))) (i : Int)
  | l9 (name : (List UInt8)) (text : (List UInt8)) (l : (List (List tCrack))) (own : (List (List tCrack))) (one : (List tCrack))
  | l26 (l : (List (List tCrack))) (own : (List (List tCrack))) (one : (List tCrack)) (mine : (List tCrack)) (i : Int)
noncomputable def sg_law03_FailWraps_3 (name : (List UInt8)) (text : (List UInt8)) (l : (List (List tCrack))) (own : (List (List tCrack))) (i : Int) : Option (L_law03_FailWraps ⊕ Bool) :=
  if (decide (i < (l.length : Int))) = true then
  (G (0 ≤ i ∧ i < (l.length : Int)) <|
  (base_CopyFail (l.getD i.toNat ([] : List tCrack))).bind fun t28 =>
  G ((own.length + ([t28] : List (List tCrack)).length) * 24 ≤ 140737488355328) <|
  some (.inl (.l3 name text l (own ++ ([t28] : List (List tCrack))) (w64 (i + (1 : Int))))))
  else
  if (decide ((0 : Int) < (l.length : Int))) = true then
  (G (0 ≤ (0 : Int) ∧ (0 : Int) < (l.length : Int)) <|
  some (.inl (.l9 name text l own (l.getD (0 : Int).toNat ([] : List tCrack)))))
  else
  some (.inl (.l9 name text l own ([] : List tCrack)))
noncomputable def sg_law03_FailWraps_9 (name : (List UInt8)) (text : (List UInt8)) (l : (List (List tCrack))) (own : (List (List tCrack))) (one : (List tCrack)) : Option (L_law03_FailWraps ⊕ Bool) :=
  (base_CopyFail one).bind fun t39 =>
  (fail_Wrap name t39).bind fun t43 =>
  (ref03_Wrap name one).bind fun t49 =>
  (if (!(!decide (t43.2 = t49.2))) = true then base_SameFail t43.1 t49.1 else some false).bind fun t58 =>
  if ((!decide (t43.2 = t49.2)) || (!t58)) = true then
  some (.inr false)
  else
  (fail_Token text t39).bind fun t66 =>
  (ref03_Token text one).bind fun t72 =>
  (if (!(!decide (t66.2 = t72.2))) = true then base_SameFail t66.1 t72.1 else some false).bind fun t81 =>
  (if (!((!decide (t66.2 = t72.2)) || (!t81))) = true then base_SameFail t39 one else some false).bind fun t87 =>
  if (((!decide (t66.2 = t72.2)) || (!t81)) || (!t87)) = true then
  some (.inr false)
  else
  (fail_Join own).bind fun t94 =>
  (ref03_Join l).bind fun t99 =>
  (if (!(!decide (t94.2 = t99.2))) = true then base_SameFail t94.1 t99.1 else some false).bind fun t108 =>
  if ((!decide (t94.2 = t99.2)) || (!t108)) = true then
  some (.inr false)
  else
  some (.inl (.l26 l own one t39 (0 : Int)))
noncomputable def sg_law03_FailWraps_26 (l : (List (List tCrack))) (own : (List (List tCrack))) (one : (List tCrack)) (mine : (List tCrack)) (i : Int) : Option (L_law03_FailWraps ⊕ Bool) :=
  if (decide (i < (l.length : Int))) = true then
  (G (0 ≤ i ∧ i < (own.length : Int)) <|
  G (0 ≤ i ∧ i < (l.length : Int)) <|
  (base_SameFail (own.getD i.toNat ([] : List tCrack)) (l.getD i.toNat ([] : List tCrack))).bind fun t127 =>
  if (!t127) = true then
  some (.inr false)
  else
  some (.inl (.l26 l own one mine (w64 (i + (1 : Int))))))
  else
  (base_SameFail mine one).bind fun t131 =>
  some (.inr t131)
noncomputable def st_law03_FailWraps : L_law03_FailWraps → Option (L_law03_FailWraps ⊕ Bool)
  | .l3 name text l own i => sg_law03_FailWraps_3 name text l own i
  | .l9 name text l own one => sg_law03_FailWraps_9 name text l own one
  | .l26 l own one mine i => sg_law03_FailWraps_26 l own one mine i
noncomputable def en_law03_FailWraps (name : (List UInt8)) (text : (List UInt8)) (l : (List (List tCrack))) : Option (L_law03_FailWraps ⊕ Bool) :=
  some (.inl (.l3 name text l ([] : List (List tCrack)) (0 : Int)))
noncomputable def law03_FailWraps (name : (List UInt8)) (text : (List UInt8)) (l : (List (List tCrack))) : Option Bool := runL st_law03_FailWraps (en_law03_FailWraps name text l)
/-! ### onceweb/fail.parts -/
inductive L_fail_parts where
  | l4 (from_ : (List Int)) (out : (List Int)) (k : Int) (i : Int)
noncomputable def sg_fail_parts_4 (from_ : (List Int)) (out : (List Int)) (k : Int) (i : Int) : Option (L_fail_parts ⊕ (List Int)) :=
  if (decide ((0 : Int) ≤ i)) = true then
  (G (0 ≤ i ∧ i < (out.length : Int)) <|
  G (0 ≤ (w64 (k - (1 : Int))) ∧ (w64 (k - (1 : Int))) < (from_.length : Int)) <|
  some (.inl (.l4 from_ (out.set i.toNat (w64 (k - (1 : Int)))) (from_.getD (w64 (k - (1 : Int))).toNat (0 : Int)) (w64 (i - (1 : Int))))))
  else
  some (.inr out)
noncomputable def st_fail_parts : L_fail_parts → Option (L_fail_parts ⊕ (List Int))
  | .l4 from_ out k i => sg_fail_parts_4 from_ out k i
noncomputable def en_fail_parts (f : (List tCrack)) (from_ : (List Int)) (at_ : Int) : Option (L_fail_parts ⊕ (List Int)) :=
  G (0 ≤ at_ ∧ at_ < (f.length : Int)) <|
  G (0 ≤ (f.getD at_.toNat dCrack).2.1 ∧ (f.getD at_.toNat dCrack).2.1 ≤ (f.getD at_.toNat dCrack).2.1 ∧ (8 : Int) * ((f.getD at_.toNat dCrack).2.1) ≤ 281474976710656) <|
  some (.inl (.l4 from_ (List.replicate ((f.getD at_.toNat dCrack).2.1).toNat (0 : Int)) at_ (w64 ((((List.replicate ((f.getD at_.toNat dCrack).2.1).toNat (0 : Int)).length : Nat) : Int) - (1 : Int)))))
noncomputable def fail_parts (f : (List tCrack)) (from_ : (List Int)) (at_ : Int) : Option (List Int) := runL st_fail_parts (en_fail_parts f from_ at_)
/-! ### onceweb/fail.Parts -/
noncomputable def fail_Parts (f : (List tCrack)) (at_ : Int) : Option ((List Int) × Int) :=
  (fail_Check f).bind fun t10 =>
  if (!decide (t10 = (0 : Int))) = true then
  some (([] : List Int), t10)
  else
  if ((decide (at_ < (0 : Int))) || (decide ((f.length : Int) ≤ at_))) = true then
  some (([] : List Int), (1 : Int))
  else
  (fail_begins f).bind fun t24 =>
  (fail_parts f t24.1 at_).bind fun t30 =>
  some (t30, (0 : Int))
/-! ### onceweb/oncewebref03.parts -/
inductive L_ref03_parts where
  | l5 (from_ : (List Int)) (out : (List Int)) (k : Int) (i : Int)
noncomputable def sg_ref03_parts_5 (from_ : (List Int)) (out : (List Int)) (k : Int) (i : Int) : Option (L_ref03_parts ⊕ (List Int)) :=
  if (decide ((0 : Int) ≤ i)) = true then
  (G (0 ≤ i ∧ i < (out.length : Int)) <|
  G (0 ≤ k ∧ k < (from_.length : Int)) <|
  some (.inl (.l5 from_ (out.set i.toNat k) (w64 ((from_.getD k.toNat (0 : Int)) - (1 : Int))) (w64 (i - (1 : Int))))))
  else
  some (.inr out)
noncomputable def st_ref03_parts : L_ref03_parts → Option (L_ref03_parts ⊕ (List Int))
  | .l5 from_ out k i => sg_ref03_parts_5 from_ out k i
noncomputable def en_ref03_parts (f : (List tCrack)) (at_ : Int) : Option (L_ref03_parts ⊕ (List Int)) :=
  (ref03_begins f).bind fun t12 =>
  G (0 ≤ at_ ∧ at_ < (f.length : Int)) <|
  G (0 ≤ (f.getD at_.toNat dCrack).2.1 ∧ (f.getD at_.toNat dCrack).2.1 ≤ (f.getD at_.toNat dCrack).2.1 ∧ (8 : Int) * ((f.getD at_.toNat dCrack).2.1) ≤ 281474976710656) <|
  G (0 ≤ at_ ∧ at_ < (f.length : Int)) <|
  some (.inl (.l5 t12.1 (List.replicate ((f.getD at_.toNat dCrack).2.1).toNat (0 : Int)) (w64 (at_ - (1 : Int))) (w64 ((f.getD at_.toNat dCrack).2.1 - (1 : Int)))))
noncomputable def ref03_parts (f : (List tCrack)) (at_ : Int) : Option (List Int) := runL st_ref03_parts (en_ref03_parts f at_)
/-! ### onceweb/oncewebref03.Parts -/
noncomputable def ref03_Parts (f : (List tCrack)) (at_ : Int) : Option ((List Int) × Int) :=
  (ref03_Check f).bind fun t8 =>
  if (!decide (t8 = (0 : Int))) = true then
  some (([] : List Int), t8)
  else
  if ((decide (at_ < (0 : Int))) || (decide ((f.length : Int) ≤ at_))) = true then
  some (([] : List Int), (1 : Int))
  else
  (ref03_parts f at_).bind fun t22 =>
  some (t22, (0 : Int))
/-! ### onceweb/oncewebbase.SameInts -/
inductive L_base_SameInts where
  | l4 (a : (List Int)) (b : (List Int)) (i : Int)
noncomputable def sg_base_SameInts_4 (a : (List Int)) (b : (List Int)) (i : Int) : Option (L_base_SameInts ⊕ Bool) :=
  if (decide (i < (a.length : Int))) = true then
  (G (0 ≤ i ∧ i < (a.length : Int)) <|
  G (0 ≤ i ∧ i < (b.length : Int)) <|
  if (!decide ((a.getD i.toNat (0 : Int)) = (b.getD i.toNat (0 : Int)))) = true then
  some (.inr false)
  else
  some (.inl (.l4 a b (w64 (i + (1 : Int))))))
  else
  some (.inr true)
noncomputable def st_base_SameInts : L_base_SameInts → Option (L_base_SameInts ⊕ Bool)
  | .l4 a b i => sg_base_SameInts_4 a b i
noncomputable def en_base_SameInts (a : (List Int)) (b : (List Int)) : Option (L_base_SameInts ⊕ Bool) :=
  if (!decide ((a.length : Int) = (b.length : Int))) = true then
  some (.inr false)
  else
  some (.inl (.l4 a b (0 : Int)))
noncomputable def base_SameInts (a : (List Int)) (b : (List Int)) : Option Bool := runL st_base_SameInts (en_base_SameInts a b)
/-! ### onceweb/fail.Leaves -/
inductive L_fail_Leaves where
  | l6 (out : (List (Bool × List tCrack))) (x13 : (List tCrack)) (x14 : Int) (x15 : Int)
noncomputable def sg_fail_Leaves_6 (out : (List (Bool × List tCrack))) (x13 : (List tCrack)) (x14 : Int) (x15 : Int) : Option (L_fail_Leaves ⊕ ((List (Bool × List tCrack)) × Int)) :=
  if (decide (x15 < x14)) = true then
  (G (0 ≤ x15 ∧ x15 < (x13.length : Int)) <|
  if (decide ((x13.getD x15.toNat dCrack).2.1 = (0 : Int))) = true then
  (G (out.length = out.length) <|
  G (([(true, ([((x13.getD x15.toNat dCrack).1, (x13.getD x15.toNat dCrack).2.1, (x13.getD x15.toNat dCrack).2.2.1, ())] : List tCrack))] : List (Bool × List tCrack)).length = ([(true, ([((x13.getD x15.toNat dCrack).1, (x13.getD x15.toNat dCrack).2.1, (x13.getD x15.toNat dCrack).2.2.1, ())] : List tCrack))] : List (Bool × List tCrack)).length) <|
  G ((out.length + ([(true, ([((x13.getD x15.toNat dCrack).1, (x13.getD x15.toNat dCrack).2.1, (x13.getD x15.toNat dCrack).2.2.1, ())] : List tCrack))] : List (Bool × List tCrack)).length) * 24 ≤ 140737488355328) <|
  some (.inl (.l6 (out ++ ([(true, ([((x13.getD x15.toNat dCrack).1, (x13.getD x15.toNat dCrack).2.1, (x13.getD x15.toNat dCrack).2.2.1, ())] : List tCrack))] : List (Bool × List tCrack))) x13 x14 (w64 (x15 + (1 : Int))))))
  else
  some (.inl (.l6 out x13 x14 (w64 (x15 + (1 : Int))))))
  else
  G (out.length = out.length) <|
  some (.inr (out, (0 : Int)))
noncomputable def st_fail_Leaves : L_fail_Leaves → Option (L_fail_Leaves ⊕ ((List (Bool × List tCrack)) × Int))
  | .l6 out x13 x14 x15 => sg_fail_Leaves_6 out x13 x14 x15
noncomputable def en_fail_Leaves (f : (List tCrack)) : Option (L_fail_Leaves ⊕ ((List (Bool × List tCrack)) × Int)) :=
  (fail_Check f).bind fun t9 =>
  if (!decide (t9 = (0 : Int))) = true then
  some (.inr (([] : List (Bool × List tCrack)), t9))
  else
  some (.inl (.l6 ([] : List (Bool × List tCrack)) f (f.length : Int) (0 : Int)))
noncomputable def fail_Leaves (f : (List tCrack)) : Option ((List (Bool × List tCrack)) × Int) := runL st_fail_Leaves (en_fail_Leaves f)
/-! ### onceweb/oncewebref03.Leaves -/
inductive L_ref03_Leaves where
  | l6 (f : (List tCrack)) (out : (List (List tCrack))) (i : Int)
noncomputable def sg_ref03_Leaves_6 (f : (List tCrack)) (out : (List (List tCrack))) (i : Int) : Option (L_ref03_Leaves ⊕ ((List (List tCrack)) × Int)) :=
  if (decide (i < (f.length : Int))) = true then
  (G (0 ≤ i ∧ i < (f.length : Int)) <|
  if (decide ((f.getD i.toNat dCrack).2.1 = (0 : Int))) = true then
  (G (0 ≤ i ∧ i < (f.length : Int)) <|
  G ((out.length + ([([(f.getD i.toNat dCrack)] : List tCrack)] : List (List tCrack)).length) * 24 ≤ 140737488355328) <|
  some (.inl (.l6 f (out ++ ([([(f.getD i.toNat dCrack)] : List tCrack)] : List (List tCrack))) (w64 (i + (1 : Int))))))
  else
  some (.inl (.l6 f out (w64 (i + (1 : Int))))))
  else
  some (.inr (out, (0 : Int)))
noncomputable def st_ref03_Leaves : L_ref03_Leaves → Option (L_ref03_Leaves ⊕ ((List (List tCrack)) × Int))
  | .l6 f out i => sg_ref03_Leaves_6 f out i
noncomputable def en_ref03_Leaves (f : (List tCrack)) : Option (L_ref03_Leaves ⊕ ((List (List tCrack)) × Int)) :=
  (ref03_Check f).bind fun t8 =>
  if (!decide (t8 = (0 : Int))) = true then
  some (.inr (([] : List (List tCrack)), t8))
  else
  some (.inl (.l6 f ([] : List (List tCrack)) (0 : Int)))
noncomputable def ref03_Leaves (f : (List tCrack)) : Option ((List (List tCrack)) × Int) := runL st_ref03_Leaves (en_ref03_Leaves f)
/-! ### onceweb/fail.Path -/
inductive L_fail_Path where
  | l7 (f : (List tCrack)) (out : (List (List UInt8))) (at_ : Int)
  | l9 (f : (List tCrack)) (out : (List (List UInt8))) (at_ : Int)
noncomputable def sg_fail_Path_7 (f : (List tCrack)) (out : (List (List UInt8))) (at_ : Int) : Option (L_fail_Path ⊕ ((List (List UInt8)) × Int)) :=
  G (0 ≤ at_ ∧ at_ < (f.length : Int)) <|
  if (decide ((f.getD at_.toNat dCrack).1 = (9 : Int))) = true then
  (G (0 ≤ at_ ∧ at_ < (f.length : Int)) <|
  G ((out.length + ([(f.getD at_.toNat dCrack).2.2.1] : List (List UInt8)).length) * 16 ≤ 140737488355328) <|
  some (.inl (.l9 f (out ++ ([(f.getD at_.toNat dCrack).2.2.1] : List (List UInt8))) at_)))
  else
  some (.inl (.l9 f out at_))
noncomputable def sg_fail_Path_9 (f : (List tCrack)) (out : (List (List UInt8))) (at_ : Int) : Option (L_fail_Path ⊕ ((List (List UInt8)) × Int)) :=
  G (0 ≤ at_ ∧ at_ < (f.length : Int)) <|
  if (!decide ((f.getD at_.toNat dCrack).2.1 = (1 : Int))) = true then
  some (.inr (out, (0 : Int)))
  else
  some (.inl (.l7 f out (w64 (at_ - (1 : Int)))))
noncomputable def st_fail_Path : L_fail_Path → Option (L_fail_Path ⊕ ((List (List UInt8)) × Int))
  | .l7 f out at_ => sg_fail_Path_7 f out at_
  | .l9 f out at_ => sg_fail_Path_9 f out at_
noncomputable def en_fail_Path (f : (List tCrack)) : Option (L_fail_Path ⊕ ((List (List UInt8)) × Int)) :=
  (fail_Check f).bind fun t8 =>
  if (!decide (t8 = (0 : Int))) = true then
  some (.inr (([] : List (List UInt8)), t8))
  else
  some (.inl (.l7 f ([] : List (List UInt8)) (w64 ((f.length : Int) - (1 : Int)))))
noncomputable def fail_Path (f : (List tCrack)) : Option ((List (List UInt8)) × Int) := runL st_fail_Path (en_fail_Path f)
/-! ### onceweb/oncewebref03.Path -/
inductive L_ref03_Path where
  | l7 (f : (List tCrack)) (out : (List (List UInt8))) (at_ : Int)
  | l9 (f : (List tCrack)) (out : (List (List UInt8))) (at_ : Int)
noncomputable def sg_ref03_Path_7 (f : (List tCrack)) (out : (List (List UInt8))) (at_ : Int) : Option (L_ref03_Path ⊕ ((List (List UInt8)) × Int)) :=
  G (0 ≤ at_ ∧ at_ < (f.length : Int)) <|
  if (decide ((f.getD at_.toNat dCrack).1 = (9 : Int))) = true then
  (G (0 ≤ at_ ∧ at_ < (f.length : Int)) <|
  G ((out.length + ([(f.getD at_.toNat dCrack).2.2.1] : List (List UInt8)).length) * 16 ≤ 140737488355328) <|
  some (.inl (.l9 f (out ++ ([(f.getD at_.toNat dCrack).2.2.1] : List (List UInt8))) at_)))
  else
  some (.inl (.l9 f out at_))
noncomputable def sg_ref03_Path_9 (f : (List tCrack)) (out : (List (List UInt8))) (at_ : Int) : Option (L_ref03_Path ⊕ ((List (List UInt8)) × Int)) :=
  G (0 ≤ at_ ∧ at_ < (f.length : Int)) <|
  if (!decide ((f.getD at_.toNat dCrack).2.1 = (1 : Int))) = true then
  some (.inr (out, (0 : Int)))
  else
  some (.inl (.l7 f out (w64 (at_ - (1 : Int)))))
noncomputable def st_ref03_Path : L_ref03_Path → Option (L_ref03_Path ⊕ ((List (List UInt8)) × Int))
  | .l7 f out at_ => sg_ref03_Path_7 f out at_
  | .l9 f out at_ => sg_ref03_Path_9 f out at_
noncomputable def en_ref03_Path (f : (List tCrack)) : Option (L_ref03_Path ⊕ ((List (List UInt8)) × Int)) :=
  (ref03_Check f).bind fun t8 =>
  if (!decide (t8 = (0 : Int))) = true then
  some (.inr (([] : List (List UInt8)), t8))
  else
  some (.inl (.l7 f ([] : List (List UInt8)) (w64 ((f.length : Int) - (1 : Int)))))
noncomputable def ref03_Path (f : (List tCrack)) : Option ((List (List UInt8)) × Int) := runL st_ref03_Path (en_ref03_Path f)
/-! ### onceweb/oncewebbase.SameTexts -/
inductive L_base_SameTexts where
  | l4 (a : (List (List UInt8))) (b : (List (List UInt8))) (i : Int)
noncomputable def sg_base_SameTexts_4 (a : (List (List UInt8))) (b : (List (List UInt8))) (i : Int) : Option (L_base_SameTexts ⊕ Bool) :=
  if (decide (i < (a.length : Int))) = true then
  (G (0 ≤ i ∧ i < (a.length : Int)) <|
  G (0 ≤ i ∧ i < (b.length : Int)) <|
  if (!decide ((a.getD i.toNat ([] : List UInt8)) = (b.getD i.toNat ([] : List UInt8)))) = true then
  some (.inr false)
  else
  some (.inl (.l4 a b (w64 (i + (1 : Int))))))
  else
  some (.inr true)
noncomputable def st_base_SameTexts : L_base_SameTexts → Option (L_base_SameTexts ⊕ Bool)
  | .l4 a b i => sg_base_SameTexts_4 a b i
noncomputable def en_base_SameTexts (a : (List (List UInt8))) (b : (List (List UInt8))) : Option (L_base_SameTexts ⊕ Bool) :=
  if (!decide ((a.length : Int) = (b.length : Int))) = true then
  some (.inr false)
  else
  some (.inl (.l4 a b (0 : Int)))
noncomputable def base_SameTexts (a : (List (List UInt8))) (b : (List (List UInt8))) : Option Bool := runL st_base_SameTexts (en_base_SameTexts a b)
/-! ### onceweb/onceweblaw03.FailParts -/
inductive L_law03_FailParts where
  | l11 (f : (List tCrack)) (own : (List tCrack)) (l : (List (Bool × List tCrack))) (m : (List (List tCrack))) (i : Int)
noncomputable def sg_law03_FailParts_11 (f : (List tCrack)) (own : (List tCrack)) (l : (List (Bool × List tCrack))) (m : (List (List tCrack))) (i : Int) : Option (L_law03_FailParts ⊕ Bool) :=
  if (decide (i < (l.length : Int))) = true then
  (G (0 ≤ i ∧ i < (l.length : Int)) <|
  G ((el2D l i.toNat).1 = true) <|
  G (0 ≤ i ∧ i < (m.length : Int)) <|
  G ((el2D l i.toNat).2.length = (el2D l i.toNat).2.length) <|
  (base_SameFail ((el2D l i.toNat).2) (m.getD i.toNat ([] : List tCrack))).bind fun t72 =>
  if (!t72) = true then
  some (.inr false)
  else
  G (0 ≤ i ∧ i < (l.length : Int)) <|
  G ((el2D l i.toNat).1 = true) <|
  G ((el2D l i.toNat).2.length = (el2D l i.toNat).2.length) <|
  some (.inl (.l11 f own (l.set i.toNat (true, (List.replicate (el2D l i.toNat).2.length (((-7 : Int), (0 : Int), ([] : List UInt8), ()) : tCrack)))) m (w64 (i + (1 : Int))))))
  else
  (fail_Path own).bind fun t81 =>
  (ref03_Path f).bind fun t86 =>
  (if (decide (t81.2 = t86.2)) = true then base_SameTexts t81.1 t86.1 else some false).bind fun t95 =>
  (if ((decide (t81.2 = t86.2)) && t95) = true then base_SameFail own f else some false).bind fun t100 =>
  some (.inr (((decide (t81.2 = t86.2)) && t95) && t100))
noncomputable def st_law03_FailParts : L_law03_FailParts → Option (L_law03_FailParts ⊕ Bool)
  | .l11 f own l m i => sg_law03_FailParts_11 f own l m i
noncomputable def en_law03_FailParts (f : (List tCrack)) (at_ : Int) : Option (L_law03_FailParts ⊕ Bool) :=
  (base_CopyFail f).bind fun t16 =>
  (fail_Parts t16 at_).bind fun t20 =>
  (ref03_Parts f at_).bind fun t26 =>
  (if (!(!decide (t20.2 = t26.2))) = true then base_SameInts t20.1 t26.1 else some false).bind fun t35 =>
  if ((!decide (t20.2 = t26.2)) || (!t35)) = true then
  some (.inr false)
  else
  (fail_Leaves t16).bind fun t40 =>
  (ref03_Leaves f).bind fun t45 =>
  if ((!decide (t40.2 = t45.2)) || (!decide ((t40.1.length : Int) = (t45.1.length : Int)))) = true then
  some (.inr false)
  else
  some (.inl (.l11 f t16 t40.1 t45.1 (0 : Int)))
noncomputable def law03_FailParts (f : (List tCrack)) (at_ : Int) : Option Bool := runL st_law03_FailParts (en_law03_FailParts f at_)
/-! ### slices.Equal[onceweb/api.Fail,onceweb/api.Crack] -/
inductive L_slices_Equal where
  | l4 (s1 : (List tCrack)) (s2 : (List tCrack)) (x12 : Int) (x13 : Int)
noncomputable def sg_slices_Equal_4 (s1 : (List tCrack)) (s2 : (List tCrack)) (x12 : Int) (x13 : Int) : Option (L_slices_Equal ⊕ Bool) :=
  if (decide (x13 < x12)) = true then
  (G (0 ≤ x13 ∧ x13 < (s1.length : Int)) <|
  G (0 ≤ x13 ∧ x13 < (s2.length : Int)) <|
  if (!(eqR tyCrack (s1.getD x13.toNat dCrack) (s2.getD x13.toNat dCrack))) = true then
  some (.inr false)
  else
  some (.inl (.l4 s1 s2 x12 (w64 (x13 + (1 : Int))))))
  else
  some (.inr true)
noncomputable def st_slices_Equal : L_slices_Equal → Option (L_slices_Equal ⊕ Bool)
  | .l4 s1 s2 x12 x13 => sg_slices_Equal_4 s1 s2 x12 x13
noncomputable def en_slices_Equal (s1 : (List tCrack)) (s2 : (List tCrack)) : Option (L_slices_Equal ⊕ Bool) :=
  if (!decide ((s1.length : Int) = (s2.length : Int))) = true then
  some (.inr false)
  else
  some (.inl (.l4 s1 s2 (s1.length : Int) (0 : Int)))
noncomputable def slices_Equal (s1 : (List tCrack)) (s2 : (List tCrack)) : Option Bool := runL st_slices_Equal (en_slices_Equal s1 s2)
/-! ### onceweb/fail.Is -/
inductive L_fail_Is where
  | l9 (f : (List tCrack)) (g : (List tCrack)) (from_ : (List Int)) (x28 : Int) (x29 : Int)
noncomputable def sg_fail_Is_9 (f : (List tCrack)) (g : (List tCrack)) (from_ : (List Int)) (x28 : Int) (x29 : Int) : Option (L_fail_Is ⊕ (Bool × Int)) :=
  if (decide (x29 < x28)) = true then
  (G (0 ≤ x29 ∧ x29 < (from_.length : Int)) <|
  G (0 ≤ (from_.getD x29.toNat (0 : Int)) ∧ (from_.getD x29.toNat (0 : Int)) ≤ (w64 (x29 + (1 : Int))) ∧ (w64 (x29 + (1 : Int))) ≤ (f.length : Int)) <|
  (slices_Equal (cut f (from_.getD x29.toNat (0 : Int)).toNat (w64 (x29 + (1 : Int))).toNat) g).bind fun t40 =>
  if t40 = true then
  some (.inr (true, (0 : Int)))
  else
  some (.inl (.l9 f g from_ x28 (w64 (x29 + (1 : Int))))))
  else
  some (.inr (false, (0 : Int)))
noncomputable def st_fail_Is : L_fail_Is → Option (L_fail_Is ⊕ (Bool × Int))
  | .l9 f g from_ x28 x29 => sg_fail_Is_9 f g from_ x28 x29
noncomputable def en_fail_Is (f : (List tCrack)) (g : (List tCrack)) : Option (L_fail_Is ⊕ (Bool × Int)) :=
  (fail_Check f).bind fun t13 =>
  if (!decide (t13 = (0 : Int))) = true then
  some (.inr (false, t13))
  else
  (fail_Check g).bind fun t18 =>
  if (!decide (t18 = (0 : Int))) = true then
  some (.inr (false, t18))
  else
  (fail_begins f).bind fun t24 =>
  some (.inl (.l9 f g t24.1 (t24.1.length : Int) (0 : Int)))
noncomputable def fail_Is (f : (List tCrack)) (g : (List tCrack)) : Option (Bool × Int) := runL st_fail_Is (en_fail_Is f g)
/-! ### onceweb/oncewebref03.Is -/
inductive L_ref03_Is where
  | l4 (f : (List tCrack)) (g : (List tCrack)) (e : Int)
  | l8 (f : (List tCrack)) (g : (List tCrack)) (from_ : (List Int)) (i : Int)
noncomputable def sg_ref03_Is_4 (f : (List tCrack)) (g : (List tCrack)) (e : Int) : Option (L_ref03_Is ⊕ (Bool × Int)) :=
  if (!decide (e = (0 : Int))) = true then
  some (.inr (false, e))
  else
  (ref03_begins f).bind fun t21 =>
  some (.inl (.l8 f g t21.1 (0 : Int)))
noncomputable def sg_ref03_Is_8 (f : (List tCrack)) (g : (List tCrack)) (from_ : (List Int)) (i : Int) : Option (L_ref03_Is ⊕ (Bool × Int)) :=
  if (decide (i < (f.length : Int))) = true then
  (G (0 ≤ i ∧ i < (from_.length : Int)) <|
  G (0 ≤ (from_.getD i.toNat (0 : Int)) ∧ (from_.getD i.toNat (0 : Int)) ≤ (w64 (i + (1 : Int))) ∧ (w64 (i + (1 : Int))) ≤ (f.length : Int)) <|
  (base_SameFail (cut f (from_.getD i.toNat (0 : Int)).toNat (w64 (i + (1 : Int))).toNat) g).bind fun t39 =>
  if t39 = true then
  some (.inr (true, (0 : Int)))
  else
  some (.inl (.l8 f g from_ (w64 (i + (1 : Int))))))
  else
  some (.inr (false, (0 : Int)))
noncomputable def st_ref03_Is : L_ref03_Is → Option (L_ref03_Is ⊕ (Bool × Int))
  | .l4 f g e => sg_ref03_Is_4 f g e
  | .l8 f g from_ i => sg_ref03_Is_8 f g from_ i
noncomputable def en_ref03_Is (f : (List tCrack)) (g : (List tCrack)) : Option (L_ref03_Is ⊕ (Bool × Int)) :=
  (ref03_Check f).bind fun t11 =>
  if (decide (t11 = (0 : Int))) = true then
  ((ref03_Check g).bind fun t15 =>
  some (.inl (.l4 f g t15)))
  else
  some (.inl (.l4 f g t11))
noncomputable def ref03_Is (f : (List tCrack)) (g : (List tCrack)) : Option (Bool × Int) := runL st_ref03_Is (en_ref03_Is f g)
/-! ### fail_Has -/
noncomputable def fail_Has (f : List tCrack) (kind : Int) : Option (Bool × Int) :=
  (fail_Check f).bind fun e =>
  if (!decide (e = (0 : Int))) = true then
  some (false, e)
  else
  (fail_sort kind).bind fun t =>
  if (decide (t = (0 : Int))) = true then
  some (false, (1 : Int))
  else
  some (f.any (fun c => decide (c.1 = kind)), (0 : Int))
/-! ### onceweb/oncewebref03.Has -/
inductive L_ref03_Has where
  | l7 (f : (List tCrack)) (kind : Int) (i : Int)
noncomputable def sg_ref03_Has_7 (f : (List tCrack)) (kind : Int) (i : Int) : Option (L_ref03_Has ⊕ (Bool × Int)) :=
  if (decide (i < (f.length : Int))) = true then
  (G (0 ≤ i ∧ i < (f.length : Int)) <|
  if (decide ((f.getD i.toNat dCrack).1 = kind)) = true then
  some (.inr (true, (0 : Int)))
  else
  some (.inl (.l7 f kind (w64 (i + (1 : Int))))))
  else
  some (.inr (false, (0 : Int)))
noncomputable def st_ref03_Has : L_ref03_Has → Option (L_ref03_Has ⊕ (Bool × Int))
  | .l7 f kind i => sg_ref03_Has_7 f kind i
noncomputable def en_ref03_Has (f : (List tCrack)) (kind : Int) : Option (L_ref03_Has ⊕ (Bool × Int)) :=
  (ref03_Check f).bind fun t9 =>
  if (!decide (t9 = (0 : Int))) = true then
  some (.inr (false, t9))
  else
  if ((decide (kind < (1 : Int))) || (decide ((11 : Int) < kind))) = true then
  some (.inr (false, (1 : Int)))
  else
  some (.inl (.l7 f kind (0 : Int)))
noncomputable def ref03_Has (f : (List tCrack)) (kind : Int) : Option (Bool × Int) := runL st_ref03_Has (en_ref03_Has f kind)
/-! ### onceweb/fail.ahead -/
inductive L_fail_ahead_o where
  | l3 (f : (List tCrack)) (from_ : (List Int)) (out : (List Int)) (x18 : (List Int)) (x19 : Int) (x20 : Int)
noncomputable def sg_fail_ahead_o_3 (rc : (List tCrack) → (List Int) → Int → (List Int) → Option (List Int)) (f : (List tCrack)) (from_ : (List Int)) (out : (List Int)) (x18 : (List Int)) (x19 : Int) (x20 : Int) : Option (L_fail_ahead_o ⊕ (List Int)) :=
  if (decide (x20 < x19)) = true then
  (G (0 ≤ x20 ∧ x20 < (x18.length : Int)) <|
  (rc f from_ (x18.getD x20.toNat (0 : Int)) out).bind fun t28 =>
  some (.inl (.l3 f from_ t28 x18 x19 (w64 (x20 + (1 : Int))))))
  else
  some (.inr out)
noncomputable def st_fail_ahead_o (rc : (List tCrack) → (List Int) → Int → (List Int) → Option (List Int)) : L_fail_ahead_o → Option (L_fail_ahead_o ⊕ (List Int))
  | .l3 f from_ out x18 x19 x20 => sg_fail_ahead_o_3 rc f from_ out x18 x19 x20
noncomputable def en_fail_ahead_o (rc : (List tCrack) → (List Int) → Int → (List Int) → Option (List Int)) (f : (List tCrack)) (from_ : (List Int)) (at_ : Int) (out : (List Int)) : Option (L_fail_ahead_o ⊕ (List Int)) :=
  G ((out.length + ([at_] : List Int).length) * 8 ≤ 140737488355328) <|
  (fail_parts f from_ at_).bind fun t18 =>
  some (.inl (.l3 f from_ (out ++ ([at_] : List Int)) t18 (t18.length : Int) (0 : Int)))
noncomputable def fail_ahead_o_n : Nat → (List tCrack) → (List Int) → Int → (List Int) → Option (List Int)
  | 0, _, _, _, _ => none
  | n + 1, f, from_, at_, out => runL (st_fail_ahead_o (fail_ahead_o_n n)) (en_fail_ahead_o (fail_ahead_o_n n) f from_ at_ out)
noncomputable def fail_ahead_o (f : (List tCrack)) (from_ : (List Int)) (at_ : Int) (out : (List Int)) : Option (List Int) := fail_ahead_o_n 4096 f from_ at_ out
/-! ### onceweb/fail.First -/
inductive L_fail_First where
  | l8 (f : (List tCrack)) (kind : Int) (from_ : (List Int)) (x29 : (List Int)) (x30 : Int) (x31 : Int)
noncomputable def sg_fail_First_8 (f : (List tCrack)) (kind : Int) (from_ : (List Int)) (x29 : (List Int)) (x30 : Int) (x31 : Int) : Option (L_fail_First ⊕ ((List tCrack) × Int)) :=
  if (decide (x31 < x30)) = true then
  (G (0 ≤ x31 ∧ x31 < (x29.length : Int)) <|
  G (0 ≤ (x29.getD x31.toNat (0 : Int)) ∧ (x29.getD x31.toNat (0 : Int)) < (f.length : Int)) <|
  if (decide ((f.getD (x29.getD x31.toNat (0 : Int)).toNat dCrack).1 = kind)) = true then
  (G (0 ≤ (x29.getD x31.toNat (0 : Int)) ∧ (x29.getD x31.toNat (0 : Int)) < (from_.length : Int)) <|
  G (0 ≤ (from_.getD (x29.getD x31.toNat (0 : Int)).toNat (0 : Int)) ∧ (from_.getD (x29.getD x31.toNat (0 : Int)).toNat (0 : Int)) ≤ (w64 ((x29.getD x31.toNat (0 : Int)) + (1 : Int))) ∧ (w64 ((x29.getD x31.toNat (0 : Int)) + (1 : Int))) ≤ (f.length : Int)) <|
  (slices_Clone (cut f (from_.getD (x29.getD x31.toNat (0 : Int)).toNat (0 : Int)).toNat (w64 ((x29.getD x31.toNat (0 : Int)) + (1 : Int))).toNat)).bind fun t50 =>
  some (.inr (t50, (0 : Int))))
  else
  some (.inl (.l8 f kind from_ x29 x30 (w64 (x31 + (1 : Int))))))
  else
  some (.inr (([] : List tCrack), (4 : Int)))
noncomputable def st_fail_First : L_fail_First → Option (L_fail_First ⊕ ((List tCrack) × Int))
  | .l8 f kind from_ x29 x30 x31 => sg_fail_First_8 f kind from_ x29 x30 x31
noncomputable def en_fail_First (f : (List tCrack)) (kind : Int) : Option (L_fail_First ⊕ ((List tCrack) × Int)) :=
  (fail_Check f).bind fun t12 =>
  if (!decide (t12 = (0 : Int))) = true then
  some (.inr (([] : List tCrack), t12))
  else
  (fail_sort kind).bind fun t17 =>
  if (decide (t17 = (0 : Int))) = true then
  some (.inr (([] : List tCrack), (1 : Int)))
  else
  (fail_begins f).bind fun t21 =>
  (fail_ahead_o f t21.1 (w64 ((f.length : Int) - (1 : Int))) ([] : List Int)).bind fun t29 =>
  some (.inl (.l8 f kind t21.1 t29 (t29.length : Int) (0 : Int)))
noncomputable def fail_First (f : (List tCrack)) (kind : Int) : Option ((List tCrack) × Int) := runL st_fail_First (en_fail_First f kind)
/-! ### onceweb/oncewebref03.sub -/
noncomputable def ref03_sub (f : (List tCrack)) (at_ : Int) : Option (List tCrack) :=
  (ref03_begins f).bind fun t9 =>
  G (0 ≤ at_ ∧ at_ < (t9.1.length : Int)) <|
  G (0 ≤ (t9.1.getD at_.toNat (0 : Int)) ∧ (t9.1.getD at_.toNat (0 : Int)) ≤ (w64 (at_ + (1 : Int))) ∧ (w64 (at_ + (1 : Int))) ≤ (f.length : Int)) <|
  (base_CopyFail (cut f (t9.1.getD at_.toNat (0 : Int)).toNat (w64 (at_ + (1 : Int))).toNat)).bind fun t20 =>
  some t20
/-! ### onceweb/oncewebref03.First -/
inductive L_ref03_First where
  | l7 (f : (List tCrack)) (kind : Int) (todo : (List Int))
  | l14 (f : (List tCrack)) (kind : Int) (todo : (List Int)) (p : (List Int)) (i : Int)
noncomputable def sg_ref03_First_7 (f : (List tCrack)) (kind : Int) (todo : (List Int)) : Option (L_ref03_First ⊕ ((List tCrack) × Int)) :=
  if (decide ((0 : Int) < (todo.length : Int))) = true then
  (G (0 ≤ (w64 ((todo.length : Int) - (1 : Int))) ∧ (w64 ((todo.length : Int) - (1 : Int))) < (todo.length : Int)) <|
  G (0 ≤ (w64 ((todo.length : Int) - (1 : Int))) ∧ (w64 ((todo.length : Int) - (1 : Int))) ≤ (todo.length : Int)) <|
  G (0 ≤ (todo.getD ((w64 ((todo.length : Int) - (1 : Int))).toNat) (0 : Int)) ∧ (todo.getD ((w64 ((todo.length : Int) - (1 : Int))).toNat) (0 : Int)) < (f.length : Int)) <|
  if (decide ((f.getD (todo.getD ((w64 ((todo.length : Int) - (1 : Int))).toNat) (0 : Int)).toNat dCrack).1 = kind)) = true then
  ((ref03_sub f (todo.getD ((w64 ((todo.length : Int) - (1 : Int))).toNat) (0 : Int))).bind fun t50 =>
  some (.inr (t50, (0 : Int))))
  else
  (ref03_parts f (todo.getD ((w64 ((todo.length : Int) - (1 : Int))).toNat) (0 : Int))).bind fun t53 =>
  some (.inl (.l14 f kind (todo.take ((w64 ((todo.length : Int) - (1 : Int))).toNat)) t53 (w64 ((t53.length : Int) - (1 : Int))))))
  else
  some (.inr (([] : List tCrack), (4 : Int)))
noncomputable def sg_ref03_First_14 (f : (List tCrack)) (kind : Int) (todo : (List Int)) (p : (List Int)) (i : Int) : Option (L_ref03_First ⊕ ((List tCrack) × Int)) :=
  if (decide ((0 : Int) ≤ i)) = true then
  (G (0 ≤ i ∧ i < (p.length : Int)) <|
  G ((todo.length + ([(p.getD i.toNat (0 : Int))] : List Int).length) * 8 ≤ 140737488355328) <|
  some (.inl (.l14 f kind (todo ++ ([(p.getD i.toNat (0 : Int))] : List Int)) p (w64 (i - (1 : Int))))))
  else
  some (.inl (.l7 f kind todo))
noncomputable def st_ref03_First : L_ref03_First → Option (L_ref03_First ⊕ ((List tCrack) × Int))
  | .l7 f kind todo => sg_ref03_First_7 f kind todo
  | .l14 f kind todo p i => sg_ref03_First_14 f kind todo p i
noncomputable def en_ref03_First (f : (List tCrack)) (kind : Int) : Option (L_ref03_First ⊕ ((List tCrack) × Int)) :=
  (ref03_Has f kind).bind fun t15 =>
  if (!decide (t15.2 = (0 : Int))) = true then
  some (.inr (([] : List tCrack), t15.2))
  else
  if (!t15.1) = true then
  some (.inr (([] : List tCrack), (4 : Int)))
  else
  some (.inl (.l7 f kind ([(w64 ((f.length : Int) - (1 : Int)))] : List Int)))
noncomputable def ref03_First (f : (List tCrack)) (kind : Int) : Option ((List tCrack) × Int) := runL st_ref03_First (en_ref03_First f kind)
/-! ### onceweb/onceweblaw03.FailFinds -/
noncomputable def law03_FailFinds (f : (List tCrack)) (g : (List tCrack)) (kind : Int) : Option Bool :=
  (base_CopyFail f).bind fun t16 =>
  (base_CopyFail g).bind fun t18 =>
  (fail_Is t16 t18).bind fun t22 =>
  (ref03_Is f g).bind fun t28 =>
  if ((!(t22.1 == t28.1)) || (!decide (t22.2 = t28.2))) = true then
  some false
  else
  (fail_Has t16 kind).bind fun t42 =>
  (ref03_Has f kind).bind fun t48 =>
  if ((!(t42.1 == t48.1)) || (!decide (t42.2 = t48.2))) = true then
  some false
  else
  (fail_First t16 kind).bind fun t62 =>
  (ref03_First f kind).bind fun t68 =>
  (if (!(!decide (t62.2 = t68.2))) = true then base_SameFail t62.1 t68.1 else some false).bind fun t77 =>
  if ((!decide (t62.2 = t68.2)) || (!t77)) = true then
  some false
  else
  (base_SameFail t16 f).bind fun t84 =>
  (if t84 = true then base_SameFail t18 g else some false).bind fun t88 =>
  some (t84 && t88)
/-! ### onceweb/lex.Quote -/
inductive L_lex_Quote where
  | l4 (s_ : (List UInt8)) (out : (List UInt8)) (x14 : Int) (x15 : Int)
noncomputable def sg_lex_Quote_4 (s_ : (List UInt8)) (out : (List UInt8)) (x14 : Int) (x15 : Int) : Option (L_lex_Quote ⊕ (List UInt8)) :=
  if (decide (x15 < x14)) = true then
  (G (0 ≤ x15 ∧ x15 < (s_.length : Int)) <|
  if ((decide (((s_.getD x15.toNat 0).toNat : Int) = 34)) || (decide (((s_.getD x15.toNat 0).toNat : Int) = 92))) = true then
  (G ((out.length + ([(92 : UInt8), (s_.getD x15.toNat 0)] : List UInt8).length) * 1 ≤ 140737488355328) <|
  some (.inl (.l4 s_ (out ++ ([(92 : UInt8), (s_.getD x15.toNat 0)] : List UInt8)) x14 (w64 (x15 + (1 : Int))))))
  else
  if (decide (((s_.getD x15.toNat 0).toNat : Int) = 10)) = true then
  (G ((out.length + ([(92 : UInt8), (110 : UInt8)] : List UInt8).length) * 1 ≤ 140737488355328) <|
  some (.inl (.l4 s_ (out ++ ([(92 : UInt8), (110 : UInt8)] : List UInt8)) x14 (w64 (x15 + (1 : Int))))))
  else
  if ((decide (((s_.getD x15.toNat 0).toNat : Int) < 32)) || (decide (126 < ((s_.getD x15.toNat 0).toNat : Int)))) = true then
  (G (0 ≤ ((((Int.fdiv ((s_.getD x15.toNat 0).toNat : Int) (2 ^ (min ((4 : Int)).toNat IntKind.u8.bits)))).toNat.toUInt8).toNat : Int) ∧ ((((Int.fdiv ((s_.getD x15.toNat 0).toNat : Int) (2 ^ (min ((4 : Int)).toNat IntKind.u8.bits)))).toNat.toUInt8).toNat : Int) < (([48, 49, 50, 51, 52, 53, 54, 55, 56, 57, 97, 98, 99, 100, 101, 102] : List UInt8).length : Int)) <|
  G (0 ≤ ((((IntKind.wrap .u8 ((BitVec.ofInt IntKind.u8.bits ((s_.getD x15.toNat 0).toNat : Int) &&& BitVec.ofInt IntKind.u8.bits 15).toNat))).toNat.toUInt8).toNat : Int) ∧ ((((IntKind.wrap .u8 ((BitVec.ofInt IntKind.u8.bits ((s_.getD x15.toNat 0).toNat : Int) &&& BitVec.ofInt IntKind.u8.bits 15).toNat))).toNat.toUInt8).toNat : Int) < (([48, 49, 50, 51, 52, 53, 54, 55, 56, 57, 97, 98, 99, 100, 101, 102] : List UInt8).length : Int)) <|
  G ((out.length + ([(92 : UInt8), (120 : UInt8), (([48, 49, 50, 51, 52, 53, 54, 55, 56, 57, 97, 98, 99, 100, 101, 102] : List UInt8).getD ((((Int.fdiv ((s_.getD x15.toNat 0).toNat : Int) (2 ^ (min ((4 : Int)).toNat IntKind.u8.bits)))).toNat.toUInt8).toNat : Int).toNat 0), (([48, 49, 50, 51, 52, 53, 54, 55, 56, 57, 97, 98, 99, 100, 101, 102] : List UInt8).getD ((((IntKind.wrap .u8 ((BitVec.ofInt IntKind.u8.bits ((s_.getD x15.toNat 0).toNat : Int) &&& BitVec.ofInt IntKind.u8.bits 15).toNat))).toNat.toUInt8).toNat : Int).toNat 0)] : List UInt8).length) * 1 ≤ 140737488355328) <|
  some (.inl (.l4 s_ (out ++ ([(92 : UInt8), (120 : UInt8), (([48, 49, 50, 51, 52, 53, 54, 55, 56, 57, 97, 98, 99, 100, 101, 102] : List UInt8).getD ((((Int.fdiv ((s_.getD x15.toNat 0).toNat : Int) (2 ^ (min ((4 : Int)).toNat IntKind.u8.bits)))).toNat.toUInt8).toNat : Int).toNat 0), (([48, 49, 50, 51, 52, 53, 54, 55, 56, 57, 97, 98, 99, 100, 101, 102] : List UInt8).getD ((((IntKind.wrap .u8 ((BitVec.ofInt IntKind.u8.bits ((s_.getD x15.toNat 0).toNat : Int) &&& BitVec.ofInt IntKind.u8.bits 15).toNat))).toNat.toUInt8).toNat : Int).toNat 0)] : List UInt8)) x14 (w64 (x15 + (1 : Int))))))
  else
  G ((out.length + ([(s_.getD x15.toNat 0)] : List UInt8).length) * 1 ≤ 140737488355328) <|
  some (.inl (.l4 s_ (out ++ ([(s_.getD x15.toNat 0)] : List UInt8)) x14 (w64 (x15 + (1 : Int))))))
  else
  G ((out.length + ([(34 : UInt8)] : List UInt8).length) * 1 ≤ 140737488355328) <|
  some (.inr (out ++ ([(34 : UInt8)] : List UInt8)))
noncomputable def st_lex_Quote : L_lex_Quote → Option (L_lex_Quote ⊕ (List UInt8))
  | .l4 s_ out x14 x15 => sg_lex_Quote_4 s_ out x14 x15
noncomputable def en_lex_Quote (s_ : (List UInt8)) : Option (L_lex_Quote ⊕ (List UInt8)) :=
  G (0 ≤ (0 : Int) ∧ (0 : Int) ≤ (w64 ((s_.length : Int) + (2 : Int))) ∧ (1 : Int) * (w64 ((s_.length : Int) + (2 : Int))) ≤ 281474976710656) <|
  G (((List.replicate (0 : Int).toNat (0 : UInt8)).length + ([(34 : UInt8)] : List UInt8).length) * 1 ≤ 140737488355328) <|
  some (.inl (.l4 s_ ((List.replicate (0 : Int).toNat (0 : UInt8)) ++ ([(34 : UInt8)] : List UInt8)) (s_.length : Int) (0 : Int)))
noncomputable def lex_Quote (s_ : (List UInt8)) : Option (List UInt8) := runL st_lex_Quote (en_lex_Quote s_)
/-! ### onceweb/oncewebref01.Quote -/
inductive L_ref01_Quote where
  | l4 (s_ : (List UInt8)) (digits : (List UInt8)) (out : (List UInt8)) (i : Int)
noncomputable def sg_ref01_Quote_4 (s_ : (List UInt8)) (digits : (List UInt8)) (out : (List UInt8)) (i : Int) : Option (L_ref01_Quote ⊕ (List UInt8)) :=
  if (decide (i < (s_.length : Int))) = true then
  (G (0 ≤ i ∧ i < (s_.length : Int)) <|
  if ((decide (((s_.getD i.toNat 0).toNat : Int) = 34)) || (decide (((s_.getD i.toNat 0).toNat : Int) = 92))) = true then
  (G ((out.length + ([(92 : UInt8), (s_.getD i.toNat 0)] : List UInt8).length) * 1 ≤ 140737488355328) <|
  some (.inl (.l4 s_ digits (out ++ ([(92 : UInt8), (s_.getD i.toNat 0)] : List UInt8)) (w64 (i + (1 : Int))))))
  else
  if (decide (((s_.getD i.toNat 0).toNat : Int) = 10)) = true then
  (G ((out.length + ([(92 : UInt8), (110 : UInt8)] : List UInt8).length) * 1 ≤ 140737488355328) <|
  some (.inl (.l4 s_ digits (out ++ ([(92 : UInt8), (110 : UInt8)] : List UInt8)) (w64 (i + (1 : Int))))))
  else
  if ((decide (((s_.getD i.toNat 0).toNat : Int) < 32)) || (decide (126 < ((s_.getD i.toNat 0).toNat : Int)))) = true then
  (G (0 ≤ ((((IntKind.wrap .u8 (Int.tdiv ((s_.getD i.toNat 0).toNat : Int) 16))).toNat.toUInt8).toNat : Int) ∧ ((((IntKind.wrap .u8 (Int.tdiv ((s_.getD i.toNat 0).toNat : Int) 16))).toNat.toUInt8).toNat : Int) < (digits.length : Int)) <|
  G (0 ≤ ((((Int.tmod ((s_.getD i.toNat 0).toNat : Int) 16)).toNat.toUInt8).toNat : Int) ∧ ((((Int.tmod ((s_.getD i.toNat 0).toNat : Int) 16)).toNat.toUInt8).toNat : Int) < (digits.length : Int)) <|
  G ((out.length + ([(92 : UInt8), (120 : UInt8), (digits.getD ((((IntKind.wrap .u8 (Int.tdiv ((s_.getD i.toNat 0).toNat : Int) 16))).toNat.toUInt8).toNat : Int).toNat 0), (digits.getD ((((Int.tmod ((s_.getD i.toNat 0).toNat : Int) 16)).toNat.toUInt8).toNat : Int).toNat 0)] : List UInt8).length) * 1 ≤ 140737488355328) <|
  some (.inl (.l4 s_ digits (out ++ ([(92 : UInt8), (120 : UInt8), (digits.getD ((((IntKind.wrap .u8 (Int.tdiv ((s_.getD i.toNat 0).toNat : Int) 16))).toNat.toUInt8).toNat : Int).toNat 0), (digits.getD ((((Int.tmod ((s_.getD i.toNat 0).toNat : Int) 16)).toNat.toUInt8).toNat : Int).toNat 0)] : List UInt8)) (w64 (i + (1 : Int))))))
  else
  G ((out.length + ([(s_.getD i.toNat 0)] : List UInt8).length) * 1 ≤ 140737488355328) <|
  some (.inl (.l4 s_ digits (out ++ ([(s_.getD i.toNat 0)] : List UInt8)) (w64 (i + (1 : Int))))))
  else
  G ((out.length + ([(34 : UInt8)] : List UInt8).length) * 1 ≤ 140737488355328) <|
  some (.inr (out ++ ([(34 : UInt8)] : List UInt8)))
noncomputable def st_ref01_Quote : L_ref01_Quote → Option (L_ref01_Quote ⊕ (List UInt8))
  | .l4 s_ digits out i => sg_ref01_Quote_4 s_ digits out i
noncomputable def en_ref01_Quote (s_ : (List UInt8)) : Option (L_ref01_Quote ⊕ (List UInt8)) :=
  some (.inl (.l4 s_ ([48, 49, 50, 51, 52, 53, 54, 55, 56, 57, 97, 98, 99, 100, 101, 102] : List UInt8) ([(34 : UInt8)] : List UInt8) (0 : Int)))
noncomputable def ref01_Quote (s_ : (List UInt8)) : Option (List UInt8) := runL st_ref01_Quote (en_ref01_Quote s_)
/-! ### onceweb/oncewebref03.Print -/
inductive L_ref03_Print where
  | l6 (f : (List tCrack)) (stack : (List (List UInt8))) (i : Int)
  | l13 (f : (List tCrack)) (stack : (List (List UInt8))) (i : Int) (c : Int) (c' : Int) (c'' : (List UInt8)) (s_ : (List UInt8)) (inner : (List UInt8)) (k : Int)
  | l19 (f : (List tCrack)) (stack : (List (List UInt8))) (i : Int) (c : Int) (c' : Int) (c'' : (List UInt8)) (s_ : (List UInt8)) (inner : (List UInt8))
noncomputable def sg_ref03_Print_6 (f : (List tCrack)) (stack : (List (List UInt8))) (i : Int) : Option (L_ref03_Print ⊕ ((List UInt8) × Int)) :=
  if (decide (i < (f.length : Int))) = true then
  (G (0 ≤ i ∧ i < (f.length : Int)) <|
  if (decide ((0 : Int) < (f.getD i.toNat dCrack).2.1)) = true then
  some (.inl (.l13 f stack i ((f.getD i.toNat dCrack).1) ((f.getD i.toNat dCrack).2.1) ((f.getD i.toNat dCrack).2.2.1) ([] : List UInt8) ([] : List UInt8) (w64 ((stack.length : Int) - (f.getD i.toNat dCrack).2.1))))
  else
  some (.inl (.l19 f stack i ((f.getD i.toNat dCrack).1) ((f.getD i.toNat dCrack).2.1) ((f.getD i.toNat dCrack).2.2.1) ([] : List UInt8) ([] : List UInt8))))
  else
  G (0 ≤ (0 : Int) ∧ (0 : Int) < (stack.length : Int)) <|
  some (.inr ((stack.getD ((0 : Int).toNat) ([] : List UInt8)), (0 : Int)))
noncomputable def sg_ref03_Print_13 (f : (List tCrack)) (stack : (List (List UInt8))) (i : Int) (c : Int) (c' : Int) (c'' : (List UInt8)) (s_ : (List UInt8)) (inner : (List UInt8)) (k : Int) : Option (L_ref03_Print ⊕ ((List UInt8) × Int)) :=
  if (decide (k < (stack.length : Int))) = true then
  (if (decide ((w64 ((stack.length : Int) - c')) < k)) = true then
  (G (inner.length + ([59, 32] : List UInt8).length ≤ 9223372036854775807) <|
  G (0 ≤ k ∧ k < (stack.length : Int)) <|
  G ((inner ++ ([59, 32] : List UInt8)).length + (stack.getD k.toNat ([] : List UInt8)).length ≤ 9223372036854775807) <|
  some (.inl (.l13 f stack i c c' c'' s_ ((inner ++ ([59, 32] : List UInt8)) ++ (stack.getD k.toNat ([] : List UInt8))) (w64 (k + (1 : Int))))))
  else
  G (0 ≤ k ∧ k < (stack.length : Int)) <|
  G (inner.length + (stack.getD k.toNat ([] : List UInt8)).length ≤ 9223372036854775807) <|
  some (.inl (.l13 f stack i c c' c'' s_ (inner ++ (stack.getD k.toNat ([] : List UInt8))) (w64 (k + (1 : Int))))))
  else
  G (0 ≤ (w64 ((stack.length : Int) - c')) ∧ (w64 ((stack.length : Int) - c')) ≤ (stack.length : Int)) <|
  some (.inl (.l19 f (stack.take ((w64 ((stack.length : Int) - c')).toNat)) i c c' c'' s_ inner))
noncomputable def sg_ref03_Print_19 (f : (List tCrack)) (stack : (List (List UInt8))) (i : Int) (c : Int) (c' : Int) (c'' : (List UInt8)) (s_ : (List UInt8)) (inner : (List UInt8)) : Option (L_ref03_Print ⊕ ((List UInt8) × Int)) :=
  if (decide (c = (1 : Int))) = true then
  ((ref01_Quote c'').bind fun t69 =>
  G (([102, 97, 105, 108, 32] : List UInt8).length + t69.length ≤ 9223372036854775807) <|
  G ((stack.length + ([(([102, 97, 105, 108, 32] : List UInt8) ++ t69)] : List (List UInt8)).length) * 16 ≤ 140737488355328) <|
  some (.inl (.l6 f (stack ++ ([(([102, 97, 105, 108, 32] : List UInt8) ++ t69)] : List (List UInt8))) (w64 (i + (1 : Int))))))
  else
  if (decide (c = (2 : Int))) = true then
  ((ref01_Quote c'').bind fun t75 =>
  G (([112, 97, 110, 105, 99, 32] : List UInt8).length + t75.length ≤ 9223372036854775807) <|
  G ((stack.length + ([(([112, 97, 110, 105, 99, 32] : List UInt8) ++ t75)] : List (List UInt8)).length) * 16 ≤ 140737488355328) <|
  some (.inl (.l6 f (stack ++ ([(([112, 97, 110, 105, 99, 32] : List UInt8) ++ t75)] : List (List UInt8))) (w64 (i + (1 : Int))))))
  else
  if (decide (c = (3 : Int))) = true then
  (G (([118, 97, 108, 117, 101, 32] : List UInt8).length + c''.length ≤ 9223372036854775807) <|
  G ((stack.length + ([(([118, 97, 108, 117, 101, 32] : List UInt8) ++ c'')] : List (List UInt8)).length) * 16 ≤ 140737488355328) <|
  some (.inl (.l6 f (stack ++ ([(([118, 97, 108, 117, 101, 32] : List UInt8) ++ c'')] : List (List UInt8))) (w64 (i + (1 : Int))))))
  else
  if (decide (c = (4 : Int))) = true then
  (G (([110, 111, 110, 101, 32] : List UInt8).length + c''.length ≤ 9223372036854775807) <|
  G ((stack.length + ([(([110, 111, 110, 101, 32] : List UInt8) ++ c'')] : List (List UInt8)).length) * 16 ≤ 140737488355328) <|
  some (.inl (.l6 f (stack ++ ([(([110, 111, 110, 101, 32] : List UInt8) ++ c'')] : List (List UInt8))) (w64 (i + (1 : Int))))))
  else
  if (decide (c = (5 : Int))) = true then
  (G (([99, 121, 99, 108, 101, 32] : List UInt8).length + c''.length ≤ 9223372036854775807) <|
  G ((stack.length + ([(([99, 121, 99, 108, 101, 32] : List UInt8) ++ c'')] : List (List UInt8)).length) * 16 ≤ 140737488355328) <|
  some (.inl (.l6 f (stack ++ ([(([99, 121, 99, 108, 101, 32] : List UInt8) ++ c'')] : List (List UInt8))) (w64 (i + (1 : Int))))))
  else
  if (decide (c = (6 : Int))) = true then
  (G ((stack.length + ([([100, 101, 112, 116, 104] : List UInt8)] : List (List UInt8)).length) * 16 ≤ 140737488355328) <|
  some (.inl (.l6 f (stack ++ ([([100, 101, 112, 116, 104] : List UInt8)] : List (List UInt8))) (w64 (i + (1 : Int))))))
  else
  if (decide (c = (7 : Int))) = true then
  (G ((stack.length + ([([99, 108, 111, 115, 101, 100] : List UInt8)] : List (List UInt8)).length) * 16 ≤ 140737488355328) <|
  some (.inl (.l6 f (stack ++ ([([99, 108, 111, 115, 101, 100] : List UInt8)] : List (List UInt8))) (w64 (i + (1 : Int))))))
  else
  if (decide (c = (11 : Int))) = true then
  (G ((stack.length + ([([108, 111, 110, 103] : List UInt8)] : List (List UInt8)).length) * 16 ≤ 140737488355328) <|
  some (.inl (.l6 f (stack ++ ([([108, 111, 110, 103] : List UInt8)] : List (List UInt8))) (w64 (i + (1 : Int))))))
  else
  if (decide (c = (8 : Int))) = true then
  ((ref01_Quote c'').bind fun t102 =>
  G (([116, 111, 107, 101, 110, 32] : List UInt8).length + t102.length ≤ 9223372036854775807) <|
  if (decide (c' = (1 : Int))) = true then
  (G (([58, 32] : List UInt8).length + inner.length ≤ 9223372036854775807) <|
  G ((([116, 111, 107, 101, 110, 32] : List UInt8) ++ t102).length + (([58, 32] : List UInt8) ++ inner).length ≤ 9223372036854775807) <|
  G ((stack.length + ([((([116, 111, 107, 101, 110, 32] : List UInt8) ++ t102) ++ (([58, 32] : List UInt8) ++ inner))] : List (List UInt8)).length) * 16 ≤ 140737488355328) <|
  some (.inl (.l6 f (stack ++ ([((([116, 111, 107, 101, 110, 32] : List UInt8) ++ t102) ++ (([58, 32] : List UInt8) ++ inner))] : List (List UInt8))) (w64 (i + (1 : Int))))))
  else
  G ((stack.length + ([(([116, 111, 107, 101, 110, 32] : List UInt8) ++ t102)] : List (List UInt8)).length) * 16 ≤ 140737488355328) <|
  some (.inl (.l6 f (stack ++ ([(([116, 111, 107, 101, 110, 32] : List UInt8) ++ t102)] : List (List UInt8))) (w64 (i + (1 : Int))))))
  else
  if (decide (c = (9 : Int))) = true then
  (G (([99, 101, 108, 108, 32] : List UInt8).length + c''.length ≤ 9223372036854775807) <|
  G ((([99, 101, 108, 108, 32] : List UInt8) ++ c'').length + ([58, 32] : List UInt8).length ≤ 9223372036854775807) <|
  G (((([99, 101, 108, 108, 32] : List UInt8) ++ c'') ++ ([58, 32] : List UInt8)).length + inner.length ≤ 9223372036854775807) <|
  G ((stack.length + ([(((([99, 101, 108, 108, 32] : List UInt8) ++ c'') ++ ([58, 32] : List UInt8)) ++ inner)] : List (List UInt8)).length) * 16 ≤ 140737488355328) <|
  some (.inl (.l6 f (stack ++ ([(((([99, 101, 108, 108, 32] : List UInt8) ++ c'') ++ ([58, 32] : List UInt8)) ++ inner)] : List (List UInt8))) (w64 (i + (1 : Int))))))
  else
  if (decide (c = (10 : Int))) = true then
  (G (([106, 111, 105, 110, 40] : List UInt8).length + inner.length ≤ 9223372036854775807) <|
  G ((([106, 111, 105, 110, 40] : List UInt8) ++ inner).length + ([41] : List UInt8).length ≤ 9223372036854775807) <|
  G ((stack.length + ([((([106, 111, 105, 110, 40] : List UInt8) ++ inner) ++ ([41] : List UInt8))] : List (List UInt8)).length) * 16 ≤ 140737488355328) <|
  some (.inl (.l6 f (stack ++ ([((([106, 111, 105, 110, 40] : List UInt8) ++ inner) ++ ([41] : List UInt8))] : List (List UInt8))) (w64 (i + (1 : Int))))))
  else
  G ((stack.length + ([s_] : List (List UInt8)).length) * 16 ≤ 140737488355328) <|
  some (.inl (.l6 f (stack ++ ([s_] : List (List UInt8))) (w64 (i + (1 : Int)))))
noncomputable def st_ref03_Print : L_ref03_Print → Option (L_ref03_Print ⊕ ((List UInt8) × Int))
  | .l6 f stack i => sg_ref03_Print_6 f stack i
  | .l13 f stack i c c' c'' s_ inner k => sg_ref03_Print_13 f stack i c c' c'' s_ inner k
  | .l19 f stack i c c' c'' s_ inner => sg_ref03_Print_19 f stack i c c' c'' s_ inner
noncomputable def en_ref03_Print (f : (List tCrack)) : Option (L_ref03_Print ⊕ ((List UInt8) × Int)) :=
  (ref03_Check f).bind fun t12 =>
  if (!decide (t12 = (0 : Int))) = true then
  some (.inr (([] : List UInt8), t12))
  else
  some (.inl (.l6 f ([] : List (List UInt8)) (0 : Int)))
noncomputable def ref03_Print (f : (List tCrack)) : Option ((List UInt8) × Int) := runL st_ref03_Print (en_ref03_Print f)
/-! ### internal/stringslite.HasPrefix -/
noncomputable def stringslite_HasPrefix (s_ : (List UInt8)) (prefix_ : (List UInt8)) : Option Bool :=
  G ((decide ((prefix_.length : Int) ≤ (s_.length : Int))) = true → (0 ≤ (prefix_.length : Int) ∧ (prefix_.length : Int) ≤ (s_.length : Int))) <|
  some ((decide ((prefix_.length : Int) ≤ (s_.length : Int))) && (decide ((s_.take (prefix_.length : Int).toNat) = prefix_)))
/-! ### strings.HasPrefix -/
noncomputable def strings_HasPrefix (s_ : (List UInt8)) (prefix_ : (List UInt8)) : Option Bool :=
  (stringslite_HasPrefix s_ prefix_).bind fun t7 =>
  some t7
/-! ### bytealg_IndexByteString -/
noncomputable def bytealg_IndexByteString (s_ : List UInt8) (c : UInt8) : Option Int := some (Lib.indexByte s_ c)
/-! ### internal/stringslite.IndexByte -/
noncomputable def stringslite_IndexByte (s_ : (List UInt8)) (c : UInt8) : Option Int :=
  (bytealg_IndexByteString s_ c).bind fun t7 =>
  some t7
/-! ### strings.IndexByte -/
noncomputable def strings_IndexByte (s_ : (List UInt8)) (c : UInt8) : Option Int :=
  (stringslite_IndexByte s_ c).bind fun t7 =>
  some t7
/-! ### onceweb/lex.escaped -/
noncomputable def lex_escaped (s_ : (List UInt8)) (at_ : Int) : Option (UInt8 × Int) :=
  G (0 ≤ (w64 (at_ + (1 : Int))) ∧ (w64 (at_ + (1 : Int))) ≤ (s_.length : Int)) <|
  if (decide ((s_.drop (w64 (at_ + (1 : Int))).toNat) = ([] : List UInt8))) = true then
  some ((0 : UInt8), (0 : Int))
  else
  G (0 ≤ (0 : Int) ∧ (0 : Int) < ((s_.drop (w64 (at_ + (1 : Int))).toNat).length : Int)) <|
  if (decide ((((s_.drop (w64 (at_ + (1 : Int))).toNat).getD (0 : Int).toNat 0).toNat : Int) = 34)) = true then
  (if (decide ((((s_.drop (w64 (at_ + (1 : Int))).toNat).getD (0 : Int).toNat 0).toNat : Int) = 34)) = true then
  (G (0 ≤ (0 : Int) ∧ (0 : Int) < ((s_.drop (w64 (at_ + (1 : Int))).toNat).length : Int)) <|
  some (((s_.drop (w64 (at_ + (1 : Int))).toNat).getD (0 : Int).toNat 0), (2 : Int)))
  else
  if (decide ((((s_.drop (w64 (at_ + (1 : Int))).toNat).getD (0 : Int).toNat 0).toNat : Int) = 110)) = true then
  some ((10 : UInt8), (2 : Int))
  else
  if (decide ((((s_.drop (w64 (at_ + (1 : Int))).toNat).getD (0 : Int).toNat 0).toNat : Int) = 120)) = true then
  (if (decide (((s_.drop (w64 (at_ + (1 : Int))).toNat).length : Int) < (3 : Int))) = true then
  some ((0 : UInt8), (0 : Int))
  else
  G (0 ≤ (1 : Int) ∧ (1 : Int) < ((s_.drop (w64 (at_ + (1 : Int))).toNat).length : Int)) <|
  (strings_IndexByte ([48, 49, 50, 51, 52, 53, 54, 55, 56, 57, 97, 98, 99, 100, 101, 102] : List UInt8) ((s_.drop (w64 (at_ + (1 : Int))).toNat).getD (1 : Int).toNat 0)).bind fun t32 =>
  G (0 ≤ (2 : Int) ∧ (2 : Int) < ((s_.drop (w64 (at_ + (1 : Int))).toNat).length : Int)) <|
  (strings_IndexByte ([48, 49, 50, 51, 52, 53, 54, 55, 56, 57, 97, 98, 99, 100, 101, 102] : List UInt8) ((s_.drop (w64 (at_ + (1 : Int))).toNat).getD (2 : Int).toNat 0)).bind fun t35 =>
  if ((((decide (t32 < (0 : Int))) || (decide (t35 < (0 : Int)))) || (decide (((((IntKind.wrap .u8 ((w64 ((BitVec.ofInt IntKind.i64.bits (w64 (t32 * 2 ^ (min ((4 : Int)).toNat IntKind.i64.bits))) ||| BitVec.ofInt IntKind.i64.bits t35).toNat))))).toNat.toUInt8).toNat : Int) = 10))) || ((decide (32 ≤ ((((IntKind.wrap .u8 ((w64 ((BitVec.ofInt IntKind.i64.bits (w64 (t32 * 2 ^ (min ((4 : Int)).toNat IntKind.i64.bits))) ||| BitVec.ofInt IntKind.i64.bits t35).toNat))))).toNat.toUInt8).toNat : Int))) && (decide (((((IntKind.wrap .u8 ((w64 ((BitVec.ofInt IntKind.i64.bits (w64 (t32 * 2 ^ (min ((4 : Int)).toNat IntKind.i64.bits))) ||| BitVec.ofInt IntKind.i64.bits t35).toNat))))).toNat.toUInt8).toNat : Int) ≤ 126)))) = true then
  some ((0 : UInt8), (0 : Int))
  else
  some (((IntKind.wrap .u8 ((w64 ((BitVec.ofInt IntKind.i64.bits (w64 (t32 * 2 ^ (min ((4 : Int)).toNat IntKind.i64.bits))) ||| BitVec.ofInt IntKind.i64.bits t35).toNat))))).toNat.toUInt8, (4 : Int)))
  else
  some ((0 : UInt8), (0 : Int)))
  else
  if (decide ((((s_.drop (w64 (at_ + (1 : Int))).toNat).getD (0 : Int).toNat 0).toNat : Int) = 92)) = true then
  (G (0 ≤ (0 : Int) ∧ (0 : Int) < ((s_.drop (w64 (at_ + (1 : Int))).toNat).length : Int)) <|
  some (((s_.drop (w64 (at_ + (1 : Int))).toNat).getD (0 : Int).toNat 0), (2 : Int)))
  else
  if (decide ((((s_.drop (w64 (at_ + (1 : Int))).toNat).getD (0 : Int).toNat 0).toNat : Int) = 110)) = true then
  some ((10 : UInt8), (2 : Int))
  else
  if (decide ((((s_.drop (w64 (at_ + (1 : Int))).toNat).getD (0 : Int).toNat 0).toNat : Int) = 120)) = true then
  (if (decide (((s_.drop (w64 (at_ + (1 : Int))).toNat).length : Int) < (3 : Int))) = true then
  some ((0 : UInt8), (0 : Int))
  else
  G (0 ≤ (1 : Int) ∧ (1 : Int) < ((s_.drop (w64 (at_ + (1 : Int))).toNat).length : Int)) <|
  (strings_IndexByte ([48, 49, 50, 51, 52, 53, 54, 55, 56, 57, 97, 98, 99, 100, 101, 102] : List UInt8) ((s_.drop (w64 (at_ + (1 : Int))).toNat).getD (1 : Int).toNat 0)).bind fun t32 =>
  G (0 ≤ (2 : Int) ∧ (2 : Int) < ((s_.drop (w64 (at_ + (1 : Int))).toNat).length : Int)) <|
  (strings_IndexByte ([48, 49, 50, 51, 52, 53, 54, 55, 56, 57, 97, 98, 99, 100, 101, 102] : List UInt8) ((s_.drop (w64 (at_ + (1 : Int))).toNat).getD (2 : Int).toNat 0)).bind fun t35 =>
  if ((((decide (t32 < (0 : Int))) || (decide (t35 < (0 : Int)))) || (decide (((((IntKind.wrap .u8 ((w64 ((BitVec.ofInt IntKind.i64.bits (w64 (t32 * 2 ^ (min ((4 : Int)).toNat IntKind.i64.bits))) ||| BitVec.ofInt IntKind.i64.bits t35).toNat))))).toNat.toUInt8).toNat : Int) = 10))) || ((decide (32 ≤ ((((IntKind.wrap .u8 ((w64 ((BitVec.ofInt IntKind.i64.bits (w64 (t32 * 2 ^ (min ((4 : Int)).toNat IntKind.i64.bits))) ||| BitVec.ofInt IntKind.i64.bits t35).toNat))))).toNat.toUInt8).toNat : Int))) && (decide (((((IntKind.wrap .u8 ((w64 ((BitVec.ofInt IntKind.i64.bits (w64 (t32 * 2 ^ (min ((4 : Int)).toNat IntKind.i64.bits))) ||| BitVec.ofInt IntKind.i64.bits t35).toNat))))).toNat.toUInt8).toNat : Int) ≤ 126)))) = true then
  some ((0 : UInt8), (0 : Int))
  else
  some (((IntKind.wrap .u8 ((w64 ((BitVec.ofInt IntKind.i64.bits (w64 (t32 * 2 ^ (min ((4 : Int)).toNat IntKind.i64.bits))) ||| BitVec.ofInt IntKind.i64.bits t35).toNat))))).toNat.toUInt8, (4 : Int)))
  else
  some ((0 : UInt8), (0 : Int))
/-! ### onceweb/lex.quoted -/
inductive L_lex_quoted where
  | l5 (s_ : (List UInt8)) (at_ : Int) (out : (List UInt8))
noncomputable def sg_lex_quoted_5 (s_ : (List UInt8)) (at_ : Int) (out : (List UInt8)) : Option (L_lex_quoted ⊕ ((List UInt8) × Int × Bool)) :=
  if (decide (at_ < (s_.length : Int))) = true then
  (G (0 ≤ at_ ∧ at_ < (s_.length : Int)) <|
  if (decide (((s_.getD at_.toNat 0).toNat : Int) = 34)) = true then
  some (.inr (out, (w64 (at_ + (1 : Int))), true))
  else
  if (decide (((s_.getD at_.toNat 0).toNat : Int) = 92)) = true then
  ((lex_escaped s_ at_).bind fun t50 =>
  if (decide (t50.2 = (0 : Int))) = true then
  some (.inr (([] : List UInt8), (0 : Int), false))
  else
  G ((out.length + ([t50.1] : List UInt8).length) * 1 ≤ 140737488355328) <|
  some (.inl (.l5 s_ (w64 (at_ + t50.2)) (out ++ ([t50.1] : List UInt8)))))
  else
  if ((decide (((s_.getD at_.toNat 0).toNat : Int) < 32)) || (decide (126 < ((s_.getD at_.toNat 0).toNat : Int)))) = true then
  some (.inr (([] : List UInt8), (0 : Int), false))
  else
  G ((out.length + ([(s_.getD at_.toNat 0)] : List UInt8).length) * 1 ≤ 140737488355328) <|
  some (.inl (.l5 s_ (w64 (at_ + (1 : Int))) (out ++ ([(s_.getD at_.toNat 0)] : List UInt8)))))
  else
  some (.inr (([] : List UInt8), (0 : Int), false))
noncomputable def st_lex_quoted : L_lex_quoted → Option (L_lex_quoted ⊕ ((List UInt8) × Int × Bool))
  | .l5 s_ at_ out => sg_lex_quoted_5 s_ at_ out
noncomputable def en_lex_quoted (s_ : (List UInt8)) (at_ : Int) : Option (L_lex_quoted ⊕ ((List UInt8) × Int × Bool)) :=
  G ((!(decide ((s_.length : Int) ≤ at_))) = true → (0 ≤ at_ ∧ at_ < (s_.length : Int))) <|
  if ((decide ((s_.length : Int) ≤ at_)) || (!decide (((s_.getD at_.toNat 0).toNat : Int) = 34))) = true then
  some (.inr (([] : List UInt8), (0 : Int), false))
  else
  some (.inl (.l5 s_ (w64 (at_ + (1 : Int))) ([] : List UInt8)))
noncomputable def lex_quoted (s_ : (List UInt8)) (at_ : Int) : Option ((List UInt8) × Int × Bool) := runL st_lex_quoted (en_lex_quoted s_ at_)
/-! ### onceweb/lex.Unquote -/
noncomputable def lex_Unquote (s_ : (List UInt8)) : Option ((List UInt8) × Bool) :=
  (lex_quoted s_ (0 : Int)).bind fun t9 =>
  if ((!t9.2.2) || (!decide (t9.2.1 = (s_.length : Int)))) = true then
  some (([] : List UInt8), false)
  else
  some (t9.1, true)
/-! ### onceweb/oncewebref03.word -/
inductive L_ref03_word where
  | l2 (s_ : (List UInt8)) (at_ : Int) (end_ : Int)
noncomputable def sg_ref03_word_2 (s_ : (List UInt8)) (at_ : Int) (end_ : Int) : Option (L_ref03_word ⊕ ((List UInt8) × Int)) :=
  G ((decide (end_ < (s_.length : Int))) = true → (0 ≤ end_ ∧ end_ < (s_.length : Int))) <|
  G (((decide (end_ < (s_.length : Int))) && (decide (97 ≤ ((s_.getD end_.toNat 0).toNat : Int)))) = true → (0 ≤ end_ ∧ end_ < (s_.length : Int))) <|
  G (((decide (end_ < (s_.length : Int))) && !((decide (97 ≤ ((s_.getD end_.toNat 0).toNat : Int))) && (decide (((s_.getD end_.toNat 0).toNat : Int) ≤ 122)))) = true → (0 ≤ end_ ∧ end_ < (s_.length : Int))) <|
  G ((((decide (end_ < (s_.length : Int))) && !((decide (97 ≤ ((s_.getD end_.toNat 0).toNat : Int))) && (decide (((s_.getD end_.toNat 0).toNat : Int) ≤ 122)))) && (decide (48 ≤ ((s_.getD end_.toNat 0).toNat : Int)))) = true → (0 ≤ end_ ∧ end_ < (s_.length : Int))) <|
  G (((decide (end_ < (s_.length : Int))) && !(((decide (97 ≤ ((s_.getD end_.toNat 0).toNat : Int))) && (decide (((s_.getD end_.toNat 0).toNat : Int) ≤ 122))) || ((decide (48 ≤ ((s_.getD end_.toNat 0).toNat : Int))) && (decide (((s_.getD end_.toNat 0).toNat : Int) ≤ 57))))) = true → (0 ≤ end_ ∧ end_ < (s_.length : Int))) <|
  if ((decide (end_ < (s_.length : Int))) && ((((decide (97 ≤ ((s_.getD end_.toNat 0).toNat : Int))) && (decide (((s_.getD end_.toNat 0).toNat : Int) ≤ 122))) || ((decide (48 ≤ ((s_.getD end_.toNat 0).toNat : Int))) && (decide (((s_.getD end_.toNat 0).toNat : Int) ≤ 57)))) || (decide (((s_.getD end_.toNat 0).toNat : Int) = 95)))) = true then
  some (.inl (.l2 s_ at_ (w64 (end_ + (1 : Int)))))
  else
  G (0 ≤ at_ ∧ at_ ≤ end_ ∧ end_ ≤ (s_.length : Int)) <|
  some (.inr ((cut s_ at_.toNat end_.toNat), end_))
noncomputable def st_ref03_word : L_ref03_word → Option (L_ref03_word ⊕ ((List UInt8) × Int))
  | .l2 s_ at_ end_ => sg_ref03_word_2 s_ at_ end_
noncomputable def en_ref03_word (s_ : (List UInt8)) (at_ : Int) : Option (L_ref03_word ⊕ ((List UInt8) × Int)) :=
  some (.inl (.l2 s_ at_ at_))
noncomputable def ref03_word (s_ : (List UInt8)) (at_ : Int) : Option ((List UInt8) × Int) := runL st_ref03_word (en_ref03_word s_ at_)
/-! ### onceweb/oncewebref03.begin -/
noncomputable def ref03_begin (s_ : (List UInt8)) (at_ : Int) (w : (List UInt8)) : Option Bool :=
  G ((decide ((w.length : Int) ≤ (w64 ((s_.length : Int) - at_)))) = true → (0 ≤ at_ ∧ at_ ≤ (w64 (at_ + (w.length : Int))) ∧ (w64 (at_ + (w.length : Int))) ≤ (s_.length : Int))) <|
  some ((decide ((w.length : Int) ≤ (w64 ((s_.length : Int) - at_)))) && (decide ((cut s_ at_.toNat (w64 (at_ + (w.length : Int))).toNat) = w)))
/-! ### onceweb/oncewebref01.hex -/
noncomputable def ref01_hex (c : UInt8) : Option Int :=
  if ((decide (48 ≤ (c.toNat : Int))) && (decide ((c.toNat : Int) ≤ 57))) = true then
  some (w64 (((((IntKind.wrap .u8 ((c.toNat : Int) - 48))).toNat.toUInt8).toNat : Int)))
  else
  if ((decide (97 ≤ (c.toNat : Int))) && (decide ((c.toNat : Int) ≤ 102))) = true then
  some (w64 ((w64 (((((IntKind.wrap .u8 ((c.toNat : Int) - 97))).toNat.toUInt8).toNat : Int))) + (10 : Int)))
  else
  some (-1 : Int)
/-! ### onceweb/oncewebref01.quoted -/
inductive L_ref01_quoted where
  | l5 (s_ : (List UInt8)) (out : (List UInt8)) (i : Int)
noncomputable def sg_ref01_quoted_5 (s_ : (List UInt8)) (out : (List UInt8)) (i : Int) : Option (L_ref01_quoted ⊕ (Int × (List UInt8) × Bool)) :=
  if (decide (i < (s_.length : Int))) = true then
  (G (0 ≤ i ∧ i < (s_.length : Int)) <|
  if (decide (((s_.getD i.toNat 0).toNat : Int) = 34)) = true then
  some (.inr ((w64 (i + (1 : Int))), out, true))
  else
  if (!decide (((s_.getD i.toNat 0).toNat : Int) = 92)) = true then
  (if ((decide (((s_.getD i.toNat 0).toNat : Int) < 32)) || (decide (126 < ((s_.getD i.toNat 0).toNat : Int)))) = true then
  some (.inr ((0 : Int), ([] : List UInt8), false))
  else
  G ((out.length + ([(s_.getD i.toNat 0)] : List UInt8).length) * 1 ≤ 140737488355328) <|
  some (.inl (.l5 s_ (out ++ ([(s_.getD i.toNat 0)] : List UInt8)) (w64 (i + (1 : Int))))))
  else
  G ((decide ((w64 (i + (1 : Int))) < (s_.length : Int))) = true → (0 ≤ (w64 (i + (1 : Int))) ∧ (w64 (i + (1 : Int))) < (s_.length : Int))) <|
  G (((decide ((w64 (i + (1 : Int))) < (s_.length : Int))) && !(decide (((s_.getD (w64 (i + (1 : Int))).toNat 0).toNat : Int) = 34))) = true → (0 ≤ (w64 (i + (1 : Int))) ∧ (w64 (i + (1 : Int))) < (s_.length : Int))) <|
  if ((decide ((w64 (i + (1 : Int))) < (s_.length : Int))) && ((decide (((s_.getD (w64 (i + (1 : Int))).toNat 0).toNat : Int) = 34)) || (decide (((s_.getD (w64 (i + (1 : Int))).toNat 0).toNat : Int) = 92)))) = true then
  (G (0 ≤ (w64 (i + (1 : Int))) ∧ (w64 (i + (1 : Int))) < (s_.length : Int)) <|
  G ((out.length + ([(s_.getD (w64 (i + (1 : Int))).toNat 0)] : List UInt8).length) * 1 ≤ 140737488355328) <|
  some (.inl (.l5 s_ (out ++ ([(s_.getD (w64 (i + (1 : Int))).toNat 0)] : List UInt8)) (w64 (i + (2 : Int))))))
  else
  G ((decide ((w64 (i + (1 : Int))) < (s_.length : Int))) = true → (0 ≤ (w64 (i + (1 : Int))) ∧ (w64 (i + (1 : Int))) < (s_.length : Int))) <|
  if ((decide ((w64 (i + (1 : Int))) < (s_.length : Int))) && (decide (((s_.getD (w64 (i + (1 : Int))).toNat 0).toNat : Int) = 110))) = true then
  (G ((out.length + ([(10 : UInt8)] : List UInt8).length) * 1 ≤ 140737488355328) <|
  some (.inl (.l5 s_ (out ++ ([(10 : UInt8)] : List UInt8)) (w64 (i + (2 : Int))))))
  else
  G ((decide ((w64 (i + (3 : Int))) < (s_.length : Int))) = true → (0 ≤ (w64 (i + (1 : Int))) ∧ (w64 (i + (1 : Int))) < (s_.length : Int))) <|
  G (((decide ((w64 (i + (3 : Int))) < (s_.length : Int))) && (decide (((s_.getD (w64 (i + (1 : Int))).toNat 0).toNat : Int) = 120))) = true → (0 ≤ (w64 (i + (2 : Int))) ∧ (w64 (i + (2 : Int))) < (s_.length : Int))) <|
  (if ((decide ((w64 (i + (3 : Int))) < (s_.length : Int))) && (decide (((s_.getD (w64 (i + (1 : Int))).toNat 0).toNat : Int) = 120))) = true then ref01_hex (s_.getD (w64 (i + (2 : Int))).toNat 0) else some (0 : Int)).bind fun t118 =>
  G ((((decide ((w64 (i + (3 : Int))) < (s_.length : Int))) && (decide (((s_.getD (w64 (i + (1 : Int))).toNat 0).toNat : Int) = 120))) && (decide ((0 : Int) ≤ t118))) = true → (0 ≤ (w64 (i + (3 : Int))) ∧ (w64 (i + (3 : Int))) < (s_.length : Int))) <|
  (if (((decide ((w64 (i + (3 : Int))) < (s_.length : Int))) && (decide (((s_.getD (w64 (i + (1 : Int))).toNat 0).toNat : Int) = 120))) && (decide ((0 : Int) ≤ t118))) = true then ref01_hex (s_.getD (w64 (i + (3 : Int))).toNat 0) else some (0 : Int)).bind fun t126 =>
  if ((((decide ((w64 (i + (3 : Int))) < (s_.length : Int))) && (decide (((s_.getD (w64 (i + (1 : Int))).toNat 0).toNat : Int) = 120))) && (decide ((0 : Int) ≤ t118))) && (decide ((0 : Int) ≤ t126))) = true then
  (G (0 ≤ (w64 (i + (2 : Int))) ∧ (w64 (i + (2 : Int))) < (s_.length : Int)) <|
  (ref01_hex (s_.getD (w64 (i + (2 : Int))).toNat 0)).bind fun t133 =>
  G (0 ≤ (w64 (i + (3 : Int))) ∧ (w64 (i + (3 : Int))) < (s_.length : Int)) <|
  (ref01_hex (s_.getD (w64 (i + (3 : Int))).toNat 0)).bind fun t139 =>
  if (((decide (32 ≤ ((((IntKind.wrap .u8 ((w64 ((w64 ((16 : Int) * t133)) + t139))))).toNat.toUInt8).toNat : Int))) && (decide (((((IntKind.wrap .u8 ((w64 ((w64 ((16 : Int) * t133)) + t139))))).toNat.toUInt8).toNat : Int) ≤ 126))) || (decide (((((IntKind.wrap .u8 ((w64 ((w64 ((16 : Int) * t133)) + t139))))).toNat.toUInt8).toNat : Int) = 10))) = true then
  some (.inr ((0 : Int), ([] : List UInt8), false))
  else
  G ((out.length + ([((IntKind.wrap .u8 ((w64 ((w64 ((16 : Int) * t133)) + t139))))).toNat.toUInt8] : List UInt8).length) * 1 ≤ 140737488355328) <|
  some (.inl (.l5 s_ (out ++ ([((IntKind.wrap .u8 ((w64 ((w64 ((16 : Int) * t133)) + t139))))).toNat.toUInt8] : List UInt8)) (w64 (i + (4 : Int))))))
  else
  some (.inr ((0 : Int), ([] : List UInt8), false)))
  else
  some (.inr ((0 : Int), ([] : List UInt8), false))
noncomputable def st_ref01_quoted : L_ref01_quoted → Option (L_ref01_quoted ⊕ (Int × (List UInt8) × Bool))
  | .l5 s_ out i => sg_ref01_quoted_5 s_ out i
noncomputable def en_ref01_quoted (s_ : (List UInt8)) (at_ : Int) : Option (L_ref01_quoted ⊕ (Int × (List UInt8) × Bool)) :=
  G ((!(decide ((s_.length : Int) ≤ at_))) = true → (0 ≤ at_ ∧ at_ < (s_.length : Int))) <|
  if ((decide ((s_.length : Int) ≤ at_)) || (!decide (((s_.getD at_.toNat 0).toNat : Int) = 34))) = true then
  some (.inr ((0 : Int), ([] : List UInt8), false))
  else
  some (.inl (.l5 s_ ([] : List UInt8) (w64 (at_ + (1 : Int)))))
noncomputable def ref01_quoted (s_ : (List UInt8)) (at_ : Int) : Option (Int × (List UInt8) × Bool) := runL st_ref01_quoted (en_ref01_quoted s_ at_)
/-! ### onceweb/oncewebref01.Unquote -/
noncomputable def ref01_Unquote (s_ : (List UInt8)) : Option ((List UInt8) × Bool) :=
  (ref01_quoted s_ (0 : Int)).bind fun t9 =>
  if ((!t9.2.2) || (!decide (t9.1 = (s_.length : Int)))) = true then
  some (([] : List UInt8), false)
  else
  some (t9.2.1, true)
/-! ### onceweb/oncewebref03.text -/
inductive L_ref03_text where
  | l4 (s_ : (List UInt8)) (at_ : Int) (end_ : Int)
noncomputable def sg_ref03_text_4 (s_ : (List UInt8)) (at_ : Int) (end_ : Int) : Option (L_ref03_text ⊕ ((List UInt8) × Int × Bool)) :=
  G ((decide (end_ < (s_.length : Int))) = true → (0 ≤ end_ ∧ end_ < (s_.length : Int))) <|
  if ((decide (end_ < (s_.length : Int))) && (!decide (((s_.getD end_.toNat 0).toNat : Int) = 34))) = true then
  (G (0 ≤ end_ ∧ end_ < (s_.length : Int)) <|
  if (decide (((s_.getD end_.toNat 0).toNat : Int) = 92)) = true then
  some (.inl (.l4 s_ at_ (w64 ((w64 (end_ + (1 : Int))) + (1 : Int)))))
  else
  some (.inl (.l4 s_ at_ (w64 (end_ + (1 : Int))))))
  else
  if (decide ((s_.length : Int) ≤ end_)) = true then
  some (.inr (([] : List UInt8), (0 : Int), false))
  else
  G (0 ≤ at_ ∧ at_ ≤ (w64 (end_ + (1 : Int))) ∧ (w64 (end_ + (1 : Int))) ≤ (s_.length : Int)) <|
  (ref01_Unquote (cut s_ at_.toNat (w64 (end_ + (1 : Int))).toNat)).bind fun t50 =>
  some (.inr (t50.1, (w64 (end_ + (1 : Int))), t50.2))
noncomputable def st_ref03_text : L_ref03_text → Option (L_ref03_text ⊕ ((List UInt8) × Int × Bool))
  | .l4 s_ at_ end_ => sg_ref03_text_4 s_ at_ end_
noncomputable def en_ref03_text (s_ : (List UInt8)) (at_ : Int) : Option (L_ref03_text ⊕ ((List UInt8) × Int × Bool)) :=
  G ((!(decide ((s_.length : Int) ≤ at_))) = true → (0 ≤ at_ ∧ at_ < (s_.length : Int))) <|
  if ((decide ((s_.length : Int) ≤ at_)) || (!decide (((s_.getD at_.toNat 0).toNat : Int) = 34))) = true then
  some (.inr (([] : List UInt8), (0 : Int), false))
  else
  some (.inl (.l4 s_ at_ (w64 (at_ + (1 : Int)))))
noncomputable def ref03_text (s_ : (List UInt8)) (at_ : Int) : Option ((List UInt8) × Int × Bool) := runL st_ref03_text (en_ref03_text s_ at_)
end Go.Eng
