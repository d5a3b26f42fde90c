/- A part of the proof: Lyd. -/
import Derived.Test.YthgemanfbanhnaaDoorD3
import Derived.Test.YthgemanfbanhnaaDoorDvV
namespace Go.Eng
set_option linter.unusedVariables false
set_option linter.unusedSimpArgs false

abbrev tyToken : Ty := rowOf [(.int .i64), (.int .i64), (.int .i64), .str]
abbrev tToken := Int × Int × Int × (List UInt8) × Unit
abbrev dToken : tToken := ((0 : Int), (0 : Int), (0 : Int), ([] : List UInt8), ())
abbrev tyFault : Ty := rowOf [(.int .i64), (.int .i64)]
abbrev tFault := Int × Int × Unit
abbrev dFault : tFault := ((0 : Int), (0 : Int), ())
def gl_onceweb_lex_keys : List (List UInt8) := [[99, 101, 108, 108], [97, 103, 97, 105, 110], [116, 114, 105, 101, 115], [98, 97, 115, 101], [102, 97, 99, 116, 111, 114], [99, 97, 112], [99, 108, 111, 115, 101], [102, 105, 110, 101], [102, 97, 105, 108], [112, 97, 110, 105, 99], [105, 102], [116, 104, 101, 110], [101, 108, 115, 101], [116, 114, 121], [119, 97, 105, 116], [108, 101, 116], [105, 110], [105, 116, 101, 109], [115, 105, 122, 101]]
/-! ### onceweb/lex.digit -/
noncomputable def lex_digit (c : UInt8) : Option Bool :=
  some ((decide (48 ≤ (c.toNat : Int))) && (decide ((c.toNat : Int) ≤ 57)))
/-! ### onceweb/lex.Number -/
inductive L_lex_Number where
  | l5 (s_ : (List UInt8)) (n : Int) (x19 : Int) (x20 : Int)
noncomputable def sg_lex_Number_5 (s_ : (List UInt8)) (n : Int) (x19 : Int) (x20 : Int) : Option (L_lex_Number ⊕ (Int × Bool)) :=
  if (decide (x20 < x19)) = true then
  (G (0 ≤ x20 ∧ x20 < (s_.length : Int)) <|
  (lex_digit (s_.getD x20.toNat 0)).bind fun t26 =>
  if (!t26) = true then
  some (.inr ((0 : Int), false))
  else
  G (0 ≤ x20 ∧ x20 < (s_.length : Int)) <|
  if (decide ((9007199254740992 : Int) < (w64 ((w64 ((10 : Int) * n)) + (w64 (((((IntKind.wrap .u8 (((s_.getD x20.toNat 0).toNat : Int) - 48))).toNat.toUInt8).toNat : Int))))))) = true then
  some (.inr ((0 : Int), false))
  else
  some (.inl (.l5 s_ (w64 ((w64 ((10 : Int) * n)) + (w64 (((((IntKind.wrap .u8 (((s_.getD x20.toNat 0).toNat : Int) - 48))).toNat.toUInt8).toNat : Int))))) x19 (w64 (x20 + (1 : Int))))))
  else
  some (.inr (n, true))
noncomputable def st_lex_Number : L_lex_Number → Option (L_lex_Number ⊕ (Int × Bool))
  | .l5 s_ n x19 x20 => sg_lex_Number_5 s_ n x19 x20
noncomputable def en_lex_Number (s_ : (List UInt8)) : Option (L_lex_Number ⊕ (Int × Bool)) :=
  G (((!(decide (s_ = ([] : List UInt8)))) && (decide ((1 : Int) < (s_.length : Int)))) = true → (0 ≤ (0 : Int) ∧ (0 : Int) < (s_.length : Int))) <|
  if ((decide (s_ = ([] : List UInt8))) || ((decide ((1 : Int) < (s_.length : Int))) && (decide (((s_.getD (0 : Int).toNat 0).toNat : Int) = 48)))) = true then
  some (.inr ((0 : Int), false))
  else
  some (.inl (.l5 s_ (0 : Int) (s_.length : Int) (0 : Int)))
noncomputable def lex_Number (s_ : (List UInt8)) : Option (Int × Bool) := runL st_lex_Number (en_lex_Number s_)
/-! ### onceweb/oncewebbase.Whole -/
inductive L_base_Whole where
  | l5 (s_ : (List UInt8)) (most : Int) (n : Int) (i : Int)
noncomputable def sg_base_Whole_5 (s_ : (List UInt8)) (most : Int) (n : Int) (i : Int) : Option (L_base_Whole ⊕ (Int × Bool)) :=
  if (decide (i < (s_.length : Int))) = true then
  (G (0 ≤ i ∧ i < (s_.length : Int)) <|
  G ((!(decide (((s_.getD i.toNat 0).toNat : Int) < 48))) = true → (0 ≤ i ∧ i < (s_.length : Int))) <|
  if ((decide (((s_.getD i.toNat 0).toNat : Int) < 48)) || (decide (57 < ((s_.getD i.toNat 0).toNat : Int)))) = true then
  some (.inr ((0 : Int), false))
  else
  G (0 ≤ i ∧ i < (s_.length : Int)) <|
  if (decide ((w64 (Int.tdiv (w64 (most - (w64 (((((IntKind.wrap .u8 (((s_.getD i.toNat 0).toNat : Int) - 48))).toNat.toUInt8).toNat : Int))))) (10 : Int))) < n)) = true then
  some (.inr ((0 : Int), false))
  else
  some (.inl (.l5 s_ most (w64 ((w64 (n * (10 : Int))) + (w64 (((((IntKind.wrap .u8 (((s_.getD i.toNat 0).toNat : Int) - 48))).toNat.toUInt8).toNat : Int))))) (w64 (i + (1 : Int))))))
  else
  some (.inr (n, (decide (n ≤ most))))
noncomputable def st_base_Whole : L_base_Whole → Option (L_base_Whole ⊕ (Int × Bool))
  | .l5 s_ most n i => sg_base_Whole_5 s_ most n i
noncomputable def en_base_Whole (s_ : (List UInt8)) (most : Int) : Option (L_base_Whole ⊕ (Int × Bool)) :=
  G ((!((decide (s_ = ([] : List UInt8))) || (decide ((19 : Int) < (s_.length : Int))))) = true → (0 ≤ (0 : Int) ∧ (0 : Int) < (s_.length : Int))) <|
  if (((decide (s_ = ([] : List UInt8))) || (decide ((19 : Int) < (s_.length : Int)))) || ((decide (((s_.getD (0 : Int).toNat 0).toNat : Int) = 48)) && (decide ((1 : Int) < (s_.length : Int))))) = true then
  some (.inr ((0 : Int), false))
  else
  some (.inl (.l5 s_ most (0 : Int) (0 : Int)))
noncomputable def base_Whole (s_ : (List UInt8)) (most : Int) : Option (Int × Bool) := runL st_base_Whole (en_base_Whole s_ most)
/-! ### onceweb/oncewebref01.Number -/
noncomputable def ref01_Number (s_ : (List UInt8)) : Option (Int × Bool) :=
  (base_Whole s_ (9007199254740992 : Int)).bind fun t5 =>
  some (t5.1, t5.2)
/-! ### slices.Index[[]string,string] -/
inductive L_slices_Index where
  | l2 (s_ : (List (List UInt8))) (v : (List UInt8)) (x7 : Int) (x8 : Int)
noncomputable def sg_slices_Index_2 (s_ : (List (List UInt8))) (v : (List UInt8)) (x7 : Int) (x8 : Int) : Option (L_slices_Index ⊕ Int) :=
  if (decide (x8 < x7)) = true then
  (G (0 ≤ x8 ∧ x8 < (s_.length : Int)) <|
  if (decide (v = (s_.getD x8.toNat ([] : List UInt8)))) = true then
  some (.inr x8)
  else
  some (.inl (.l2 s_ v x7 (w64 (x8 + (1 : Int))))))
  else
  some (.inr (-1 : Int))
noncomputable def st_slices_Index : L_slices_Index → Option (L_slices_Index ⊕ Int)
  | .l2 s_ v x7 x8 => sg_slices_Index_2 s_ v x7 x8
noncomputable def en_slices_Index (s_ : (List (List UInt8))) (v : (List UInt8)) : Option (L_slices_Index ⊕ Int) :=
  some (.inl (.l2 s_ v (s_.length : Int) (0 : Int)))
noncomputable def slices_Index (s_ : (List (List UInt8))) (v : (List UInt8)) : Option Int := runL st_slices_Index (en_slices_Index s_ v)
/-! ### slices.Contains[[]string,string] -/
noncomputable def slices_Contains (s_ : (List (List UInt8))) (v : (List UInt8)) : Option Bool :=
  (slices_Index s_ v).bind fun t7 =>
  some (decide ((0 : Int) ≤ t7))
/-! ### onceweb/lex.IsKey -/
noncomputable def lex_IsKey (s_ : (List UInt8)) : Option Bool :=
  (slices_Contains gl_onceweb_lex_keys s_).bind fun t5 =>
  some t5
/-! ### onceweb/lex.letter -/
noncomputable def lex_letter (c : UInt8) : Option Bool :=
  some ((decide (97 ≤ (c.toNat : Int))) && (decide ((c.toNat : Int) ≤ 122)))
/-! ### onceweb/lex.word -/
inductive L_lex_word where
  | l3 (s_ : (List UInt8)) (at_ : Int)
noncomputable def sg_lex_word_3 (s_ : (List UInt8)) (at_ : Int) : Option (L_lex_word ⊕ Int) :=
  G ((decide (at_ < (s_.length : Int))) = true → (0 ≤ at_ ∧ at_ < (s_.length : Int))) <|
  (if (decide (at_ < (s_.length : Int))) = true then lex_letter (s_.getD at_.toNat 0) else some false).bind fun t25 =>
  G (((decide (at_ < (s_.length : Int))) && !t25) = true → (0 ≤ at_ ∧ at_ < (s_.length : Int))) <|
  (if ((decide (at_ < (s_.length : Int))) && !t25) = true then lex_digit (s_.getD at_.toNat 0) else some false).bind fun t30 =>
  G (((decide (at_ < (s_.length : Int))) && !(t25 || t30)) = true → (0 ≤ at_ ∧ at_ < (s_.length : Int))) <|
  if ((decide (at_ < (s_.length : Int))) && ((t25 || t30) || (decide (((s_.getD at_.toNat 0).toNat : Int) = 95)))) = true then
  some (.inl (.l3 s_ (w64 (at_ + (1 : Int)))))
  else
  some (.inr at_)
noncomputable def st_lex_word : L_lex_word → Option (L_lex_word ⊕ Int)
  | .l3 s_ at_ => sg_lex_word_3 s_ at_
noncomputable def en_lex_word (s_ : (List UInt8)) (at_ : Int) : Option (L_lex_word ⊕ Int) :=
  G ((!(decide ((s_.length : Int) ≤ at_))) = true → (0 ≤ at_ ∧ at_ < (s_.length : Int))) <|
  (if (!(decide ((s_.length : Int) ≤ at_))) = true then lex_letter (s_.getD at_.toNat 0) else some false).bind fun t13 =>
  if ((decide ((s_.length : Int) ≤ at_)) || (!t13)) = true then
  some (.inr at_)
  else
  some (.inl (.l3 s_ at_))
noncomputable def lex_word (s_ : (List UInt8)) (at_ : Int) : Option Int := runL st_lex_word (en_lex_word s_ at_)
/-! ### onceweb/lex.IsName -/
noncomputable def lex_IsName (s_ : (List UInt8)) : Option Bool :=
  (if ((!decide (s_ = ([] : List UInt8))) && (decide ((s_.length : Int) ≤ (24 : Int)))) = true then lex_word s_ (0 : Int) else some (0 : Int)).bind fun t12 =>
  (if (((!decide (s_ = ([] : List UInt8))) && (decide ((s_.length : Int) ≤ (24 : Int)))) && (decide (t12 = (s_.length : Int)))) = true then lex_IsKey s_ else some false).bind fun t19 =>
  some ((((!decide (s_ = ([] : List UInt8))) && (decide ((s_.length : Int) ≤ (24 : Int)))) && (decide (t12 = (s_.length : Int)))) && (!t19))
/-! ### onceweb/oncewebbase.In -/
inductive L_base_In where
  | l2 (l : (List (List UInt8))) (s_ : (List UInt8)) (i : Int)
noncomputable def sg_base_In_2 (l : (List (List UInt8))) (s_ : (List UInt8)) (i : Int) : Option (L_base_In ⊕ Bool) :=
  if (decide (i < (l.length : Int))) = true then
  (G (0 ≤ i ∧ i < (l.length : Int)) <|
  if (decide ((l.getD i.toNat ([] : List UInt8)) = s_)) = true then
  some (.inr true)
  else
  some (.inl (.l2 l s_ (w64 (i + (1 : Int))))))
  else
  some (.inr false)
noncomputable def st_base_In : L_base_In → Option (L_base_In ⊕ Bool)
  | .l2 l s_ i => sg_base_In_2 l s_ i
noncomputable def en_base_In (l : (List (List UInt8))) (s_ : (List UInt8)) : Option (L_base_In ⊕ Bool) :=
  some (.inl (.l2 l s_ (0 : Int)))
noncomputable def base_In (l : (List (List UInt8))) (s_ : (List UInt8)) : Option Bool := runL st_base_In (en_base_In l s_)
/-! ### onceweb/oncewebbase.Keys -/
noncomputable def base_Keys  : Option (List (List UInt8)) :=
  some ([([99, 101, 108, 108] : List UInt8), ([97, 103, 97, 105, 110] : List UInt8), ([116, 114, 105, 101, 115] : List UInt8), ([98, 97, 115, 101] : List UInt8), ([102, 97, 99, 116, 111, 114] : List UInt8), ([99, 97, 112] : List UInt8), ([99, 108, 111, 115, 101] : List UInt8), ([102, 105, 110, 101] : List UInt8), ([102, 97, 105, 108] : List UInt8), ([112, 97, 110, 105, 99] : List UInt8), ([105, 102] : List UInt8), ([116, 104, 101, 110] : List UInt8), ([101, 108, 115, 101] : List UInt8), ([116, 114, 121] : List UInt8), ([119, 97, 105, 116] : List UInt8), ([108, 101, 116] : List UInt8), ([105, 110] : List UInt8), ([105, 116, 101, 109] : List UInt8), ([115, 105, 122, 101] : List UInt8)] : List (List UInt8))
/-! ### onceweb/oncewebbase.Word -/
inductive L_base_Word where
  | l4 (s_ : (List UInt8)) (i : Int)
noncomputable def sg_base_Word_4 (s_ : (List UInt8)) (i : Int) : Option (L_base_Word ⊕ Bool) :=
  if (decide (i < (s_.length : Int))) = true then
  (G (0 ≤ i ∧ i < (s_.length : Int)) <|
  if (!((((decide (97 ≤ ((s_.getD i.toNat 0).toNat : Int))) && (decide (((s_.getD i.toNat 0).toNat : Int) ≤ 122))) || ((decide (48 ≤ ((s_.getD i.toNat 0).toNat : Int))) && (decide (((s_.getD i.toNat 0).toNat : Int) ≤ 57)))) || (decide (((s_.getD i.toNat 0).toNat : Int) = 95)))) = true then
  some (.inr false)
  else
  some (.inl (.l4 s_ (w64 (i + (1 : Int))))))
  else
  some (.inr true)
noncomputable def st_base_Word : L_base_Word → Option (L_base_Word ⊕ Bool)
  | .l4 s_ i => sg_base_Word_4 s_ i
noncomputable def en_base_Word (s_ : (List UInt8)) : Option (L_base_Word ⊕ Bool) :=
  G ((!(decide (s_ = ([] : List UInt8)))) = true → (0 ≤ (0 : Int) ∧ (0 : Int) < (s_.length : Int))) <|
  G ((!((decide (s_ = ([] : List UInt8))) || (decide (((s_.getD (0 : Int).toNat 0).toNat : Int) < 97)))) = true → (0 ≤ (0 : Int) ∧ (0 : Int) < (s_.length : Int))) <|
  if (((decide (s_ = ([] : List UInt8))) || (decide (((s_.getD (0 : Int).toNat 0).toNat : Int) < 97))) || (decide (122 < ((s_.getD (0 : Int).toNat 0).toNat : Int)))) = true then
  some (.inr false)
  else
  some (.inl (.l4 s_ (1 : Int)))
noncomputable def base_Word (s_ : (List UInt8)) : Option Bool := runL st_base_Word (en_base_Word s_)
/-! ### onceweb/oncewebbase.Name -/
noncomputable def base_Name (s_ : (List UInt8)) : Option Bool :=
  (if (decide ((s_.length : Int) ≤ (24 : Int))) = true then base_Word s_ else some false).bind fun t8 =>
  (if ((decide ((s_.length : Int) ≤ (24 : Int))) && t8) = true then base_Keys else some ([] : List (List UInt8))).bind fun t11 =>
  (if ((decide ((s_.length : Int) ≤ (24 : Int))) && t8) = true then base_In t11 s_ else some false).bind fun t13 =>
  some (((decide ((s_.length : Int) ≤ (24 : Int))) && t8) && (!t13))
/-! ### onceweb/oncewebref01.IsName -/
noncomputable def ref01_IsName (s_ : (List UInt8)) : Option Bool :=
  (base_Name s_).bind fun t4 =>
  some t4
/-! ### onceweb/oncewebref01.IsKey -/
noncomputable def ref01_IsKey (s_ : (List UInt8)) : Option Bool :=
  (base_Keys).bind fun t3 =>
  (base_In t3 s_).bind fun t5 =>
  some t5
/-! ### onceweb/onceweblaw01.LexWords -/
noncomputable def law01_LexWords (s_ : (List UInt8)) : Option Bool :=
  (lex_Number s_).bind fun t9 =>
  (ref01_Number s_).bind fun t14 =>
  (lex_IsName s_).bind fun t18 =>
  (ref01_IsName s_).bind fun t20 =>
  (if (t18 == t20) = true then lex_IsKey s_ else some false).bind fun t24 =>
  (if (t18 == t20) = true then ref01_IsKey s_ else some false).bind fun t26 =>
  some ((((t18 == t20) && (t24 == t26)) && (decide (t9.1 = t14.1))) && (t9.2 == t14.2))
/-! ### onceweb/lex.blank -/
inductive L_lex_blank where
  | l1 (s_ : (List UInt8)) (at_ : Int)
  | l8 (s_ : (List UInt8)) (at_ : Int)
noncomputable def sg_lex_blank_1 (s_ : (List UInt8)) (at_ : Int) : Option (L_lex_blank ⊕ Int) :=
  if (decide (at_ < (s_.length : Int))) = true then
  (G (0 ≤ at_ ∧ at_ < (s_.length : Int)) <|
  if (decide (((s_.getD at_.toNat 0).toNat : Int) = 35)) = true then
  some (.inl (.l8 s_ at_))
  else
  if (decide (((s_.getD at_.toNat 0).toNat : Int) = 9)) = true then
  (if (decide (((s_.getD at_.toNat 0).toNat : Int) = 9)) = true then
  some (.inl (.l1 s_ (w64 (at_ + (1 : Int)))))
  else
  some (.inr at_))
  else
  if (decide (((s_.getD at_.toNat 0).toNat : Int) = 10)) = true then
  (if (decide (((s_.getD at_.toNat 0).toNat : Int) = 10)) = true then
  some (.inl (.l1 s_ (w64 (at_ + (1 : Int)))))
  else
  some (.inr at_))
  else
  if (decide (((s_.getD at_.toNat 0).toNat : Int) = 13)) = true then
  (if (decide (((s_.getD at_.toNat 0).toNat : Int) = 13)) = true then
  some (.inl (.l1 s_ (w64 (at_ + (1 : Int)))))
  else
  some (.inr at_))
  else
  if (decide (((s_.getD at_.toNat 0).toNat : Int) = 32)) = true then
  some (.inl (.l1 s_ (w64 (at_ + (1 : Int)))))
  else
  some (.inr at_))
  else
  some (.inr at_)
noncomputable def sg_lex_blank_8 (s_ : (List UInt8)) (at_ : Int) : Option (L_lex_blank ⊕ Int) :=
  G ((decide (at_ < (s_.length : Int))) = true → (0 ≤ at_ ∧ at_ < (s_.length : Int))) <|
  if ((decide (at_ < (s_.length : Int))) && (!decide (((s_.getD at_.toNat 0).toNat : Int) = 10))) = true then
  some (.inl (.l8 s_ (w64 (at_ + (1 : Int)))))
  else
  if (decide (at_ = (s_.length : Int))) = true then
  some (.inr at_)
  else
  some (.inl (.l1 s_ (w64 (at_ + (1 : Int)))))
noncomputable def st_lex_blank : L_lex_blank → Option (L_lex_blank ⊕ Int)
  | .l1 s_ at_ => sg_lex_blank_1 s_ at_
  | .l8 s_ at_ => sg_lex_blank_8 s_ at_
noncomputable def en_lex_blank (s_ : (List UInt8)) (at_ : Int) : Option (L_lex_blank ⊕ Int) :=
  some (.inl (.l1 s_ at_))
noncomputable def lex_blank (s_ : (List UInt8)) (at_ : Int) : Option Int := runL st_lex_blank (en_lex_blank s_ at_)
/-! ### bytealg_IndexByteString -/
noncomputable def bytealg_IndexByteString (s_ : List UInt8) (c : UInt8) : Option Int := some (Lib.indexByte s_ c)
/-! ### internal/stringslite.IndexByte -/
noncomputable def stringslite_IndexByte (s_ : (List UInt8)) (c : UInt8) : Option Int :=
  (bytealg_IndexByteString s_ c).bind fun t7 =>
  some t7
/-! ### strings.IndexByte -/
noncomputable def strings_IndexByte (s_ : (List UInt8)) (c : UInt8) : Option Int :=
  (stringslite_IndexByte s_ c).bind fun t7 =>
  some t7
/-! ### onceweb/lex.escaped -/
noncomputable def lex_escaped (s_ : (List UInt8)) (at_ : Int) : Option (UInt8 × Int) :=
  G (0 ≤ (w64 (at_ + (1 : Int))) ∧ (w64 (at_ + (1 : Int))) ≤ (s_.length : Int)) <|
  if (decide ((s_.drop (w64 (at_ + (1 : Int))).toNat) = ([] : List UInt8))) = true then
  some ((0 : UInt8), (0 : Int))
  else
  G (0 ≤ (0 : Int) ∧ (0 : Int) < ((s_.drop (w64 (at_ + (1 : Int))).toNat).length : Int)) <|
  if (decide ((((s_.drop (w64 (at_ + (1 : Int))).toNat).getD (0 : Int).toNat 0).toNat : Int) = 34)) = true then
  (if (decide ((((s_.drop (w64 (at_ + (1 : Int))).toNat).getD (0 : Int).toNat 0).toNat : Int) = 34)) = true then
  (G (0 ≤ (0 : Int) ∧ (0 : Int) < ((s_.drop (w64 (at_ + (1 : Int))).toNat).length : Int)) <|
  some (((s_.drop (w64 (at_ + (1 : Int))).toNat).getD (0 : Int).toNat 0), (2 : Int)))
  else
  if (decide ((((s_.drop (w64 (at_ + (1 : Int))).toNat).getD (0 : Int).toNat 0).toNat : Int) = 110)) = true then
  some ((10 : UInt8), (2 : Int))
  else
  if (decide ((((s_.drop (w64 (at_ + (1 : Int))).toNat).getD (0 : Int).toNat 0).toNat : Int) = 120)) = true then
  (if (decide (((s_.drop (w64 (at_ + (1 : Int))).toNat).length : Int) < (3 : Int))) = true then
  some ((0 : UInt8), (0 : Int))
  else
  G (0 ≤ (1 : Int) ∧ (1 : Int) < ((s_.drop (w64 (at_ + (1 : Int))).toNat).length : Int)) <|
  (strings_IndexByte ([48, 49, 50, 51, 52, 53, 54, 55, 56, 57, 97, 98, 99, 100, 101, 102] : List UInt8) ((s_.drop (w64 (at_ + (1 : Int))).toNat).getD (1 : Int).toNat 0)).bind fun t32 =>
  G (0 ≤ (2 : Int) ∧ (2 : Int) < ((s_.drop (w64 (at_ + (1 : Int))).toNat).length : Int)) <|
  (strings_IndexByte ([48, 49, 50, 51, 52, 53, 54, 55, 56, 57, 97, 98, 99, 100, 101, 102] : List UInt8) ((s_.drop (w64 (at_ + (1 : Int))).toNat).getD (2 : Int).toNat 0)).bind fun t35 =>
  if ((((decide (t32 < (0 : Int))) || (decide (t35 < (0 : Int)))) || (decide (((((IntKind.wrap .u8 ((w64 ((BitVec.ofInt IntKind.i64.bits (w64 (t32 * 2 ^ (min ((4 : Int)).toNat IntKind.i64.bits))) ||| BitVec.ofInt IntKind.i64.bits t35).toNat))))).toNat.toUInt8).toNat : Int) = 10))) || ((decide (32 ≤ ((((IntKind.wrap .u8 ((w64 ((BitVec.ofInt IntKind.i64.bits (w64 (t32 * 2 ^ (min ((4 : Int)).toNat IntKind.i64.bits))) ||| BitVec.ofInt IntKind.i64.bits t35).toNat))))).toNat.toUInt8).toNat : Int))) && (decide (((((IntKind.wrap .u8 ((w64 ((BitVec.ofInt IntKind.i64.bits (w64 (t32 * 2 ^ (min ((4 : Int)).toNat IntKind.i64.bits))) ||| BitVec.ofInt IntKind.i64.bits t35).toNat))))).toNat.toUInt8).toNat : Int) ≤ 126)))) = true then
  some ((0 : UInt8), (0 : Int))
  else
  some (((IntKind.wrap .u8 ((w64 ((BitVec.ofInt IntKind.i64.bits (w64 (t32 * 2 ^ (min ((4 : Int)).toNat IntKind.i64.bits))) ||| BitVec.ofInt IntKind.i64.bits t35).toNat))))).toNat.toUInt8, (4 : Int)))
  else
  some ((0 : UInt8), (0 : Int)))
  else
  if (decide ((((s_.drop (w64 (at_ + (1 : Int))).toNat).getD (0 : Int).toNat 0).toNat : Int) = 92)) = true then
  (G (0 ≤ (0 : Int) ∧ (0 : Int) < ((s_.drop (w64 (at_ + (1 : Int))).toNat).length : Int)) <|
  some (((s_.drop (w64 (at_ + (1 : Int))).toNat).getD (0 : Int).toNat 0), (2 : Int)))
  else
  if (decide ((((s_.drop (w64 (at_ + (1 : Int))).toNat).getD (0 : Int).toNat 0).toNat : Int) = 110)) = true then
  some ((10 : UInt8), (2 : Int))
  else
  if (decide ((((s_.drop (w64 (at_ + (1 : Int))).toNat).getD (0 : Int).toNat 0).toNat : Int) = 120)) = true then
  (if (decide (((s_.drop (w64 (at_ + (1 : Int))).toNat).length : Int) < (3 : Int))) = true then
  some ((0 : UInt8), (0 : Int))
  else
  G (0 ≤ (1 : Int) ∧ (1 : Int) < ((s_.drop (w64 (at_ + (1 : Int))).toNat).length : Int)) <|
  (strings_IndexByte ([48, 49, 50, 51, 52, 53, 54, 55, 56, 57, 97, 98, 99, 100, 101, 102] : List UInt8) ((s_.drop (w64 (at_ + (1 : Int))).toNat).getD (1 : Int).toNat 0)).bind fun t32 =>
  G (0 ≤ (2 : Int) ∧ (2 : Int) < ((s_.drop (w64 (at_ + (1 : Int))).toNat).length : Int)) <|
  (strings_IndexByte ([48, 49, 50, 51, 52, 53, 54, 55, 56, 57, 97, 98, 99, 100, 101, 102] : List UInt8) ((s_.drop (w64 (at_ + (1 : Int))).toNat).getD (2 : Int).toNat 0)).bind fun t35 =>
  if ((((decide (t32 < (0 : Int))) || (decide (t35 < (0 : Int)))) || (decide (((((IntKind.wrap .u8 ((w64 ((BitVec.ofInt IntKind.i64.bits (w64 (t32 * 2 ^ (min ((4 : Int)).toNat IntKind.i64.bits))) ||| BitVec.ofInt IntKind.i64.bits t35).toNat))))).toNat.toUInt8).toNat : Int) = 10))) || ((decide (32 ≤ ((((IntKind.wrap .u8 ((w64 ((BitVec.ofInt IntKind.i64.bits (w64 (t32 * 2 ^ (min ((4 : Int)).toNat IntKind.i64.bits))) ||| BitVec.ofInt IntKind.i64.bits t35).toNat))))).toNat.toUInt8).toNat : Int))) && (decide (((((IntKind.wrap .u8 ((w64 ((BitVec.ofInt IntKind.i64.bits (w64 (t32 * 2 ^ (min ((4 : Int)).toNat IntKind.i64.bits))) ||| BitVec.ofInt IntKind.i64.bits t35).toNat))))).toNat.toUInt8).toNat : Int) ≤ 126)))) = true then
  some ((0 : UInt8), (0 : Int))
  else
  some (((IntKind.wrap .u8 ((w64 ((BitVec.ofInt IntKind.i64.bits (w64 (t32 * 2 ^ (min ((4 : Int)).toNat IntKind.i64.bits))) ||| BitVec.ofInt IntKind.i64.bits t35).toNat))))).toNat.toUInt8, (4 : Int)))
  else
  some ((0 : UInt8), (0 : Int))
/-! ### onceweb/lex.quoted -/
inductive L_lex_quoted where
  | l5 (s_ : (List UInt8)) (at_ : Int) (out : (List UInt8))
noncomputable def sg_lex_quoted_5 (s_ : (List UInt8)) (at_ : Int) (out : (List UInt8)) : Option (L_lex_quoted ⊕ ((List UInt8) × Int × Bool)) :=
  if (decide (at_ < (s_.length : Int))) = true then
  (G (0 ≤ at_ ∧ at_ < (s_.length : Int)) <|
  if (decide (((s_.getD at_.toNat 0).toNat : Int) = 34)) = true then
  some (.inr (out, (w64 (at_ + (1 : Int))), true))
  else
  if (decide (((s_.getD at_.toNat 0).toNat : Int) = 92)) = true then
  ((lex_escaped s_ at_).bind fun t50 =>
  if (decide (t50.2 = (0 : Int))) = true then
  some (.inr (([] : List UInt8), (0 : Int), false))
  else
  G ((out.length + ([t50.1] : List UInt8).length) * 1 ≤ 140737488355328) <|
  some (.inl (.l5 s_ (w64 (at_ + t50.2)) (out ++ ([t50.1] : List UInt8)))))
  else
  if ((decide (((s_.getD at_.toNat 0).toNat : Int) < 32)) || (decide (126 < ((s_.getD at_.toNat 0).toNat : Int)))) = true then
  some (.inr (([] : List UInt8), (0 : Int), false))
  else
  G ((out.length + ([(s_.getD at_.toNat 0)] : List UInt8).length) * 1 ≤ 140737488355328) <|
  some (.inl (.l5 s_ (w64 (at_ + (1 : Int))) (out ++ ([(s_.getD at_.toNat 0)] : List UInt8)))))
  else
  some (.inr (([] : List UInt8), (0 : Int), false))
noncomputable def st_lex_quoted : L_lex_quoted → Option (L_lex_quoted ⊕ ((List UInt8) × Int × Bool))
  | .l5 s_ at_ out => sg_lex_quoted_5 s_ at_ out
noncomputable def en_lex_quoted (s_ : (List UInt8)) (at_ : Int) : Option (L_lex_quoted ⊕ ((List UInt8) × Int × Bool)) :=
  G ((!(decide ((s_.length : Int) ≤ at_))) = true → (0 ≤ at_ ∧ at_ < (s_.length : Int))) <|
  if ((decide ((s_.length : Int) ≤ at_)) || (!decide (((s_.getD at_.toNat 0).toNat : Int) = 34))) = true then
  some (.inr (([] : List UInt8), (0 : Int), false))
  else
  some (.inl (.l5 s_ (w64 (at_ + (1 : Int))) ([] : List UInt8)))
noncomputable def lex_quoted (s_ : (List UInt8)) (at_ : Int) : Option ((List UInt8) × Int × Bool) := runL st_lex_quoted (en_lex_quoted s_ at_)
/-! ### onceweb/lex.named -/
noncomputable def lex_named (w : (List UInt8)) (at_ : Int) : Option (tToken × Int) :=
  (lex_IsKey w).bind fun t7 =>
  if t7 = true then
  some ((((2 : Int), at_, (0 : Int), w, ()).1, ((2 : Int), at_, (0 : Int), w, ()).2.1, ((2 : Int), at_, (0 : Int), w, ()).2.2.1, ((2 : Int), at_, (0 : Int), w, ()).2.2.2.1, ()), (0 : Int))
  else
  if (decide ((24 : Int) < (w.length : Int))) = true then
  some ((((0 : Int), (0 : Int), (0 : Int), ([] : List UInt8), ()).1, ((0 : Int), (0 : Int), (0 : Int), ([] : List UInt8), ()).2.1, ((0 : Int), (0 : Int), (0 : Int), ([] : List UInt8), ()).2.2.1, ((0 : Int), (0 : Int), (0 : Int), ([] : List UInt8), ()).2.2.2.1, ()), (3 : Int))
  else
  some ((((1 : Int), at_, (0 : Int), w, ()).1, ((1 : Int), at_, (0 : Int), w, ()).2.1, ((1 : Int), at_, (0 : Int), w, ()).2.2.1, ((1 : Int), at_, (0 : Int), w, ()).2.2.2.1, ()), (0 : Int))
/-! ### internal/stringslite.HasPrefix -/
noncomputable def stringslite_HasPrefix (s_ : (List UInt8)) (prefix_ : (List UInt8)) : Option Bool :=
  G ((decide ((prefix_.length : Int) ≤ (s_.length : Int))) = true → (0 ≤ (prefix_.length : Int) ∧ (prefix_.length : Int) ≤ (s_.length : Int))) <|
  some ((decide ((prefix_.length : Int) ≤ (s_.length : Int))) && (decide ((s_.take (prefix_.length : Int).toNat) = prefix_)))
/-! ### strings.HasPrefix -/
noncomputable def strings_HasPrefix (s_ : (List UInt8)) (prefix_ : (List UInt8)) : Option Bool :=
  (stringslite_HasPrefix s_ prefix_).bind fun t7 =>
  some t7
/-! ### onceweb/lex.one -/
inductive L_lex_one where
  | l15 (s_ : (List UInt8)) (at_ : Int) (x4 : Int) (x4' : Int) (x4'' : Int) (x4''' : (List UInt8)) (end_ : Int)
  | l33 (s_ : (List UInt8)) (at_ : Int) (x4 : Int) (x4' : Int) (x4'' : Int) (x4''' : (List UInt8)) (n : Int)
noncomputable def sg_lex_one_15 (s_ : (List UInt8)) (at_ : Int) (x4 : Int) (x4' : Int) (x4'' : Int) (x4''' : (List UInt8)) (end_ : Int) : Option (L_lex_one ⊕ (tToken × Int × Int)) :=
  G ((decide (end_ < (s_.length : Int))) = true → (0 ≤ end_ ∧ end_ < (s_.length : Int))) <|
  (if (decide (end_ < (s_.length : Int))) = true then lex_digit (s_.getD end_.toNat 0) else some false).bind fun t80 =>
  if ((decide (end_ < (s_.length : Int))) && t80) = true then
  some (.inl (.l15 s_ at_ x4 x4' x4'' x4''' (w64 (end_ + (1 : Int)))))
  else
  G (0 ≤ at_ ∧ at_ ≤ end_ ∧ end_ ≤ (s_.length : Int)) <|
  (lex_Number (cut s_ at_.toNat end_.toNat)).bind fun t89 =>
  if (!t89.2) = true then
  some (.inr ((((0 : Int), (0 : Int), (0 : Int), ([] : List UInt8), ()).1, ((0 : Int), (0 : Int), (0 : Int), ([] : List UInt8), ()).2.1, ((0 : Int), (0 : Int), (0 : Int), ([] : List UInt8), ()).2.2.1, ((0 : Int), (0 : Int), (0 : Int), ([] : List UInt8), ()).2.2.2.1, ()), (0 : Int), (12 : Int)))
  else
  some (.inr ((((4 : Int), at_, t89.1, ([] : List UInt8), ()).1, ((4 : Int), at_, t89.1, ([] : List UInt8), ()).2.1, ((4 : Int), at_, t89.1, ([] : List UInt8), ()).2.2.1, ((4 : Int), at_, t89.1, ([] : List UInt8), ()).2.2.2.1, ()), end_, (0 : Int)))
noncomputable def sg_lex_one_33 (s_ : (List UInt8)) (at_ : Int) (x4 : Int) (x4' : Int) (x4'' : Int) (x4''' : (List UInt8)) (n : Int) : Option (L_lex_one ⊕ (tToken × Int × Int)) :=
  G (0 ≤ at_ ∧ at_ ≤ (w64 (at_ + n)) ∧ (w64 (at_ + n)) ≤ (s_.length : Int)) <|
  some (.inr ((((6 : Int), at_, (0 : Int), (cut s_ at_.toNat (w64 (at_ + n)).toNat), ()).1, ((6 : Int), at_, (0 : Int), (cut s_ at_.toNat (w64 (at_ + n)).toNat), ()).2.1, ((6 : Int), at_, (0 : Int), (cut s_ at_.toNat (w64 (at_ + n)).toNat), ()).2.2.1, ((6 : Int), at_, (0 : Int), (cut s_ at_.toNat (w64 (at_ + n)).toNat), ()).2.2.2.1, ()), (w64 (at_ + n)), (0 : Int)))
noncomputable def st_lex_one : L_lex_one → Option (L_lex_one ⊕ (tToken × Int × Int))
  | .l15 s_ at_ x4 x4' x4'' x4''' end_ => sg_lex_one_15 s_ at_ x4 x4' x4'' x4''' end_
  | .l33 s_ at_ x4 x4' x4'' x4''' n => sg_lex_one_33 s_ at_ x4 x4' x4'' x4''' n
noncomputable def en_lex_one (s_ : (List UInt8)) (at_ : Int) : Option (L_lex_one ⊕ (tToken × Int × Int)) :=
  G (0 ≤ at_ ∧ at_ < (s_.length : Int)) <|
  (lex_letter (s_.getD at_.toNat 0)).bind fun t24 =>
  if t24 = true then
  ((lex_word s_ at_).bind fun t27 =>
  G (0 ≤ at_ ∧ at_ ≤ t27 ∧ t27 ≤ (s_.length : Int)) <|
  (lex_named (cut s_ at_.toNat t27.toNat) at_).bind fun t34 =>
  some (.inr (((t34.1.1, t34.1.2.1, t34.1.2.2.1, t34.1.2.2.2.1, ()).1, (t34.1.1, t34.1.2.1, t34.1.2.2.1, t34.1.2.2.2.1, ()).2.1, (t34.1.1, t34.1.2.1, t34.1.2.2.1, t34.1.2.2.2.1, ()).2.2.1, (t34.1.1, t34.1.2.1, t34.1.2.2.1, t34.1.2.2.2.1, ()).2.2.2.1, ()), t27, t34.2)))
  else
  if (decide (((s_.getD at_.toNat 0).toNat : Int) = 36)) = true then
  ((lex_word s_ (w64 (at_ + (1 : Int)))).bind fun t46 =>
  if (decide (t46 = (w64 (at_ + (1 : Int))))) = true then
  some (.inr ((((0 : Int), (0 : Int), (0 : Int), ([] : List UInt8), ()).1, ((0 : Int), (0 : Int), (0 : Int), ([] : List UInt8), ()).2.1, ((0 : Int), (0 : Int), (0 : Int), ([] : List UInt8), ()).2.2.1, ((0 : Int), (0 : Int), (0 : Int), ([] : List UInt8), ()).2.2.2.1, ()), (0 : Int), (10 : Int)))
  else
  if (decide ((24 : Int) < (w64 ((w64 (t46 - at_)) - (1 : Int))))) = true then
  some (.inr ((((0 : Int), (0 : Int), (0 : Int), ([] : List UInt8), ()).1, ((0 : Int), (0 : Int), (0 : Int), ([] : List UInt8), ()).2.1, ((0 : Int), (0 : Int), (0 : Int), ([] : List UInt8), ()).2.2.1, ((0 : Int), (0 : Int), (0 : Int), ([] : List UInt8), ()).2.2.2.1, ()), (0 : Int), (3 : Int)))
  else
  G (0 ≤ (w64 (at_ + (1 : Int))) ∧ (w64 (at_ + (1 : Int))) ≤ t46 ∧ t46 ≤ (s_.length : Int)) <|
  some (.inr ((((3 : Int), at_, (0 : Int), (cut s_ (w64 (at_ + (1 : Int))).toNat t46.toNat), ()).1, ((3 : Int), at_, (0 : Int), (cut s_ (w64 (at_ + (1 : Int))).toNat t46.toNat), ()).2.1, ((3 : Int), at_, (0 : Int), (cut s_ (w64 (at_ + (1 : Int))).toNat t46.toNat), ()).2.2.1, ((3 : Int), at_, (0 : Int), (cut s_ (w64 (at_ + (1 : Int))).toNat t46.toNat), ()).2.2.2.1, ()), t46, (0 : Int))))
  else
  (lex_digit (s_.getD at_.toNat 0)).bind fun t70 =>
  if t70 = true then
  some (.inl (.l15 s_ at_ (((0 : Int), (0 : Int), (0 : Int), ([] : List UInt8), ()).1) (((0 : Int), (0 : Int), (0 : Int), ([] : List UInt8), ()).2.1) (((0 : Int), (0 : Int), (0 : Int), ([] : List UInt8), ()).2.2.1) (((0 : Int), (0 : Int), (0 : Int), ([] : List UInt8), ()).2.2.2.1) at_))
  else
  if (decide (((s_.getD at_.toNat 0).toNat : Int) = 34)) = true then
  ((lex_quoted s_ at_).bind fun t105 =>
  if (!t105.2.2) = true then
  some (.inr ((((0 : Int), (0 : Int), (0 : Int), ([] : List UInt8), ()).1, ((0 : Int), (0 : Int), (0 : Int), ([] : List UInt8), ()).2.1, ((0 : Int), (0 : Int), (0 : Int), ([] : List UInt8), ()).2.2.1, ((0 : Int), (0 : Int), (0 : Int), ([] : List UInt8), ()).2.2.2.1, ()), (0 : Int), (11 : Int)))
  else
  if (decide ((4096 : Int) < (t105.1.length : Int))) = true then
  some (.inr ((((0 : Int), (0 : Int), (0 : Int), ([] : List UInt8), ()).1, ((0 : Int), (0 : Int), (0 : Int), ([] : List UInt8), ()).2.1, ((0 : Int), (0 : Int), (0 : Int), ([] : List UInt8), ()).2.2.1, ((0 : Int), (0 : Int), (0 : Int), ([] : List UInt8), ()).2.2.2.1, ()), (0 : Int), (3 : Int)))
  else
  some (.inr ((((5 : Int), at_, (0 : Int), t105.1, ()).1, ((5 : Int), at_, (0 : Int), t105.1, ()).2.1, ((5 : Int), at_, (0 : Int), t105.1, ()).2.2.1, ((5 : Int), at_, (0 : Int), t105.1, ()).2.2.2.1, ()), t105.2.1, (0 : Int))))
  else
  G (0 ≤ at_ ∧ at_ ≤ (s_.length : Int)) <|
  (strings_HasPrefix (s_.drop at_.toNat) ([61, 61] : List UInt8)).bind fun t125 =>
  if t125 = true then
  some (.inl (.l33 s_ at_ (((0 : Int), (0 : Int), (0 : Int), ([] : List UInt8), ()).1) (((0 : Int), (0 : Int), (0 : Int), ([] : List UInt8), ()).2.1) (((0 : Int), (0 : Int), (0 : Int), ([] : List UInt8), ()).2.2.1) (((0 : Int), (0 : Int), (0 : Int), ([] : List UInt8), ()).2.2.2.1) (2 : Int)))
  else
  G (0 ≤ at_ ∧ at_ < (s_.length : Int)) <|
  (strings_IndexByte ([40, 41, 91, 93, 44, 59, 61, 43, 45, 42, 38, 60, 46] : List UInt8) (s_.getD at_.toNat 0)).bind fun t129 =>
  if (decide (t129 < (0 : Int))) = true then
  some (.inr ((((0 : Int), (0 : Int), (0 : Int), ([] : List UInt8), ()).1, ((0 : Int), (0 : Int), (0 : Int), ([] : List UInt8), ()).2.1, ((0 : Int), (0 : Int), (0 : Int), ([] : List UInt8), ()).2.2.1, ((0 : Int), (0 : Int), (0 : Int), ([] : List UInt8), ()).2.2.2.1, ()), (0 : Int), (10 : Int)))
  else
  some (.inl (.l33 s_ at_ (((0 : Int), (0 : Int), (0 : Int), ([] : List UInt8), ()).1) (((0 : Int), (0 : Int), (0 : Int), ([] : List UInt8), ()).2.1) (((0 : Int), (0 : Int), (0 : Int), ([] : List UInt8), ()).2.2.1) (((0 : Int), (0 : Int), (0 : Int), ([] : List UInt8), ()).2.2.2.1) (1 : Int)))
noncomputable def lex_one (s_ : (List UInt8)) (at_ : Int) : Option (tToken × Int × Int) := runL st_lex_one (en_lex_one s_ at_)
/-! ### onceweb/lex.Tokens -/
inductive L_lex_Tokens where
  | l5 (s_ : (List UInt8)) (x3 : Int) (x3' : Int) (l : (List tToken)) (at_ : Int)
noncomputable def sg_lex_Tokens_5 (s_ : (List UInt8)) (x3 : Int) (x3' : Int) (l : (List tToken)) (at_ : Int) : Option (L_lex_Tokens ⊕ ((List tToken) × tFault)) :=
  if (decide (at_ < (s_.length : Int))) = true then
  (if (decide ((l.length : Int) = (8192 : Int))) = true then
  some (.inr (([] : List tToken), ((at_, (3 : Int), ()).1, (at_, (3 : Int), ()).2.1, ())))
  else
  (lex_one s_ at_).bind fun t27 =>
  if (!decide (t27.2.2 = (0 : Int))) = true then
  some (.inr (([] : List tToken), ((at_, t27.2.2, ()).1, (at_, t27.2.2, ()).2.1, ())))
  else
  G ((l.length + ([(t27.1.1, t27.1.2.1, t27.1.2.2.1, t27.1.2.2.2.1, ())] : List tToken).length) * 40 ≤ 140737488355328) <|
  (lex_blank s_ t27.2.1).bind fun t42 =>
  some (.inl (.l5 s_ x3 x3' (l ++ ([(t27.1.1, t27.1.2.1, t27.1.2.2.1, t27.1.2.2.2.1, ())] : List tToken)) t42)))
  else
  some (.inr (l, (((0 : Int), (0 : Int), ()).1, ((0 : Int), (0 : Int), ()).2.1, ())))
noncomputable def st_lex_Tokens : L_lex_Tokens → Option (L_lex_Tokens ⊕ ((List tToken) × tFault))
  | .l5 s_ x3 x3' l at_ => sg_lex_Tokens_5 s_ x3 x3' l at_
noncomputable def en_lex_Tokens (s_ : (List UInt8)) : Option (L_lex_Tokens ⊕ ((List tToken) × tFault)) :=
  if (decide ((65536 : Int) < (s_.length : Int))) = true then
  some (.inr (([] : List tToken), (((0 : Int), (3 : Int), ()).1, ((0 : Int), (3 : Int), ()).2.1, ())))
  else
  (lex_blank s_ (0 : Int)).bind fun t14 =>
  some (.inl (.l5 s_ (((0 : Int), (0 : Int), ()).1) (((0 : Int), (0 : Int), ()).2.1) ([] : List tToken) t14))
noncomputable def lex_Tokens (s_ : (List UInt8)) : Option ((List tToken) × tFault) := runL st_lex_Tokens (en_lex_Tokens s_)
/-! ### onceweb/onceweblaw01.tokens -/
inductive L_law01_tokens where
  | l4 (a : (List tToken)) (b : (List tToken)) (i : Int)
noncomputable def sg_law01_tokens_4 (a : (List tToken)) (b : (List tToken)) (i : Int) : Option (L_law01_tokens ⊕ Bool) :=
  if (decide (i < (a.length : Int))) = true then
  (G (0 ≤ i ∧ i < (a.length : Int)) <|
  G (0 ≤ i ∧ i < (b.length : Int)) <|
  if (!(eqR tyToken (a.getD i.toNat dToken) (b.getD i.toNat dToken))) = true then
  some (.inr false)
  else
  some (.inl (.l4 a b (w64 (i + (1 : Int))))))
  else
  some (.inr true)
noncomputable def st_law01_tokens : L_law01_tokens → Option (L_law01_tokens ⊕ Bool)
  | .l4 a b i => sg_law01_tokens_4 a b i
noncomputable def en_law01_tokens (a : (List tToken)) (b : (List tToken)) : Option (L_law01_tokens ⊕ Bool) :=
  if (!decide ((a.length : Int) = (b.length : Int))) = true then
  some (.inr false)
  else
  some (.inl (.l4 a b (0 : Int)))
noncomputable def law01_tokens (a : (List tToken)) (b : (List tToken)) : Option Bool := runL st_law01_tokens (en_law01_tokens a b)
/-! ### onceweb/lex.Quote -/
inductive L_lex_Quote where
  | l4 (s_ : (List UInt8)) (out : (List UInt8)) (x14 : Int) (x15 : Int)
noncomputable def sg_lex_Quote_4 (s_ : (List UInt8)) (out : (List UInt8)) (x14 : Int) (x15 : Int) : Option (L_lex_Quote ⊕ (List UInt8)) :=
  if (decide (x15 < x14)) = true then
  (G (0 ≤ x15 ∧ x15 < (s_.length : Int)) <|
  if ((decide (((s_.getD x15.toNat 0).toNat : Int) = 34)) || (decide (((s_.getD x15.toNat 0).toNat : Int) = 92))) = true then
  (G ((out.length + ([(92 : UInt8), (s_.getD x15.toNat 0)] : List UInt8).length) * 1 ≤ 140737488355328) <|
  some (.inl (.l4 s_ (out ++ ([(92 : UInt8), (s_.getD x15.toNat 0)] : List UInt8)) x14 (w64 (x15 + (1 : Int))))))
  else
  if (decide (((s_.getD x15.toNat 0).toNat : Int) = 10)) = true then
  (G ((out.length + ([(92 : UInt8), (110 : UInt8)] : List UInt8).length) * 1 ≤ 140737488355328) <|
  some (.inl (.l4 s_ (out ++ ([(92 : UInt8), (110 : UInt8)] : List UInt8)) x14 (w64 (x15 + (1 : Int))))))
  else
  if ((decide (((s_.getD x15.toNat 0).toNat : Int) < 32)) || (decide (126 < ((s_.getD x15.toNat 0).toNat : Int)))) = true then
  (G (0 ≤ ((((Int.fdiv ((s_.getD x15.toNat 0).toNat : Int) (2 ^ (min ((4 : Int)).toNat IntKind.u8.bits)))).toNat.toUInt8).toNat : Int) ∧ ((((Int.fdiv ((s_.getD x15.toNat 0).toNat : Int) (2 ^ (min ((4 : Int)).toNat IntKind.u8.bits)))).toNat.toUInt8).toNat : Int) < (([48, 49, 50, 51, 52, 53, 54, 55, 56, 57, 97, 98, 99, 100, 101, 102] : List UInt8).length : Int)) <|
  G (0 ≤ ((((IntKind.wrap .u8 ((BitVec.ofInt IntKind.u8.bits ((s_.getD x15.toNat 0).toNat : Int) &&& BitVec.ofInt IntKind.u8.bits 15).toNat))).toNat.toUInt8).toNat : Int) ∧ ((((IntKind.wrap .u8 ((BitVec.ofInt IntKind.u8.bits ((s_.getD x15.toNat 0).toNat : Int) &&& BitVec.ofInt IntKind.u8.bits 15).toNat))).toNat.toUInt8).toNat : Int) < (([48, 49, 50, 51, 52, 53, 54, 55, 56, 57, 97, 98, 99, 100, 101, 102] : List UInt8).length : Int)) <|
  G ((out.length + ([(92 : UInt8), (120 : UInt8), (([48, 49, 50, 51, 52, 53, 54, 55, 56, 57, 97, 98, 99, 100, 101, 102] : List UInt8).getD ((((Int.fdiv ((s_.getD x15.toNat 0).toNat : Int) (2 ^ (min ((4 : Int)).toNat IntKind.u8.bits)))).toNat.toUInt8).toNat : Int).toNat 0), (([48, 49, 50, 51, 52, 53, 54, 55, 56, 57, 97, 98, 99, 100, 101, 102] : List UInt8).getD ((((IntKind.wrap .u8 ((BitVec.ofInt IntKind.u8.bits ((s_.getD x15.toNat 0).toNat : Int) &&& BitVec.ofInt IntKind.u8.bits 15).toNat))).toNat.toUInt8).toNat : Int).toNat 0)] : List UInt8).length) * 1 ≤ 140737488355328) <|
  some (.inl (.l4 s_ (out ++ ([(92 : UInt8), (120 : UInt8), (([48, 49, 50, 51, 52, 53, 54, 55, 56, 57, 97, 98, 99, 100, 101, 102] : List UInt8).getD ((((Int.fdiv ((s_.getD x15.toNat 0).toNat : Int) (2 ^ (min ((4 : Int)).toNat IntKind.u8.bits)))).toNat.toUInt8).toNat : Int).toNat 0), (([48, 49, 50, 51, 52, 53, 54, 55, 56, 57, 97, 98, 99, 100, 101, 102] : List UInt8).getD ((((IntKind.wrap .u8 ((BitVec.ofInt IntKind.u8.bits ((s_.getD x15.toNat 0).toNat : Int) &&& BitVec.ofInt IntKind.u8.bits 15).toNat))).toNat.toUInt8).toNat : Int).toNat 0)] : List UInt8)) x14 (w64 (x15 + (1 : Int))))))
  else
  G ((out.length + ([(s_.getD x15.toNat 0)] : List UInt8).length) * 1 ≤ 140737488355328) <|
  some (.inl (.l4 s_ (out ++ ([(s_.getD x15.toNat 0)] : List UInt8)) x14 (w64 (x15 + (1 : Int))))))
  else
  G ((out.length + ([(34 : UInt8)] : List UInt8).length) * 1 ≤ 140737488355328) <|
  some (.inr (out ++ ([(34 : UInt8)] : List UInt8)))
noncomputable def st_lex_Quote : L_lex_Quote → Option (L_lex_Quote ⊕ (List UInt8))
  | .l4 s_ out x14 x15 => sg_lex_Quote_4 s_ out x14 x15
noncomputable def en_lex_Quote (s_ : (List UInt8)) : Option (L_lex_Quote ⊕ (List UInt8)) :=
  G (0 ≤ (0 : Int) ∧ (0 : Int) ≤ (w64 ((s_.length : Int) + (2 : Int))) ∧ (1 : Int) * (w64 ((s_.length : Int) + (2 : Int))) ≤ 281474976710656) <|
  G (((List.replicate (0 : Int).toNat (0 : UInt8)).length + ([(34 : UInt8)] : List UInt8).length) * 1 ≤ 140737488355328) <|
  some (.inl (.l4 s_ ((List.replicate (0 : Int).toNat (0 : UInt8)) ++ ([(34 : UInt8)] : List UInt8)) (s_.length : Int) (0 : Int)))
noncomputable def lex_Quote (s_ : (List UInt8)) : Option (List UInt8) := runL st_lex_Quote (en_lex_Quote s_)
/-! ### onceweb/onceweblaw01.works -/
noncomputable def law01_works  : Option Bool :=
  (lex_Tokens ([36, 120, 61, 61, 49, 50, 32, 35, 32, 121] : List UInt8)).bind fun t4 =>
  (if (eqR tyFault (t4.2.1, t4.2.2.1, ()) ((0 : Int), (0 : Int), ())) = true then law01_tokens t4.1 ([((3 : Int), (0 : Int), (0 : Int), ([120] : List UInt8), ()), ((6 : Int), (2 : Int), (0 : Int), ([61, 61] : List UInt8), ()), ((4 : Int), (4 : Int), (12 : Int), ([] : List UInt8), ())] : List tToken) else some false).bind fun t16 =>
  (if ((eqR tyFault (t4.2.1, t4.2.2.1, ()) ((0 : Int), (0 : Int), ())) && t16) = true then lex_Quote ([97, 10, 34] : List UInt8) else some ([] : List UInt8)).bind fun t19 =>
  some (((eqR tyFault (t4.2.1, t4.2.2.1, ()) ((0 : Int), (0 : Int), ())) && t16) && (decide (t19 = ([34, 97, 92, 110, 92, 34, 34] : List UInt8))))
/-! ### onceweb/onceweblaw01.nowhere -/
inductive L_law01_nowhere where
  | l3 (out : (List tToken)) (i : Int)
noncomputable def sg_law01_nowhere_3 (out : (List tToken)) (i : Int) : Option (L_law01_nowhere ⊕ (List tToken)) :=
  if (decide (i < (out.length : Int))) = true then
  (G (0 ≤ i ∧ i < (out.length : Int)) <|
  some (.inl (.l3 (out.set i.toNat ((out.getD i.toNat dToken).1, (0 : Int), (out.getD i.toNat dToken).2.2)) (w64 (i + (1 : Int))))))
  else
  some (.inr out)
noncomputable def st_law01_nowhere : L_law01_nowhere → Option (L_law01_nowhere ⊕ (List tToken))
  | .l3 out i => sg_law01_nowhere_3 out i
noncomputable def en_law01_nowhere (l : (List tToken)) : Option (L_law01_nowhere ⊕ (List tToken)) :=
  G ((([] : List tToken).length + l.length) * 40 ≤ 140737488355328) <|
  some (.inl (.l3 l (0 : Int)))
noncomputable def law01_nowhere (l : (List tToken)) : Option (List tToken) := runL st_law01_nowhere (en_law01_nowhere l)
/-! ### onceweb/onceweblaw01.LexBlank -/
inductive L_law01_LexBlank where
  | l4 (s_ : (List UInt8)) (blank : (List UInt8)) (i : Int)
  | l15 (s_ : (List UInt8)) (blank : (List UInt8)) (l : (List tToken)) (f : Int) (f' : Int) (out : (List UInt8)) (at_ : Int) (i : Int)
noncomputable def sg_law01_LexBlank_4 (s_ : (List UInt8)) (blank : (List UInt8)) (i : Int) : Option (L_law01_LexBlank ⊕ Bool) :=
  if (decide (i < (blank.length : Int))) = true then
  (G (0 ≤ i ∧ i < (blank.length : Int)) <|
  if ((((!decide (((blank.getD i.toNat 0).toNat : Int) = 9)) && (!decide (((blank.getD i.toNat 0).toNat : Int) = 10))) && (!decide (((blank.getD i.toNat 0).toNat : Int) = 13))) && (!decide (((blank.getD i.toNat 0).toNat : Int) = 32))) = true then
  some (.inr true)
  else
  some (.inl (.l4 s_ blank (w64 (i + (1 : Int))))))
  else
  (lex_Tokens s_).bind fun t40 =>
  if (!(eqR tyFault (t40.2.1, t40.2.2.1, ()) ((0 : Int), (0 : Int), ()))) = true then
  some (.inr (decide ((t40.1.length : Int) = (0 : Int))))
  else
  some (.inl (.l15 s_ blank t40.1 t40.2.1 t40.2.2.1 ([] : List UInt8) (0 : Int) (0 : Int)))
noncomputable def sg_law01_LexBlank_15 (s_ : (List UInt8)) (blank : (List UInt8)) (l : (List tToken)) (f : Int) (f' : Int) (out : (List UInt8)) (at_ : Int) (i : Int) : Option (L_law01_LexBlank ⊕ Bool) :=
  if (decide (i < (l.length : Int))) = true then
  (G (0 ≤ i ∧ i < (l.length : Int)) <|
  G ((!(decide ((l.getD i.toNat dToken).2.1 < at_))) = true → (0 ≤ i ∧ i < (l.length : Int))) <|
  if ((decide ((l.getD i.toNat dToken).2.1 < at_)) || (decide ((s_.length : Int) ≤ (l.getD i.toNat dToken).2.1))) = true then
  some (.inr false)
  else
  G (0 ≤ i ∧ i < (l.length : Int)) <|
  G (0 ≤ at_ ∧ at_ ≤ (l.getD i.toNat dToken).2.1 ∧ (l.getD i.toNat dToken).2.1 ≤ (s_.length : Int)) <|
  G (out.length + (cut s_ at_.toNat ((l.getD i.toNat dToken).2.1).toNat).length ≤ 140737488355328) <|
  G ((out ++ (cut s_ at_.toNat ((l.getD i.toNat dToken).2.1).toNat)).length + blank.length ≤ 140737488355328) <|
  G (0 ≤ i ∧ i < (l.length : Int)) <|
  if (decide ((65536 : Int) < ((((out ++ (cut s_ at_.toNat ((l.getD i.toNat dToken).2.1).toNat)) ++ blank).length : Nat) : Int))) = true then
  some (.inr true)
  else
  some (.inl (.l15 s_ blank l f f' ((out ++ (cut s_ at_.toNat ((l.getD i.toNat dToken).2.1).toNat)) ++ blank) ((l.getD i.toNat dToken).2.1) (w64 (i + (1 : Int))))))
  else
  G (0 ≤ at_ ∧ at_ ≤ (s_.length : Int)) <|
  G (out.length + (s_.drop at_.toNat).length ≤ 140737488355328) <|
  if (decide ((65536 : Int) < (((out ++ (s_.drop at_.toNat)).length : Nat) : Int))) = true then
  some (.inr true)
  else
  (lex_Tokens (out ++ (s_.drop at_.toNat))).bind fun t105 =>
  (if (eqR tyFault (t105.2.1, t105.2.2.1, ()) ((0 : Int), (0 : Int), ())) = true then law01_nowhere t105.1 else some ([] : List tToken)).bind fun t113 =>
  (if (eqR tyFault (t105.2.1, t105.2.2.1, ()) ((0 : Int), (0 : Int), ())) = true then law01_nowhere l else some ([] : List tToken)).bind fun t115 =>
  (if (eqR tyFault (t105.2.1, t105.2.2.1, ()) ((0 : Int), (0 : Int), ())) = true then law01_tokens t113 t115 else some false).bind fun t116 =>
  some (.inr ((eqR tyFault (t105.2.1, t105.2.2.1, ()) ((0 : Int), (0 : Int), ())) && t116))
noncomputable def st_law01_LexBlank : L_law01_LexBlank → Option (L_law01_LexBlank ⊕ Bool)
  | .l4 s_ blank i => sg_law01_LexBlank_4 s_ blank i
  | .l15 s_ blank l f f' out at_ i => sg_law01_LexBlank_15 s_ blank l f f' out at_ i
noncomputable def en_law01_LexBlank (s_ : (List UInt8)) (blank : (List UInt8)) : Option (L_law01_LexBlank ⊕ Bool) :=
  (law01_works).bind fun t13 =>
  if (!t13) = true then
  some (.inr false)
  else
  some (.inl (.l4 s_ blank (0 : Int)))
noncomputable def law01_LexBlank (s_ : (List UInt8)) (blank : (List UInt8)) : Option Bool := runL st_law01_LexBlank (en_law01_LexBlank s_ blank)
/-! ### onceweb/onceweblaw01.LexBegins -/
noncomputable def law01_LexBegins (s_ : (List UInt8)) (n : Int) : Option Bool :=
  (law01_works).bind fun t8 =>
  if (!t8) = true then
  some false
  else
  (lex_Tokens s_).bind fun t12 =>
  if ((!(eqR tyFault (t12.2.1, t12.2.2.1, ()) ((0 : Int), (0 : Int), ()))) || (decide ((t12.1.length : Int) = (0 : Int)))) = true then
  some true
  else
  G ((IntKind.wrap .u64 ((t12.1.length : Int))) ≠ 0) <|
  G (0 ≤ (w64 ((Int.tmod (IntKind.wrap .u64 (n)) (IntKind.wrap .u64 ((t12.1.length : Int)))))) ∧ (w64 ((Int.tmod (IntKind.wrap .u64 (n)) (IntKind.wrap .u64 ((t12.1.length : Int)))))) < (t12.1.length : Int)) <|
  G ((!(decide ((t12.1.getD ((w64 ((Int.tmod (IntKind.wrap .u64 (n)) (IntKind.wrap .u64 ((t12.1.length : Int)))))).toNat) dToken).2.1 < (0 : Int)))) = true → (0 ≤ (w64 ((Int.tmod (IntKind.wrap .u64 (n)) (IntKind.wrap .u64 ((t12.1.length : Int)))))) ∧ (w64 ((Int.tmod (IntKind.wrap .u64 (n)) (IntKind.wrap .u64 ((t12.1.length : Int)))))) < (t12.1.length : Int))) <|
  if ((decide ((t12.1.getD ((w64 ((Int.tmod (IntKind.wrap .u64 (n)) (IntKind.wrap .u64 ((t12.1.length : Int)))))).toNat) dToken).2.1 < (0 : Int))) || (decide ((s_.length : Int) < (t12.1.getD ((w64 ((Int.tmod (IntKind.wrap .u64 (n)) (IntKind.wrap .u64 ((t12.1.length : Int)))))).toNat) dToken).2.1))) = true then
  some false
  else
  G (0 ≤ (w64 ((Int.tmod (IntKind.wrap .u64 (n)) (IntKind.wrap .u64 ((t12.1.length : Int)))))) ∧ (w64 ((Int.tmod (IntKind.wrap .u64 (n)) (IntKind.wrap .u64 ((t12.1.length : Int)))))) < (t12.1.length : Int)) <|
  G (0 ≤ (t12.1.getD ((w64 ((Int.tmod (IntKind.wrap .u64 (n)) (IntKind.wrap .u64 ((t12.1.length : Int)))))).toNat) dToken).2.1 ∧ (t12.1.getD ((w64 ((Int.tmod (IntKind.wrap .u64 (n)) (IntKind.wrap .u64 ((t12.1.length : Int)))))).toNat) dToken).2.1 ≤ (s_.length : Int)) <|
  (lex_Tokens (s_.take ((t12.1.getD ((w64 ((Int.tmod (IntKind.wrap .u64 (n)) (IntKind.wrap .u64 ((t12.1.length : Int)))))).toNat) dToken).2.1).toNat)).bind fun t54 =>
  G ((eqR tyFault (t54.2.1, t54.2.2.1, ()) ((0 : Int), (0 : Int), ())) = true → (0 ≤ (w64 ((Int.tmod (IntKind.wrap .u64 (n)) (IntKind.wrap .u64 ((t12.1.length : Int)))))) ∧ (w64 ((Int.tmod (IntKind.wrap .u64 (n)) (IntKind.wrap .u64 ((t12.1.length : Int)))))) ≤ (t12.1.length : Int))) <|
  (if (eqR tyFault (t54.2.1, t54.2.2.1, ()) ((0 : Int), (0 : Int), ())) = true then law01_tokens t54.1 (t12.1.take (w64 ((Int.tmod (IntKind.wrap .u64 (n)) (IntKind.wrap .u64 ((t12.1.length : Int)))))).toNat) else some false).bind fun t65 =>
  some ((eqR tyFault (t54.2.1, t54.2.2.1, ()) ((0 : Int), (0 : Int), ())) && t65)
/-! ### slices_Reverse -/
noncomputable def slices_Reverse (l : List UInt8) : Option (List UInt8) := some l.reverse
/-! ### onceweb/lex.digits -/
inductive L_lex_digits where
  | l4 (n : Int) (out : (List UInt8))
noncomputable def sg_lex_digits_4 (n : Int) (out : (List UInt8)) : Option (L_lex_digits ⊕ (List UInt8)) :=
  G ((out.length + ([((IntKind.wrap .u8 ((w64 ((48 : Int) + (Int.tmod n (10 : Int))))))).toNat.toUInt8] : List UInt8).length) * 1 ≤ 140737488355328) <|
  if (decide ((w64 (Int.tdiv n (10 : Int))) = (0 : Int))) = true then
  ((slices_Reverse (out ++ ([((IntKind.wrap .u8 ((w64 ((48 : Int) + (Int.tmod n (10 : Int))))))).toNat.toUInt8] : List UInt8))).bind fun t19 =>
  some (.inr t19))
  else
  some (.inl (.l4 (w64 (Int.tdiv n (10 : Int))) (out ++ ([((IntKind.wrap .u8 ((w64 ((48 : Int) + (Int.tmod n (10 : Int))))))).toNat.toUInt8] : List UInt8))))
noncomputable def st_lex_digits : L_lex_digits → Option (L_lex_digits ⊕ (List UInt8))
  | .l4 n out => sg_lex_digits_4 n out
noncomputable def en_lex_digits (n : Int) : Option (L_lex_digits ⊕ (List UInt8)) :=
  if (decide (n < (0 : Int))) = true then
  some (.inr ([] : List UInt8))
  else
  some (.inl (.l4 n ([] : List UInt8)))
noncomputable def lex_digits (n : Int) : Option (List UInt8) := runL st_lex_digits (en_lex_digits n)
/-! ### internal/bytealg.Cutover -/
noncomputable def bytealg_Cutover (n : Int) : Option Int :=
  some (w64 (Int.tdiv (w64 (n + (16 : Int))) (8 : Int)))
/-! ### internal/bytealg.hashStr[string] -/
inductive L_bytealg_hashStr where
  | l3 (sep : (List UInt8)) (hash : Int) (i : Int)
  | l8 (hash : Int) (pow : Int) (sq : Int) (i : Int)
noncomputable def sg_bytealg_hashStr_3 (sep : (List UInt8)) (hash : Int) (i : Int) : Option (L_bytealg_hashStr ⊕ (Int × Int)) :=
  if (decide (i < (sep.length : Int))) = true then
  (G (0 ≤ i ∧ i < (sep.length : Int)) <|
  some (.inl (.l3 sep (IntKind.wrap .u32 ((IntKind.wrap .u32 (hash * (16777619 : Int))) + (IntKind.wrap .u32 (((sep.getD i.toNat 0).toNat : Int))))) (w64 (i + (1 : Int))))))
  else
  some (.inl (.l8 hash (1 : Int) (16777619 : Int) (sep.length : Int)))
noncomputable def sg_bytealg_hashStr_8 (hash : Int) (pow : Int) (sq : Int) (i : Int) : Option (L_bytealg_hashStr ⊕ (Int × Int)) :=
  if (decide ((0 : Int) < i)) = true then
  (if (!decide ((w64 ((BitVec.ofInt IntKind.i64.bits i &&& BitVec.ofInt IntKind.i64.bits (1 : Int)).toNat)) = (0 : Int))) = true then
  some (.inl (.l8 hash (IntKind.wrap .u32 (pow * sq)) (IntKind.wrap .u32 (sq * sq)) (Int.fdiv i (2 ^ (min ((1 : Int)).toNat IntKind.i64.bits)))))
  else
  some (.inl (.l8 hash pow (IntKind.wrap .u32 (sq * sq)) (Int.fdiv i (2 ^ (min ((1 : Int)).toNat IntKind.i64.bits))))))
  else
  some (.inr (hash, pow))
noncomputable def st_bytealg_hashStr : L_bytealg_hashStr → Option (L_bytealg_hashStr ⊕ (Int × Int))
  | .l3 sep hash i => sg_bytealg_hashStr_3 sep hash i
  | .l8 hash pow sq i => sg_bytealg_hashStr_8 hash pow sq i
noncomputable def en_bytealg_hashStr (sep : (List UInt8)) : Option (L_bytealg_hashStr ⊕ (Int × Int)) :=
  some (.inl (.l3 sep (0 : Int) (0 : Int)))
noncomputable def bytealg_hashStr (sep : (List UInt8)) : Option (Int × Int) := runL st_bytealg_hashStr (en_bytealg_hashStr sep)
/-! ### internal/bytealg.IndexRabinKarp[string] -/
inductive L_bytealg_IndexRabinKarp where
  | l5 (s_ : (List UInt8)) (sep : (List UInt8)) (hashss : Int) (pow : Int) (n : Int) (h : Int) (i : Int)
  | l11 (s_ : (List UInt8)) (sep : (List UInt8)) (hashss : Int) (pow : Int) (n : Int) (h : Int) (i : Int)
noncomputable def sg_bytealg_IndexRabinKarp_5 (s_ : (List UInt8)) (sep : (List UInt8)) (hashss : Int) (pow : Int) (n : Int) (h : Int) (i : Int) : Option (L_bytealg_IndexRabinKarp ⊕ Int) :=
  if (decide (i < n)) = true then
  (G (0 ≤ i ∧ i < (s_.length : Int)) <|
  some (.inl (.l5 s_ sep hashss pow n (IntKind.wrap .u32 ((IntKind.wrap .u32 (h * (16777619 : Int))) + (IntKind.wrap .u32 (((s_.getD i.toNat 0).toNat : Int))))) (w64 (i + (1 : Int))))))
  else
  G ((decide (h = hashss)) = true → (0 ≤ n ∧ n ≤ (s_.length : Int))) <|
  if ((decide (h = hashss)) && (decide ((s_.take n.toNat) = sep))) = true then
  some (.inr (0 : Int))
  else
  some (.inl (.l11 s_ sep hashss pow n h n))
noncomputable def sg_bytealg_IndexRabinKarp_11 (s_ : (List UInt8)) (sep : (List UInt8)) (hashss : Int) (pow : Int) (n : Int) (h : Int) (i : Int) : Option (L_bytealg_IndexRabinKarp ⊕ Int) :=
  if (decide (i < (s_.length : Int))) = true then
  (G (0 ≤ i ∧ i < (s_.length : Int)) <|
  G (0 ≤ (w64 (i - n)) ∧ (w64 (i - n)) < (s_.length : Int)) <|
  G ((decide ((IntKind.wrap .u32 ((IntKind.wrap .u32 ((IntKind.wrap .u32 (h * (16777619 : Int))) + (IntKind.wrap .u32 (((s_.getD i.toNat 0).toNat : Int))))) - (IntKind.wrap .u32 (pow * (IntKind.wrap .u32 (((s_.getD (w64 (i - n)).toNat 0).toNat : Int))))))) = hashss)) = true → (0 ≤ (w64 ((w64 (i + (1 : Int))) - n)) ∧ (w64 ((w64 (i + (1 : Int))) - n)) ≤ (w64 (i + (1 : Int))) ∧ (w64 (i + (1 : Int))) ≤ (s_.length : Int))) <|
  if ((decide ((IntKind.wrap .u32 ((IntKind.wrap .u32 ((IntKind.wrap .u32 (h * (16777619 : Int))) + (IntKind.wrap .u32 (((s_.getD i.toNat 0).toNat : Int))))) - (IntKind.wrap .u32 (pow * (IntKind.wrap .u32 (((s_.getD (w64 (i - n)).toNat 0).toNat : Int))))))) = hashss)) && (decide ((cut s_ (w64 ((w64 (i + (1 : Int))) - n)).toNat (w64 (i + (1 : Int))).toNat) = sep))) = true then
  some (.inr (w64 ((w64 (i + (1 : Int))) - n)))
  else
  some (.inl (.l11 s_ sep hashss pow n (IntKind.wrap .u32 ((IntKind.wrap .u32 ((IntKind.wrap .u32 (h * (16777619 : Int))) + (IntKind.wrap .u32 (((s_.getD i.toNat 0).toNat : Int))))) - (IntKind.wrap .u32 (pow * (IntKind.wrap .u32 (((s_.getD (w64 (i - n)).toNat 0).toNat : Int))))))) (w64 (i + (1 : Int))))))
  else
  some (.inr (-1 : Int))
noncomputable def st_bytealg_IndexRabinKarp : L_bytealg_IndexRabinKarp → Option (L_bytealg_IndexRabinKarp ⊕ Int)
  | .l5 s_ sep hashss pow n h i => sg_bytealg_IndexRabinKarp_5 s_ sep hashss pow n h i
  | .l11 s_ sep hashss pow n h i => sg_bytealg_IndexRabinKarp_11 s_ sep hashss pow n h i
noncomputable def en_bytealg_IndexRabinKarp (s_ : (List UInt8)) (sep : (List UInt8)) : Option (L_bytealg_IndexRabinKarp ⊕ Int) :=
  (bytealg_hashStr sep).bind fun t13 =>
  some (.inl (.l5 s_ sep t13.1 t13.2 (sep.length : Int) (0 : Int) (0 : Int)))
noncomputable def bytealg_IndexRabinKarp (s_ : (List UInt8)) (sep : (List UInt8)) : Option Int := runL st_bytealg_IndexRabinKarp (en_bytealg_IndexRabinKarp s_ sep)
/-! ### internal/stringslite.Index -/
noncomputable def stringslite_Index (s_ : (List UInt8)) (substr : (List UInt8)) : Option Int :=
  if ((decide ((substr.length : Int) = (0 : Int))) || (decide (substr = s_))) = true then
  some (0 : Int)
  else
  if (decide ((substr.length : Int) = (1 : Int))) = true then
  (G (0 ≤ (0 : Int) ∧ (0 : Int) < (substr.length : Int)) <|
  (stringslite_IndexByte s_ (substr.getD (0 : Int).toNat 0)).bind fun t30 =>
  some t30)
  else
  if (decide ((s_.length : Int) ≤ (substr.length : Int))) = true then
  some (-1 : Int)
  else
  none
/-! ### strings.Index -/
noncomputable def strings_Index (s_ : (List UInt8)) (substr : (List UInt8)) : Option Int :=
  (stringslite_Index s_ substr).bind fun t7 =>
  some t7
/-! ### strings.Contains -/
noncomputable def strings_Contains (s_ : (List UInt8)) (substr : (List UInt8)) : Option Bool :=
  (strings_Index s_ substr).bind fun t7 =>
  some (decide ((0 : Int) ≤ t7))
/-! ### onceweb/lex.written -/
noncomputable def lex_written (t_ : tToken) : Option ((List UInt8) × Bool) :=
  if ((!decide (t_.1 = (4 : Int))) && (!decide (t_.2.2.1 = (0 : Int)))) = true then
  some (([] : List UInt8), false)
  else
  if (decide (t_.1 = (1 : Int))) = true then
  ((lex_IsName t_.2.2.2.1).bind fun t20 =>
  some (t_.2.2.2.1, t20))
  else
  if (decide (t_.1 = (2 : Int))) = true then
  ((lex_IsKey t_.2.2.2.1).bind fun t27 =>
  some (t_.2.2.2.1, t27))
  else
  if (decide (t_.1 = (3 : Int))) = true then
  (G (([36] : List UInt8).length + t_.2.2.2.1.length ≤ 9223372036854775807) <|
  (if ((!decide (t_.2.2.2.1 = ([] : List UInt8))) && (decide ((t_.2.2.2.1.length : Int) ≤ (24 : Int)))) = true then lex_word t_.2.2.2.1 (0 : Int) else some (0 : Int)).bind fun t45 =>
  some ((([36] : List UInt8) ++ t_.2.2.2.1), (((!decide (t_.2.2.2.1 = ([] : List UInt8))) && (decide ((t_.2.2.2.1.length : Int) ≤ (24 : Int)))) && (decide (t45 = (t_.2.2.2.1.length : Int))))))
  else
  if (decide (t_.1 = (4 : Int))) = true then
  ((lex_digits t_.2.2.1).bind fun t55 =>
  some (t55, (((decide (t_.2.2.2.1 = ([] : List UInt8))) && (decide ((0 : Int) ≤ t_.2.2.1))) && (decide (t_.2.2.1 ≤ (9007199254740992 : Int))))))
  else
  if (decide (t_.1 = (5 : Int))) = true then
  ((lex_Quote t_.2.2.2.1).bind fun t73 =>
  some (t73, (decide ((t_.2.2.2.1.length : Int) ≤ (4096 : Int)))))
  else
  if (decide (t_.1 = (6 : Int))) = true then
  ((if ((!(decide (t_.2.2.2.1 = ([61, 61] : List UInt8)))) && (decide ((t_.2.2.2.1.length : Int) = (1 : Int)))) = true then strings_Contains ([40, 41, 91, 93, 44, 59, 61, 43, 45, 42, 38, 60, 46] : List UInt8) t_.2.2.2.1 else some false).bind fun t93 =>
  some (t_.2.2.2.1, ((decide (t_.2.2.2.1 = ([61, 61] : List UInt8))) || ((decide ((t_.2.2.2.1.length : Int) = (1 : Int))) && t93))))
  else
  some (([] : List UInt8), false)
/-! ### strings_Join -/
noncomputable def strings_Join (l : List (List UInt8)) (sep : List UInt8) : Option (List UInt8) := G (l.length ≤ 140737488355328 ∧ (Lib.join l sep).length ≤ 140737488355328) <| some (Lib.join l sep)
/-! ### onceweb/lex.Lay -/
inductive L_lex_Lay where
  | l5 (out : (List (List UInt8))) (x12 : (List tToken)) (x13 : Int) (x14 : Int)
noncomputable def sg_lex_Lay_5 (out : (List (List UInt8))) (x12 : (List tToken)) (x13 : Int) (x14 : Int) : Option (L_lex_Lay ⊕ ((List UInt8) × Int)) :=
  if (decide (x14 < x13)) = true then
  (G (0 ≤ x14 ∧ x14 < (x12.length : Int)) <|
  (lex_written ((x12.getD x14.toNat dToken).1, (x12.getD x14.toNat dToken).2.1, (x12.getD x14.toNat dToken).2.2.1, (x12.getD x14.toNat dToken).2.2.2.1, ())).bind fun t20 =>
  if (!t20.2) = true then
  some (.inr (([] : List UInt8), (5 : Int)))
  else
  G ((out.length + ([t20.1] : List (List UInt8)).length) * 16 ≤ 140737488355328) <|
  some (.inl (.l5 (out ++ ([t20.1] : List (List UInt8))) x12 x13 (w64 (x14 + (1 : Int))))))
  else
  (strings_Join out ([32] : List UInt8)).bind fun t31 =>
  some (.inr (t31, (0 : Int)))
noncomputable def st_lex_Lay : L_lex_Lay → Option (L_lex_Lay ⊕ ((List UInt8) × Int))
  | .l5 out x12 x13 x14 => sg_lex_Lay_5 out x12 x13 x14
noncomputable def en_lex_Lay (l : (List tToken)) : Option (L_lex_Lay ⊕ ((List UInt8) × Int)) :=
  if (decide ((8192 : Int) < (l.length : Int))) = true then
  some (.inr (([] : List UInt8), (3 : Int)))
  else
  some (.inl (.l5 ([] : List (List UInt8)) l (l.length : Int) (0 : Int)))
noncomputable def lex_Lay (l : (List tToken)) : Option ((List UInt8) × Int) := runL st_lex_Lay (en_lex_Lay l)
/-! ### onceweb/oncewebref01.Mark -/
noncomputable def ref01_Mark (s_ : (List UInt8)) : Option Bool :=
  (base_In ([([61, 61] : List UInt8), ([40] : List UInt8), ([41] : List UInt8), ([91] : List UInt8), ([93] : List UInt8), ([44] : List UInt8), ([59] : List UInt8), ([46] : List UInt8), ([61] : List UInt8), ([43] : List UInt8), ([45] : List UInt8), ([42] : List UInt8), ([38] : List UInt8), ([60] : List UInt8)] : List (List UInt8)) s_).bind fun t5 =>
  some t5
/-! ### onceweb/oncewebref01.right -/
noncomputable def ref01_right (t_ : tToken) : Option Bool :=
  if (decide (t_.1 = (1 : Int))) = true then
  ((ref01_IsName t_.2.2.2.1).bind fun t9 =>
  some (t9 && (decide (t_.2.2.1 = (0 : Int)))))
  else
  if (decide (t_.1 = (2 : Int))) = true then
  ((ref01_IsKey t_.2.2.2.1).bind fun t19 =>
  some (t19 && (decide (t_.2.2.1 = (0 : Int)))))
  else
  if (decide (t_.1 = (3 : Int))) = true then
  ((if (decide ((t_.2.2.2.1.length : Int) ≤ (24 : Int))) = true then base_Word t_.2.2.2.1 else some false).bind fun t34 =>
  some (((decide ((t_.2.2.2.1.length : Int) ≤ (24 : Int))) && t34) && (decide (t_.2.2.1 = (0 : Int)))))
  else
  if (decide (t_.1 = (4 : Int))) = true then
  some (((decide (t_.2.2.2.1 = ([] : List UInt8))) && (decide ((0 : Int) ≤ t_.2.2.1))) && (decide (t_.2.2.1 ≤ (9007199254740992 : Int))))
  else
  if (decide (t_.1 = (5 : Int))) = true then
  some ((decide ((t_.2.2.2.1.length : Int) ≤ (4096 : Int))) && (decide (t_.2.2.1 = (0 : Int))))
  else
  if (decide (t_.1 = (6 : Int))) = true then
  ((ref01_Mark t_.2.2.2.1).bind fun t71 =>
  some (t71 && (decide (t_.2.2.1 = (0 : Int)))))
  else
  some false
/-! ### onceweb/oncewebbase.Itoa -/
inductive L_base_Itoa where
  | l6 (n : Int) (u_ : Int)
  | l7 (n : Int) (u_ : Int) (s_ : (List UInt8))
noncomputable def sg_base_Itoa_6 (n : Int) (u_ : Int) : Option (L_base_Itoa ⊕ (List UInt8)) :=
  some (.inl (.l7 n u_ ([] : List UInt8)))
noncomputable def sg_base_Itoa_7 (n : Int) (u_ : Int) (s_ : (List UInt8)) : Option (L_base_Itoa ⊕ (List UInt8)) :=
  if (decide ((0 : Int) < u_)) = true then
  (G (([((IntKind.wrap .u8 ((IntKind.wrap .u64 ((48 : Int) + (Int.tmod u_ (10 : Int))))))).toNat.toUInt8] : List UInt8).length + s_.length ≤ 9223372036854775807) <|
  some (.inl (.l7 n (IntKind.wrap .u64 (Int.tdiv u_ (10 : Int))) (([((IntKind.wrap .u8 ((IntKind.wrap .u64 ((48 : Int) + (Int.tmod u_ (10 : Int))))))).toNat.toUInt8] : List UInt8) ++ s_))))
  else
  if (decide (n < (0 : Int))) = true then
  (G (([45] : List UInt8).length + s_.length ≤ 9223372036854775807) <|
  some (.inr (([45] : List UInt8) ++ s_)))
  else
  some (.inr s_)
noncomputable def st_base_Itoa : L_base_Itoa → Option (L_base_Itoa ⊕ (List UInt8))
  | .l6 n u_ => sg_base_Itoa_6 n u_
  | .l7 n u_ s_ => sg_base_Itoa_7 n u_ s_
noncomputable def en_base_Itoa (n : Int) : Option (L_base_Itoa ⊕ (List UInt8)) :=
  if (decide (n = (0 : Int))) = true then
  some (.inr ([48] : List UInt8))
  else
  if (decide (n < (0 : Int))) = true then
  some (.inl (.l6 n (IntKind.wrap .u64 (0 - (IntKind.wrap .u64 (n))))))
  else
  some (.inl (.l6 n (IntKind.wrap .u64 (n))))
noncomputable def base_Itoa (n : Int) : Option (List UInt8) := runL st_base_Itoa (en_base_Itoa n)
/-! ### onceweb/oncewebref01.Quote -/
inductive L_ref01_Quote where
  | l4 (s_ : (List UInt8)) (digits : (List UInt8)) (out : (List UInt8)) (i : Int)
noncomputable def sg_ref01_Quote_4 (s_ : (List UInt8)) (digits : (List UInt8)) (out : (List UInt8)) (i : Int) : Option (L_ref01_Quote ⊕ (List UInt8)) :=
  if (decide (i < (s_.length : Int))) = true then
  (G (0 ≤ i ∧ i < (s_.length : Int)) <|
  if ((decide (((s_.getD i.toNat 0).toNat : Int) = 34)) || (decide (((s_.getD i.toNat 0).toNat : Int) = 92))) = true then
  (G ((out.length + ([(92 : UInt8), (s_.getD i.toNat 0)] : List UInt8).length) * 1 ≤ 140737488355328) <|
  some (.inl (.l4 s_ digits (out ++ ([(92 : UInt8), (s_.getD i.toNat 0)] : List UInt8)) (w64 (i + (1 : Int))))))
  else
  if (decide (((s_.getD i.toNat 0).toNat : Int) = 10)) = true then
  (G ((out.length + ([(92 : UInt8), (110 : UInt8)] : List UInt8).length) * 1 ≤ 140737488355328) <|
  some (.inl (.l4 s_ digits (out ++ ([(92 : UInt8), (110 : UInt8)] : List UInt8)) (w64 (i + (1 : Int))))))
  else
  if ((decide (((s_.getD i.toNat 0).toNat : Int) < 32)) || (decide (126 < ((s_.getD i.toNat 0).toNat : Int)))) = true then
  (G (0 ≤ ((((IntKind.wrap .u8 (Int.tdiv ((s_.getD i.toNat 0).toNat : Int) 16))).toNat.toUInt8).toNat : Int) ∧ ((((IntKind.wrap .u8 (Int.tdiv ((s_.getD i.toNat 0).toNat : Int) 16))).toNat.toUInt8).toNat : Int) < (digits.length : Int)) <|
  G (0 ≤ ((((Int.tmod ((s_.getD i.toNat 0).toNat : Int) 16)).toNat.toUInt8).toNat : Int) ∧ ((((Int.tmod ((s_.getD i.toNat 0).toNat : Int) 16)).toNat.toUInt8).toNat : Int) < (digits.length : Int)) <|
  G ((out.length + ([(92 : UInt8), (120 : UInt8), (digits.getD ((((IntKind.wrap .u8 (Int.tdiv ((s_.getD i.toNat 0).toNat : Int) 16))).toNat.toUInt8).toNat : Int).toNat 0), (digits.getD ((((Int.tmod ((s_.getD i.toNat 0).toNat : Int) 16)).toNat.toUInt8).toNat : Int).toNat 0)] : List UInt8).length) * 1 ≤ 140737488355328) <|
  some (.inl (.l4 s_ digits (out ++ ([(92 : UInt8), (120 : UInt8), (digits.getD ((((IntKind.wrap .u8 (Int.tdiv ((s_.getD i.toNat 0).toNat : Int) 16))).toNat.toUInt8).toNat : Int).toNat 0), (digits.getD ((((Int.tmod ((s_.getD i.toNat 0).toNat : Int) 16)).toNat.toUInt8).toNat : Int).toNat 0)] : List UInt8)) (w64 (i + (1 : Int))))))
  else
  G ((out.length + ([(s_.getD i.toNat 0)] : List UInt8).length) * 1 ≤ 140737488355328) <|
  some (.inl (.l4 s_ digits (out ++ ([(s_.getD i.toNat 0)] : List UInt8)) (w64 (i + (1 : Int))))))
  else
  G ((out.length + ([(34 : UInt8)] : List UInt8).length) * 1 ≤ 140737488355328) <|
  some (.inr (out ++ ([(34 : UInt8)] : List UInt8)))
noncomputable def st_ref01_Quote : L_ref01_Quote → Option (L_ref01_Quote ⊕ (List UInt8))
  | .l4 s_ digits out i => sg_ref01_Quote_4 s_ digits out i
noncomputable def en_ref01_Quote (s_ : (List UInt8)) : Option (L_ref01_Quote ⊕ (List UInt8)) :=
  some (.inl (.l4 s_ ([48, 49, 50, 51, 52, 53, 54, 55, 56, 57, 97, 98, 99, 100, 101, 102] : List UInt8) ([(34 : UInt8)] : List UInt8) (0 : Int)))
noncomputable def ref01_Quote (s_ : (List UInt8)) : Option (List UInt8) := runL st_ref01_Quote (en_ref01_Quote s_)
/-! ### onceweb/oncewebref01.Lay -/
inductive L_ref01_Lay where
  | l5 (l : (List tToken)) (out : (List UInt8)) (i : Int)
  | l12 (l : (List tToken)) (out : (List UInt8)) (i : Int) (t_ : Int) (t_' : Int) (t_'' : Int) (t_''' : (List UInt8))
noncomputable def sg_ref01_Lay_5 (l : (List tToken)) (out : (List UInt8)) (i : Int) : Option (L_ref01_Lay ⊕ ((List UInt8) × Int)) :=
  if (decide (i < (l.length : Int))) = true then
  (G (0 ≤ i ∧ i < (l.length : Int)) <|
  (ref01_right ((l.getD i.toNat dToken).1, (l.getD i.toNat dToken).2.1, (l.getD i.toNat dToken).2.2.1, (l.getD i.toNat dToken).2.2.2.1, ())).bind fun t22 =>
  if (!t22) = true then
  some (.inr (([] : List UInt8), (5 : Int)))
  else
  if (decide ((0 : Int) < i)) = true then
  (G ((out.length + ([(32 : UInt8)] : List UInt8).length) * 1 ≤ 140737488355328) <|
  some (.inl (.l12 l (out ++ ([(32 : UInt8)] : List UInt8)) i ((l.getD i.toNat dToken).1) ((l.getD i.toNat dToken).2.1) ((l.getD i.toNat dToken).2.2.1) ((l.getD i.toNat dToken).2.2.2.1))))
  else
  some (.inl (.l12 l out i ((l.getD i.toNat dToken).1) ((l.getD i.toNat dToken).2.1) ((l.getD i.toNat dToken).2.2.1) ((l.getD i.toNat dToken).2.2.2.1))))
  else
  some (.inr (out, (0 : Int)))
noncomputable def sg_ref01_Lay_12 (l : (List tToken)) (out : (List UInt8)) (i : Int) (t_ : Int) (t_' : Int) (t_'' : Int) (t_''' : (List UInt8)) : Option (L_ref01_Lay ⊕ ((List UInt8) × Int)) :=
  if (decide (t_ = (3 : Int))) = true then
  (G (([36] : List UInt8).length + t_'''.length ≤ 9223372036854775807) <|
  G (out.length + (([36] : List UInt8) ++ t_''').length ≤ 140737488355328) <|
  some (.inl (.l5 l (out ++ (([36] : List UInt8) ++ t_''')) (w64 (i + (1 : Int))))))
  else
  if (decide (t_ = (4 : Int))) = true then
  ((base_Itoa t_'').bind fun t47 =>
  G (out.length + t47.length ≤ 140737488355328) <|
  some (.inl (.l5 l (out ++ t47) (w64 (i + (1 : Int))))))
  else
  if (decide (t_ = (5 : Int))) = true then
  ((ref01_Quote t_''').bind fun t54 =>
  G (out.length + t54.length ≤ 140737488355328) <|
  some (.inl (.l5 l (out ++ t54) (w64 (i + (1 : Int))))))
  else
  G (out.length + t_'''.length ≤ 140737488355328) <|
  some (.inl (.l5 l (out ++ t_''') (w64 (i + (1 : Int)))))
noncomputable def st_ref01_Lay : L_ref01_Lay → Option (L_ref01_Lay ⊕ ((List UInt8) × Int))
  | .l5 l out i => sg_ref01_Lay_5 l out i
  | .l12 l out i t_ t_' t_'' t_''' => sg_ref01_Lay_12 l out i t_ t_' t_'' t_'''
noncomputable def en_ref01_Lay (l : (List tToken)) : Option (L_ref01_Lay ⊕ ((List UInt8) × Int)) :=
  if (decide ((8192 : Int) < (l.length : Int))) = true then
  some (.inr (([] : List UInt8), (3 : Int)))
  else
  some (.inl (.l5 l ([] : List UInt8) (0 : Int)))
noncomputable def ref01_Lay (l : (List tToken)) : Option ((List UInt8) × Int) := runL st_ref01_Lay (en_ref01_Lay l)
/-! ### onceweb/onceweblaw01.LexLays -/
noncomputable def law01_LexLays (l : (List tToken)) : Option Bool :=
  G ((([] : List tToken).length + l.length) * 40 ≤ 140737488355328) <|
  (lex_Lay l).bind fun t13 =>
  (ref01_Lay l).bind fun t18 =>
  (if ((decide (t13.1 = t18.1)) && (decide (t13.2 = t18.2))) = true then law01_tokens l l else some false).bind fun t32 =>
  some (((decide (t13.1 = t18.1)) && (decide (t13.2 = t18.2))) && t32)
/-! ### onceweb/lex.Unquote -/
noncomputable def lex_Unquote (s_ : (List UInt8)) : Option ((List UInt8) × Bool) :=
  (lex_quoted s_ (0 : Int)).bind fun t9 =>
  if ((!t9.2.2) || (!decide (t9.2.1 = (s_.length : Int)))) = true then
  some (([] : List UInt8), false)
  else
  some (t9.1, true)
/-! ### onceweb/onceweblaw01.LexBack -/
inductive L_law01_LexBack where
  | l8 (s_ : (List UInt8))
noncomputable def sg_law01_LexBack_8 (s_ : (List UInt8)) : Option (L_law01_LexBack ⊕ Bool) :=
  (lex_Quote s_).bind fun t43 =>
  (lex_Unquote t43).bind fun t44 =>
  if ((!t44.2) || (!decide (t44.1 = s_))) = true then
  some (.inr false)
  else
  (lex_Unquote s_).bind fun t56 =>
  (if (!(!t56.2)) = true then lex_Quote t56.1 else some ([] : List UInt8)).bind fun t63 =>
  some (.inr ((!t56.2) || (decide (t63 = s_))))
noncomputable def st_law01_LexBack : L_law01_LexBack → Option (L_law01_LexBack ⊕ Bool)
  | .l8 s_ => sg_law01_LexBack_8 s_
noncomputable def en_law01_LexBack (l : (List tToken)) (s_ : (List UInt8)) : Option (L_law01_LexBack ⊕ Bool) :=
  (law01_works).bind fun t11 =>
  if (!t11) = true then
  some (.inr false)
  else
  (lex_Lay l).bind fun t15 =>
  if ((decide (t15.2 = (0 : Int))) && (decide ((t15.1.length : Int) ≤ (65536 : Int)))) = true then
  ((lex_Tokens t15.1).bind fun t27 =>
  (if (!(!(eqR tyFault (t27.2.1, t27.2.2.1, ()) ((0 : Int), (0 : Int), ())))) = true then law01_nowhere t27.1 else some ([] : List tToken)).bind fun t35 =>
  (if (!(!(eqR tyFault (t27.2.1, t27.2.2.1, ()) ((0 : Int), (0 : Int), ())))) = true then law01_nowhere l else some ([] : List tToken)).bind fun t37 =>
  (if (!(!(eqR tyFault (t27.2.1, t27.2.2.1, ()) ((0 : Int), (0 : Int), ())))) = true then law01_tokens t35 t37 else some false).bind fun t38 =>
  if ((!(eqR tyFault (t27.2.1, t27.2.2.1, ()) ((0 : Int), (0 : Int), ()))) || (!t38)) = true then
  some (.inr false)
  else
  some (.inl (.l8 s_)))
  else
  some (.inl (.l8 s_))
noncomputable def law01_LexBack (l : (List tToken)) (s_ : (List UInt8)) : Option Bool := runL st_law01_LexBack (en_law01_LexBack l s_)
end Go.Eng
