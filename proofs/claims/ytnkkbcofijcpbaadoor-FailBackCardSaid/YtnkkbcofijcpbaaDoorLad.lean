/- A part of the proof: Lad. -/
import Derived.Test.YtnkkbcofijcpbaaDoorD3
import Derived.Lib.Join
namespace Go.Eng
set_option linter.unusedVariables false
set_option linter.unusedSimpArgs false
set_option maxRecDepth 8000
abbrev tyCrack : Ty := rowOf [(.int .i64), (.int .i64), .str]
abbrev tCrack := Int × Int × (List UInt8) × Unit
abbrev dCrack : tCrack := ((0 : Int), (0 : Int), ([] : List UInt8), ())
abbrev tyreader : Ty := rowOf [.str, (.int .i64), (.sl 3 tyCrack), (.int .i64)]
abbrev tystuck : Ty := rowOf []
def gl_onceweb_fail_words : List (List UInt8) := [[], [102, 97, 105, 108], [112, 97, 110, 105, 99], [118, 97, 108, 117, 101], [110, 111, 110, 101], [99, 121, 99, 108, 101], [100, 101, 112, 116, 104], [99, 108, 111, 115, 101, 100], [116, 111, 107, 101, 110], [99, 101, 108, 108], [106, 111, 105, 110], [108, 111, 110, 103]]
def gl_onceweb_fail_sorts : List Int := [0, 1, 1, 1, 1, 1, 1, 1, 2, 3, 4, 1]
def gl_onceweb_fail_values : List (List UInt8) := [[108, 105, 115, 116], [97, 100, 100], [115, 117, 98], [109, 117, 108], [106, 111, 105, 110], [105, 116, 101, 109], [115, 105, 122, 101], [105, 102], [102, 97, 105, 108], [112, 97, 110, 105, 99]]
def gl_onceweb_lex_keys : List (List UInt8) := [[99, 101, 108, 108], [97, 103, 97, 105, 110], [116, 114, 105, 101, 115], [98, 97, 115, 101], [102, 97, 99, 116, 111, 114], [99, 97, 112], [99, 108, 111, 115, 101], [102, 105, 110, 101], [102, 97, 105, 108], [112, 97, 110, 105, 99], [105, 102], [116, 104, 101, 110], [101, 108, 115, 101], [116, 114, 121], [119, 97, 105, 116], [108, 101, 116], [105, 110], [105, 116, 101, 109], [115, 105, 122, 101]]
inductive L_base_SameFail where
  | l4 (a : (List tCrack)) (b : (List tCrack)) (i : Int)
noncomputable def sg_base_SameFail_4 (a : (List tCrack)) (b : (List tCrack)) (i : Int) : Option (L_base_SameFail ⊕ Bool) :=
  if (decide (i < (a.length : Int))) = true then
  (G (0 ≤ i ∧ i < (a.length : Int)) <|
  G (0 ≤ i ∧ i < (b.length : Int)) <|
  if (!(eqR tyCrack (a.getD i.toNat dCrack) (b.getD i.toNat dCrack))) = true then
  some (.inr false)
  else
  some (.inl (.l4 a b (w64 (i + (1 : Int))))))
  else
  some (.inr true)
noncomputable def st_base_SameFail : L_base_SameFail → Option (L_base_SameFail ⊕ Bool)
  | .l4 a b i => sg_base_SameFail_4 a b i
noncomputable def en_base_SameFail (a : (List tCrack)) (b : (List tCrack)) : Option (L_base_SameFail ⊕ Bool) :=
  if (!decide ((a.length : Int) = (b.length : Int))) = true then
  some (.inr false)
  else
  some (.inl (.l4 a b (0 : Int)))
noncomputable def base_SameFail (a : (List tCrack)) (b : (List tCrack)) : Option Bool := runL st_base_SameFail (en_base_SameFail a b)
noncomputable def fail_sort (kind : Int) : Option Int :=
  if ((decide (kind < (0 : Int))) || (decide ((12 : Int) ≤ kind))) = true then
  some (0 : Int)
  else
  G (0 ≤ kind ∧ kind < (gl_onceweb_fail_sorts.length : Int)) <|
  some (gl_onceweb_fail_sorts.getD kind.toNat (0 : Int))
noncomputable def lex_letter (c : UInt8) : Option Bool :=
  some ((decide (97 ≤ (c.toNat : Int))) && (decide ((c.toNat : Int) ≤ 122)))
noncomputable def lex_digit (c : UInt8) : Option Bool :=
  some ((decide (48 ≤ (c.toNat : Int))) && (decide ((c.toNat : Int) ≤ 57)))
inductive L_lex_word where
  | l3 (s_ : (List UInt8)) (at_ : Int)
noncomputable def sg_lex_word_3 (s_ : (List UInt8)) (at_ : Int) : Option (L_lex_word ⊕ Int) :=
  G ((decide (at_ < (s_.length : Int))) = true → (0 ≤ at_ ∧ at_ < (s_.length : Int))) <|
  (if (decide (at_ < (s_.length : Int))) = true then lex_letter (s_.getD at_.toNat 0) else some false).bind fun t25 =>
  G (((decide (at_ < (s_.length : Int))) && !t25) = true → (0 ≤ at_ ∧ at_ < (s_.length : Int))) <|
  (if ((decide (at_ < (s_.length : Int))) && !t25) = true then lex_digit (s_.getD at_.toNat 0) else some false).bind fun t30 =>
  G (((decide (at_ < (s_.length : Int))) && !(t25 || t30)) = true → (0 ≤ at_ ∧ at_ < (s_.length : Int))) <|
  if ((decide (at_ < (s_.length : Int))) && ((t25 || t30) || (decide (((s_.getD at_.toNat 0).toNat : Int) = 95)))) = true then
  some (.inl (.l3 s_ (w64 (at_ + (1 : Int)))))
  else
  some (.inr at_)
noncomputable def st_lex_word : L_lex_word → Option (L_lex_word ⊕ Int)
  | .l3 s_ at_ => sg_lex_word_3 s_ at_
noncomputable def en_lex_word (s_ : (List UInt8)) (at_ : Int) : Option (L_lex_word ⊕ Int) :=
  G ((!(decide ((s_.length : Int) ≤ at_))) = true → (0 ≤ at_ ∧ at_ < (s_.length : Int))) <|
  (if (!(decide ((s_.length : Int) ≤ at_))) = true then lex_letter (s_.getD at_.toNat 0) else some false).bind fun t13 =>
  if ((decide ((s_.length : Int) ≤ at_)) || (!t13)) = true then
  some (.inr at_)
  else
  some (.inl (.l3 s_ at_))
noncomputable def lex_word (s_ : (List UInt8)) (at_ : Int) : Option Int := runL st_lex_word (en_lex_word s_ at_)
inductive L_slices_Index where
  | l2 (s_ : (List (List UInt8))) (v : (List UInt8)) (x7 : Int) (x8 : Int)
noncomputable def sg_slices_Index_2 (s_ : (List (List UInt8))) (v : (List UInt8)) (x7 : Int) (x8 : Int) : Option (L_slices_Index ⊕ Int) :=
  if (decide (x8 < x7)) = true then
  (G (0 ≤ x8 ∧ x8 < (s_.length : Int)) <|
  if (decide (v = (s_.getD x8.toNat ([] : List UInt8)))) = true then
  some (.inr x8)
  else
  some (.inl (.l2 s_ v x7 (w64 (x8 + (1 : Int))))))
  else
  some (.inr (-1 : Int))
noncomputable def st_slices_Index : L_slices_Index → Option (L_slices_Index ⊕ Int)
  | .l2 s_ v x7 x8 => sg_slices_Index_2 s_ v x7 x8
noncomputable def en_slices_Index (s_ : (List (List UInt8))) (v : (List UInt8)) : Option (L_slices_Index ⊕ Int) :=
  some (.inl (.l2 s_ v (s_.length : Int) (0 : Int)))
noncomputable def slices_Index (s_ : (List (List UInt8))) (v : (List UInt8)) : Option Int := runL st_slices_Index (en_slices_Index s_ v)
noncomputable def slices_Contains (s_ : (List (List UInt8))) (v : (List UInt8)) : Option Bool :=
  (slices_Index s_ v).bind fun t7 =>
  some (decide ((0 : Int) ≤ t7))
noncomputable def lex_IsKey (s_ : (List UInt8)) : Option Bool :=
  (slices_Contains gl_onceweb_lex_keys s_).bind fun t5 =>
  some t5
noncomputable def lex_IsName (s_ : (List UInt8)) : Option Bool :=
  (if ((!decide (s_ = ([] : List UInt8))) && (decide ((s_.length : Int) ≤ (24 : Int)))) = true then lex_word s_ (0 : Int) else some (0 : Int)).bind fun t12 =>
  (if (((!decide (s_ = ([] : List UInt8))) && (decide ((s_.length : Int) ≤ (24 : Int)))) && (decide (t12 = (s_.length : Int)))) = true then lex_IsKey s_ else some false).bind fun t19 =>
  some ((((!decide (s_ = ([] : List UInt8))) && (decide ((s_.length : Int) ≤ (24 : Int)))) && (decide (t12 = (s_.length : Int)))) && (!t19))
noncomputable def fail_fits (kind : Int) (text : (List UInt8)) : Option Bool :=
  if (decide (kind = (1 : Int))) = true then
  (if (decide (kind = (1 : Int))) = true then
  some true
  else
  if (decide (kind = (3 : Int))) = true then
  ((slices_Contains gl_onceweb_fail_values text).bind fun t14 =>
  some t14)
  else
  if (decide (kind = (4 : Int))) = true then
  (if (decide (kind = (4 : Int))) = true then
  ((lex_IsName text).bind fun t20 =>
  some t20)
  else
  some (decide (text = ([] : List UInt8))))
  else
  if (decide (kind = (5 : Int))) = true then
  (if (decide (kind = (5 : Int))) = true then
  ((lex_IsName text).bind fun t20 =>
  some t20)
  else
  some (decide (text = ([] : List UInt8))))
  else
  if (decide (kind = (9 : Int))) = true then
  ((lex_IsName text).bind fun t20 =>
  some t20)
  else
  some (decide (text = ([] : List UInt8))))
  else
  if (decide (kind = (2 : Int))) = true then
  (if (decide (kind = (2 : Int))) = true then
  some true
  else
  if (decide (kind = (3 : Int))) = true then
  ((slices_Contains gl_onceweb_fail_values text).bind fun t14 =>
  some t14)
  else
  if (decide (kind = (4 : Int))) = true then
  (if (decide (kind = (4 : Int))) = true then
  ((lex_IsName text).bind fun t20 =>
  some t20)
  else
  some (decide (text = ([] : List UInt8))))
  else
  if (decide (kind = (5 : Int))) = true then
  (if (decide (kind = (5 : Int))) = true then
  ((lex_IsName text).bind fun t20 =>
  some t20)
  else
  some (decide (text = ([] : List UInt8))))
  else
  if (decide (kind = (9 : Int))) = true then
  ((lex_IsName text).bind fun t20 =>
  some t20)
  else
  some (decide (text = ([] : List UInt8))))
  else
  if (decide (kind = (8 : Int))) = true then
  some true
  else
  if (decide (kind = (3 : Int))) = true then
  ((slices_Contains gl_onceweb_fail_values text).bind fun t14 =>
  some t14)
  else
  if (decide (kind = (4 : Int))) = true then
  (if (decide (kind = (4 : Int))) = true then
  ((lex_IsName text).bind fun t20 =>
  some t20)
  else
  some (decide (text = ([] : List UInt8))))
  else
  if (decide (kind = (5 : Int))) = true then
  (if (decide (kind = (5 : Int))) = true then
  ((lex_IsName text).bind fun t20 =>
  some t20)
  else
  some (decide (text = ([] : List UInt8))))
  else
  if (decide (kind = (9 : Int))) = true then
  ((lex_IsName text).bind fun t20 =>
  some t20)
  else
  some (decide (text = ([] : List UInt8)))
inductive L_fail_well where
  | l11 (c : Int) (c' : Int) (c'' : (List UInt8)) (ok : Bool)
noncomputable def sg_fail_well_11 (c : Int) (c' : Int) (c'' : (List UInt8)) (ok : Bool) : Option (L_fail_well ⊕ Bool) :=
  (if (ok && (decide ((c''.length : Int) ≤ (4096 : Int)))) = true then fail_fits c c'' else some false).bind fun t44 =>
  some (.inr ((ok && (decide ((c''.length : Int) ≤ (4096 : Int)))) && t44))
noncomputable def st_fail_well : L_fail_well → Option (L_fail_well ⊕ Bool)
  | .l11 c c' c'' ok => sg_fail_well_11 c c' c'' ok
noncomputable def en_fail_well (c : tCrack) : Option (L_fail_well ⊕ Bool) :=
  (fail_sort c.1).bind fun t6 =>
  if (decide (t6 = (1 : Int))) = true then
  some (.inl (.l11 c.1 c.2.1 c.2.2.1 (decide (c.2.1 = (0 : Int)))))
  else
  if (decide (t6 = (2 : Int))) = true then
  some (.inl (.l11 c.1 c.2.1 c.2.2.1 ((decide (c.2.1 = (0 : Int))) || (decide (c.2.1 = (1 : Int))))))
  else
  if (decide (t6 = (3 : Int))) = true then
  some (.inl (.l11 c.1 c.2.1 c.2.2.1 (decide (c.2.1 = (1 : Int)))))
  else
  if (decide (t6 = (4 : Int))) = true then
  some (.inl (.l11 c.1 c.2.1 c.2.2.1 (decide ((1 : Int) ≤ c.2.1))))
  else
  some (.inl (.l11 c.1 c.2.1 c.2.2.1 false))
noncomputable def fail_well (c : tCrack) : Option Bool := runL st_fail_well (en_fail_well c)
inductive L_fail_begins where
  | l3 (from_ : (List Int)) (stack : (List Int)) (x12 : (List tCrack)) (x13 : Int) (x14 : Int)
  | l10 (from_ : (List Int)) (stack : (List Int)) (i : Int) (c : Int) (c' : Int) (c'' : (List UInt8)) (x12 : (List tCrack)) (x13 : Int) (x14 : Int)
noncomputable def sg_fail_begins_3 (from_ : (List Int)) (stack : (List Int)) (x12 : (List tCrack)) (x13 : Int) (x14 : Int) : Option (L_fail_begins ⊕ ((List Int) × Bool)) :=
  if (decide (x14 < x13)) = true then
  (G (0 ≤ x14 ∧ x14 < (x12.length : Int)) <|
  (fail_well ((x12.getD x14.toNat dCrack).1, (x12.getD x14.toNat dCrack).2.1, (x12.getD x14.toNat dCrack).2.2.1, ())).bind fun t20 =>
  if ((!t20) || (decide ((stack.length : Int) < (x12.getD x14.toNat dCrack).2.1))) = true then
  some (.inr (([] : List Int), false))
  else
  G (0 ≤ x14 ∧ x14 < (from_.length : Int)) <|
  if (decide ((0 : Int) < (x12.getD x14.toNat dCrack).2.1)) = true then
  (G (0 ≤ (w64 ((stack.length : Int) - (x12.getD x14.toNat dCrack).2.1)) ∧ (w64 ((stack.length : Int) - (x12.getD x14.toNat dCrack).2.1)) < (stack.length : Int)) <|
  G (0 ≤ x14 ∧ x14 < (((from_.set x14.toNat x14).length : Nat) : Int)) <|
  some (.inl (.l10 ((from_.set x14.toNat x14).set x14.toNat (stack.getD ((w64 ((stack.length : Int) - (x12.getD x14.toNat dCrack).2.1)).toNat) (0 : Int))) stack x14 ((x12.getD x14.toNat dCrack).1) ((x12.getD x14.toNat dCrack).2.1) ((x12.getD x14.toNat dCrack).2.2.1) x12 x13 x14)))
  else
  some (.inl (.l10 (from_.set x14.toNat x14) stack x14 ((x12.getD x14.toNat dCrack).1) ((x12.getD x14.toNat dCrack).2.1) ((x12.getD x14.toNat dCrack).2.2.1) x12 x13 x14)))
  else
  some (.inr (from_, (decide ((stack.length : Int) = (1 : Int)))))
noncomputable def sg_fail_begins_10 (from_ : (List Int)) (stack : (List Int)) (i : Int) (c : Int) (c' : Int) (c'' : (List UInt8)) (x12 : (List tCrack)) (x13 : Int) (x14 : Int) : Option (L_fail_begins ⊕ ((List Int) × Bool)) :=
  G (0 ≤ (w64 ((stack.length : Int) - c')) ∧ (w64 ((stack.length : Int) - c')) ≤ (stack.length : Int)) <|
  G (0 ≤ i ∧ i < (from_.length : Int)) <|
  G (((w64 ((stack.length : Int) - c')).toNat + ([(from_.getD i.toNat (0 : Int))] : List Int).length) * 8 ≤ 140737488355328) <|
  some (.inl (.l3 from_ ((stack.take ((w64 ((stack.length : Int) - c')).toNat)) ++ ([(from_.getD i.toNat (0 : Int))] : List Int)) x12 x13 (w64 (x14 + (1 : Int)))))
noncomputable def st_fail_begins : L_fail_begins → Option (L_fail_begins ⊕ ((List Int) × Bool))
  | .l3 from_ stack x12 x13 x14 => sg_fail_begins_3 from_ stack x12 x13 x14
  | .l10 from_ stack i c c' c'' x12 x13 x14 => sg_fail_begins_10 from_ stack i c c' c'' x12 x13 x14
noncomputable def en_fail_begins (f : (List tCrack)) : Option (L_fail_begins ⊕ ((List Int) × Bool)) :=
  G (0 ≤ (f.length : Int) ∧ (f.length : Int) ≤ (f.length : Int) ∧ (8 : Int) * (f.length : Int) ≤ 281474976710656) <|
  some (.inl (.l3 (List.replicate (f.length : Int).toNat (0 : Int)) ([] : List Int) f (f.length : Int) (0 : Int)))
noncomputable def fail_begins (f : (List tCrack)) : Option ((List Int) × Bool) := runL st_fail_begins (en_fail_begins f)
noncomputable def fail_Check (f : (List tCrack)) : Option Int :=
  if (decide ((1024 : Int) < (f.length : Int))) = true then
  some (3 : Int)
  else
  (fail_begins f).bind fun t10 =>
  if (!t10.2) = true then
  some (5 : Int)
  else
  some (0 : Int)
inductive L_lex_Quote where
  | l4 (s_ : (List UInt8)) (out : (List UInt8)) (x14 : Int) (x15 : Int)
noncomputable def sg_lex_Quote_4 (s_ : (List UInt8)) (out : (List UInt8)) (x14 : Int) (x15 : Int) : Option (L_lex_Quote ⊕ (List UInt8)) :=
  if (decide (x15 < x14)) = true then
  (G (0 ≤ x15 ∧ x15 < (s_.length : Int)) <|
  if ((decide (((s_.getD x15.toNat 0).toNat : Int) = 34)) || (decide (((s_.getD x15.toNat 0).toNat : Int) = 92))) = true then
  (G ((out.length + ([(92 : UInt8), (s_.getD x15.toNat 0)] : List UInt8).length) * 1 ≤ 140737488355328) <|
  some (.inl (.l4 s_ (out ++ ([(92 : UInt8), (s_.getD x15.toNat 0)] : List UInt8)) x14 (w64 (x15 + (1 : Int))))))
  else
  if (decide (((s_.getD x15.toNat 0).toNat : Int) = 10)) = true then
  (G ((out.length + ([(92 : UInt8), (110 : UInt8)] : List UInt8).length) * 1 ≤ 140737488355328) <|
  some (.inl (.l4 s_ (out ++ ([(92 : UInt8), (110 : UInt8)] : List UInt8)) x14 (w64 (x15 + (1 : Int))))))
  else
  if ((decide (((s_.getD x15.toNat 0).toNat : Int) < 32)) || (decide (126 < ((s_.getD x15.toNat 0).toNat : Int)))) = true then
  (G (0 ≤ ((((Int.fdiv ((s_.getD x15.toNat 0).toNat : Int) (2 ^ (min ((4 : Int)).toNat IntKind.u8.bits)))).toNat.toUInt8).toNat : Int) ∧ ((((Int.fdiv ((s_.getD x15.toNat 0).toNat : Int) (2 ^ (min ((4 : Int)).toNat IntKind.u8.bits)))).toNat.toUInt8).toNat : Int) < (([48, 49, 50, 51, 52, 53, 54, 55, 56, 57, 97, 98, 99, 100, 101, 102] : List UInt8).length : Int)) <|
  G (0 ≤ ((((IntKind.wrap .u8 ((BitVec.ofInt IntKind.u8.bits ((s_.getD x15.toNat 0).toNat : Int) &&& BitVec.ofInt IntKind.u8.bits 15).toNat))).toNat.toUInt8).toNat : Int) ∧ ((((IntKind.wrap .u8 ((BitVec.ofInt IntKind.u8.bits ((s_.getD x15.toNat 0).toNat : Int) &&& BitVec.ofInt IntKind.u8.bits 15).toNat))).toNat.toUInt8).toNat : Int) < (([48, 49, 50, 51, 52, 53, 54, 55, 56, 57, 97, 98, 99, 100, 101, 102] : List UInt8).length : Int)) <|
  G ((out.length + ([(92 : UInt8), (120 : UInt8), (([48, 49, 50, 51, 52, 53, 54, 55, 56, 57, 97, 98, 99, 100, 101, 102] : List UInt8).getD ((((Int.fdiv ((s_.getD x15.toNat 0).toNat : Int) (2 ^ (min ((4 : Int)).toNat IntKind.u8.bits)))).toNat.toUInt8).toNat : Int).toNat 0), (([48, 49, 50, 51, 52, 53, 54, 55, 56, 57, 97, 98, 99, 100, 101, 102] : List UInt8).getD ((((IntKind.wrap .u8 ((BitVec.ofInt IntKind.u8.bits ((s_.getD x15.toNat 0).toNat : Int) &&& BitVec.ofInt IntKind.u8.bits 15).toNat))).toNat.toUInt8).toNat : Int).toNat 0)] : List UInt8).length) * 1 ≤ 140737488355328) <|
  some (.inl (.l4 s_ (out ++ ([(92 : UInt8), (120 : UInt8), (([48, 49, 50, 51, 52, 53, 54, 55, 56, 57, 97, 98, 99, 100, 101, 102] : List UInt8).getD ((((Int.fdiv ((s_.getD x15.toNat 0).toNat : Int) (2 ^ (min ((4 : Int)).toNat IntKind.u8.bits)))).toNat.toUInt8).toNat : Int).toNat 0), (([48, 49, 50, 51, 52, 53, 54, 55, 56, 57, 97, 98, 99, 100, 101, 102] : List UInt8).getD ((((IntKind.wrap .u8 ((BitVec.ofInt IntKind.u8.bits ((s_.getD x15.toNat 0).toNat : Int) &&& BitVec.ofInt IntKind.u8.bits 15).toNat))).toNat.toUInt8).toNat : Int).toNat 0)] : List UInt8)) x14 (w64 (x15 + (1 : Int))))))
  else
  G ((out.length + ([(s_.getD x15.toNat 0)] : List UInt8).length) * 1 ≤ 140737488355328) <|
  some (.inl (.l4 s_ (out ++ ([(s_.getD x15.toNat 0)] : List UInt8)) x14 (w64 (x15 + (1 : Int))))))
  else
  G ((out.length + ([(34 : UInt8)] : List UInt8).length) * 1 ≤ 140737488355328) <|
  some (.inr (out ++ ([(34 : UInt8)] : List UInt8)))
noncomputable def st_lex_Quote : L_lex_Quote → Option (L_lex_Quote ⊕ (List UInt8))
  | .l4 s_ out x14 x15 => sg_lex_Quote_4 s_ out x14 x15
noncomputable def en_lex_Quote (s_ : (List UInt8)) : Option (L_lex_Quote ⊕ (List UInt8)) :=
  G (0 ≤ (0 : Int) ∧ (0 : Int) ≤ (w64 ((s_.length : Int) + (2 : Int))) ∧ (1 : Int) * (w64 ((s_.length : Int) + (2 : Int))) ≤ 281474976710656) <|
  G (((List.replicate (0 : Int).toNat (0 : UInt8)).length + ([(34 : UInt8)] : List UInt8).length) * 1 ≤ 140737488355328) <|
  some (.inl (.l4 s_ ((List.replicate (0 : Int).toNat (0 : UInt8)) ++ ([(34 : UInt8)] : List UInt8)) (s_.length : Int) (0 : Int)))
noncomputable def lex_Quote (s_ : (List UInt8)) : Option (List UInt8) := runL st_lex_Quote (en_lex_Quote s_)
noncomputable def strings_Join (l : List (List UInt8)) (sep : List UInt8) : Option (List UInt8) := G (l.length ≤ 140737488355328 ∧ (Lib.join l sep).length ≤ 140737488355328) <| some (Lib.join l sep)
inductive L_fail_Print where
  | l6 (stack : (List (List UInt8))) (x16 : (List tCrack)) (x17 : Int) (x18 : Int)
  | l22 (stack : (List (List UInt8))) (c : Int) (c' : Int) (c'' : (List UInt8)) (k : Int) (s_ : (List UInt8)) (x16 : (List tCrack)) (x17 : Int) (x18 : Int)
noncomputable def ax_fail_Print_6_1 (x16 : (List tCrack)) (x18 : Int) (stack : (List (List UInt8))) (x17 : Int) : Option (L_fail_Print ⊕ ((List UInt8) × Int)) :=
  (lex_Quote ((x16.getD x18.toNat dCrack).2.2.1)).bind fun t40 =>
  G (([32] : List UInt8).length + t40.length ≤ 9223372036854775807) <|
  G ((gl_onceweb_fail_words.getD ((x16.getD x18.toNat dCrack).1).toNat ([] : List UInt8)).length + (([32] : List UInt8) ++ t40).length ≤ 9223372036854775807) <|
  some (.inl (.l22 stack ((x16.getD x18.toNat dCrack).1) ((x16.getD x18.toNat dCrack).2.1) ((x16.getD x18.toNat dCrack).2.2.1) (w64 ((stack.length : Int) - (x16.getD x18.toNat dCrack).2.1)) ((gl_onceweb_fail_words.getD ((x16.getD x18.toNat dCrack).1).toNat ([] : List UInt8)) ++ (([32] : List UInt8) ++ t40)) x16 x17 x18))
noncomputable def ax_fail_Print_6_3 (x16 : (List tCrack)) (x18 : Int) (stack : (List (List UInt8))) (x17 : Int) : Option (L_fail_Print ⊕ ((List UInt8) × Int)) :=
  G (([32] : List UInt8).length + ((x16.getD x18.toNat dCrack).2.2.1).length ≤ 9223372036854775807) <|
  G ((gl_onceweb_fail_words.getD ((x16.getD x18.toNat dCrack).1).toNat ([] : List UInt8)).length + (([32] : List UInt8) ++ (x16.getD x18.toNat dCrack).2.2.1).length ≤ 9223372036854775807) <|
  some (.inl (.l22 stack ((x16.getD x18.toNat dCrack).1) ((x16.getD x18.toNat dCrack).2.1) ((x16.getD x18.toNat dCrack).2.2.1) (w64 ((stack.length : Int) - (x16.getD x18.toNat dCrack).2.1)) ((gl_onceweb_fail_words.getD ((x16.getD x18.toNat dCrack).1).toNat ([] : List UInt8)) ++ (([32] : List UInt8) ++ (x16.getD x18.toNat dCrack).2.2.1)) x16 x17 x18))
noncomputable def ax_fail_Print_6_4 (stack : (List (List UInt8))) (x16 : (List tCrack)) (x18 : Int) (x17 : Int) : Option (L_fail_Print ⊕ ((List UInt8) × Int)) :=
  G (0 ≤ (w64 ((stack.length : Int) - (x16.getD x18.toNat dCrack).2.1)) ∧ (w64 ((stack.length : Int) - (x16.getD x18.toNat dCrack).2.1)) ≤ (stack.length : Int)) <|
  (strings_Join (stack.drop ((w64 ((stack.length : Int) - (x16.getD x18.toNat dCrack).2.1)).toNat)) ([59, 32] : List UInt8)).bind fun t59 =>
  G (([40] : List UInt8).length + t59.length ≤ 9223372036854775807) <|
  G ((([40] : List UInt8) ++ t59).length + ([41] : List UInt8).length ≤ 9223372036854775807) <|
  G ((gl_onceweb_fail_words.getD ((x16.getD x18.toNat dCrack).1).toNat ([] : List UInt8)).length + ((([40] : List UInt8) ++ t59) ++ ([41] : List UInt8)).length ≤ 9223372036854775807) <|
  some (.inl (.l22 stack ((x16.getD x18.toNat dCrack).1) ((x16.getD x18.toNat dCrack).2.1) ((x16.getD x18.toNat dCrack).2.2.1) (w64 ((stack.length : Int) - (x16.getD x18.toNat dCrack).2.1)) ((gl_onceweb_fail_words.getD ((x16.getD x18.toNat dCrack).1).toNat ([] : List UInt8)) ++ ((([40] : List UInt8) ++ t59) ++ ([41] : List UInt8))) x16 x17 x18))
noncomputable def ax_fail_Print_6_5 (stack : (List (List UInt8))) (x16 : (List tCrack)) (x18 : Int) (x17 : Int) : Option (L_fail_Print ⊕ ((List UInt8) × Int)) :=
  some (.inl (.l22 stack ((x16.getD x18.toNat dCrack).1) ((x16.getD x18.toNat dCrack).2.1) ((x16.getD x18.toNat dCrack).2.2.1) (w64 ((stack.length : Int) - (x16.getD x18.toNat dCrack).2.1)) (gl_onceweb_fail_words.getD ((x16.getD x18.toNat dCrack).1).toNat ([] : List UInt8)) x16 x17 x18))
noncomputable def ax_fail_Print_6_2 (x16 : (List tCrack)) (x18 : Int) (stack : (List (List UInt8))) (x17 : Int) : Option (L_fail_Print ⊕ ((List UInt8) × Int)) :=
  if (decide ((x16.getD x18.toNat dCrack).1 = (3 : Int))) = true then
  ax_fail_Print_6_3 x16 x18 stack x17
  else
  if (decide ((x16.getD x18.toNat dCrack).1 = (10 : Int))) = true then
  ax_fail_Print_6_4 stack x16 x18 x17
  else
  ax_fail_Print_6_5 stack x16 x18 x17
noncomputable def ax_fail_Print_6_6 (x16 : (List tCrack)) (x18 : Int) (stack : (List (List UInt8))) (x17 : Int) : Option (L_fail_Print ⊕ ((List UInt8) × Int)) :=
  if (decide ((x16.getD x18.toNat dCrack).1 = (4 : Int))) = true then
  if (decide ((x16.getD x18.toNat dCrack).1 = (4 : Int))) = true then
  ax_fail_Print_6_3 x16 x18 stack x17
  else
  if (decide ((x16.getD x18.toNat dCrack).1 = (10 : Int))) = true then
  ax_fail_Print_6_4 stack x16 x18 x17
  else
  ax_fail_Print_6_5 stack x16 x18 x17
  else
  if (decide ((x16.getD x18.toNat dCrack).1 = (5 : Int))) = true then
  if (decide ((x16.getD x18.toNat dCrack).1 = (5 : Int))) = true then
  ax_fail_Print_6_3 x16 x18 stack x17
  else
  if (decide ((x16.getD x18.toNat dCrack).1 = (10 : Int))) = true then
  ax_fail_Print_6_4 stack x16 x18 x17
  else
  ax_fail_Print_6_5 stack x16 x18 x17
  else
  if (decide ((x16.getD x18.toNat dCrack).1 = (9 : Int))) = true then
  ax_fail_Print_6_3 x16 x18 stack x17
  else
  if (decide ((x16.getD x18.toNat dCrack).1 = (10 : Int))) = true then
  ax_fail_Print_6_4 stack x16 x18 x17
  else
  ax_fail_Print_6_5 stack x16 x18 x17
noncomputable def sg_fail_Print_6 (stack : (List (List UInt8))) (x16 : (List tCrack)) (x17 : Int) (x18 : Int) : Option (L_fail_Print ⊕ ((List UInt8) × Int)) :=
  if (decide (x18 < x17)) = true then
  G (0 ≤ x18 ∧ x18 < (x16.length : Int)) <|
  G (0 ≤ (x16.getD x18.toNat dCrack).1 ∧ (x16.getD x18.toNat dCrack).1 < (gl_onceweb_fail_words.length : Int)) <|
  if (decide ((x16.getD x18.toNat dCrack).1 = (1 : Int))) = true then
  if (decide ((x16.getD x18.toNat dCrack).1 = (1 : Int))) = true then
  ax_fail_Print_6_1 x16 x18 stack x17
  else
  if (decide ((x16.getD x18.toNat dCrack).1 = (3 : Int))) = true then
  ax_fail_Print_6_2 x16 x18 stack x17
  else
  ax_fail_Print_6_6 x16 x18 stack x17
  else
  if (decide ((x16.getD x18.toNat dCrack).1 = (2 : Int))) = true then
  if (decide ((x16.getD x18.toNat dCrack).1 = (2 : Int))) = true then
  ax_fail_Print_6_1 x16 x18 stack x17
  else
  if (decide ((x16.getD x18.toNat dCrack).1 = (3 : Int))) = true then
  ax_fail_Print_6_2 x16 x18 stack x17
  else
  ax_fail_Print_6_6 x16 x18 stack x17
  else
  if (decide ((x16.getD x18.toNat dCrack).1 = (8 : Int))) = true then
  ax_fail_Print_6_1 x16 x18 stack x17
  else
  if (decide ((x16.getD x18.toNat dCrack).1 = (3 : Int))) = true then
  ax_fail_Print_6_2 x16 x18 stack x17
  else
  ax_fail_Print_6_6 x16 x18 stack x17
  else
  G (0 ≤ (0 : Int) ∧ (0 : Int) < (stack.length : Int)) <|
  some (.inr ((stack.getD ((0 : Int).toNat) ([] : List UInt8)), (0 : Int)))
noncomputable def sg_fail_Print_22 (stack : (List (List UInt8))) (c : Int) (c' : Int) (c'' : (List UInt8)) (k : Int) (s_ : (List UInt8)) (x16 : (List tCrack)) (x17 : Int) (x18 : Int) : Option (L_fail_Print ⊕ ((List UInt8) × Int)) :=
  if ((decide (c' = (1 : Int))) && (!decide (c = (10 : Int)))) = true then
  G (0 ≤ k ∧ k < (stack.length : Int)) <|
  G (([58, 32] : List UInt8).length + (stack.getD k.toNat ([] : List UInt8)).length ≤ 9223372036854775807) <|
  G (s_.length + (([58, 32] : List UInt8) ++ (stack.getD k.toNat ([] : List UInt8))).length ≤ 9223372036854775807) <|
  G (0 ≤ k ∧ k ≤ (stack.length : Int)) <|
  G ((k.toNat + ([(s_ ++ (([58, 32] : List UInt8) ++ (stack.getD k.toNat ([] : List UInt8))))] : List (List UInt8)).length) * 16 ≤ 140737488355328) <|
  some (.inl (.l6 ((stack.take k.toNat) ++ ([(s_ ++ (([58, 32] : List UInt8) ++ (stack.getD k.toNat ([] : List UInt8))))] : List (List UInt8))) x16 x17 (w64 (x18 + (1 : Int)))))
  else
  G (0 ≤ k ∧ k ≤ (stack.length : Int)) <|
  G ((k.toNat + ([s_] : List (List UInt8)).length) * 16 ≤ 140737488355328) <|
  some (.inl (.l6 ((stack.take k.toNat) ++ ([s_] : List (List UInt8))) x16 x17 (w64 (x18 + (1 : Int)))))
noncomputable def st_fail_Print : L_fail_Print → Option (L_fail_Print ⊕ ((List UInt8) × Int))
  | .l6 stack x16 x17 x18 => sg_fail_Print_6 stack x16 x17 x18
  | .l22 stack c c' c'' k s_ x16 x17 x18 => sg_fail_Print_22 stack c c' c'' k s_ x16 x17 x18
noncomputable def en_fail_Print (f : (List tCrack)) : Option (L_fail_Print ⊕ ((List UInt8) × Int)) :=
  (fail_Check f).bind fun t11 =>
  if (!decide (t11 = (0 : Int))) = true then
  some (.inr (([] : List UInt8), t11))
  else
  some (.inl (.l6 ([] : List (List UInt8)) f (f.length : Int) (0 : Int)))
noncomputable def fail_Print (f : (List tCrack)) : Option ((List UInt8) × Int) := runL st_fail_Print (en_fail_Print f)
noncomputable def en_fail_reader_need (r_ : (List UInt8)) (r_' : Int) (r_'' : (List tCrack)) (r_''' : Int) (ok : Bool) : Option (Bool × (Nat × Value) × (List UInt8) × Int × (List tCrack) × Int) :=
  if (!ok) = true then
  some (true, ((103, (valX tystuck ())) : Nat × Value), ([] : List UInt8), (0 : Int), ([] : List tCrack), (0 : Int))
  else
  some (false, (0, undef), r_, r_', r_'', r_''')
noncomputable def fail_reader_need (r_ : (List UInt8)) (r_' : Int) (r_'' : (List tCrack)) (r_''' : Int) (ok : Bool) : Option (Bool × (Nat × Value) × (List UInt8) × Int × (List tCrack) × Int) := en_fail_reader_need r_ r_' r_'' r_''' ok
inductive L_fail_reader_word where
  | l2 (r_ : (List UInt8)) (r_' : Int) (r_'' : (List tCrack)) (r_''' : Int) (from_ : Int)
noncomputable def sg_fail_reader_word_2 (r_ : (List UInt8)) (r_' : Int) (r_'' : (List tCrack)) (r_''' : Int) (from_ : Int) : Option (L_fail_reader_word ⊕ ((List UInt8) × (List UInt8) × Int × (List tCrack) × Int)) :=
  G ((decide (r_' < (r_.length : Int))) = true → (0 ≤ r_' ∧ r_' < (r_.length : Int))) <|
  G (((decide (r_' < (r_.length : Int))) && (decide (97 ≤ ((r_.getD r_'.toNat 0).toNat : Int)))) = true → (0 ≤ r_' ∧ r_' < (r_.length : Int))) <|
  G (((decide (r_' < (r_.length : Int))) && !((decide (97 ≤ ((r_.getD r_'.toNat 0).toNat : Int))) && (decide (((r_.getD r_'.toNat 0).toNat : Int) ≤ 122)))) = true → (0 ≤ r_' ∧ r_' < (r_.length : Int))) <|
  G ((((decide (r_' < (r_.length : Int))) && !((decide (97 ≤ ((r_.getD r_'.toNat 0).toNat : Int))) && (decide (((r_.getD r_'.toNat 0).toNat : Int) ≤ 122)))) && (decide (48 ≤ ((r_.getD r_'.toNat 0).toNat : Int)))) = true → (0 ≤ r_' ∧ r_' < (r_.length : Int))) <|
  G (((decide (r_' < (r_.length : Int))) && !(((decide (97 ≤ ((r_.getD r_'.toNat 0).toNat : Int))) && (decide (((r_.getD r_'.toNat 0).toNat : Int) ≤ 122))) || ((decide (48 ≤ ((r_.getD r_'.toNat 0).toNat : Int))) && (decide (((r_.getD r_'.toNat 0).toNat : Int) ≤ 57))))) = true → (0 ≤ r_' ∧ r_' < (r_.length : Int))) <|
  if ((decide (r_' < (r_.length : Int))) && ((((decide (97 ≤ ((r_.getD r_'.toNat 0).toNat : Int))) && (decide (((r_.getD r_'.toNat 0).toNat : Int) ≤ 122))) || ((decide (48 ≤ ((r_.getD r_'.toNat 0).toNat : Int))) && (decide (((r_.getD r_'.toNat 0).toNat : Int) ≤ 57)))) || (decide (((r_.getD r_'.toNat 0).toNat : Int) = 95)))) = true then
  some (.inl (.l2 r_ (w64 (r_' + (1 : Int))) r_'' r_''' from_))
  else
  G (0 ≤ from_ ∧ from_ ≤ r_' ∧ r_' ≤ (r_.length : Int)) <|
  some (.inr ((cut r_ from_.toNat r_'.toNat), r_, r_', r_'', r_'''))
noncomputable def st_fail_reader_word : L_fail_reader_word → Option (L_fail_reader_word ⊕ ((List UInt8) × (List UInt8) × Int × (List tCrack) × Int))
  | .l2 r_ r_' r_'' r_''' from_ => sg_fail_reader_word_2 r_ r_' r_'' r_''' from_
noncomputable def en_fail_reader_word (r_ : (List UInt8)) (r_' : Int) (r_'' : (List tCrack)) (r_''' : Int) : Option (L_fail_reader_word ⊕ ((List UInt8) × (List UInt8) × Int × (List tCrack) × Int)) :=
  some (.inl (.l2 r_ r_' r_'' r_''' r_'))
noncomputable def fail_reader_word (r_ : (List UInt8)) (r_' : Int) (r_'' : (List tCrack)) (r_''' : Int) : Option ((List UInt8) × (List UInt8) × Int × (List tCrack) × Int) := runL (st_fail_reader_word) (en_fail_reader_word r_ r_' r_'' r_''')
noncomputable def stringslite_HasPrefix (s_ : (List UInt8)) (prefix_ : (List UInt8)) : Option Bool :=
  G ((decide ((prefix_.length : Int) ≤ (s_.length : Int))) = true → (0 ≤ (prefix_.length : Int) ∧ (prefix_.length : Int) ≤ (s_.length : Int))) <|
  some ((decide ((prefix_.length : Int) ≤ (s_.length : Int))) && (decide ((s_.take (prefix_.length : Int).toNat) = prefix_)))
noncomputable def strings_HasPrefix (s_ : (List UInt8)) (prefix_ : (List UInt8)) : Option Bool :=
  (stringslite_HasPrefix s_ prefix_).bind fun t7 =>
  some t7
noncomputable def en_fail_reader_take (r_ : (List UInt8)) (r_' : Int) (r_'' : (List tCrack)) (r_''' : Int) (t_ : (List UInt8)) : Option (Bool × (Nat × Value) × (List UInt8) × Int × (List tCrack) × Int) :=
  G (0 ≤ r_' ∧ r_' ≤ (r_.length : Int)) <|
  (strings_HasPrefix (r_.drop r_'.toNat) t_).bind fun t15 =>
  (fail_reader_need r_ r_' r_'' r_''' t15).bind fun t16 =>
  if t16.1 = true then
  some (true, t16.2.1, ([] : List UInt8), (0 : Int), ([] : List tCrack), (0 : Int))
  else
  some (false, (0, undef), t16.2.2.1, (w64 (t16.2.2.2.1 + (t_.length : Int))), t16.2.2.2.2.1, t16.2.2.2.2.2)
noncomputable def fail_reader_take (r_ : (List UInt8)) (r_' : Int) (r_'' : (List tCrack)) (r_''' : Int) (t_ : (List UInt8)) : Option (Bool × (Nat × Value) × (List UInt8) × Int × (List tCrack) × Int) := en_fail_reader_take r_ r_' r_'' r_''' t_
noncomputable def bytealg_IndexByteString (s_ : List UInt8) (c : UInt8) : Option Int := some (Lib.indexByte s_ c)
noncomputable def stringslite_IndexByte (s_ : (List UInt8)) (c : UInt8) : Option Int :=
  (bytealg_IndexByteString s_ c).bind fun t7 =>
  some t7
noncomputable def strings_IndexByte (s_ : (List UInt8)) (c : UInt8) : Option Int :=
  (stringslite_IndexByte s_ c).bind fun t7 =>
  some t7
noncomputable def lex_escaped (s_ : (List UInt8)) (at_ : Int) : Option (UInt8 × Int) :=
  G (0 ≤ (w64 (at_ + (1 : Int))) ∧ (w64 (at_ + (1 : Int))) ≤ (s_.length : Int)) <|
  if (decide ((s_.drop (w64 (at_ + (1 : Int))).toNat) = ([] : List UInt8))) = true then
  some ((0 : UInt8), (0 : Int))
  else
  G (0 ≤ (0 : Int) ∧ (0 : Int) < ((s_.drop (w64 (at_ + (1 : Int))).toNat).length : Int)) <|
  if (decide ((((s_.drop (w64 (at_ + (1 : Int))).toNat).getD (0 : Int).toNat 0).toNat : Int) = 34)) = true then
  (if (decide ((((s_.drop (w64 (at_ + (1 : Int))).toNat).getD (0 : Int).toNat 0).toNat : Int) = 34)) = true then
  (G (0 ≤ (0 : Int) ∧ (0 : Int) < ((s_.drop (w64 (at_ + (1 : Int))).toNat).length : Int)) <|
  some (((s_.drop (w64 (at_ + (1 : Int))).toNat).getD (0 : Int).toNat 0), (2 : Int)))
  else
  if (decide ((((s_.drop (w64 (at_ + (1 : Int))).toNat).getD (0 : Int).toNat 0).toNat : Int) = 110)) = true then
  some ((10 : UInt8), (2 : Int))
  else
  if (decide ((((s_.drop (w64 (at_ + (1 : Int))).toNat).getD (0 : Int).toNat 0).toNat : Int) = 120)) = true then
  (if (decide (((s_.drop (w64 (at_ + (1 : Int))).toNat).length : Int) < (3 : Int))) = true then
  some ((0 : UInt8), (0 : Int))
  else
  G (0 ≤ (1 : Int) ∧ (1 : Int) < ((s_.drop (w64 (at_ + (1 : Int))).toNat).length : Int)) <|
  (strings_IndexByte ([48, 49, 50, 51, 52, 53, 54, 55, 56, 57, 97, 98, 99, 100, 101, 102] : List UInt8) ((s_.drop (w64 (at_ + (1 : Int))).toNat).getD (1 : Int).toNat 0)).bind fun t32 =>
  G (0 ≤ (2 : Int) ∧ (2 : Int) < ((s_.drop (w64 (at_ + (1 : Int))).toNat).length : Int)) <|
  (strings_IndexByte ([48, 49, 50, 51, 52, 53, 54, 55, 56, 57, 97, 98, 99, 100, 101, 102] : List UInt8) ((s_.drop (w64 (at_ + (1 : Int))).toNat).getD (2 : Int).toNat 0)).bind fun t35 =>
  if ((((decide (t32 < (0 : Int))) || (decide (t35 < (0 : Int)))) || (decide (((((IntKind.wrap .u8 ((w64 ((BitVec.ofInt IntKind.i64.bits (w64 (t32 * 2 ^ (min ((4 : Int)).toNat IntKind.i64.bits))) ||| BitVec.ofInt IntKind.i64.bits t35).toNat))))).toNat.toUInt8).toNat : Int) = 10))) || ((decide (32 ≤ ((((IntKind.wrap .u8 ((w64 ((BitVec.ofInt IntKind.i64.bits (w64 (t32 * 2 ^ (min ((4 : Int)).toNat IntKind.i64.bits))) ||| BitVec.ofInt IntKind.i64.bits t35).toNat))))).toNat.toUInt8).toNat : Int))) && (decide (((((IntKind.wrap .u8 ((w64 ((BitVec.ofInt IntKind.i64.bits (w64 (t32 * 2 ^ (min ((4 : Int)).toNat IntKind.i64.bits))) ||| BitVec.ofInt IntKind.i64.bits t35).toNat))))).toNat.toUInt8).toNat : Int) ≤ 126)))) = true then
  some ((0 : UInt8), (0 : Int))
  else
  some (((IntKind.wrap .u8 ((w64 ((BitVec.ofInt IntKind.i64.bits (w64 (t32 * 2 ^ (min ((4 : Int)).toNat IntKind.i64.bits))) ||| BitVec.ofInt IntKind.i64.bits t35).toNat))))).toNat.toUInt8, (4 : Int)))
  else
  some ((0 : UInt8), (0 : Int)))
  else
  if (decide ((((s_.drop (w64 (at_ + (1 : Int))).toNat).getD (0 : Int).toNat 0).toNat : Int) = 92)) = true then
  (G (0 ≤ (0 : Int) ∧ (0 : Int) < ((s_.drop (w64 (at_ + (1 : Int))).toNat).length : Int)) <|
  some (((s_.drop (w64 (at_ + (1 : Int))).toNat).getD (0 : Int).toNat 0), (2 : Int)))
  else
  if (decide ((((s_.drop (w64 (at_ + (1 : Int))).toNat).getD (0 : Int).toNat 0).toNat : Int) = 110)) = true then
  some ((10 : UInt8), (2 : Int))
  else
  if (decide ((((s_.drop (w64 (at_ + (1 : Int))).toNat).getD (0 : Int).toNat 0).toNat : Int) = 120)) = true then
  (if (decide (((s_.drop (w64 (at_ + (1 : Int))).toNat).length : Int) < (3 : Int))) = true then
  some ((0 : UInt8), (0 : Int))
  else
  G (0 ≤ (1 : Int) ∧ (1 : Int) < ((s_.drop (w64 (at_ + (1 : Int))).toNat).length : Int)) <|
  (strings_IndexByte ([48, 49, 50, 51, 52, 53, 54, 55, 56, 57, 97, 98, 99, 100, 101, 102] : List UInt8) ((s_.drop (w64 (at_ + (1 : Int))).toNat).getD (1 : Int).toNat 0)).bind fun t32 =>
  G (0 ≤ (2 : Int) ∧ (2 : Int) < ((s_.drop (w64 (at_ + (1 : Int))).toNat).length : Int)) <|
  (strings_IndexByte ([48, 49, 50, 51, 52, 53, 54, 55, 56, 57, 97, 98, 99, 100, 101, 102] : List UInt8) ((s_.drop (w64 (at_ + (1 : Int))).toNat).getD (2 : Int).toNat 0)).bind fun t35 =>
  if ((((decide (t32 < (0 : Int))) || (decide (t35 < (0 : Int)))) || (decide (((((IntKind.wrap .u8 ((w64 ((BitVec.ofInt IntKind.i64.bits (w64 (t32 * 2 ^ (min ((4 : Int)).toNat IntKind.i64.bits))) ||| BitVec.ofInt IntKind.i64.bits t35).toNat))))).toNat.toUInt8).toNat : Int) = 10))) || ((decide (32 ≤ ((((IntKind.wrap .u8 ((w64 ((BitVec.ofInt IntKind.i64.bits (w64 (t32 * 2 ^ (min ((4 : Int)).toNat IntKind.i64.bits))) ||| BitVec.ofInt IntKind.i64.bits t35).toNat))))).toNat.toUInt8).toNat : Int))) && (decide (((((IntKind.wrap .u8 ((w64 ((BitVec.ofInt IntKind.i64.bits (w64 (t32 * 2 ^ (min ((4 : Int)).toNat IntKind.i64.bits))) ||| BitVec.ofInt IntKind.i64.bits t35).toNat))))).toNat.toUInt8).toNat : Int) ≤ 126)))) = true then
  some ((0 : UInt8), (0 : Int))
  else
  some (((IntKind.wrap .u8 ((w64 ((BitVec.ofInt IntKind.i64.bits (w64 (t32 * 2 ^ (min ((4 : Int)).toNat IntKind.i64.bits))) ||| BitVec.ofInt IntKind.i64.bits t35).toNat))))).toNat.toUInt8, (4 : Int)))
  else
  some ((0 : UInt8), (0 : Int))
inductive L_lex_quoted where
  | l5 (s_ : (List UInt8)) (at_ : Int) (out : (List UInt8))
noncomputable def sg_lex_quoted_5 (s_ : (List UInt8)) (at_ : Int) (out : (List UInt8)) : Option (L_lex_quoted ⊕ ((List UInt8) × Int × Bool)) :=
  if (decide (at_ < (s_.length : Int))) = true then
  (G (0 ≤ at_ ∧ at_ < (s_.length : Int)) <|
  if (decide (((s_.getD at_.toNat 0).toNat : Int) = 34)) = true then
  some (.inr (out, (w64 (at_ + (1 : Int))), true))
  else
  if (decide (((s_.getD at_.toNat 0).toNat : Int) = 92)) = true then
  ((lex_escaped s_ at_).bind fun t50 =>
  if (decide (t50.2 = (0 : Int))) = true then
  some (.inr (([] : List UInt8), (0 : Int), false))
  else
  G ((out.length + ([t50.1] : List UInt8).length) * 1 ≤ 140737488355328) <|
  some (.inl (.l5 s_ (w64 (at_ + t50.2)) (out ++ ([t50.1] : List UInt8)))))
  else
  if ((decide (((s_.getD at_.toNat 0).toNat : Int) < 32)) || (decide (126 < ((s_.getD at_.toNat 0).toNat : Int)))) = true then
  some (.inr (([] : List UInt8), (0 : Int), false))
  else
  G ((out.length + ([(s_.getD at_.toNat 0)] : List UInt8).length) * 1 ≤ 140737488355328) <|
  some (.inl (.l5 s_ (w64 (at_ + (1 : Int))) (out ++ ([(s_.getD at_.toNat 0)] : List UInt8)))))
  else
  some (.inr (([] : List UInt8), (0 : Int), false))
noncomputable def st_lex_quoted : L_lex_quoted → Option (L_lex_quoted ⊕ ((List UInt8) × Int × Bool))
  | .l5 s_ at_ out => sg_lex_quoted_5 s_ at_ out
noncomputable def en_lex_quoted (s_ : (List UInt8)) (at_ : Int) : Option (L_lex_quoted ⊕ ((List UInt8) × Int × Bool)) :=
  G ((!(decide ((s_.length : Int) ≤ at_))) = true → (0 ≤ at_ ∧ at_ < (s_.length : Int))) <|
  if ((decide ((s_.length : Int) ≤ at_)) || (!decide (((s_.getD at_.toNat 0).toNat : Int) = 34))) = true then
  some (.inr (([] : List UInt8), (0 : Int), false))
  else
  some (.inl (.l5 s_ (w64 (at_ + (1 : Int))) ([] : List UInt8)))
noncomputable def lex_quoted (s_ : (List UInt8)) (at_ : Int) : Option ((List UInt8) × Int × Bool) := runL st_lex_quoted (en_lex_quoted s_ at_)
noncomputable def lex_Unquote (s_ : (List UInt8)) : Option ((List UInt8) × Bool) :=
  (lex_quoted s_ (0 : Int)).bind fun t9 =>
  if ((!t9.2.2) || (!decide (t9.2.1 = (s_.length : Int)))) = true then
  some (([] : List UInt8), false)
  else
  some (t9.1, true)
inductive L_fail_reader_text where
  | l2 (r_ : (List UInt8)) (r_' : Int) (r_'' : (List tCrack)) (r_''' : Int) (end_ : Int)
noncomputable def sg_fail_reader_text_2 (r_ : (List UInt8)) (r_' : Int) (r_'' : (List tCrack)) (r_''' : Int) (end_ : Int) : Option (L_fail_reader_text ⊕ (Bool × (Nat × Value) × (List UInt8) × (List UInt8) × Int × (List tCrack) × Int)) :=
  G ((decide (end_ < (r_.length : Int))) = true → (0 ≤ end_ ∧ end_ < (r_.length : Int))) <|
  if ((decide (end_ < (r_.length : Int))) && (!decide (((r_.getD end_.toNat 0).toNat : Int) = 34))) = true then
  (G (0 ≤ end_ ∧ end_ < (r_.length : Int)) <|
  if (decide (((r_.getD end_.toNat 0).toNat : Int) = 92)) = true then
  some (.inl (.l2 r_ r_' r_'' r_''' (w64 ((w64 (end_ + (1 : Int))) + (1 : Int)))))
  else
  some (.inl (.l2 r_ r_' r_'' r_''' (w64 (end_ + (1 : Int))))))
  else
  (fail_reader_need r_ r_' r_'' r_''' (decide (end_ < (r_.length : Int)))).bind fun t46 =>
  if t46.1 = true then
  some (.inr (true, t46.2.1, ([] : List UInt8), ([] : List UInt8), (0 : Int), ([] : List tCrack), (0 : Int)))
  else
  G (0 ≤ t46.2.2.2.1 ∧ t46.2.2.2.1 ≤ (w64 (end_ + (1 : Int))) ∧ (w64 (end_ + (1 : Int))) ≤ (t46.2.2.1.length : Int)) <|
  (lex_Unquote (cut t46.2.2.1 t46.2.2.2.1.toNat (w64 (end_ + (1 : Int))).toNat)).bind fun t59 =>
  (fail_reader_need t46.2.2.1 t46.2.2.2.1 t46.2.2.2.2.1 t46.2.2.2.2.2 t59.2).bind fun t64 =>
  if t64.1 = true then
  some (.inr (true, t64.2.1, ([] : List UInt8), ([] : List UInt8), (0 : Int), ([] : List tCrack), (0 : Int)))
  else
  some (.inr (false, (0, undef), t59.1, t64.2.2.1, (w64 (end_ + (1 : Int))), t64.2.2.2.2.1, t64.2.2.2.2.2))
noncomputable def st_fail_reader_text : L_fail_reader_text → Option (L_fail_reader_text ⊕ (Bool × (Nat × Value) × (List UInt8) × (List UInt8) × Int × (List tCrack) × Int))
  | .l2 r_ r_' r_'' r_''' end_ => sg_fail_reader_text_2 r_ r_' r_'' r_''' end_
noncomputable def en_fail_reader_text (r_ : (List UInt8)) (r_' : Int) (r_'' : (List tCrack)) (r_''' : Int) : Option (L_fail_reader_text ⊕ (Bool × (Nat × Value) × (List UInt8) × (List UInt8) × Int × (List tCrack) × Int)) :=
  some (.inl (.l2 r_ r_' r_'' r_''' (w64 (r_' + (1 : Int)))))
noncomputable def fail_reader_text (r_ : (List UInt8)) (r_' : Int) (r_'' : (List tCrack)) (r_''' : Int) : Option (Bool × (Nat × Value) × (List UInt8) × (List UInt8) × Int × (List tCrack) × Int) := runL (st_fail_reader_text) (en_fail_reader_text r_ r_' r_'' r_''')
noncomputable def en_fail_reader_has (r_ : (List UInt8)) (r_' : Int) (r_'' : (List tCrack)) (r_''' : Int) (t_ : (List UInt8)) : Option (Bool × (List UInt8) × Int × (List tCrack) × Int) :=
  G (0 ≤ r_' ∧ r_' ≤ (r_.length : Int)) <|
  (strings_HasPrefix (r_.drop r_'.toNat) t_).bind fun t16 =>
  if t16 = true then
  some (t16, r_, (w64 (r_' + (t_.length : Int))), r_'', r_''')
  else
  some (t16, r_, r_', r_'', r_''')
noncomputable def fail_reader_has (r_ : (List UInt8)) (r_' : Int) (r_'' : (List tCrack)) (r_''' : Int) (t_ : (List UInt8)) : Option (Bool × (List UInt8) × Int × (List tCrack) × Int) := en_fail_reader_has r_ r_' r_'' r_''' t_
noncomputable def en_fail_reader_put (r_ : (List UInt8)) (r_' : Int) (r_'' : (List tCrack)) (r_''' : Int) (c : tCrack) : Option (Bool × (Nat × Value) × (List UInt8) × Int × (List tCrack) × Int) :=
  (if (decide ((r_''.length : Int) < (1024 : Int))) = true then fail_well (c.1, c.2.1, c.2.2.1, ()) else some false).bind fun t13 =>
  (fail_reader_need r_ r_' r_'' r_''' ((decide ((r_''.length : Int) < (1024 : Int))) && t13)).bind fun t15 =>
  if t15.1 = true then
  some (true, t15.2.1, ([] : List UInt8), (0 : Int), ([] : List tCrack), (0 : Int))
  else
  G ((t15.2.2.2.2.1.length + ([(c.1, c.2.1, c.2.2.1, ())] : List tCrack).length) * 32 ≤ 140737488355328) <|
  some (false, (0, undef), t15.2.2.1, t15.2.2.2.1, (t15.2.2.2.2.1 ++ ([(c.1, c.2.1, c.2.2.1, ())] : List tCrack)), t15.2.2.2.2.2)
noncomputable def fail_reader_put (r_ : (List UInt8)) (r_' : Int) (r_'' : (List tCrack)) (r_''' : Int) (c : tCrack) : Option (Bool × (Nat × Value) × (List UInt8) × Int × (List tCrack) × Int) := en_fail_reader_put r_ r_' r_'' r_''' c
inductive L_fail_reader_fail where
  | l3 (r_ : (List UInt8)) (r_' : Int) (r_'' : (List tCrack)) (r_''' : Int) (w : (List UInt8)) (kind : Int) (x9 : ((List UInt8) × (List UInt8) × (List UInt8) × (List UInt8) × (List UInt8) × (List UInt8) × (List UInt8) × (List UInt8) × (List UInt8) × (List UInt8) × (List UInt8) × (List UInt8) × Unit)) (x10 : Int)
  | l32 (r_ : (List UInt8)) (r_' : Int) (r_'' : (List tCrack)) (r_''' : Int) (c : Int) (c' : Int) (c'' : (List UInt8))
noncomputable def ax_fail_reader_fail_3_1 (rc : (List UInt8) → Int → (List tCrack) → Int → Option (Bool × (Nat × Value) × (List UInt8) × Int × (List tCrack) × Int)) (r_ : (List UInt8)) (r_' : Int) (r_'' : (List tCrack)) (r_''' : Int) (kind : Int) : Option (L_fail_reader_fail ⊕ (Bool × (Nat × Value) × (List UInt8) × Int × (List tCrack) × Int)) :=
  (fail_reader_take r_ r_' r_'' r_''' ([32] : List UInt8)).bind fun t35 =>
  if t35.1 = true then
  some (.inr (true, t35.2.1, ([] : List UInt8), (0 : Int), ([] : List tCrack), (0 : Int)))
  else
  (fail_reader_text t35.2.2.1 t35.2.2.2.1 t35.2.2.2.2.1 t35.2.2.2.2.2).bind fun t37 =>
  if t37.1 = true then
  some (.inr (true, t37.2.1, ([] : List UInt8), (0 : Int), ([] : List tCrack), (0 : Int)))
  else
  if (decide (kind = (8 : Int))) = true then
  (fail_reader_has t37.2.2.2.1 t37.2.2.2.2.1 t37.2.2.2.2.2.1 t37.2.2.2.2.2.2 ([58, 32] : List UInt8)).bind fun t43 =>
  if ((decide (kind = (8 : Int))) && t43.1) = true then
  (rc t43.2.1 t43.2.2.1 t43.2.2.2.1 t43.2.2.2.2).bind fun t47 =>
  if t47.1 = true then
  some (.inr (true, t47.2.1, ([] : List UInt8), (0 : Int), ([] : List tCrack), (0 : Int)))
  else
  (fail_reader_put t47.2.2.1 t47.2.2.2.1 t47.2.2.2.2.1 t47.2.2.2.2.2 ((kind, (0 : Int), ([] : List UInt8), ()).1, (1 : Int), t37.2.2.1, ())).bind fun t86 =>
  if t86.1 = true then
  some (.inr (true, t86.2.1, ([] : List UInt8), (0 : Int), ([] : List tCrack), (0 : Int)))
  else
  some (.inr (false, (0, undef), t86.2.2.1, t86.2.2.2.1, t86.2.2.2.2.1, t86.2.2.2.2.2))
  else
  (fail_reader_put t43.2.1 t43.2.2.1 t43.2.2.2.1 t43.2.2.2.2 ((kind, (0 : Int), ([] : List UInt8), ()).1, (kind, (0 : Int), ([] : List UInt8), ()).2.1, t37.2.2.1, ())).bind fun t86 =>
  if t86.1 = true then
  some (.inr (true, t86.2.1, ([] : List UInt8), (0 : Int), ([] : List tCrack), (0 : Int)))
  else
  some (.inr (false, (0, undef), t86.2.2.1, t86.2.2.2.1, t86.2.2.2.2.1, t86.2.2.2.2.2))
  else
  if ((decide (kind = (8 : Int))) && false) = true then
  (rc t37.2.2.2.1 t37.2.2.2.2.1 t37.2.2.2.2.2.1 t37.2.2.2.2.2.2).bind fun t47 =>
  if t47.1 = true then
  some (.inr (true, t47.2.1, ([] : List UInt8), (0 : Int), ([] : List tCrack), (0 : Int)))
  else
  (fail_reader_put t47.2.2.1 t47.2.2.2.1 t47.2.2.2.2.1 t47.2.2.2.2.2 ((kind, (0 : Int), ([] : List UInt8), ()).1, (1 : Int), t37.2.2.1, ())).bind fun t86 =>
  if t86.1 = true then
  some (.inr (true, t86.2.1, ([] : List UInt8), (0 : Int), ([] : List tCrack), (0 : Int)))
  else
  some (.inr (false, (0, undef), t86.2.2.1, t86.2.2.2.1, t86.2.2.2.2.1, t86.2.2.2.2.2))
  else
  (fail_reader_put t37.2.2.2.1 t37.2.2.2.2.1 t37.2.2.2.2.2.1 t37.2.2.2.2.2.2 ((kind, (0 : Int), ([] : List UInt8), ()).1, (kind, (0 : Int), ([] : List UInt8), ()).2.1, t37.2.2.1, ())).bind fun t86 =>
  if t86.1 = true then
  some (.inr (true, t86.2.1, ([] : List UInt8), (0 : Int), ([] : List tCrack), (0 : Int)))
  else
  some (.inr (false, (0, undef), t86.2.2.1, t86.2.2.2.1, t86.2.2.2.2.1, t86.2.2.2.2.2))
noncomputable def ax_fail_reader_fail_3_3 (rc : (List UInt8) → Int → (List tCrack) → Int → Option (Bool × (Nat × Value) × (List UInt8) × Int × (List tCrack) × Int)) (r_ : (List UInt8)) (r_' : Int) (r_'' : (List tCrack)) (r_''' : Int) (kind : Int) : Option (L_fail_reader_fail ⊕ (Bool × (Nat × Value) × (List UInt8) × Int × (List tCrack) × Int)) :=
  (fail_reader_take r_ r_' r_'' r_''' ([32] : List UInt8)).bind fun t54 =>
  if t54.1 = true then
  some (.inr (true, t54.2.1, ([] : List UInt8), (0 : Int), ([] : List tCrack), (0 : Int)))
  else
  (fail_reader_word t54.2.2.1 t54.2.2.2.1 t54.2.2.2.2.1 t54.2.2.2.2.2).bind fun t56 =>
  if (decide (kind = (9 : Int))) = true then
  (fail_reader_take t56.2.1 t56.2.2.1 t56.2.2.2.1 t56.2.2.2.2 ([58, 32] : List UInt8)).bind fun t61 =>
  if t61.1 = true then
  some (.inr (true, t61.2.1, ([] : List UInt8), (0 : Int), ([] : List tCrack), (0 : Int)))
  else
  (rc t61.2.2.1 t61.2.2.2.1 t61.2.2.2.2.1 t61.2.2.2.2.2).bind fun t64 =>
  if t64.1 = true then
  some (.inr (true, t64.2.1, ([] : List UInt8), (0 : Int), ([] : List tCrack), (0 : Int)))
  else
  (fail_reader_put t64.2.2.1 t64.2.2.2.1 t64.2.2.2.2.1 t64.2.2.2.2.2 ((kind, (0 : Int), ([] : List UInt8), ()).1, (1 : Int), t56.1, ())).bind fun t86 =>
  if t86.1 = true then
  some (.inr (true, t86.2.1, ([] : List UInt8), (0 : Int), ([] : List tCrack), (0 : Int)))
  else
  some (.inr (false, (0, undef), t86.2.2.1, t86.2.2.2.1, t86.2.2.2.2.1, t86.2.2.2.2.2))
  else
  (fail_reader_put t56.2.1 t56.2.2.1 t56.2.2.2.1 t56.2.2.2.2 ((kind, (0 : Int), ([] : List UInt8), ()).1, (kind, (0 : Int), ([] : List UInt8), ()).2.1, t56.1, ())).bind fun t86 =>
  if t86.1 = true then
  some (.inr (true, t86.2.1, ([] : List UInt8), (0 : Int), ([] : List tCrack), (0 : Int)))
  else
  some (.inr (false, (0, undef), t86.2.2.1, t86.2.2.2.1, t86.2.2.2.2.1, t86.2.2.2.2.2))
noncomputable def ax_fail_reader_fail_3_4 (rc : (List UInt8) → Int → (List tCrack) → Int → Option (Bool × (Nat × Value) × (List UInt8) × Int × (List tCrack) × Int)) (r_ : (List UInt8)) (r_' : Int) (r_'' : (List tCrack)) (r_''' : Int) (kind : Int) : Option (L_fail_reader_fail ⊕ (Bool × (Nat × Value) × (List UInt8) × Int × (List tCrack) × Int)) :=
  (fail_reader_take r_ r_' r_'' r_''' ([40] : List UInt8)).bind fun t68 =>
  if t68.1 = true then
  some (.inr (true, t68.2.1, ([] : List UInt8), (0 : Int), ([] : List tCrack), (0 : Int)))
  else
  some (.inl (.l32 t68.2.2.1 t68.2.2.2.1 t68.2.2.2.2.1 t68.2.2.2.2.2 ((kind, (0 : Int), ([] : List UInt8), ()).1) ((kind, (0 : Int), ([] : List UInt8), ()).2.1) ((kind, (0 : Int), ([] : List UInt8), ()).2.2.1)))
noncomputable def ax_fail_reader_fail_3_5 (rc : (List UInt8) → Int → (List tCrack) → Int → Option (Bool × (Nat × Value) × (List UInt8) × Int × (List tCrack) × Int)) (r_ : (List UInt8)) (r_' : Int) (r_'' : (List tCrack)) (r_''' : Int) (kind : Int) : Option (L_fail_reader_fail ⊕ (Bool × (Nat × Value) × (List UInt8) × Int × (List tCrack) × Int)) :=
  (fail_reader_put r_ r_' r_'' r_''' ((kind, (0 : Int), ([] : List UInt8), ()).1, (kind, (0 : Int), ([] : List UInt8), ()).2.1, (kind, (0 : Int), ([] : List UInt8), ()).2.2.1, ())).bind fun t86 =>
  if t86.1 = true then
  some (.inr (true, t86.2.1, ([] : List UInt8), (0 : Int), ([] : List tCrack), (0 : Int)))
  else
  some (.inr (false, (0, undef), t86.2.2.1, t86.2.2.2.1, t86.2.2.2.2.1, t86.2.2.2.2.2))
noncomputable def ax_fail_reader_fail_3_2 (rc : (List UInt8) → Int → (List tCrack) → Int → Option (Bool × (Nat × Value) × (List UInt8) × Int × (List tCrack) × Int)) (kind : Int) (r_ : (List UInt8)) (r_' : Int) (r_'' : (List tCrack)) (r_''' : Int) : Option (L_fail_reader_fail ⊕ (Bool × (Nat × Value) × (List UInt8) × Int × (List tCrack) × Int)) :=
  if (decide (kind = (3 : Int))) = true then
  (if (decide (kind = (3 : Int))) = true then
  ax_fail_reader_fail_3_3 rc r_ r_' r_'' r_''' kind
  else
  if (decide (kind = (10 : Int))) = true then
  ax_fail_reader_fail_3_4 rc r_ r_' r_'' r_''' kind
  else
  ax_fail_reader_fail_3_5 rc r_ r_' r_'' r_''' kind)
  else
  if (decide (kind = (4 : Int))) = true then
  (if (decide (kind = (4 : Int))) = true then
  ax_fail_reader_fail_3_3 rc r_ r_' r_'' r_''' kind
  else
  if (decide (kind = (10 : Int))) = true then
  ax_fail_reader_fail_3_4 rc r_ r_' r_'' r_''' kind
  else
  ax_fail_reader_fail_3_5 rc r_ r_' r_'' r_''' kind)
  else
  if (decide (kind = (5 : Int))) = true then
  (if (decide (kind = (5 : Int))) = true then
  ax_fail_reader_fail_3_3 rc r_ r_' r_'' r_''' kind
  else
  if (decide (kind = (10 : Int))) = true then
  ax_fail_reader_fail_3_4 rc r_ r_' r_'' r_''' kind
  else
  ax_fail_reader_fail_3_5 rc r_ r_' r_'' r_''' kind)
  else
  if (decide (kind = (9 : Int))) = true then
  ax_fail_reader_fail_3_3 rc r_ r_' r_'' r_''' kind
  else
  if (decide (kind = (10 : Int))) = true then
  ax_fail_reader_fail_3_4 rc r_ r_' r_'' r_''' kind
  else
  ax_fail_reader_fail_3_5 rc r_ r_' r_'' r_''' kind
noncomputable def sg_fail_reader_fail_3 (rc : (List UInt8) → Int → (List tCrack) → Int → Option (Bool × (Nat × Value) × (List UInt8) × Int × (List tCrack) × Int)) (r_ : (List UInt8)) (r_' : Int) (r_'' : (List tCrack)) (r_''' : Int) (w : (List UInt8)) (kind : Int) (x9 : ((List UInt8) × (List UInt8) × (List UInt8) × (List UInt8) × (List UInt8) × (List UInt8) × (List UInt8) × (List UInt8) × (List UInt8) × (List UInt8) × (List UInt8) × (List UInt8) × Unit)) (x10 : Int) : Option (L_fail_reader_fail ⊕ (Bool × (Nat × Value) × (List UInt8) × Int × (List tCrack) × Int)) :=
  if (decide (x10 < (12 : Int))) = true then
  G (0 ≤ x10 ∧ x10 < (12 : Int)) <|
  if ((decide ((([x9.1, x9.2.1, x9.2.2.1, x9.2.2.2.1, x9.2.2.2.2.1, x9.2.2.2.2.2.1, x9.2.2.2.2.2.2.1, x9.2.2.2.2.2.2.2.1, x9.2.2.2.2.2.2.2.2.1, x9.2.2.2.2.2.2.2.2.2.1, x9.2.2.2.2.2.2.2.2.2.2.1, x9.2.2.2.2.2.2.2.2.2.2.2.1] : List (List UInt8)).getD x10.toNat ([] : List UInt8)) = w)) && (decide ((0 : Int) < x10))) = true then
  some (.inl (.l3 r_ r_' r_'' r_''' w x10 x9 (w64 (x10 + (1 : Int)))))
  else
  some (.inl (.l3 r_ r_' r_'' r_''' w kind x9 (w64 (x10 + (1 : Int)))))
  else
  if (decide (kind = (0 : Int))) = true then
  (fail_reader_need r_ r_' r_'' r_''' false).bind fun t29 =>
  if t29.1 = true then
  some (.inr (true, t29.2.1, ([] : List UInt8), (0 : Int), ([] : List tCrack), (0 : Int)))
  else
  (fail_reader_put t29.2.2.1 t29.2.2.2.1 t29.2.2.2.2.1 t29.2.2.2.2.2 ((kind, (0 : Int), ([] : List UInt8), ()).1, (kind, (0 : Int), ([] : List UInt8), ()).2.1, (kind, (0 : Int), ([] : List UInt8), ()).2.2.1, ())).bind fun t86 =>
  if t86.1 = true then
  some (.inr (true, t86.2.1, ([] : List UInt8), (0 : Int), ([] : List tCrack), (0 : Int)))
  else
  some (.inr (false, (0, undef), t86.2.2.1, t86.2.2.2.1, t86.2.2.2.2.1, t86.2.2.2.2.2))
  else
  if (decide (kind = (1 : Int))) = true then
  (if (decide (kind = (1 : Int))) = true then
  ax_fail_reader_fail_3_1 rc r_ r_' r_'' r_''' kind
  else
  ax_fail_reader_fail_3_2 rc kind r_ r_' r_'' r_''')
  else
  if (decide (kind = (2 : Int))) = true then
  (if (decide (kind = (2 : Int))) = true then
  ax_fail_reader_fail_3_1 rc r_ r_' r_'' r_''' kind
  else
  ax_fail_reader_fail_3_2 rc kind r_ r_' r_'' r_''')
  else
  if (decide (kind = (8 : Int))) = true then
  ax_fail_reader_fail_3_1 rc r_ r_' r_'' r_''' kind
  else
  ax_fail_reader_fail_3_2 rc kind r_ r_' r_'' r_'''
noncomputable def sg_fail_reader_fail_32 (rc : (List UInt8) → Int → (List tCrack) → Int → Option (Bool × (Nat × Value) × (List UInt8) × Int × (List tCrack) × Int)) (r_ : (List UInt8)) (r_' : Int) (r_'' : (List tCrack)) (r_''' : Int) (c : Int) (c' : Int) (c'' : (List UInt8)) : Option (L_fail_reader_fail ⊕ (Bool × (Nat × Value) × (List UInt8) × Int × (List tCrack) × Int)) :=
  if (!(decide (c' = (0 : Int)))) = true then
  ((fail_reader_has r_ r_' r_'' r_''' ([59, 32] : List UInt8)).bind fun t74 =>
  if ((decide (c' = (0 : Int))) || t74.1) = true then
  (rc t74.2.1 t74.2.2.1 t74.2.2.2.1 t74.2.2.2.2).bind fun t77 =>
  if t77.1 = true then
  some (.inr (true, t77.2.1, ([] : List UInt8), (0 : Int), ([] : List tCrack), (0 : Int)))
  else
  some (.inl (.l32 t77.2.2.1 t77.2.2.2.1 t77.2.2.2.2.1 t77.2.2.2.2.2 c (w64 (c' + (1 : Int))) c''))
  else
  (fail_reader_take t74.2.1 t74.2.2.1 t74.2.2.2.1 t74.2.2.2.2 ([41] : List UInt8)).bind fun t83 =>
  if t83.1 = true then
  some (.inr (true, t83.2.1, ([] : List UInt8), (0 : Int), ([] : List tCrack), (0 : Int)))
  else
  (fail_reader_put t83.2.2.1 t83.2.2.2.1 t83.2.2.2.2.1 t83.2.2.2.2.2 (c, c', c'', ())).bind fun t86 =>
  if t86.1 = true then
  some (.inr (true, t86.2.1, ([] : List UInt8), (0 : Int), ([] : List tCrack), (0 : Int)))
  else
  some (.inr (false, (0, undef), t86.2.2.1, t86.2.2.2.1, t86.2.2.2.2.1, t86.2.2.2.2.2)))
  else
  if ((decide (c' = (0 : Int))) || false) = true then
  (rc r_ r_' r_'' r_''').bind fun t77 =>
  if t77.1 = true then
  some (.inr (true, t77.2.1, ([] : List UInt8), (0 : Int), ([] : List tCrack), (0 : Int)))
  else
  some (.inl (.l32 t77.2.2.1 t77.2.2.2.1 t77.2.2.2.2.1 t77.2.2.2.2.2 c (w64 (c' + (1 : Int))) c''))
  else
  (fail_reader_take r_ r_' r_'' r_''' ([41] : List UInt8)).bind fun t83 =>
  if t83.1 = true then
  some (.inr (true, t83.2.1, ([] : List UInt8), (0 : Int), ([] : List tCrack), (0 : Int)))
  else
  (fail_reader_put t83.2.2.1 t83.2.2.2.1 t83.2.2.2.2.1 t83.2.2.2.2.2 (c, c', c'', ())).bind fun t86 =>
  if t86.1 = true then
  some (.inr (true, t86.2.1, ([] : List UInt8), (0 : Int), ([] : List tCrack), (0 : Int)))
  else
  some (.inr (false, (0, undef), t86.2.2.1, t86.2.2.2.1, t86.2.2.2.2.1, t86.2.2.2.2.2))
noncomputable def st_fail_reader_fail (rc : (List UInt8) → Int → (List tCrack) → Int → Option (Bool × (Nat × Value) × (List UInt8) × Int × (List tCrack) × Int)) : L_fail_reader_fail → Option (L_fail_reader_fail ⊕ (Bool × (Nat × Value) × (List UInt8) × Int × (List tCrack) × Int))
  | .l3 r_ r_' r_'' r_''' w kind x9 x10 => sg_fail_reader_fail_3 rc r_ r_' r_'' r_''' w kind x9 x10
  | .l32 r_ r_' r_'' r_''' c c' c'' => sg_fail_reader_fail_32 rc r_ r_' r_'' r_''' c c' c''
noncomputable def en_fail_reader_fail (rc : (List UInt8) → Int → (List tCrack) → Int → Option (Bool × (Nat × Value) × (List UInt8) × Int × (List tCrack) × Int)) (r_ : (List UInt8)) (r_' : Int) (r_'' : (List tCrack)) (r_''' : Int) : Option (L_fail_reader_fail ⊕ (Bool × (Nat × Value) × (List UInt8) × Int × (List tCrack) × Int)) :=
  (fail_reader_word r_ r_' r_'' r_''').bind fun t8 =>
  some (.inl (.l3 t8.2.1 t8.2.2.1 t8.2.2.2.1 t8.2.2.2.2 t8.1 (0 : Int) (arrX .str gl_onceweb_fail_words) (0 : Int)))
noncomputable def fail_reader_fail_n : Nat → (List UInt8) → Int → (List tCrack) → Int → Option (Bool × (Nat × Value) × (List UInt8) × Int × (List tCrack) × Int)
  | 0, _, _, _, _ => none
  | fu_ + 1, r_, r_', r_'', r_''' => runL (st_fail_reader_fail (fail_reader_fail_n fu_)) (en_fail_reader_fail (fail_reader_fail_n fu_) r_ r_' r_'' r_''')
noncomputable def fail_reader_fail (r_ : (List UInt8)) (r_' : Int) (r_'' : (List tCrack)) (r_''' : Int) : Option (Bool × (Nat × Value) × (List UInt8) × Int × (List tCrack) × Int) := fail_reader_fail_n 66000 r_ r_' r_'' r_'''
noncomputable def fail_Parse (s_ : List UInt8) : Option ((List tCrack) × Int) :=
  if (decide ((65536 : Int) < (s_.length : Int))) = true then
  some (([] : List tCrack), (3 : Int))
  else
  (fail_reader_fail s_ (0 : Int) ([] : List tCrack) (0 : Int)).bind fun t =>
  if t.1 = true then some (([] : List tCrack), (2 : Int))
  else if t.2.2.2.1 = (s_.length : Int) then some (t.2.2.2.2.1, (0 : Int)) else some (([] : List tCrack), (2 : Int))
inductive L_slices_Equal where
  | l4 (s1 : (List tCrack)) (s2 : (List tCrack)) (x12 : Int) (x13 : Int)
noncomputable def sg_slices_Equal_4 (s1 : (List tCrack)) (s2 : (List tCrack)) (x12 : Int) (x13 : Int) : Option (L_slices_Equal ⊕ Bool) :=
  if (decide (x13 < x12)) = true then
  (G (0 ≤ x13 ∧ x13 < (s1.length : Int)) <|
  G (0 ≤ x13 ∧ x13 < (s2.length : Int)) <|
  if (!(eqR tyCrack (s1.getD x13.toNat dCrack) (s2.getD x13.toNat dCrack))) = true then
  some (.inr false)
  else
  some (.inl (.l4 s1 s2 x12 (w64 (x13 + (1 : Int))))))
  else
  some (.inr true)
noncomputable def st_slices_Equal : L_slices_Equal → Option (L_slices_Equal ⊕ Bool)
  | .l4 s1 s2 x12 x13 => sg_slices_Equal_4 s1 s2 x12 x13
noncomputable def en_slices_Equal (s1 : (List tCrack)) (s2 : (List tCrack)) : Option (L_slices_Equal ⊕ Bool) :=
  if (!decide ((s1.length : Int) = (s2.length : Int))) = true then
  some (.inr false)
  else
  some (.inl (.l4 s1 s2 (s1.length : Int) (0 : Int)))
noncomputable def slices_Equal (s1 : (List tCrack)) (s2 : (List tCrack)) : Option Bool := runL st_slices_Equal (en_slices_Equal s1 s2)
inductive L_fail_Is where
  | l9 (f : (List tCrack)) (g : (List tCrack)) (from_ : (List Int)) (x28 : Int) (x29 : Int)
noncomputable def sg_fail_Is_9 (f : (List tCrack)) (g : (List tCrack)) (from_ : (List Int)) (x28 : Int) (x29 : Int) : Option (L_fail_Is ⊕ (Bool × Int)) :=
  if (decide (x29 < x28)) = true then
  (G (0 ≤ x29 ∧ x29 < (from_.length : Int)) <|
  G (0 ≤ (from_.getD x29.toNat (0 : Int)) ∧ (from_.getD x29.toNat (0 : Int)) ≤ (w64 (x29 + (1 : Int))) ∧ (w64 (x29 + (1 : Int))) ≤ (f.length : Int)) <|
  (slices_Equal (cut f (from_.getD x29.toNat (0 : Int)).toNat (w64 (x29 + (1 : Int))).toNat) g).bind fun t40 =>
  if t40 = true then
  some (.inr (true, (0 : Int)))
  else
  some (.inl (.l9 f g from_ x28 (w64 (x29 + (1 : Int))))))
  else
  some (.inr (false, (0 : Int)))
noncomputable def st_fail_Is : L_fail_Is → Option (L_fail_Is ⊕ (Bool × Int))
  | .l9 f g from_ x28 x29 => sg_fail_Is_9 f g from_ x28 x29
noncomputable def en_fail_Is (f : (List tCrack)) (g : (List tCrack)) : Option (L_fail_Is ⊕ (Bool × Int)) :=
  (fail_Check f).bind fun t13 =>
  if (!decide (t13 = (0 : Int))) = true then
  some (.inr (false, t13))
  else
  (fail_Check g).bind fun t18 =>
  if (!decide (t18 = (0 : Int))) = true then
  some (.inr (false, t18))
  else
  (fail_begins f).bind fun t24 =>
  some (.inl (.l9 f g t24.1 (t24.1.length : Int) (0 : Int)))
noncomputable def fail_Is (f : (List tCrack)) (g : (List tCrack)) : Option (Bool × Int) := runL st_fail_Is (en_fail_Is f g)
noncomputable def law03_works  : Option Bool :=
  (fail_Print ([((5 : Int), (0 : Int), ([97] : List UInt8), ()), ((8 : Int), (1 : Int), ([115, 116, 111, 112] : List UInt8), ()), ((9 : Int), (1 : Int), ([100, 98] : List UInt8), ())] : List tCrack)).bind fun t14 =>
  (fail_Parse t14.1).bind fun t19 =>
  G (0 ≤ (1 : Int) ∧ (1 : Int) ≤ ((([((5 : Int), (0 : Int), ([97] : List UInt8), ()), ((8 : Int), (1 : Int), ([115, 116, 111, 112] : List UInt8), ()), ((9 : Int), (1 : Int), ([100, 98] : List UInt8), ())] : List tCrack).length : Nat) : Int)) <|
  (fail_Is ([((5 : Int), (0 : Int), ([97] : List UInt8), ()), ((8 : Int), (1 : Int), ([115, 116, 111, 112] : List UInt8), ()), ((9 : Int), (1 : Int), ([100, 98] : List UInt8), ())] : List tCrack) (([((5 : Int), (0 : Int), ([97] : List UInt8), ()), ((8 : Int), (1 : Int), ([115, 116, 111, 112] : List UInt8), ()), ((9 : Int), (1 : Int), ([100, 98] : List UInt8), ())] : List tCrack).take ((1 : Int).toNat))).bind fun t26 =>
  (if (((((decide (t14.2 = (0 : Int))) && (decide (t19.2 = (0 : Int)))) && (decide (t26.2 = (0 : Int)))) && t26.1) && (decide (t14.1 = ([99, 101, 108, 108, 32, 100, 98, 58, 32, 116, 111, 107, 101, 110, 32, 34, 115, 116, 111, 112, 34, 58, 32, 99, 121, 99, 108, 101, 32, 97] : List UInt8)))) = true then base_SameFail ([((5 : Int), (0 : Int), ([97] : List UInt8), ()), ((8 : Int), (1 : Int), ([115, 116, 111, 112] : List UInt8), ()), ((9 : Int), (1 : Int), ([100, 98] : List UInt8), ())] : List tCrack) t19.1 else some false).bind fun t49 =>
  some ((((((decide (t14.2 = (0 : Int))) && (decide (t19.2 = (0 : Int)))) && (decide (t26.2 = (0 : Int)))) && t26.1) && (decide (t14.1 = ([99, 101, 108, 108, 32, 100, 98, 58, 32, 116, 111, 107, 101, 110, 32, 34, 115, 116, 111, 112, 34, 58, 32, 99, 121, 99, 108, 101, 32, 97] : List UInt8)))) && t49)
inductive L_law03_FailBack where
  | l8 (s_ : (List UInt8))
noncomputable def sg_law03_FailBack_8 (s_ : (List UInt8)) : Option (L_law03_FailBack ⊕ Bool) :=
  (fail_Parse s_).bind fun t39 =>
  if (!decide (t39.2 = (0 : Int))) = true then
  some (.inr (decide ((t39.1.length : Int) = (0 : Int))))
  else
  (fail_Print t39.1).bind fun t49 =>
  some (.inr ((decide (t49.2 = (0 : Int))) && (decide (t49.1 = s_))))
noncomputable def st_law03_FailBack : L_law03_FailBack → Option (L_law03_FailBack ⊕ Bool)
  | .l8 s_ => sg_law03_FailBack_8 s_
noncomputable def en_law03_FailBack (f : (List tCrack)) (s_ : (List UInt8)) : Option (L_law03_FailBack ⊕ Bool) :=
  (law03_works).bind fun t10 =>
  if (!t10) = true then
  some (.inr false)
  else
  (fail_Print f).bind fun t14 =>
  if ((decide (t14.2 = (0 : Int))) && (decide ((t14.1.length : Int) ≤ (65536 : Int)))) = true then
  ((fail_Parse t14.1).bind fun t26 =>
  (if (!(!decide (t26.2 = (0 : Int)))) = true then base_SameFail f t26.1 else some false).bind fun t34 =>
  if ((!decide (t26.2 = (0 : Int))) || (!t34)) = true then
  some (.inr false)
  else
  some (.inl (.l8 s_)))
  else
  some (.inl (.l8 s_))
noncomputable def law03_FailBack (f : (List tCrack)) (s_ : (List UInt8)) : Option Bool := runL st_law03_FailBack (en_law03_FailBack f s_)
end Go.Eng
