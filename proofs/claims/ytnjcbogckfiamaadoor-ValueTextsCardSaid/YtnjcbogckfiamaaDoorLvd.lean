/- A part of the proof: Lvd. -/
import Derived.Test.YtnjcbogckfiamaaDoorD3
import Derived.Test.YtnjcbogckfiamaaDoorTb
namespace Go.Eng
set_option linter.unusedVariables false
set_option linter.unusedSimpArgs false

abbrev tyAtom : Ty := rowOf [(.int .i64), (.int .i64), (.int .i64), .str]
abbrev tAtom := Int × Int × Int × (List UInt8) × Unit
abbrev dAtom : tAtom := ((0 : Int), (0 : Int), (0 : Int), ([] : List UInt8), ())
abbrev tywhole : Ty := rowOf [(.int .i64), (.int .i64)]
abbrev twhole := Int × Int × Unit
abbrev dwhole : twhole := ((0 : Int), (0 : Int), ())
abbrev tyreader : Ty := rowOf [.str, (.int .i64), (.sl 4 tyAtom)]
abbrev treader := (List UInt8) × Int × (List tAtom) × Unit
abbrev dreader : treader := (([] : List UInt8), (0 : Int), ([] : List tAtom), ())
/-! ### onceweb/oncewebbase.CopyValue -/
noncomputable def base_CopyValue (v : (List tAtom)) : Option (List tAtom) :=
  G ((([] : List tAtom).length + v.length) * 40 ≤ 140737488355328) <|
  some v
/-! ### onceweb/value.well -/
noncomputable def value_well (a : tAtom) : Option Bool :=
  if (decide (a.1 = (1 : Int))) = true then
  some ((((decide (a.2.1 = (0 : Int))) && (decide (a.2.2.2.1 = ([] : List UInt8)))) && (decide ((-9007199254740992 : Int) ≤ a.2.2.1))) && (decide (a.2.2.1 ≤ (9007199254740992 : Int))))
  else
  if (decide (a.1 = (2 : Int))) = true then
  some (((decide (a.2.1 = (0 : Int))) && (decide (a.2.2.1 = (0 : Int)))) && (decide ((a.2.2.2.1.length : Int) ≤ (4096 : Int))))
  else
  if (decide (a.1 = (3 : Int))) = true then
  some (((decide ((0 : Int) ≤ a.2.1)) && (decide (a.2.2.1 = (0 : Int)))) && (decide (a.2.2.2.1 = ([] : List UInt8))))
  else
  some false
/-! ### onceweb/value.wholes -/
inductive L_value_wholes where
  | l3 (out : (List twhole)) (stack : (List twhole)) (x16 : (List tAtom)) (x17 : Int) (x18 : Int)
  | l10 (out : (List twhole)) (stack : (List twhole)) (i : Int) (k : Int) (w : Int) (w' : Int) (x16 : (List tAtom)) (x17 : Int) (x18 : Int) (x42 : Nat) (x42' : Nat) (x43 : Int) (x44 : Int)
noncomputable def sg_value_wholes_3 (out : (List twhole)) (stack : (List twhole)) (x16 : (List tAtom)) (x17 : Int) (x18 : Int) : Option (L_value_wholes ⊕ ((List twhole) × Bool)) :=
  if (decide (x18 < x17)) = true then
  (G (0 ≤ x18 ∧ x18 < (x16.length : Int)) <|
  (value_well ((x16.getD x18.toNat dAtom).1, (x16.getD x18.toNat dAtom).2.1, (x16.getD x18.toNat dAtom).2.2.1, (x16.getD x18.toNat dAtom).2.2.2.1, ())).bind fun t24 =>
  if ((!t24) || (decide ((stack.length : Int) < (x16.getD x18.toNat dAtom).2.1))) = true then
  some (.inr (([] : List twhole), false))
  else
  G (0 ≤ (w64 ((stack.length : Int) - (x16.getD x18.toNat dAtom).2.1)) ∧ (w64 ((stack.length : Int) - (x16.getD x18.toNat dAtom).2.1)) ≤ (stack.length : Int)) <|
  some (.inl (.l10 out stack x18 (w64 ((stack.length : Int) - (x16.getD x18.toNat dAtom).2.1)) ((x18, (1 : Int), ()).1) ((x18, (1 : Int), ()).2.1) x16 x17 x18 ((w64 ((stack.length : Int) - (x16.getD x18.toNat dAtom).2.1)).toNat) (stack.length - (w64 ((stack.length : Int) - (x16.getD x18.toNat dAtom).2.1)).toNat) (((stack.length - (w64 ((stack.length : Int) - (x16.getD x18.toNat dAtom).2.1)).toNat) : Nat) : Int) (0 : Int))))
  else
  some (.inr (out, (decide ((stack.length : Int) = (1 : Int)))))
noncomputable def sg_value_wholes_10 (out : (List twhole)) (stack : (List twhole)) (i : Int) (k : Int) (w : Int) (w' : Int) (x16 : (List tAtom)) (x17 : Int) (x18 : Int) (x42 : Nat) (x42' : Nat) (x43 : Int) (x44 : Int) : Option (L_value_wholes ⊕ ((List twhole) × Bool)) :=
  if (decide (x44 < x43)) = true then
  (G (0 ≤ x44 ∧ x44 < (x42' : Int)) <|
  if (decide (x44 = (0 : Int))) = true then
  some (.inl (.l10 out stack i k ((stack.getD (x42 + x44.toNat) dwhole).1) (mxI w' (w64 ((stack.getD (x42 + x44.toNat) dwhole).2.1 + (1 : Int)))) x16 x17 x18 x42 x42' x43 (w64 (x44 + (1 : Int)))))
  else
  some (.inl (.l10 out stack i k w (mxI w' (w64 ((stack.getD (x42 + x44.toNat) dwhole).2.1 + (1 : Int)))) x16 x17 x18 x42 x42' x43 (w64 (x44 + (1 : Int))))))
  else
  if (decide ((32 : Int) < w')) = true then
  some (.inr (([] : List twhole), false))
  else
  G (0 ≤ i ∧ i < (out.length : Int)) <|
  G (0 ≤ k ∧ k ≤ (stack.length : Int)) <|
  G ((k.toNat + ([(w, w', ())] : List twhole).length) * 16 ≤ 140737488355328) <|
  some (.inl (.l3 (out.set i.toNat (w, w', ())) ((stack.take k.toNat) ++ ([(w, w', ())] : List twhole)) x16 x17 (w64 (x18 + (1 : Int)))))
noncomputable def st_value_wholes : L_value_wholes → Option (L_value_wholes ⊕ ((List twhole) × Bool))
  | .l3 out stack x16 x17 x18 => sg_value_wholes_3 out stack x16 x17 x18
  | .l10 out stack i k w w' x16 x17 x18 x42 x42' x43 x44 => sg_value_wholes_10 out stack i k w w' x16 x17 x18 x42 x42' x43 x44
noncomputable def en_value_wholes (v : (List tAtom)) : Option (L_value_wholes ⊕ ((List twhole) × Bool)) :=
  G (0 ≤ (v.length : Int) ∧ (v.length : Int) ≤ (v.length : Int) ∧ (16 : Int) * (v.length : Int) ≤ 281474976710656) <|
  some (.inl (.l3 (List.replicate (v.length : Int).toNat dwhole) ([] : List twhole) v (v.length : Int) (0 : Int)))
noncomputable def value_wholes (v : (List tAtom)) : Option ((List twhole) × Bool) := runL st_value_wholes (en_value_wholes v)
/-! ### onceweb/value.Check -/
noncomputable def value_Check (v : (List tAtom)) : Option Int :=
  if (decide ((1024 : Int) < (v.length : Int))) = true then
  some (3 : Int)
  else
  (value_wholes v).bind fun t10 =>
  if (!t10.2) = true then
  some (5 : Int)
  else
  some (0 : Int)
/-! ### internal/strconv.small -/
noncomputable def strconv_small (i : Int) : Option (List UInt8) :=
  if (decide (i < (10 : Int))) = true then
  (G (0 ≤ i ∧ i ≤ (w64 (i + (1 : Int))) ∧ (w64 (i + (1 : Int))) ≤ ((([48, 49, 50, 51, 52, 53, 54, 55, 56, 57, 97, 98, 99, 100, 101, 102, 103, 104, 105, 106, 107, 108, 109, 110, 111, 112, 113, 114, 115, 116, 117, 118, 119, 120, 121, 122] : List UInt8).length : Nat) : Int)) <|
  some (cut ([48, 49, 50, 51, 52, 53, 54, 55, 56, 57, 97, 98, 99, 100, 101, 102, 103, 104, 105, 106, 107, 108, 109, 110, 111, 112, 113, 114, 115, 116, 117, 118, 119, 120, 121, 122] : List UInt8) i.toNat (w64 (i + (1 : Int))).toNat))
  else
  G (0 ≤ (w64 (i * (2 : Int))) ∧ (w64 (i * (2 : Int))) ≤ (w64 ((w64 (i * (2 : Int))) + (2 : Int))) ∧ (w64 ((w64 (i * (2 : Int))) + (2 : Int))) ≤ ((([48, 48, 48, 49, 48, 50, 48, 51, 48, 52, 48, 53, 48, 54, 48, 55, 48, 56, 48, 57, 49, 48, 49, 49, 49, 50, 49, 51, 49, 52, 49, 53, 49, 54, 49, 55, 49, 56, 49, 57, 50, 48, 50, 49, 50, 50, 50, 51, 50, 52, 50, 53, 50, 54, 50, 55, 50, 56, 50, 57, 51, 48, 51, 49, 51, 50, 51, 51, 51, 52, 51, 53, 51, 54, 51, 55, 51, 56, 51, 57, 52, 48, 52, 49, 52, 50, 52, 51, 52, 52, 52, 53, 52, 54, 52, 55, 52, 56, 52, 57, 53, 48, 53, 49, 53, 50, 53, 51, 53, 52, 53, 53, 53, 54, 53, 55, 53, 56, 53, 57, 54, 48, 54, 49, 54, 50, 54, 51, 54, 52, 54, 53, 54, 54, 54, 55, 54, 56, 54, 57, 55, 48, 55, 49, 55, 50, 55, 51, 55, 52, 55, 53, 55, 54, 55, 55, 55, 56, 55, 57, 56, 48, 56, 49, 56, 50, 56, 51, 56, 52, 56, 53, 56, 54, 56, 55, 56, 56, 56, 57, 57, 48, 57, 49, 57, 50, 57, 51, 57, 52, 57, 53, 57, 54, 57, 55, 57, 56, 57, 57] : List UInt8).length : Nat) : Int)) <|
  some (cut ([48, 48, 48, 49, 48, 50, 48, 51, 48, 52, 48, 53, 48, 54, 48, 55, 48, 56, 48, 57, 49, 48, 49, 49, 49, 50, 49, 51, 49, 52, 49, 53, 49, 54, 49, 55, 49, 56, 49, 57, 50, 48, 50, 49, 50, 50, 50, 51, 50, 52, 50, 53, 50, 54, 50, 55, 50, 56, 50, 57, 51, 48, 51, 49, 51, 50, 51, 51, 51, 52, 51, 53, 51, 54, 51, 55, 51, 56, 51, 57, 52, 48, 52, 49, 52, 50, 52, 51, 52, 52, 52, 53, 52, 54, 52, 55, 52, 56, 52, 57, 53, 48, 53, 49, 53, 50, 53, 51, 53, 52, 53, 53, 53, 54, 53, 55, 53, 56, 53, 57, 54, 48, 54, 49, 54, 50, 54, 51, 54, 52, 54, 53, 54, 54, 54, 55, 54, 56, 54, 57, 55, 48, 55, 49, 55, 50, 55, 51, 55, 52, 55, 53, 55, 54, 55, 55, 55, 56, 55, 57, 56, 48, 56, 49, 56, 50, 56, 51, 56, 52, 56, 53, 56, 54, 56, 55, 56, 56, 56, 57, 57, 48, 57, 49, 57, 50, 57, 51, 57, 52, 57, 53, 57, 54, 57, 55, 57, 56, 57, 57] : List UInt8) (w64 (i * (2 : Int))).toNat (w64 ((w64 (i * (2 : Int))) + (2 : Int))).toNat)
/-! ### internal/strconv.log10Pow2 -/
noncomputable def strconv_log10Pow2 (x : Int) : Option Int :=
  some (Int.fdiv (w64 (x * (78913 : Int))) (2 ^ (min ((18 : Int)).toNat IntKind.i64.bits)))
/-! ### math/bits.Len64 -/
inductive L_bits_Len64 where
  | l4 (x : Int) (n : Int)
  | l7 (x : Int) (n : Int)
noncomputable def sg_bits_Len64_4 (x : Int) (n : Int) : Option (L_bits_Len64 ⊕ Int) :=
  if (decide ((65536 : Int) ≤ x)) = true then
  some (.inl (.l7 (Int.fdiv x (2 ^ (min ((16 : Int)).toNat IntKind.u64.bits))) (w64 (n + (16 : Int)))))
  else
  some (.inl (.l7 x n))
noncomputable def sg_bits_Len64_7 (x : Int) (n : Int) : Option (L_bits_Len64 ⊕ Int) :=
  if (decide ((256 : Int) ≤ x)) = true then
  (G (0 ≤ ((((IntKind.wrap .u8 ((Int.fdiv x (2 ^ (min ((8 : Int)).toNat IntKind.u64.bits)))))).toNat.toUInt8).toNat : Int) ∧ ((((IntKind.wrap .u8 ((Int.fdiv x (2 ^ (min ((8 : Int)).toNat IntKind.u64.bits)))))).toNat.toUInt8).toNat : Int) < (([0, 1, 2, 2, 3, 3, 3, 3, 4, 4, 4, 4, 4, 4, 4, 4, 5, 5, 5, 5, 5, 5, 5, 5, 5, 5, 5, 5, 5, 5, 5, 5, 6, 6, 6, 6, 6, 6, 6, 6, 6, 6, 6, 6, 6, 6, 6, 6, 6, 6, 6, 6, 6, 6, 6, 6, 6, 6, 6, 6, 6, 6, 6, 6, 7, 7, 7, 7, 7, 7, 7, 7, 7, 7, 7, 7, 7, 7, 7, 7, 7, 7, 7, 7, 7, 7, 7, 7, 7, 7, 7, 7, 7, 7, 7, 7, 7, 7, 7, 7, 7, 7, 7, 7, 7, 7, 7, 7, 7, 7, 7, 7, 7, 7, 7, 7, 7, 7, 7, 7, 7, 7, 7, 7, 7, 7, 7, 7, 8, 8, 8, 8, 8, 8, 8, 8, 8, 8, 8, 8, 8, 8, 8, 8, 8, 8, 8, 8, 8, 8, 8, 8, 8, 8, 8, 8, 8, 8, 8, 8, 8, 8, 8, 8, 8, 8, 8, 8, 8, 8, 8, 8, 8, 8, 8, 8, 8, 8, 8, 8, 8, 8, 8, 8, 8, 8, 8, 8, 8, 8, 8, 8, 8, 8, 8, 8, 8, 8, 8, 8, 8, 8, 8, 8, 8, 8, 8, 8, 8, 8, 8, 8, 8, 8, 8, 8, 8, 8, 8, 8, 8, 8, 8, 8, 8, 8, 8, 8, 8, 8, 8, 8, 8, 8, 8, 8, 8, 8, 8, 8, 8, 8, 8, 8, 8, 8, 8, 8, 8, 8, 8, 8, 8, 8, 8, 8] : List UInt8).length : Int)) <|
  some (.inr (w64 ((w64 (n + (8 : Int))) + (w64 (((([0, 1, 2, 2, 3, 3, 3, 3, 4, 4, 4, 4, 4, 4, 4, 4, 5, 5, 5, 5, 5, 5, 5, 5, 5, 5, 5, 5, 5, 5, 5, 5, 6, 6, 6, 6, 6, 6, 6, 6, 6, 6, 6, 6, 6, 6, 6, 6, 6, 6, 6, 6, 6, 6, 6, 6, 6, 6, 6, 6, 6, 6, 6, 6, 7, 7, 7, 7, 7, 7, 7, 7, 7, 7, 7, 7, 7, 7, 7, 7, 7, 7, 7, 7, 7, 7, 7, 7, 7, 7, 7, 7, 7, 7, 7, 7, 7, 7, 7, 7, 7, 7, 7, 7, 7, 7, 7, 7, 7, 7, 7, 7, 7, 7, 7, 7, 7, 7, 7, 7, 7, 7, 7, 7, 7, 7, 7, 7, 8, 8, 8, 8, 8, 8, 8, 8, 8, 8, 8, 8, 8, 8, 8, 8, 8, 8, 8, 8, 8, 8, 8, 8, 8, 8, 8, 8, 8, 8, 8, 8, 8, 8, 8, 8, 8, 8, 8, 8, 8, 8, 8, 8, 8, 8, 8, 8, 8, 8, 8, 8, 8, 8, 8, 8, 8, 8, 8, 8, 8, 8, 8, 8, 8, 8, 8, 8, 8, 8, 8, 8, 8, 8, 8, 8, 8, 8, 8, 8, 8, 8, 8, 8, 8, 8, 8, 8, 8, 8, 8, 8, 8, 8, 8, 8, 8, 8, 8, 8, 8, 8, 8, 8, 8, 8, 8, 8, 8, 8, 8, 8, 8, 8, 8, 8, 8, 8, 8, 8, 8, 8, 8, 8, 8, 8, 8, 8] : List UInt8).getD ((((IntKind.wrap .u8 ((Int.fdiv x (2 ^ (min ((8 : Int)).toNat IntKind.u64.bits)))))).toNat.toUInt8).toNat : Int).toNat 0).toNat : Int)))))))
  else
  G (0 ≤ ((((IntKind.wrap .u8 (x))).toNat.toUInt8).toNat : Int) ∧ ((((IntKind.wrap .u8 (x))).toNat.toUInt8).toNat : Int) < (([0, 1, 2, 2, 3, 3, 3, 3, 4, 4, 4, 4, 4, 4, 4, 4, 5, 5, 5, 5, 5, 5, 5, 5, 5, 5, 5, 5, 5, 5, 5, 5, 6, 6, 6, 6, 6, 6, 6, 6, 6, 6, 6, 6, 6, 6, 6, 6, 6, 6, 6, 6, 6, 6, 6, 6, 6, 6, 6, 6, 6, 6, 6, 6, 7, 7, 7, 7, 7, 7, 7, 7, 7, 7, 7, 7, 7, 7, 7, 7, 7, 7, 7, 7, 7, 7, 7, 7, 7, 7, 7, 7, 7, 7, 7, 7, 7, 7, 7, 7, 7, 7, 7, 7, 7, 7, 7, 7, 7, 7, 7, 7, 7, 7, 7, 7, 7, 7, 7, 7, 7, 7, 7, 7, 7, 7, 7, 7, 8, 8, 8, 8, 8, 8, 8, 8, 8, 8, 8, 8, 8, 8, 8, 8, 8, 8, 8, 8, 8, 8, 8, 8, 8, 8, 8, 8, 8, 8, 8, 8, 8, 8, 8, 8, 8, 8, 8, 8, 8, 8, 8, 8, 8, 8, 8, 8, 8, 8, 8, 8, 8, 8, 8, 8, 8, 8, 8, 8, 8, 8, 8, 8, 8, 8, 8, 8, 8, 8, 8, 8, 8, 8, 8, 8, 8, 8, 8, 8, 8, 8, 8, 8, 8, 8, 8, 8, 8, 8, 8, 8, 8, 8, 8, 8, 8, 8, 8, 8, 8, 8, 8, 8, 8, 8, 8, 8, 8, 8, 8, 8, 8, 8, 8, 8, 8, 8, 8, 8, 8, 8, 8, 8, 8, 8, 8, 8] : List UInt8).length : Int)) <|
  some (.inr (w64 (n + (w64 (((([0, 1, 2, 2, 3, 3, 3, 3, 4, 4, 4, 4, 4, 4, 4, 4, 5, 5, 5, 5, 5, 5, 5, 5, 5, 5, 5, 5, 5, 5, 5, 5, 6, 6, 6, 6, 6, 6, 6, 6, 6, 6, 6, 6, 6, 6, 6, 6, 6, 6, 6, 6, 6, 6, 6, 6, 6, 6, 6, 6, 6, 6, 6, 6, 7, 7, 7, 7, 7, 7, 7, 7, 7, 7, 7, 7, 7, 7, 7, 7, 7, 7, 7, 7, 7, 7, 7, 7, 7, 7, 7, 7, 7, 7, 7, 7, 7, 7, 7, 7, 7, 7, 7, 7, 7, 7, 7, 7, 7, 7, 7, 7, 7, 7, 7, 7, 7, 7, 7, 7, 7, 7, 7, 7, 7, 7, 7, 7, 8, 8, 8, 8, 8, 8, 8, 8, 8, 8, 8, 8, 8, 8, 8, 8, 8, 8, 8, 8, 8, 8, 8, 8, 8, 8, 8, 8, 8, 8, 8, 8, 8, 8, 8, 8, 8, 8, 8, 8, 8, 8, 8, 8, 8, 8, 8, 8, 8, 8, 8, 8, 8, 8, 8, 8, 8, 8, 8, 8, 8, 8, 8, 8, 8, 8, 8, 8, 8, 8, 8, 8, 8, 8, 8, 8, 8, 8, 8, 8, 8, 8, 8, 8, 8, 8, 8, 8, 8, 8, 8, 8, 8, 8, 8, 8, 8, 8, 8, 8, 8, 8, 8, 8, 8, 8, 8, 8, 8, 8, 8, 8, 8, 8, 8, 8, 8, 8, 8, 8, 8, 8, 8, 8, 8, 8, 8, 8] : List UInt8).getD ((((IntKind.wrap .u8 (x))).toNat.toUInt8).toNat : Int).toNat 0).toNat : Int))))))
noncomputable def st_bits_Len64 : L_bits_Len64 → Option (L_bits_Len64 ⊕ Int)
  | .l4 x n => sg_bits_Len64_4 x n
  | .l7 x n => sg_bits_Len64_7 x n
noncomputable def en_bits_Len64 (x : Int) : Option (L_bits_Len64 ⊕ Int) :=
  if (decide ((4294967296 : Int) ≤ x)) = true then
  some (.inl (.l4 (Int.fdiv x (2 ^ (min ((32 : Int)).toNat IntKind.u64.bits))) (32 : Int)))
  else
  some (.inl (.l4 x (0 : Int)))
noncomputable def bits_Len64 (x : Int) : Option Int := runL st_bits_Len64 (en_bits_Len64 x)
/-! ### internal/strconv.bool2[int] -/
noncomputable def strconv_bool2 (b : Bool) : Option Int :=
  if b = true then
  some (1 : Int)
  else
  some (0 : Int)
/-! ### internal/strconv.isPowerOfTwo -/
noncomputable def strconv_isPowerOfTwo (x : Int) : Option Bool :=
  some (decide ((w64 ((BitVec.ofInt IntKind.i64.bits x &&& BitVec.ofInt IntKind.i64.bits (w64 (x - (1 : Int)))).toNat)) = (0 : Int)))
/-! ### strconv_Itoa -/
noncomputable def strconv_Itoa (n : Int) : Option (List UInt8) := G (-9223372036854775808 ≤ n ∧ n ≤ 9223372036854775807) <| some (Lib.itoa n)
/-! ### onceweb/lex.Quote -/
inductive L_lex_Quote where
  | l4 (s_ : (List UInt8)) (out : (List UInt8)) (x14 : Int) (x15 : Int)
noncomputable def sg_lex_Quote_4 (s_ : (List UInt8)) (out : (List UInt8)) (x14 : Int) (x15 : Int) : Option (L_lex_Quote ⊕ (List UInt8)) :=
  if (decide (x15 < x14)) = true then
  (G (0 ≤ x15 ∧ x15 < (s_.length : Int)) <|
  if ((decide (((s_.getD x15.toNat 0).toNat : Int) = 34)) || (decide (((s_.getD x15.toNat 0).toNat : Int) = 92))) = true then
  (G ((out.length + ([(92 : UInt8), (s_.getD x15.toNat 0)] : List UInt8).length) * 1 ≤ 140737488355328) <|
  some (.inl (.l4 s_ (out ++ ([(92 : UInt8), (s_.getD x15.toNat 0)] : List UInt8)) x14 (w64 (x15 + (1 : Int))))))
  else
  if (decide (((s_.getD x15.toNat 0).toNat : Int) = 10)) = true then
  (G ((out.length + ([(92 : UInt8), (110 : UInt8)] : List UInt8).length) * 1 ≤ 140737488355328) <|
  some (.inl (.l4 s_ (out ++ ([(92 : UInt8), (110 : UInt8)] : List UInt8)) x14 (w64 (x15 + (1 : Int))))))
  else
  if ((decide (((s_.getD x15.toNat 0).toNat : Int) < 32)) || (decide (126 < ((s_.getD x15.toNat 0).toNat : Int)))) = true then
  (G (0 ≤ ((((Int.fdiv ((s_.getD x15.toNat 0).toNat : Int) (2 ^ (min ((4 : Int)).toNat IntKind.u8.bits)))).toNat.toUInt8).toNat : Int) ∧ ((((Int.fdiv ((s_.getD x15.toNat 0).toNat : Int) (2 ^ (min ((4 : Int)).toNat IntKind.u8.bits)))).toNat.toUInt8).toNat : Int) < (([48, 49, 50, 51, 52, 53, 54, 55, 56, 57, 97, 98, 99, 100, 101, 102] : List UInt8).length : Int)) <|
  G (0 ≤ ((((IntKind.wrap .u8 ((BitVec.ofInt IntKind.u8.bits ((s_.getD x15.toNat 0).toNat : Int) &&& BitVec.ofInt IntKind.u8.bits 15).toNat))).toNat.toUInt8).toNat : Int) ∧ ((((IntKind.wrap .u8 ((BitVec.ofInt IntKind.u8.bits ((s_.getD x15.toNat 0).toNat : Int) &&& BitVec.ofInt IntKind.u8.bits 15).toNat))).toNat.toUInt8).toNat : Int) < (([48, 49, 50, 51, 52, 53, 54, 55, 56, 57, 97, 98, 99, 100, 101, 102] : List UInt8).length : Int)) <|
  G ((out.length + ([(92 : UInt8), (120 : UInt8), (([48, 49, 50, 51, 52, 53, 54, 55, 56, 57, 97, 98, 99, 100, 101, 102] : List UInt8).getD ((((Int.fdiv ((s_.getD x15.toNat 0).toNat : Int) (2 ^ (min ((4 : Int)).toNat IntKind.u8.bits)))).toNat.toUInt8).toNat : Int).toNat 0), (([48, 49, 50, 51, 52, 53, 54, 55, 56, 57, 97, 98, 99, 100, 101, 102] : List UInt8).getD ((((IntKind.wrap .u8 ((BitVec.ofInt IntKind.u8.bits ((s_.getD x15.toNat 0).toNat : Int) &&& BitVec.ofInt IntKind.u8.bits 15).toNat))).toNat.toUInt8).toNat : Int).toNat 0)] : List UInt8).length) * 1 ≤ 140737488355328) <|
  some (.inl (.l4 s_ (out ++ ([(92 : UInt8), (120 : UInt8), (([48, 49, 50, 51, 52, 53, 54, 55, 56, 57, 97, 98, 99, 100, 101, 102] : List UInt8).getD ((((Int.fdiv ((s_.getD x15.toNat 0).toNat : Int) (2 ^ (min ((4 : Int)).toNat IntKind.u8.bits)))).toNat.toUInt8).toNat : Int).toNat 0), (([48, 49, 50, 51, 52, 53, 54, 55, 56, 57, 97, 98, 99, 100, 101, 102] : List UInt8).getD ((((IntKind.wrap .u8 ((BitVec.ofInt IntKind.u8.bits ((s_.getD x15.toNat 0).toNat : Int) &&& BitVec.ofInt IntKind.u8.bits 15).toNat))).toNat.toUInt8).toNat : Int).toNat 0)] : List UInt8)) x14 (w64 (x15 + (1 : Int))))))
  else
  G ((out.length + ([(s_.getD x15.toNat 0)] : List UInt8).length) * 1 ≤ 140737488355328) <|
  some (.inl (.l4 s_ (out ++ ([(s_.getD x15.toNat 0)] : List UInt8)) x14 (w64 (x15 + (1 : Int))))))
  else
  G ((out.length + ([(34 : UInt8)] : List UInt8).length) * 1 ≤ 140737488355328) <|
  some (.inr (out ++ ([(34 : UInt8)] : List UInt8)))
noncomputable def st_lex_Quote : L_lex_Quote → Option (L_lex_Quote ⊕ (List UInt8))
  | .l4 s_ out x14 x15 => sg_lex_Quote_4 s_ out x14 x15
noncomputable def en_lex_Quote (s_ : (List UInt8)) : Option (L_lex_Quote ⊕ (List UInt8)) :=
  G (0 ≤ (0 : Int) ∧ (0 : Int) ≤ (w64 ((s_.length : Int) + (2 : Int))) ∧ (1 : Int) * (w64 ((s_.length : Int) + (2 : Int))) ≤ 281474976710656) <|
  G (((List.replicate (0 : Int).toNat (0 : UInt8)).length + ([(34 : UInt8)] : List UInt8).length) * 1 ≤ 140737488355328) <|
  some (.inl (.l4 s_ ((List.replicate (0 : Int).toNat (0 : UInt8)) ++ ([(34 : UInt8)] : List UInt8)) (s_.length : Int) (0 : Int)))
noncomputable def lex_Quote (s_ : (List UInt8)) : Option (List UInt8) := runL st_lex_Quote (en_lex_Quote s_)
/-! ### strings_Join -/
noncomputable def strings_Join (l : List (List UInt8)) (sep : List UInt8) : Option (List UInt8) := G (l.length ≤ 140737488355328 ∧ (Lib.join l sep).length ≤ 140737488355328) <| some (Lib.join l sep)
/-! ### onceweb/value.Print -/
inductive L_value_Print where
  | l6 (stack : (List (List UInt8))) (x16 : (List tAtom)) (x17 : Int) (x18 : Int)
noncomputable def sg_value_Print_6 (stack : (List (List UInt8))) (x16 : (List tAtom)) (x17 : Int) (x18 : Int) : Option (L_value_Print ⊕ ((List UInt8) × Int)) :=
  if (decide (x18 < x17)) = true then
  (G (0 ≤ x18 ∧ x18 < (x16.length : Int)) <|
  if (decide ((x16.getD x18.toNat dAtom).1 = (1 : Int))) = true then
  ((strconv_Itoa ((x16.getD x18.toNat dAtom).2.2.1)).bind fun t33 =>
  G (0 ≤ (w64 ((stack.length : Int) - (x16.getD x18.toNat dAtom).2.1)) ∧ (w64 ((stack.length : Int) - (x16.getD x18.toNat dAtom).2.1)) ≤ (stack.length : Int)) <|
  G (((w64 ((stack.length : Int) - (x16.getD x18.toNat dAtom).2.1)).toNat + ([t33] : List (List UInt8)).length) * 16 ≤ 140737488355328) <|
  some (.inl (.l6 ((stack.take ((w64 ((stack.length : Int) - (x16.getD x18.toNat dAtom).2.1)).toNat)) ++ ([t33] : List (List UInt8))) x16 x17 (w64 (x18 + (1 : Int))))))
  else
  if (decide ((x16.getD x18.toNat dAtom).1 = (2 : Int))) = true then
  ((lex_Quote ((x16.getD x18.toNat dAtom).2.2.2.1)).bind fun t38 =>
  G (0 ≤ (w64 ((stack.length : Int) - (x16.getD x18.toNat dAtom).2.1)) ∧ (w64 ((stack.length : Int) - (x16.getD x18.toNat dAtom).2.1)) ≤ (stack.length : Int)) <|
  G (((w64 ((stack.length : Int) - (x16.getD x18.toNat dAtom).2.1)).toNat + ([t38] : List (List UInt8)).length) * 16 ≤ 140737488355328) <|
  some (.inl (.l6 ((stack.take ((w64 ((stack.length : Int) - (x16.getD x18.toNat dAtom).2.1)).toNat)) ++ ([t38] : List (List UInt8))) x16 x17 (w64 (x18 + (1 : Int))))))
  else
  if (decide ((x16.getD x18.toNat dAtom).1 = (3 : Int))) = true then
  (G (0 ≤ (w64 ((stack.length : Int) - (x16.getD x18.toNat dAtom).2.1)) ∧ (w64 ((stack.length : Int) - (x16.getD x18.toNat dAtom).2.1)) ≤ (stack.length : Int)) <|
  (strings_Join (stack.drop ((w64 ((stack.length : Int) - (x16.getD x18.toNat dAtom).2.1)).toNat)) ([44, 32] : List UInt8)).bind fun t44 =>
  G (([91] : List UInt8).length + t44.length ≤ 9223372036854775807) <|
  G ((([91] : List UInt8) ++ t44).length + ([93] : List UInt8).length ≤ 9223372036854775807) <|
  G (0 ≤ (w64 ((stack.length : Int) - (x16.getD x18.toNat dAtom).2.1)) ∧ (w64 ((stack.length : Int) - (x16.getD x18.toNat dAtom).2.1)) ≤ (stack.length : Int)) <|
  G (((w64 ((stack.length : Int) - (x16.getD x18.toNat dAtom).2.1)).toNat + ([((([91] : List UInt8) ++ t44) ++ ([93] : List UInt8))] : List (List UInt8)).length) * 16 ≤ 140737488355328) <|
  some (.inl (.l6 ((stack.take ((w64 ((stack.length : Int) - (x16.getD x18.toNat dAtom).2.1)).toNat)) ++ ([((([91] : List UInt8) ++ t44) ++ ([93] : List UInt8))] : List (List UInt8))) x16 x17 (w64 (x18 + (1 : Int))))))
  else
  G (0 ≤ (w64 ((stack.length : Int) - (x16.getD x18.toNat dAtom).2.1)) ∧ (w64 ((stack.length : Int) - (x16.getD x18.toNat dAtom).2.1)) ≤ (stack.length : Int)) <|
  G (((w64 ((stack.length : Int) - (x16.getD x18.toNat dAtom).2.1)).toNat + ([([] : List UInt8)] : List (List UInt8)).length) * 16 ≤ 140737488355328) <|
  some (.inl (.l6 ((stack.take ((w64 ((stack.length : Int) - (x16.getD x18.toNat dAtom).2.1)).toNat)) ++ ([([] : List UInt8)] : List (List UInt8))) x16 x17 (w64 (x18 + (1 : Int))))))
  else
  G (0 ≤ (0 : Int) ∧ (0 : Int) < (stack.length : Int)) <|
  some (.inr ((stack.getD ((0 : Int).toNat) ([] : List UInt8)), (0 : Int)))
noncomputable def st_value_Print : L_value_Print → Option (L_value_Print ⊕ ((List UInt8) × Int))
  | .l6 stack x16 x17 x18 => sg_value_Print_6 stack x16 x17 x18
noncomputable def en_value_Print (v : (List tAtom)) : Option (L_value_Print ⊕ ((List UInt8) × Int)) :=
  (value_Check v).bind fun t11 =>
  if (!decide (t11 = (0 : Int))) = true then
  some (.inr (([] : List UInt8), t11))
  else
  some (.inl (.l6 ([] : List (List UInt8)) v (v.length : Int) (0 : Int)))
noncomputable def value_Print (v : (List tAtom)) : Option ((List UInt8) × Int) := runL st_value_Print (en_value_Print v)
/-! ### onceweb/oncewebref07.atom -/
noncomputable def ref07_atom (a : tAtom) : Option Bool :=
  if (decide (a.1 = (1 : Int))) = true then
  some ((((decide (a.2.1 = (0 : Int))) && (decide (a.2.2.2.1 = ([] : List UInt8)))) && (decide ((-9007199254740992 : Int) ≤ a.2.2.1))) && (decide (a.2.2.1 ≤ (9007199254740992 : Int))))
  else
  if (decide (a.1 = (2 : Int))) = true then
  some (((decide (a.2.1 = (0 : Int))) && (decide (a.2.2.1 = (0 : Int)))) && (decide ((a.2.2.2.1.length : Int) ≤ (4096 : Int))))
  else
  if (decide (a.1 = (3 : Int))) = true then
  some (((decide ((0 : Int) ≤ a.2.1)) && (decide (a.2.2.1 = (0 : Int)))) && (decide (a.2.2.2.1 = ([] : List UInt8))))
  else
  some false
/-! ### onceweb/oncewebref07.begins -/
inductive L_ref07_begins where
  | l5 (v : (List tAtom)) (from_ : (List Int)) (stack : (List Int)) (deep : (List Int)) (i : Int)
  | l15 (v : (List tAtom)) (from_ : (List Int)) (stack : (List Int)) (deep : (List Int)) (i : Int) (n : Int) (b : Int) (d : Int) (k : Int)
  | l20 (v : (List tAtom)) (from_ : (List Int)) (stack : (List Int)) (deep : (List Int)) (i : Int) (b : Int) (d : Int)
noncomputable def sg_ref07_begins_5 (v : (List tAtom)) (from_ : (List Int)) (stack : (List Int)) (deep : (List Int)) (i : Int) : Option (L_ref07_begins ⊕ ((List Int) × Int × Bool)) :=
  if (decide (i < (v.length : Int))) = true then
  (G (0 ≤ i ∧ i < (v.length : Int)) <|
  G (0 ≤ i ∧ i < (v.length : Int)) <|
  (ref07_atom (v.getD i.toNat dAtom)).bind fun t31 =>
  if ((!t31) || (decide ((stack.length : Int) < (v.getD i.toNat dAtom).2.1))) = true then
  some (.inr (([] : List Int), (0 : Int), false))
  else
  if (decide ((0 : Int) < (v.getD i.toNat dAtom).2.1)) = true then
  (G (0 ≤ (w64 ((stack.length : Int) - (v.getD i.toNat dAtom).2.1)) ∧ (w64 ((stack.length : Int) - (v.getD i.toNat dAtom).2.1)) < (stack.length : Int)) <|
  some (.inl (.l15 v from_ stack deep i ((v.getD i.toNat dAtom).2.1) (stack.getD ((w64 ((stack.length : Int) - (v.getD i.toNat dAtom).2.1)).toNat) (0 : Int)) (0 : Int) (0 : Int))))
  else
  some (.inl (.l20 v from_ stack deep i i (0 : Int))))
  else
  if (!decide ((stack.length : Int) = (1 : Int))) = true then
  some (.inr (([] : List Int), (0 : Int), false))
  else
  G (0 ≤ (0 : Int) ∧ (0 : Int) < (deep.length : Int)) <|
  some (.inr (from_, (deep.getD ((0 : Int).toNat) (0 : Int)), true))
noncomputable def sg_ref07_begins_15 (v : (List tAtom)) (from_ : (List Int)) (stack : (List Int)) (deep : (List Int)) (i : Int) (n : Int) (b : Int) (d : Int) (k : Int) : Option (L_ref07_begins ⊕ ((List Int) × Int × Bool)) :=
  if (decide (k < n)) = true then
  (G (0 ≤ (w64 ((w64 ((deep.length : Int) - (1 : Int))) - k)) ∧ (w64 ((w64 ((deep.length : Int) - (1 : Int))) - k)) < (deep.length : Int)) <|
  some (.inl (.l15 v from_ stack deep i n b (mxI d (deep.getD ((w64 ((w64 ((deep.length : Int) - (1 : Int))) - k)).toNat) (0 : Int))) (w64 (k + (1 : Int))))))
  else
  G (0 ≤ (w64 ((stack.length : Int) - n)) ∧ (w64 ((stack.length : Int) - n)) ≤ (stack.length : Int)) <|
  G (0 ≤ (w64 ((deep.length : Int) - n)) ∧ (w64 ((deep.length : Int) - n)) ≤ (deep.length : Int)) <|
  some (.inl (.l20 v from_ (stack.take ((w64 ((stack.length : Int) - n)).toNat)) (deep.take ((w64 ((deep.length : Int) - n)).toNat)) i b d))
noncomputable def sg_ref07_begins_20 (v : (List tAtom)) (from_ : (List Int)) (stack : (List Int)) (deep : (List Int)) (i : Int) (b : Int) (d : Int) : Option (L_ref07_begins ⊕ ((List Int) × Int × Bool)) :=
  G ((stack.length + ([b] : List Int).length) * 8 ≤ 140737488355328) <|
  G ((deep.length + ([(w64 (d + (1 : Int)))] : List Int).length) * 8 ≤ 140737488355328) <|
  G ((from_.length + ([b] : List Int).length) * 8 ≤ 140737488355328) <|
  some (.inl (.l5 v (from_ ++ ([b] : List Int)) (stack ++ ([b] : List Int)) (deep ++ ([(w64 (d + (1 : Int)))] : List Int)) (w64 (i + (1 : Int)))))
noncomputable def st_ref07_begins : L_ref07_begins → Option (L_ref07_begins ⊕ ((List Int) × Int × Bool))
  | .l5 v from_ stack deep i => sg_ref07_begins_5 v from_ stack deep i
  | .l15 v from_ stack deep i n b d k => sg_ref07_begins_15 v from_ stack deep i n b d k
  | .l20 v from_ stack deep i b d => sg_ref07_begins_20 v from_ stack deep i b d
noncomputable def en_ref07_begins (v : (List tAtom)) : Option (L_ref07_begins ⊕ ((List Int) × Int × Bool)) :=
  some (.inl (.l5 v ([] : List Int) ([] : List Int) ([] : List Int) (0 : Int)))
noncomputable def ref07_begins (v : (List tAtom)) : Option ((List Int) × Int × Bool) := runL st_ref07_begins (en_ref07_begins v)
/-! ### onceweb/oncewebref07.Check -/
noncomputable def ref07_Check (v : (List tAtom)) : Option Int :=
  if (decide ((1024 : Int) < (v.length : Int))) = true then
  some (3 : Int)
  else
  (ref07_begins v).bind fun t11 =>
  if ((!t11.2.2) || (decide ((32 : Int) < t11.2.1))) = true then
  some (5 : Int)
  else
  some (0 : Int)
/-! ### onceweb/oncewebref07.whole -/
noncomputable def ref07_whole (v : (List tAtom)) : Option tAtom :=
  G (0 ≤ (w64 ((v.length : Int) - (1 : Int))) ∧ (w64 ((v.length : Int) - (1 : Int))) < (v.length : Int)) <|
  some ((v.getD (w64 ((v.length : Int) - (1 : Int))).toNat dAtom).1, (v.getD (w64 ((v.length : Int) - (1 : Int))).toNat dAtom).2.1, (v.getD (w64 ((v.length : Int) - (1 : Int))).toNat dAtom).2.2.1, (v.getD (w64 ((v.length : Int) - (1 : Int))).toNat dAtom).2.2.2.1, ())
/-! ### onceweb/oncewebbase.Itoa -/
inductive L_base_Itoa where
  | l6 (n : Int) (u_ : Int)
  | l7 (n : Int) (u_ : Int) (s_ : (List UInt8))
noncomputable def sg_base_Itoa_6 (n : Int) (u_ : Int) : Option (L_base_Itoa ⊕ (List UInt8)) :=
  some (.inl (.l7 n u_ ([] : List UInt8)))
noncomputable def sg_base_Itoa_7 (n : Int) (u_ : Int) (s_ : (List UInt8)) : Option (L_base_Itoa ⊕ (List UInt8)) :=
  if (decide ((0 : Int) < u_)) = true then
  (G (([((IntKind.wrap .u8 ((IntKind.wrap .u64 ((48 : Int) + (Int.tmod u_ (10 : Int))))))).toNat.toUInt8] : List UInt8).length + s_.length ≤ 9223372036854775807) <|
  some (.inl (.l7 n (IntKind.wrap .u64 (Int.tdiv u_ (10 : Int))) (([((IntKind.wrap .u8 ((IntKind.wrap .u64 ((48 : Int) + (Int.tmod u_ (10 : Int))))))).toNat.toUInt8] : List UInt8) ++ s_))))
  else
  if (decide (n < (0 : Int))) = true then
  (G (([45] : List UInt8).length + s_.length ≤ 9223372036854775807) <|
  some (.inr (([45] : List UInt8) ++ s_)))
  else
  some (.inr s_)
noncomputable def st_base_Itoa : L_base_Itoa → Option (L_base_Itoa ⊕ (List UInt8))
  | .l6 n u_ => sg_base_Itoa_6 n u_
  | .l7 n u_ s_ => sg_base_Itoa_7 n u_ s_
noncomputable def en_base_Itoa (n : Int) : Option (L_base_Itoa ⊕ (List UInt8)) :=
  if (decide (n = (0 : Int))) = true then
  some (.inr ([48] : List UInt8))
  else
  if (decide (n < (0 : Int))) = true then
  some (.inl (.l6 n (IntKind.wrap .u64 (0 - (IntKind.wrap .u64 (n))))))
  else
  some (.inl (.l6 n (IntKind.wrap .u64 (n))))
noncomputable def base_Itoa (n : Int) : Option (List UInt8) := runL st_base_Itoa (en_base_Itoa n)
/-! ### onceweb/oncewebref01.Quote -/
inductive L_ref01_Quote where
  | l4 (s_ : (List UInt8)) (digits : (List UInt8)) (out : (List UInt8)) (i : Int)
noncomputable def sg_ref01_Quote_4 (s_ : (List UInt8)) (digits : (List UInt8)) (out : (List UInt8)) (i : Int) : Option (L_ref01_Quote ⊕ (List UInt8)) :=
  if (decide (i < (s_.length : Int))) = true then
  (G (0 ≤ i ∧ i < (s_.length : Int)) <|
  if ((decide (((s_.getD i.toNat 0).toNat : Int) = 34)) || (decide (((s_.getD i.toNat 0).toNat : Int) = 92))) = true then
  (G ((out.length + ([(92 : UInt8), (s_.getD i.toNat 0)] : List UInt8).length) * 1 ≤ 140737488355328) <|
  some (.inl (.l4 s_ digits (out ++ ([(92 : UInt8), (s_.getD i.toNat 0)] : List UInt8)) (w64 (i + (1 : Int))))))
  else
  if (decide (((s_.getD i.toNat 0).toNat : Int) = 10)) = true then
  (G ((out.length + ([(92 : UInt8), (110 : UInt8)] : List UInt8).length) * 1 ≤ 140737488355328) <|
  some (.inl (.l4 s_ digits (out ++ ([(92 : UInt8), (110 : UInt8)] : List UInt8)) (w64 (i + (1 : Int))))))
  else
  if ((decide (((s_.getD i.toNat 0).toNat : Int) < 32)) || (decide (126 < ((s_.getD i.toNat 0).toNat : Int)))) = true then
  (G (0 ≤ ((((IntKind.wrap .u8 (Int.tdiv ((s_.getD i.toNat 0).toNat : Int) 16))).toNat.toUInt8).toNat : Int) ∧ ((((IntKind.wrap .u8 (Int.tdiv ((s_.getD i.toNat 0).toNat : Int) 16))).toNat.toUInt8).toNat : Int) < (digits.length : Int)) <|
  G (0 ≤ ((((Int.tmod ((s_.getD i.toNat 0).toNat : Int) 16)).toNat.toUInt8).toNat : Int) ∧ ((((Int.tmod ((s_.getD i.toNat 0).toNat : Int) 16)).toNat.toUInt8).toNat : Int) < (digits.length : Int)) <|
  G ((out.length + ([(92 : UInt8), (120 : UInt8), (digits.getD ((((IntKind.wrap .u8 (Int.tdiv ((s_.getD i.toNat 0).toNat : Int) 16))).toNat.toUInt8).toNat : Int).toNat 0), (digits.getD ((((Int.tmod ((s_.getD i.toNat 0).toNat : Int) 16)).toNat.toUInt8).toNat : Int).toNat 0)] : List UInt8).length) * 1 ≤ 140737488355328) <|
  some (.inl (.l4 s_ digits (out ++ ([(92 : UInt8), (120 : UInt8), (digits.getD ((((IntKind.wrap .u8 (Int.tdiv ((s_.getD i.toNat 0).toNat : Int) 16))).toNat.toUInt8).toNat : Int).toNat 0), (digits.getD ((((Int.tmod ((s_.getD i.toNat 0).toNat : Int) 16)).toNat.toUInt8).toNat : Int).toNat 0)] : List UInt8)) (w64 (i + (1 : Int))))))
  else
  G ((out.length + ([(s_.getD i.toNat 0)] : List UInt8).length) * 1 ≤ 140737488355328) <|
  some (.inl (.l4 s_ digits (out ++ ([(s_.getD i.toNat 0)] : List UInt8)) (w64 (i + (1 : Int))))))
  else
  G ((out.length + ([(34 : UInt8)] : List UInt8).length) * 1 ≤ 140737488355328) <|
  some (.inr (out ++ ([(34 : UInt8)] : List UInt8)))
noncomputable def st_ref01_Quote : L_ref01_Quote → Option (L_ref01_Quote ⊕ (List UInt8))
  | .l4 s_ digits out i => sg_ref01_Quote_4 s_ digits out i
noncomputable def en_ref01_Quote (s_ : (List UInt8)) : Option (L_ref01_Quote ⊕ (List UInt8)) :=
  some (.inl (.l4 s_ ([48, 49, 50, 51, 52, 53, 54, 55, 56, 57, 97, 98, 99, 100, 101, 102] : List UInt8) ([(34 : UInt8)] : List UInt8) (0 : Int)))
noncomputable def ref01_Quote (s_ : (List UInt8)) : Option (List UInt8) := runL st_ref01_Quote (en_ref01_Quote s_)
/-! ### onceweb/oncewebref07.members -/
inductive L_ref07_members where
  | l6 (v : (List tAtom)) (from_ : (List Int)) (out : (List (List tAtom))) (k : Int) (i : Int)
noncomputable def sg_ref07_members_6 (v : (List tAtom)) (from_ : (List Int)) (out : (List (List tAtom))) (k : Int) (i : Int) : Option (L_ref07_members ⊕ (List (List tAtom))) :=
  if (decide ((0 : Int) ≤ i)) = true then
  (G (0 ≤ k ∧ k < (from_.length : Int)) <|
  G (0 ≤ (from_.getD k.toNat (0 : Int)) ∧ (from_.getD k.toNat (0 : Int)) ≤ (w64 (k + (1 : Int))) ∧ (w64 (k + (1 : Int))) ≤ (v.length : Int)) <|
  (base_CopyValue (cut v (from_.getD k.toNat (0 : Int)).toNat (w64 (k + (1 : Int))).toNat)).bind fun t40 =>
  G (0 ≤ i ∧ i < (out.length : Int)) <|
  G (0 ≤ k ∧ k < (from_.length : Int)) <|
  some (.inl (.l6 v from_ (out.set i.toNat t40) (w64 ((from_.getD k.toNat (0 : Int)) - (1 : Int))) (w64 (i - (1 : Int))))))
  else
  some (.inr out)
noncomputable def st_ref07_members : L_ref07_members → Option (L_ref07_members ⊕ (List (List tAtom)))
  | .l6 v from_ out k i => sg_ref07_members_6 v from_ out k i
noncomputable def en_ref07_members (v : (List tAtom)) : Option (L_ref07_members ⊕ (List (List tAtom))) :=
  (ref07_begins v).bind fun t12 =>
  (ref07_whole v).bind fun t17 =>
  G (0 ≤ t17.2.1 ∧ t17.2.1 ≤ t17.2.1 ∧ (24 : Int) * t17.2.1 ≤ 281474976710656) <|
  some (.inl (.l6 v t12.1 (List.replicate t17.2.1.toNat ([] : List tAtom)) (w64 ((v.length : Int) - (2 : Int))) (w64 (t17.2.1 - (1 : Int)))))
noncomputable def ref07_members (v : (List tAtom)) : Option (List (List tAtom)) := runL st_ref07_members (en_ref07_members v)
/-! ### onceweb/oncewebref07.print -/
inductive L_ref07_print where
  | l10 (l : (List (List tAtom))) (out : (List UInt8)) (i : Int)
noncomputable def sg_ref07_print_10 (rc : (List tAtom) → Option (List UInt8)) (l : (List (List tAtom))) (out : (List UInt8)) (i : Int) : Option (L_ref07_print ⊕ (List UInt8)) :=
  if (decide (i < (l.length : Int))) = true then
  (if (decide ((0 : Int) < i)) = true then
  (G (out.length + ([44, 32] : List UInt8).length ≤ 140737488355328) <|
  G (0 ≤ i ∧ i < (l.length : Int)) <|
  (rc (l.getD i.toNat ([] : List tAtom))).bind fun t39 =>
  G ((out ++ ([44, 32] : List UInt8)).length + t39.length ≤ 140737488355328) <|
  some (.inl (.l10 l ((out ++ ([44, 32] : List UInt8)) ++ t39) (w64 (i + (1 : Int))))))
  else
  G (0 ≤ i ∧ i < (l.length : Int)) <|
  (rc (l.getD i.toNat ([] : List tAtom))).bind fun t39 =>
  G (out.length + t39.length ≤ 140737488355328) <|
  some (.inl (.l10 l (out ++ t39) (w64 (i + (1 : Int))))))
  else
  G ((out.length + ([(93 : UInt8)] : List UInt8).length) * 1 ≤ 140737488355328) <|
  some (.inr (out ++ ([(93 : UInt8)] : List UInt8)))
noncomputable def st_ref07_print (rc : (List tAtom) → Option (List UInt8)) : L_ref07_print → Option (L_ref07_print ⊕ (List UInt8))
  | .l10 l out i => sg_ref07_print_10 rc l out i
noncomputable def en_ref07_print (rc : (List tAtom) → Option (List UInt8)) (v : (List tAtom)) : Option (L_ref07_print ⊕ (List UInt8)) :=
  (ref07_whole v).bind fun t8 =>
  if (decide (t8.1 = (1 : Int))) = true then
  ((base_Itoa t8.2.2.1).bind fun t15 =>
  some (.inr t15))
  else
  if (decide (t8.1 = (2 : Int))) = true then
  ((ref01_Quote t8.2.2.2.1).bind fun t20 =>
  some (.inr t20))
  else
  (ref07_members v).bind fun t22 =>
  some (.inl (.l10 t22 ([(91 : UInt8)] : List UInt8) (0 : Int)))
noncomputable def ref07_print_n : Nat → (List tAtom) → Option (List UInt8)
  | 0, _ => none
  | fu_ + 1, v => runL (st_ref07_print (ref07_print_n fu_)) (en_ref07_print (ref07_print_n fu_) v)
noncomputable def ref07_print (v : (List tAtom)) : Option (List UInt8) := ref07_print_n 64 v
/-! ### onceweb/oncewebref07.Print -/
noncomputable def ref07_Print (v : (List tAtom)) : Option ((List UInt8) × Int) :=
  (ref07_Check v).bind fun t6 =>
  if (!decide (t6 = (0 : Int))) = true then
  some (([] : List UInt8), t6)
  else
  (ref07_print v).bind fun t11 =>
  some (t11, (0 : Int))
/-! ### onceweb/oncewebbase.SameValue -/
inductive L_base_SameValue where
  | l4 (a : (List tAtom)) (b : (List tAtom)) (i : Int)
noncomputable def sg_base_SameValue_4 (a : (List tAtom)) (b : (List tAtom)) (i : Int) : Option (L_base_SameValue ⊕ Bool) :=
  if (decide (i < (a.length : Int))) = true then
  (G (0 ≤ i ∧ i < (a.length : Int)) <|
  G (0 ≤ i ∧ i < (b.length : Int)) <|
  if (!(eqR tyAtom (a.getD i.toNat dAtom) (b.getD i.toNat dAtom))) = true then
  some (.inr false)
  else
  some (.inl (.l4 a b (w64 (i + (1 : Int))))))
  else
  some (.inr true)
noncomputable def st_base_SameValue : L_base_SameValue → Option (L_base_SameValue ⊕ Bool)
  | .l4 a b i => sg_base_SameValue_4 a b i
noncomputable def en_base_SameValue (a : (List tAtom)) (b : (List tAtom)) : Option (L_base_SameValue ⊕ Bool) :=
  if (!decide ((a.length : Int) = (b.length : Int))) = true then
  some (.inr false)
  else
  some (.inl (.l4 a b (0 : Int)))
noncomputable def base_SameValue (a : (List tAtom)) (b : (List tAtom)) : Option Bool := runL st_base_SameValue (en_base_SameValue a b)
/-! ### (*onceweb/value.reader).put -/
noncomputable def en_value_reader_put (r_ : (List UInt8)) (r_' : Int) (r_'' : (List tAtom)) (a : tAtom) : Option (Bool × (List UInt8) × Int × (List tAtom)) :=
  G ((r_''.length + ([(a.1, a.2.1, a.2.2.1, a.2.2.2.1, ())] : List tAtom).length) * 40 ≤ 140737488355328) <|
  some ((decide ((((r_'' ++ ([(a.1, a.2.1, a.2.2.1, a.2.2.2.1, ())] : List tAtom)).length : Nat) : Int) ≤ (1024 : Int))), r_, r_', (r_'' ++ ([(a.1, a.2.1, a.2.2.1, a.2.2.2.1, ())] : List tAtom)))
noncomputable def value_reader_put (r_ : (List UInt8)) (r_' : Int) (r_'' : (List tAtom)) (a : tAtom) : Option (Bool × (List UInt8) × Int × (List tAtom)) := en_value_reader_put r_ r_' r_'' a
/-! ### bytealg_IndexByteString -/
noncomputable def bytealg_IndexByteString (s_ : List UInt8) (c : UInt8) : Option Int := some (Lib.indexByte s_ c)
/-! ### internal/stringslite.IndexByte -/
noncomputable def stringslite_IndexByte (s_ : (List UInt8)) (c : UInt8) : Option Int :=
  (bytealg_IndexByteString s_ c).bind fun t7 =>
  some t7
/-! ### strings.IndexByte -/
noncomputable def strings_IndexByte (s_ : (List UInt8)) (c : UInt8) : Option Int :=
  (stringslite_IndexByte s_ c).bind fun t7 =>
  some t7
/-! ### onceweb/lex.escaped -/
noncomputable def lex_escaped (s_ : (List UInt8)) (at_ : Int) : Option (UInt8 × Int) :=
  G (0 ≤ (w64 (at_ + (1 : Int))) ∧ (w64 (at_ + (1 : Int))) ≤ (s_.length : Int)) <|
  if (decide ((s_.drop (w64 (at_ + (1 : Int))).toNat) = ([] : List UInt8))) = true then
  some ((0 : UInt8), (0 : Int))
  else
  G (0 ≤ (0 : Int) ∧ (0 : Int) < ((s_.drop (w64 (at_ + (1 : Int))).toNat).length : Int)) <|
  if (decide ((((s_.drop (w64 (at_ + (1 : Int))).toNat).getD (0 : Int).toNat 0).toNat : Int) = 34)) = true then
  (if (decide ((((s_.drop (w64 (at_ + (1 : Int))).toNat).getD (0 : Int).toNat 0).toNat : Int) = 34)) = true then
  (G (0 ≤ (0 : Int) ∧ (0 : Int) < ((s_.drop (w64 (at_ + (1 : Int))).toNat).length : Int)) <|
  some (((s_.drop (w64 (at_ + (1 : Int))).toNat).getD (0 : Int).toNat 0), (2 : Int)))
  else
  if (decide ((((s_.drop (w64 (at_ + (1 : Int))).toNat).getD (0 : Int).toNat 0).toNat : Int) = 110)) = true then
  some ((10 : UInt8), (2 : Int))
  else
  if (decide ((((s_.drop (w64 (at_ + (1 : Int))).toNat).getD (0 : Int).toNat 0).toNat : Int) = 120)) = true then
  (if (decide (((s_.drop (w64 (at_ + (1 : Int))).toNat).length : Int) < (3 : Int))) = true then
  some ((0 : UInt8), (0 : Int))
  else
  G (0 ≤ (1 : Int) ∧ (1 : Int) < ((s_.drop (w64 (at_ + (1 : Int))).toNat).length : Int)) <|
  (strings_IndexByte ([48, 49, 50, 51, 52, 53, 54, 55, 56, 57, 97, 98, 99, 100, 101, 102] : List UInt8) ((s_.drop (w64 (at_ + (1 : Int))).toNat).getD (1 : Int).toNat 0)).bind fun t32 =>
  G (0 ≤ (2 : Int) ∧ (2 : Int) < ((s_.drop (w64 (at_ + (1 : Int))).toNat).length : Int)) <|
  (strings_IndexByte ([48, 49, 50, 51, 52, 53, 54, 55, 56, 57, 97, 98, 99, 100, 101, 102] : List UInt8) ((s_.drop (w64 (at_ + (1 : Int))).toNat).getD (2 : Int).toNat 0)).bind fun t35 =>
  if ((((decide (t32 < (0 : Int))) || (decide (t35 < (0 : Int)))) || (decide (((((IntKind.wrap .u8 ((w64 ((BitVec.ofInt IntKind.i64.bits (w64 (t32 * 2 ^ (min ((4 : Int)).toNat IntKind.i64.bits))) ||| BitVec.ofInt IntKind.i64.bits t35).toNat))))).toNat.toUInt8).toNat : Int) = 10))) || ((decide (32 ≤ ((((IntKind.wrap .u8 ((w64 ((BitVec.ofInt IntKind.i64.bits (w64 (t32 * 2 ^ (min ((4 : Int)).toNat IntKind.i64.bits))) ||| BitVec.ofInt IntKind.i64.bits t35).toNat))))).toNat.toUInt8).toNat : Int))) && (decide (((((IntKind.wrap .u8 ((w64 ((BitVec.ofInt IntKind.i64.bits (w64 (t32 * 2 ^ (min ((4 : Int)).toNat IntKind.i64.bits))) ||| BitVec.ofInt IntKind.i64.bits t35).toNat))))).toNat.toUInt8).toNat : Int) ≤ 126)))) = true then
  some ((0 : UInt8), (0 : Int))
  else
  some (((IntKind.wrap .u8 ((w64 ((BitVec.ofInt IntKind.i64.bits (w64 (t32 * 2 ^ (min ((4 : Int)).toNat IntKind.i64.bits))) ||| BitVec.ofInt IntKind.i64.bits t35).toNat))))).toNat.toUInt8, (4 : Int)))
  else
  some ((0 : UInt8), (0 : Int)))
  else
  if (decide ((((s_.drop (w64 (at_ + (1 : Int))).toNat).getD (0 : Int).toNat 0).toNat : Int) = 92)) = true then
  (G (0 ≤ (0 : Int) ∧ (0 : Int) < ((s_.drop (w64 (at_ + (1 : Int))).toNat).length : Int)) <|
  some (((s_.drop (w64 (at_ + (1 : Int))).toNat).getD (0 : Int).toNat 0), (2 : Int)))
  else
  if (decide ((((s_.drop (w64 (at_ + (1 : Int))).toNat).getD (0 : Int).toNat 0).toNat : Int) = 110)) = true then
  some ((10 : UInt8), (2 : Int))
  else
  if (decide ((((s_.drop (w64 (at_ + (1 : Int))).toNat).getD (0 : Int).toNat 0).toNat : Int) = 120)) = true then
  (if (decide (((s_.drop (w64 (at_ + (1 : Int))).toNat).length : Int) < (3 : Int))) = true then
  some ((0 : UInt8), (0 : Int))
  else
  G (0 ≤ (1 : Int) ∧ (1 : Int) < ((s_.drop (w64 (at_ + (1 : Int))).toNat).length : Int)) <|
  (strings_IndexByte ([48, 49, 50, 51, 52, 53, 54, 55, 56, 57, 97, 98, 99, 100, 101, 102] : List UInt8) ((s_.drop (w64 (at_ + (1 : Int))).toNat).getD (1 : Int).toNat 0)).bind fun t32 =>
  G (0 ≤ (2 : Int) ∧ (2 : Int) < ((s_.drop (w64 (at_ + (1 : Int))).toNat).length : Int)) <|
  (strings_IndexByte ([48, 49, 50, 51, 52, 53, 54, 55, 56, 57, 97, 98, 99, 100, 101, 102] : List UInt8) ((s_.drop (w64 (at_ + (1 : Int))).toNat).getD (2 : Int).toNat 0)).bind fun t35 =>
  if ((((decide (t32 < (0 : Int))) || (decide (t35 < (0 : Int)))) || (decide (((((IntKind.wrap .u8 ((w64 ((BitVec.ofInt IntKind.i64.bits (w64 (t32 * 2 ^ (min ((4 : Int)).toNat IntKind.i64.bits))) ||| BitVec.ofInt IntKind.i64.bits t35).toNat))))).toNat.toUInt8).toNat : Int) = 10))) || ((decide (32 ≤ ((((IntKind.wrap .u8 ((w64 ((BitVec.ofInt IntKind.i64.bits (w64 (t32 * 2 ^ (min ((4 : Int)).toNat IntKind.i64.bits))) ||| BitVec.ofInt IntKind.i64.bits t35).toNat))))).toNat.toUInt8).toNat : Int))) && (decide (((((IntKind.wrap .u8 ((w64 ((BitVec.ofInt IntKind.i64.bits (w64 (t32 * 2 ^ (min ((4 : Int)).toNat IntKind.i64.bits))) ||| BitVec.ofInt IntKind.i64.bits t35).toNat))))).toNat.toUInt8).toNat : Int) ≤ 126)))) = true then
  some ((0 : UInt8), (0 : Int))
  else
  some (((IntKind.wrap .u8 ((w64 ((BitVec.ofInt IntKind.i64.bits (w64 (t32 * 2 ^ (min ((4 : Int)).toNat IntKind.i64.bits))) ||| BitVec.ofInt IntKind.i64.bits t35).toNat))))).toNat.toUInt8, (4 : Int)))
  else
  some ((0 : UInt8), (0 : Int))
/-! ### onceweb/lex.quoted -/
inductive L_lex_quoted where
  | l5 (s_ : (List UInt8)) (at_ : Int) (out : (List UInt8))
noncomputable def sg_lex_quoted_5 (s_ : (List UInt8)) (at_ : Int) (out : (List UInt8)) : Option (L_lex_quoted ⊕ ((List UInt8) × Int × Bool)) :=
  if (decide (at_ < (s_.length : Int))) = true then
  (G (0 ≤ at_ ∧ at_ < (s_.length : Int)) <|
  if (decide (((s_.getD at_.toNat 0).toNat : Int) = 34)) = true then
  some (.inr (out, (w64 (at_ + (1 : Int))), true))
  else
  if (decide (((s_.getD at_.toNat 0).toNat : Int) = 92)) = true then
  ((lex_escaped s_ at_).bind fun t50 =>
  if (decide (t50.2 = (0 : Int))) = true then
  some (.inr (([] : List UInt8), (0 : Int), false))
  else
  G ((out.length + ([t50.1] : List UInt8).length) * 1 ≤ 140737488355328) <|
  some (.inl (.l5 s_ (w64 (at_ + t50.2)) (out ++ ([t50.1] : List UInt8)))))
  else
  if ((decide (((s_.getD at_.toNat 0).toNat : Int) < 32)) || (decide (126 < ((s_.getD at_.toNat 0).toNat : Int)))) = true then
  some (.inr (([] : List UInt8), (0 : Int), false))
  else
  G ((out.length + ([(s_.getD at_.toNat 0)] : List UInt8).length) * 1 ≤ 140737488355328) <|
  some (.inl (.l5 s_ (w64 (at_ + (1 : Int))) (out ++ ([(s_.getD at_.toNat 0)] : List UInt8)))))
  else
  some (.inr (([] : List UInt8), (0 : Int), false))
noncomputable def st_lex_quoted : L_lex_quoted → Option (L_lex_quoted ⊕ ((List UInt8) × Int × Bool))
  | .l5 s_ at_ out => sg_lex_quoted_5 s_ at_ out
noncomputable def en_lex_quoted (s_ : (List UInt8)) (at_ : Int) : Option (L_lex_quoted ⊕ ((List UInt8) × Int × Bool)) :=
  G ((!(decide ((s_.length : Int) ≤ at_))) = true → (0 ≤ at_ ∧ at_ < (s_.length : Int))) <|
  if ((decide ((s_.length : Int) ≤ at_)) || (!decide (((s_.getD at_.toNat 0).toNat : Int) = 34))) = true then
  some (.inr (([] : List UInt8), (0 : Int), false))
  else
  some (.inl (.l5 s_ (w64 (at_ + (1 : Int))) ([] : List UInt8)))
noncomputable def lex_quoted (s_ : (List UInt8)) (at_ : Int) : Option ((List UInt8) × Int × Bool) := runL st_lex_quoted (en_lex_quoted s_ at_)
/-! ### onceweb/lex.Unquote -/
noncomputable def lex_Unquote (s_ : (List UInt8)) : Option ((List UInt8) × Bool) :=
  (lex_quoted s_ (0 : Int)).bind fun t9 =>
  if ((!t9.2.2) || (!decide (t9.2.1 = (s_.length : Int)))) = true then
  some (([] : List UInt8), false)
  else
  some (t9.1, true)
/-! ### (*onceweb/value.reader).text -/
inductive L_value_reader_text where
  | l2 (r_ : (List UInt8)) (r_' : Int) (r_'' : (List tAtom)) (end_ : Int)
noncomputable def sg_value_reader_text_2 (r_ : (List UInt8)) (r_' : Int) (r_'' : (List tAtom)) (end_ : Int) : Option (L_value_reader_text ⊕ (Bool × (List UInt8) × Int × (List tAtom))) :=
  G ((decide (end_ < (r_.length : Int))) = true → (0 ≤ end_ ∧ end_ < (r_.length : Int))) <|
  if ((decide (end_ < (r_.length : Int))) && (!decide (((r_.getD end_.toNat 0).toNat : Int) = 34))) = true then
  (G (0 ≤ end_ ∧ end_ < (r_.length : Int)) <|
  if (decide (((r_.getD end_.toNat 0).toNat : Int) = 92)) = true then
  some (.inl (.l2 r_ r_' r_'' (w64 ((w64 (end_ + (1 : Int))) + (1 : Int)))))
  else
  some (.inl (.l2 r_ r_' r_'' (w64 (end_ + (1 : Int))))))
  else
  if (decide ((r_.length : Int) ≤ end_)) = true then
  some (.inr (false, r_, r_', r_''))
  else
  G (0 ≤ r_' ∧ r_' ≤ (w64 (end_ + (1 : Int))) ∧ (w64 (end_ + (1 : Int))) ≤ (r_.length : Int)) <|
  (lex_Unquote (cut r_ r_'.toNat (w64 (end_ + (1 : Int))).toNat)).bind fun t57 =>
  if (t57.2 && (decide ((t57.1.length : Int) ≤ (4096 : Int)))) = true then
  ((value_reader_put r_ (w64 (end_ + (1 : Int))) r_'' ((2 : Int), (0 : Int), (0 : Int), t57.1, ())).bind fun t75 =>
  some (.inr (((t57.2 && (decide ((t57.1.length : Int) ≤ (4096 : Int)))) && t75.1), t75.2.1, t75.2.2.1, t75.2.2.2)))
  else
  some (.inr (((t57.2 && (decide ((t57.1.length : Int) ≤ (4096 : Int)))) && false), r_, (w64 (end_ + (1 : Int))), r_''))
noncomputable def st_value_reader_text : L_value_reader_text → Option (L_value_reader_text ⊕ (Bool × (List UInt8) × Int × (List tAtom)))
  | .l2 r_ r_' r_'' end_ => sg_value_reader_text_2 r_ r_' r_'' end_
noncomputable def en_value_reader_text (r_ : (List UInt8)) (r_' : Int) (r_'' : (List tAtom)) : Option (L_value_reader_text ⊕ (Bool × (List UInt8) × Int × (List tAtom))) :=
  some (.inl (.l2 r_ r_' r_'' (w64 (r_' + (1 : Int)))))
noncomputable def value_reader_text (r_ : (List UInt8)) (r_' : Int) (r_'' : (List tAtom)) : Option (Bool × (List UInt8) × Int × (List tAtom)) := runL (st_value_reader_text) (en_value_reader_text r_ r_' r_'')
/-! ### internal/stringslite.HasPrefix -/
noncomputable def stringslite_HasPrefix (s_ : (List UInt8)) (prefix_ : (List UInt8)) : Option Bool :=
  G ((decide ((prefix_.length : Int) ≤ (s_.length : Int))) = true → (0 ≤ (prefix_.length : Int) ∧ (prefix_.length : Int) ≤ (s_.length : Int))) <|
  some ((decide ((prefix_.length : Int) ≤ (s_.length : Int))) && (decide ((s_.take (prefix_.length : Int).toNat) = prefix_)))
/-! ### strings.HasPrefix -/
noncomputable def strings_HasPrefix (s_ : (List UInt8)) (prefix_ : (List UInt8)) : Option Bool :=
  (stringslite_HasPrefix s_ prefix_).bind fun t7 =>
  some t7
/-! ### (*onceweb/value.reader).has -/
noncomputable def en_value_reader_has (r_ : (List UInt8)) (r_' : Int) (r_'' : (List tAtom)) (t_ : (List UInt8)) : Option (Bool × (List UInt8) × Int × (List tAtom)) :=
  G (0 ≤ r_' ∧ r_' ≤ (r_.length : Int)) <|
  (strings_HasPrefix (r_.drop r_'.toNat) t_).bind fun t16 =>
  if t16 = true then
  some (t16, r_, (w64 (r_' + (t_.length : Int))), r_'')
  else
  some (t16, r_, r_', r_'')
noncomputable def value_reader_has (r_ : (List UInt8)) (r_' : Int) (r_'' : (List tAtom)) (t_ : (List UInt8)) : Option (Bool × (List UInt8) × Int × (List tAtom)) := en_value_reader_has r_ r_' r_'' t_
/-! ### onceweb/lex.digit -/
noncomputable def lex_digit (c : UInt8) : Option Bool :=
  some ((decide (48 ≤ (c.toNat : Int))) && (decide ((c.toNat : Int) ≤ 57)))
/-! ### onceweb/lex.Number -/
inductive L_lex_Number where
  | l5 (s_ : (List UInt8)) (n : Int) (x19 : Int) (x20 : Int)
noncomputable def sg_lex_Number_5 (s_ : (List UInt8)) (n : Int) (x19 : Int) (x20 : Int) : Option (L_lex_Number ⊕ (Int × Bool)) :=
  if (decide (x20 < x19)) = true then
  (G (0 ≤ x20 ∧ x20 < (s_.length : Int)) <|
  (lex_digit (s_.getD x20.toNat 0)).bind fun t26 =>
  if (!t26) = true then
  some (.inr ((0 : Int), false))
  else
  G (0 ≤ x20 ∧ x20 < (s_.length : Int)) <|
  if (decide ((9007199254740992 : Int) < (w64 ((w64 ((10 : Int) * n)) + (w64 (((((IntKind.wrap .u8 (((s_.getD x20.toNat 0).toNat : Int) - 48))).toNat.toUInt8).toNat : Int))))))) = true then
  some (.inr ((0 : Int), false))
  else
  some (.inl (.l5 s_ (w64 ((w64 ((10 : Int) * n)) + (w64 (((((IntKind.wrap .u8 (((s_.getD x20.toNat 0).toNat : Int) - 48))).toNat.toUInt8).toNat : Int))))) x19 (w64 (x20 + (1 : Int))))))
  else
  some (.inr (n, true))
noncomputable def st_lex_Number : L_lex_Number → Option (L_lex_Number ⊕ (Int × Bool))
  | .l5 s_ n x19 x20 => sg_lex_Number_5 s_ n x19 x20
noncomputable def en_lex_Number (s_ : (List UInt8)) : Option (L_lex_Number ⊕ (Int × Bool)) :=
  G (((!(decide (s_ = ([] : List UInt8)))) && (decide ((1 : Int) < (s_.length : Int)))) = true → (0 ≤ (0 : Int) ∧ (0 : Int) < (s_.length : Int))) <|
  if ((decide (s_ = ([] : List UInt8))) || ((decide ((1 : Int) < (s_.length : Int))) && (decide (((s_.getD (0 : Int).toNat 0).toNat : Int) = 48)))) = true then
  some (.inr ((0 : Int), false))
  else
  some (.inl (.l5 s_ (0 : Int) (s_.length : Int) (0 : Int)))
noncomputable def lex_Number (s_ : (List UInt8)) : Option (Int × Bool) := runL st_lex_Number (en_lex_Number s_)
/-! ### (*onceweb/value.reader).number -/
inductive L_value_reader_number where
  | l3 (r_ : (List UInt8)) (r_' : Int) (r_'' : (List tAtom)) (neg : Bool) (from_ : Int)
noncomputable def sg_value_reader_number_3 (r_ : (List UInt8)) (r_' : Int) (r_'' : (List tAtom)) (neg : Bool) (from_ : Int) : Option (L_value_reader_number ⊕ (Bool × (List UInt8) × Int × (List tAtom))) :=
  G ((decide (r_' < (r_.length : Int))) = true → (0 ≤ r_' ∧ r_' < (r_.length : Int))) <|
  G (((decide (r_' < (r_.length : Int))) && (decide (48 ≤ ((r_.getD r_'.toNat 0).toNat : Int)))) = true → (0 ≤ r_' ∧ r_' < (r_.length : Int))) <|
  if (((decide (r_' < (r_.length : Int))) && (decide (48 ≤ ((r_.getD r_'.toNat 0).toNat : Int)))) && (decide (((r_.getD r_'.toNat 0).toNat : Int) ≤ 57))) = true then
  some (.inl (.l3 r_ (w64 (r_' + (1 : Int))) r_'' neg from_))
  else
  G (0 ≤ from_ ∧ from_ ≤ r_' ∧ r_' ≤ (r_.length : Int)) <|
  (lex_Number (cut r_ from_.toNat r_'.toNat)).bind fun t65 =>
  if neg = true then
  (if (t65.2 && (decide ((0 : Int) < t65.1))) = true then
  ((value_reader_put r_ r_' r_'' ((1 : Int), (0 : Int), (w64 (0 - t65.1)), ([] : List UInt8), ())).bind fun t81 =>
  some (.inr (((t65.2 && (decide ((0 : Int) < t65.1))) && t81.1), t81.2.1, t81.2.2.1, t81.2.2.2)))
  else
  some (.inr (((t65.2 && (decide ((0 : Int) < t65.1))) && false), r_, r_', r_'')))
  else
  if t65.2 = true then
  ((value_reader_put r_ r_' r_'' ((1 : Int), (0 : Int), t65.1, ([] : List UInt8), ())).bind fun t81 =>
  some (.inr ((t65.2 && t81.1), t81.2.1, t81.2.2.1, t81.2.2.2)))
  else
  some (.inr ((t65.2 && false), r_, r_', r_''))
noncomputable def st_value_reader_number : L_value_reader_number → Option (L_value_reader_number ⊕ (Bool × (List UInt8) × Int × (List tAtom)))
  | .l3 r_ r_' r_'' neg from_ => sg_value_reader_number_3 r_ r_' r_'' neg from_
noncomputable def en_value_reader_number (r_ : (List UInt8)) (r_' : Int) (r_'' : (List tAtom)) : Option (L_value_reader_number ⊕ (Bool × (List UInt8) × Int × (List tAtom))) :=
  (value_reader_has r_ r_' r_'' ([45] : List UInt8)).bind fun t8 =>
  some (.inl (.l3 t8.2.1 t8.2.2.1 t8.2.2.2 t8.1 t8.2.2.1))
noncomputable def value_reader_number (r_ : (List UInt8)) (r_' : Int) (r_'' : (List tAtom)) : Option (Bool × (List UInt8) × Int × (List tAtom)) := runL (st_value_reader_number) (en_value_reader_number r_ r_' r_'')
/-! ### (*onceweb/value.reader).value -/
inductive L_value_reader_value where
  | l9 (r_ : (List UInt8)) (r_' : Int) (r_'' : (List tAtom)) (deep : Int) (n : Int)
noncomputable def sg_value_reader_value_9 (rc : (List UInt8) → Int → (List tAtom) → Int → Option (Bool × (List UInt8) × Int × (List tAtom))) (r_ : (List UInt8)) (r_' : Int) (r_'' : (List tAtom)) (deep : Int) (n : Int) : Option (L_value_reader_value ⊕ (Bool × (List UInt8) × Int × (List tAtom))) :=
  (value_reader_has r_ r_' r_'' ([93] : List UInt8)).bind fun t43 =>
  if (!t43.1) = true then
  (if (decide ((0 : Int) < n)) = true then
  ((value_reader_has t43.2.1 t43.2.2.1 t43.2.2.2 ([44, 32] : List UInt8)).bind fun t49 =>
  if (!((decide ((0 : Int) < n)) && (!t49.1))) = true then
  ((rc t49.2.1 t49.2.2.1 t49.2.2.2 (w64 (deep - (1 : Int)))).bind fun t56 =>
  if (((decide ((0 : Int) < n)) && (!t49.1)) || (!t56.1)) = true then
  some (.inr (false, t56.2.1, t56.2.2.1, t56.2.2.2))
  else
  some (.inl (.l9 t56.2.1 t56.2.2.1 t56.2.2.2 deep (w64 (n + (1 : Int))))))
  else
  if (((decide ((0 : Int) < n)) && (!t49.1)) || (!false)) = true then
  some (.inr (false, t49.2.1, t49.2.2.1, t49.2.2.2))
  else
  some (.inl (.l9 t49.2.1 t49.2.2.1 t49.2.2.2 deep (w64 (n + (1 : Int))))))
  else
  if (!((decide ((0 : Int) < n)) && (!false))) = true then
  ((rc t43.2.1 t43.2.2.1 t43.2.2.2 (w64 (deep - (1 : Int)))).bind fun t56 =>
  if (((decide ((0 : Int) < n)) && (!false)) || (!t56.1)) = true then
  some (.inr (false, t56.2.1, t56.2.2.1, t56.2.2.2))
  else
  some (.inl (.l9 t56.2.1 t56.2.2.1 t56.2.2.2 deep (w64 (n + (1 : Int))))))
  else
  if (((decide ((0 : Int) < n)) && (!false)) || (!false)) = true then
  some (.inr (false, t43.2.1, t43.2.2.1, t43.2.2.2))
  else
  some (.inl (.l9 t43.2.1 t43.2.2.1 t43.2.2.2 deep (w64 (n + (1 : Int))))))
  else
  (value_reader_put t43.2.1 t43.2.2.1 t43.2.2.2 ((3 : Int), n, (0 : Int), ([] : List UInt8), ())).bind fun t64 =>
  some (.inr (t64.1, t64.2.1, t64.2.2.1, t64.2.2.2))
noncomputable def st_value_reader_value (rc : (List UInt8) → Int → (List tAtom) → Int → Option (Bool × (List UInt8) × Int × (List tAtom))) : L_value_reader_value → Option (L_value_reader_value ⊕ (Bool × (List UInt8) × Int × (List tAtom)))
  | .l9 r_ r_' r_'' deep n => sg_value_reader_value_9 rc r_ r_' r_'' deep n
noncomputable def en_value_reader_value (rc : (List UInt8) → Int → (List tAtom) → Int → Option (Bool × (List UInt8) × Int × (List tAtom))) (r_ : (List UInt8)) (r_' : Int) (r_'' : (List tAtom)) (deep : Int) : Option (L_value_reader_value ⊕ (Bool × (List UInt8) × Int × (List tAtom))) :=
  if ((decide (deep = (0 : Int))) || (decide ((r_.length : Int) ≤ r_'))) = true then
  some (.inr (false, r_, r_', r_''))
  else
  G (0 ≤ r_' ∧ r_' < (r_.length : Int)) <|
  if (decide (((r_.getD r_'.toNat 0).toNat : Int) = 34)) = true then
  ((value_reader_text r_ r_' r_'').bind fun t32 =>
  some (.inr (t32.1, t32.2.1, t32.2.2.1, t32.2.2.2)))
  else
  if (decide (((r_.getD r_'.toNat 0).toNat : Int) = 91)) = true then
  some (.inl (.l9 r_ (w64 (r_' + (1 : Int))) r_'' deep (0 : Int)))
  else
  (value_reader_number r_ r_' r_'').bind fun t66 =>
  some (.inr (t66.1, t66.2.1, t66.2.2.1, t66.2.2.2))
noncomputable def value_reader_value_n : Nat → (List UInt8) → Int → (List tAtom) → Int → Option (Bool × (List UInt8) × Int × (List tAtom))
  | 0, _, _, _, _ => none
  | fu_ + 1, r_, r_', r_'', deep => runL (st_value_reader_value (value_reader_value_n fu_)) (en_value_reader_value (value_reader_value_n fu_) r_ r_' r_'' deep)
noncomputable def value_reader_value (r_ : (List UInt8)) (r_' : Int) (r_'' : (List tAtom)) (deep : Int) : Option (Bool × (List UInt8) × Int × (List tAtom)) := value_reader_value_n 40 r_ r_' r_'' deep
/-! ### onceweb/value.Parse -/
noncomputable def value_Parse (s_ : (List UInt8)) : Option ((List tAtom) × Int) :=
  if (decide ((65536 : Int) < (s_.length : Int))) = true then
  some (([] : List tAtom), (3 : Int))
  else
  (value_reader_value ((s_, (0 : Int), (Value.slice none 0 0), ()).1) ((s_, (0 : Int), (Value.slice none 0 0), ()).2.1) ([] : List tAtom) (32 : Int)).bind fun t12 =>
  if ((!t12.1) || (!decide (t12.2.2.1 = (s_.length : Int)))) = true then
  some (([] : List tAtom), (2 : Int))
  else
  some (t12.2.2.2, (0 : Int))
/-! ### onceweb/oncewebref01.hex -/
noncomputable def ref01_hex (c : UInt8) : Option Int :=
  if ((decide (48 ≤ (c.toNat : Int))) && (decide ((c.toNat : Int) ≤ 57))) = true then
  some (w64 (((((IntKind.wrap .u8 ((c.toNat : Int) - 48))).toNat.toUInt8).toNat : Int)))
  else
  if ((decide (97 ≤ (c.toNat : Int))) && (decide ((c.toNat : Int) ≤ 102))) = true then
  some (w64 ((w64 (((((IntKind.wrap .u8 ((c.toNat : Int) - 97))).toNat.toUInt8).toNat : Int))) + (10 : Int)))
  else
  some (-1 : Int)
/-! ### onceweb/oncewebref01.quoted -/
inductive L_ref01_quoted where
  | l5 (s_ : (List UInt8)) (out : (List UInt8)) (i : Int)
noncomputable def sg_ref01_quoted_5 (s_ : (List UInt8)) (out : (List UInt8)) (i : Int) : Option (L_ref01_quoted ⊕ (Int × (List UInt8) × Bool)) :=
  if (decide (i < (s_.length : Int))) = true then
  (G (0 ≤ i ∧ i < (s_.length : Int)) <|
  if (decide (((s_.getD i.toNat 0).toNat : Int) = 34)) = true then
  some (.inr ((w64 (i + (1 : Int))), out, true))
  else
  if (!decide (((s_.getD i.toNat 0).toNat : Int) = 92)) = true then
  (if ((decide (((s_.getD i.toNat 0).toNat : Int) < 32)) || (decide (126 < ((s_.getD i.toNat 0).toNat : Int)))) = true then
  some (.inr ((0 : Int), ([] : List UInt8), false))
  else
  G ((out.length + ([(s_.getD i.toNat 0)] : List UInt8).length) * 1 ≤ 140737488355328) <|
  some (.inl (.l5 s_ (out ++ ([(s_.getD i.toNat 0)] : List UInt8)) (w64 (i + (1 : Int))))))
  else
  G ((decide ((w64 (i + (1 : Int))) < (s_.length : Int))) = true → (0 ≤ (w64 (i + (1 : Int))) ∧ (w64 (i + (1 : Int))) < (s_.length : Int))) <|
  G (((decide ((w64 (i + (1 : Int))) < (s_.length : Int))) && !(decide (((s_.getD (w64 (i + (1 : Int))).toNat 0).toNat : Int) = 34))) = true → (0 ≤ (w64 (i + (1 : Int))) ∧ (w64 (i + (1 : Int))) < (s_.length : Int))) <|
  if ((decide ((w64 (i + (1 : Int))) < (s_.length : Int))) && ((decide (((s_.getD (w64 (i + (1 : Int))).toNat 0).toNat : Int) = 34)) || (decide (((s_.getD (w64 (i + (1 : Int))).toNat 0).toNat : Int) = 92)))) = true then
  (G (0 ≤ (w64 (i + (1 : Int))) ∧ (w64 (i + (1 : Int))) < (s_.length : Int)) <|
  G ((out.length + ([(s_.getD (w64 (i + (1 : Int))).toNat 0)] : List UInt8).length) * 1 ≤ 140737488355328) <|
  some (.inl (.l5 s_ (out ++ ([(s_.getD (w64 (i + (1 : Int))).toNat 0)] : List UInt8)) (w64 (i + (2 : Int))))))
  else
  G ((decide ((w64 (i + (1 : Int))) < (s_.length : Int))) = true → (0 ≤ (w64 (i + (1 : Int))) ∧ (w64 (i + (1 : Int))) < (s_.length : Int))) <|
  if ((decide ((w64 (i + (1 : Int))) < (s_.length : Int))) && (decide (((s_.getD (w64 (i + (1 : Int))).toNat 0).toNat : Int) = 110))) = true then
  (G ((out.length + ([(10 : UInt8)] : List UInt8).length) * 1 ≤ 140737488355328) <|
  some (.inl (.l5 s_ (out ++ ([(10 : UInt8)] : List UInt8)) (w64 (i + (2 : Int))))))
  else
  G ((decide ((w64 (i + (3 : Int))) < (s_.length : Int))) = true → (0 ≤ (w64 (i + (1 : Int))) ∧ (w64 (i + (1 : Int))) < (s_.length : Int))) <|
  G (((decide ((w64 (i + (3 : Int))) < (s_.length : Int))) && (decide (((s_.getD (w64 (i + (1 : Int))).toNat 0).toNat : Int) = 120))) = true → (0 ≤ (w64 (i + (2 : Int))) ∧ (w64 (i + (2 : Int))) < (s_.length : Int))) <|
  (if ((decide ((w64 (i + (3 : Int))) < (s_.length : Int))) && (decide (((s_.getD (w64 (i + (1 : Int))).toNat 0).toNat : Int) = 120))) = true then ref01_hex (s_.getD (w64 (i + (2 : Int))).toNat 0) else some (0 : Int)).bind fun t118 =>
  G ((((decide ((w64 (i + (3 : Int))) < (s_.length : Int))) && (decide (((s_.getD (w64 (i + (1 : Int))).toNat 0).toNat : Int) = 120))) && (decide ((0 : Int) ≤ t118))) = true → (0 ≤ (w64 (i + (3 : Int))) ∧ (w64 (i + (3 : Int))) < (s_.length : Int))) <|
  (if (((decide ((w64 (i + (3 : Int))) < (s_.length : Int))) && (decide (((s_.getD (w64 (i + (1 : Int))).toNat 0).toNat : Int) = 120))) && (decide ((0 : Int) ≤ t118))) = true then ref01_hex (s_.getD (w64 (i + (3 : Int))).toNat 0) else some (0 : Int)).bind fun t126 =>
  if ((((decide ((w64 (i + (3 : Int))) < (s_.length : Int))) && (decide (((s_.getD (w64 (i + (1 : Int))).toNat 0).toNat : Int) = 120))) && (decide ((0 : Int) ≤ t118))) && (decide ((0 : Int) ≤ t126))) = true then
  (G (0 ≤ (w64 (i + (2 : Int))) ∧ (w64 (i + (2 : Int))) < (s_.length : Int)) <|
  (ref01_hex (s_.getD (w64 (i + (2 : Int))).toNat 0)).bind fun t133 =>
  G (0 ≤ (w64 (i + (3 : Int))) ∧ (w64 (i + (3 : Int))) < (s_.length : Int)) <|
  (ref01_hex (s_.getD (w64 (i + (3 : Int))).toNat 0)).bind fun t139 =>
  if (((decide (32 ≤ ((((IntKind.wrap .u8 ((w64 ((w64 ((16 : Int) * t133)) + t139))))).toNat.toUInt8).toNat : Int))) && (decide (((((IntKind.wrap .u8 ((w64 ((w64 ((16 : Int) * t133)) + t139))))).toNat.toUInt8).toNat : Int) ≤ 126))) || (decide (((((IntKind.wrap .u8 ((w64 ((w64 ((16 : Int) * t133)) + t139))))).toNat.toUInt8).toNat : Int) = 10))) = true then
  some (.inr ((0 : Int), ([] : List UInt8), false))
  else
  G ((out.length + ([((IntKind.wrap .u8 ((w64 ((w64 ((16 : Int) * t133)) + t139))))).toNat.toUInt8] : List UInt8).length) * 1 ≤ 140737488355328) <|
  some (.inl (.l5 s_ (out ++ ([((IntKind.wrap .u8 ((w64 ((w64 ((16 : Int) * t133)) + t139))))).toNat.toUInt8] : List UInt8)) (w64 (i + (4 : Int))))))
  else
  some (.inr ((0 : Int), ([] : List UInt8), false)))
  else
  some (.inr ((0 : Int), ([] : List UInt8), false))
noncomputable def st_ref01_quoted : L_ref01_quoted → Option (L_ref01_quoted ⊕ (Int × (List UInt8) × Bool))
  | .l5 s_ out i => sg_ref01_quoted_5 s_ out i
noncomputable def en_ref01_quoted (s_ : (List UInt8)) (at_ : Int) : Option (L_ref01_quoted ⊕ (Int × (List UInt8) × Bool)) :=
  G ((!(decide ((s_.length : Int) ≤ at_))) = true → (0 ≤ at_ ∧ at_ < (s_.length : Int))) <|
  if ((decide ((s_.length : Int) ≤ at_)) || (!decide (((s_.getD at_.toNat 0).toNat : Int) = 34))) = true then
  some (.inr ((0 : Int), ([] : List UInt8), false))
  else
  some (.inl (.l5 s_ ([] : List UInt8) (w64 (at_ + (1 : Int)))))
noncomputable def ref01_quoted (s_ : (List UInt8)) (at_ : Int) : Option (Int × (List UInt8) × Bool) := runL st_ref01_quoted (en_ref01_quoted s_ at_)
/-! ### onceweb/oncewebref01.Unquote -/
noncomputable def ref01_Unquote (s_ : (List UInt8)) : Option ((List UInt8) × Bool) :=
  (ref01_quoted s_ (0 : Int)).bind fun t9 =>
  if ((!t9.2.2) || (!decide (t9.1 = (s_.length : Int)))) = true then
  some (([] : List UInt8), false)
  else
  some (t9.2.1, true)
/-! ### onceweb/oncewebbase.Whole -/
inductive L_base_Whole where
  | l5 (s_ : (List UInt8)) (most : Int) (n : Int) (i : Int)
noncomputable def sg_base_Whole_5 (s_ : (List UInt8)) (most : Int) (n : Int) (i : Int) : Option (L_base_Whole ⊕ (Int × Bool)) :=
  if (decide (i < (s_.length : Int))) = true then
  (G (0 ≤ i ∧ i < (s_.length : Int)) <|
  G ((!(decide (((s_.getD i.toNat 0).toNat : Int) < 48))) = true → (0 ≤ i ∧ i < (s_.length : Int))) <|
  if ((decide (((s_.getD i.toNat 0).toNat : Int) < 48)) || (decide (57 < ((s_.getD i.toNat 0).toNat : Int)))) = true then
  some (.inr ((0 : Int), false))
  else
  G (0 ≤ i ∧ i < (s_.length : Int)) <|
  if (decide ((w64 (Int.tdiv (w64 (most - (w64 (((((IntKind.wrap .u8 (((s_.getD i.toNat 0).toNat : Int) - 48))).toNat.toUInt8).toNat : Int))))) (10 : Int))) < n)) = true then
  some (.inr ((0 : Int), false))
  else
  some (.inl (.l5 s_ most (w64 ((w64 (n * (10 : Int))) + (w64 (((((IntKind.wrap .u8 (((s_.getD i.toNat 0).toNat : Int) - 48))).toNat.toUInt8).toNat : Int))))) (w64 (i + (1 : Int))))))
  else
  some (.inr (n, (decide (n ≤ most))))
noncomputable def st_base_Whole : L_base_Whole → Option (L_base_Whole ⊕ (Int × Bool))
  | .l5 s_ most n i => sg_base_Whole_5 s_ most n i
noncomputable def en_base_Whole (s_ : (List UInt8)) (most : Int) : Option (L_base_Whole ⊕ (Int × Bool)) :=
  G ((!((decide (s_ = ([] : List UInt8))) || (decide ((19 : Int) < (s_.length : Int))))) = true → (0 ≤ (0 : Int) ∧ (0 : Int) < (s_.length : Int))) <|
  if (((decide (s_ = ([] : List UInt8))) || (decide ((19 : Int) < (s_.length : Int)))) || ((decide (((s_.getD (0 : Int).toNat 0).toNat : Int) = 48)) && (decide ((1 : Int) < (s_.length : Int))))) = true then
  some (.inr ((0 : Int), false))
  else
  some (.inl (.l5 s_ most (0 : Int) (0 : Int)))
noncomputable def base_Whole (s_ : (List UInt8)) (most : Int) : Option (Int × Bool) := runL st_base_Whole (en_base_Whole s_ most)
/-! ### onceweb/oncewebref07.parse -/
inductive L_ref07_parse where
  | l6 (s_ : (List UInt8)) (at_ : Int) (end_ : Int)
  | l19 (s_ : (List UInt8)) (deep : Int) (end_ : Int) (out : (List tAtom)) (n : Int)
  | l34 (s_ : (List UInt8)) (end_ : Int) (neg : Bool)
  | l35 (s_ : (List UInt8)) (end_ : Int) (neg : Bool) (from_ : Int)
noncomputable def sg_ref07_parse_6 (rc : (List UInt8) → Int → Int → Option ((List tAtom) × Int × Bool)) (s_ : (List UInt8)) (at_ : Int) (end_ : Int) : Option (L_ref07_parse ⊕ ((List tAtom) × Int × Bool)) :=
  G ((decide (end_ < (s_.length : Int))) = true → (0 ≤ end_ ∧ end_ < (s_.length : Int))) <|
  if ((decide (end_ < (s_.length : Int))) && (!decide (((s_.getD end_.toNat 0).toNat : Int) = 34))) = true then
  (G (0 ≤ end_ ∧ end_ < (s_.length : Int)) <|
  if (decide (((s_.getD end_.toNat 0).toNat : Int) = 92)) = true then
  some (.inl (.l6 s_ at_ (w64 ((w64 (end_ + (1 : Int))) + (1 : Int)))))
  else
  some (.inl (.l6 s_ at_ (w64 (end_ + (1 : Int))))))
  else
  if (decide ((s_.length : Int) ≤ end_)) = true then
  some (.inr (([] : List tAtom), (0 : Int), false))
  else
  G (0 ≤ at_ ∧ at_ ≤ (w64 (end_ + (1 : Int))) ∧ (w64 (end_ + (1 : Int))) ≤ (s_.length : Int)) <|
  (ref01_Unquote (cut s_ at_.toNat (w64 (end_ + (1 : Int))).toNat)).bind fun t66 =>
  some (.inr (([((2 : Int), (0 : Int), (0 : Int), t66.1, ())] : List tAtom), (w64 (end_ + (1 : Int))), t66.2))
noncomputable def sg_ref07_parse_19 (rc : (List UInt8) → Int → Int → Option ((List tAtom) × Int × Bool)) (s_ : (List UInt8)) (deep : Int) (end_ : Int) (out : (List tAtom)) (n : Int) : Option (L_ref07_parse ⊕ ((List tAtom) × Int × Bool)) :=
  if (decide ((out.length : Int) < (1024 : Int))) = true then
  ((rc s_ end_ (w64 (deep + (1 : Int)))).bind fun t101 =>
  if (!t101.2.2) = true then
  some (.inr (([] : List tAtom), (0 : Int), false))
  else
  G ((out.length + t101.1.length) * 40 ≤ 140737488355328) <|
  G ((decide (t101.2.1 < (s_.length : Int))) = true → (0 ≤ t101.2.1 ∧ t101.2.1 < (s_.length : Int))) <|
  if ((decide (t101.2.1 < (s_.length : Int))) && (decide (((s_.getD t101.2.1.toNat 0).toNat : Int) = 93))) = true then
  (G (((out ++ t101.1).length + ([((3 : Int), (w64 (n + (1 : Int))), (0 : Int), ([] : List UInt8), ())] : List tAtom).length) * 40 ≤ 140737488355328) <|
  some (.inr (((out ++ t101.1) ++ ([((3 : Int), (w64 (n + (1 : Int))), (0 : Int), ([] : List UInt8), ())] : List tAtom)), (w64 (t101.2.1 + (1 : Int))), true)))
  else
  G ((!(decide ((s_.length : Int) ≤ (w64 (t101.2.1 + (1 : Int)))))) = true → (0 ≤ t101.2.1 ∧ t101.2.1 < (s_.length : Int))) <|
  G ((!((decide ((s_.length : Int) ≤ (w64 (t101.2.1 + (1 : Int))))) || (!decide (((s_.getD t101.2.1.toNat 0).toNat : Int) = 44)))) = true → (0 ≤ (w64 (t101.2.1 + (1 : Int))) ∧ (w64 (t101.2.1 + (1 : Int))) < (s_.length : Int))) <|
  if (((decide ((s_.length : Int) ≤ (w64 (t101.2.1 + (1 : Int))))) || (!decide (((s_.getD t101.2.1.toNat 0).toNat : Int) = 44))) || (!decide (((s_.getD (w64 (t101.2.1 + (1 : Int))).toNat 0).toNat : Int) = 32))) = true then
  some (.inr (([] : List tAtom), (0 : Int), false))
  else
  some (.inl (.l19 s_ deep (w64 (t101.2.1 + (2 : Int))) (out ++ t101.1) (w64 (n + (1 : Int))))))
  else
  some (.inr (([] : List tAtom), (0 : Int), false))
noncomputable def sg_ref07_parse_34 (rc : (List UInt8) → Int → Int → Option ((List tAtom) × Int × Bool)) (s_ : (List UInt8)) (end_ : Int) (neg : Bool) : Option (L_ref07_parse ⊕ ((List tAtom) × Int × Bool)) :=
  some (.inl (.l35 s_ end_ neg end_))
noncomputable def sg_ref07_parse_35 (rc : (List UInt8) → Int → Int → Option ((List tAtom) × Int × Bool)) (s_ : (List UInt8)) (end_ : Int) (neg : Bool) (from_ : Int) : Option (L_ref07_parse ⊕ ((List tAtom) × Int × Bool)) :=
  G ((decide (end_ < (s_.length : Int))) = true → (0 ≤ end_ ∧ end_ < (s_.length : Int))) <|
  G (((decide (end_ < (s_.length : Int))) && (decide (48 ≤ ((s_.getD end_.toNat 0).toNat : Int)))) = true → (0 ≤ end_ ∧ end_ < (s_.length : Int))) <|
  if (((decide (end_ < (s_.length : Int))) && (decide (48 ≤ ((s_.getD end_.toNat 0).toNat : Int)))) && (decide (((s_.getD end_.toNat 0).toNat : Int) ≤ 57))) = true then
  some (.inl (.l35 s_ (w64 (end_ + (1 : Int))) neg from_))
  else
  G (0 ≤ from_ ∧ from_ ≤ end_ ∧ end_ ≤ (s_.length : Int)) <|
  (base_Whole (cut s_ from_.toNat end_.toNat) (9007199254740992 : Int)).bind fun t178 =>
  if ((!t178.2) || (neg && (decide (t178.1 = (0 : Int))))) = true then
  some (.inr (([] : List tAtom), (0 : Int), false))
  else
  if neg = true then
  some (.inr (([((1 : Int), (0 : Int), (w64 (0 - t178.1)), ([] : List UInt8), ())] : List tAtom), end_, true))
  else
  some (.inr (([((1 : Int), (0 : Int), t178.1, ([] : List UInt8), ())] : List tAtom), end_, true))
noncomputable def st_ref07_parse (rc : (List UInt8) → Int → Int → Option ((List tAtom) × Int × Bool)) : L_ref07_parse → Option (L_ref07_parse ⊕ ((List tAtom) × Int × Bool))
  | .l6 s_ at_ end_ => sg_ref07_parse_6 rc s_ at_ end_
  | .l19 s_ deep end_ out n => sg_ref07_parse_19 rc s_ deep end_ out n
  | .l34 s_ end_ neg => sg_ref07_parse_34 rc s_ end_ neg
  | .l35 s_ end_ neg from_ => sg_ref07_parse_35 rc s_ end_ neg from_
noncomputable def en_ref07_parse (rc : (List UInt8) → Int → Int → Option ((List tAtom) × Int × Bool)) (s_ : (List UInt8)) (at_ : Int) (deep : Int) : Option (L_ref07_parse ⊕ ((List tAtom) × Int × Bool)) :=
  if ((decide ((s_.length : Int) ≤ at_)) || (decide ((32 : Int) < deep))) = true then
  some (.inr (([] : List tAtom), (0 : Int), false))
  else
  G (0 ≤ at_ ∧ at_ < (s_.length : Int)) <|
  if (decide (((s_.getD at_.toNat 0).toNat : Int) = 34)) = true then
  some (.inl (.l6 s_ at_ (w64 (at_ + (1 : Int)))))
  else
  if (decide (((s_.getD at_.toNat 0).toNat : Int) = 91)) = true then
  (G ((decide ((w64 (at_ + (1 : Int))) < (s_.length : Int))) = true → (0 ≤ (w64 (at_ + (1 : Int))) ∧ (w64 (at_ + (1 : Int))) < (s_.length : Int))) <|
  if ((decide ((w64 (at_ + (1 : Int))) < (s_.length : Int))) && (decide (((s_.getD (w64 (at_ + (1 : Int))).toNat 0).toNat : Int) = 93))) = true then
  some (.inr (([((3 : Int), (0 : Int), (0 : Int), ([] : List UInt8), ())] : List tAtom), (w64 ((w64 (at_ + (1 : Int))) + (1 : Int))), true))
  else
  some (.inl (.l19 s_ deep (w64 (at_ + (1 : Int))) ([] : List tAtom) (0 : Int))))
  else
  if (!(decide (((s_.getD at_.toNat 0).toNat : Int) = 45))) = true then
  some (.inl (.l34 s_ at_ (decide (((s_.getD at_.toNat 0).toNat : Int) = 45))))
  else
  some (.inl (.l34 s_ (w64 (at_ + (1 : Int))) (decide (((s_.getD at_.toNat 0).toNat : Int) = 45))))
noncomputable def ref07_parse_n : Nat → (List UInt8) → Int → Int → Option ((List tAtom) × Int × Bool)
  | 0, _, _, _ => none
  | fu_ + 1, s_, at_, deep => runL (st_ref07_parse (ref07_parse_n fu_)) (en_ref07_parse (ref07_parse_n fu_) s_ at_ deep)
noncomputable def ref07_parse (s_ : (List UInt8)) (at_ : Int) (deep : Int) : Option ((List tAtom) × Int × Bool) := ref07_parse_n 64 s_ at_ deep
/-! ### onceweb/oncewebref07.Parse -/
noncomputable def ref07_Parse (s_ : (List UInt8)) : Option ((List tAtom) × Int) :=
  if (decide ((65536 : Int) < (s_.length : Int))) = true then
  some (([] : List tAtom), (3 : Int))
  else
  (ref07_parse s_ (0 : Int) (1 : Int)).bind fun t12 =>
  (if (!((!t12.2.2) || (!decide (t12.2.1 = (s_.length : Int))))) = true then ref07_Check t12.1 else some (0 : Int)).bind fun t26 =>
  if (((!t12.2.2) || (!decide (t12.2.1 = (s_.length : Int)))) || (!decide (t26 = (0 : Int)))) = true then
  some (([] : List tAtom), (2 : Int))
  else
  some (t12.1, (0 : Int))
/-! ### onceweb/onceweblaw07.ValueTexts -/
noncomputable def law07_ValueTexts (v : (List tAtom)) (s_ : (List UInt8)) : Option Bool :=
  (base_CopyValue v).bind fun t13 =>
  (value_Print t13).bind fun t16 =>
  (ref07_Print v).bind fun t21 =>
  (if (!((!decide (t16.1 = t21.1)) || (!decide (t16.2 = t21.2)))) = true then base_SameValue t13 v else some false).bind fun t35 =>
  if (((!decide (t16.1 = t21.1)) || (!decide (t16.2 = t21.2))) || (!t35)) = true then
  some false
  else
  (value_Parse s_).bind fun t40 =>
  (ref07_Parse s_).bind fun t45 =>
  (if (decide (t40.2 = t45.2)) = true then base_SameValue t40.1 t45.1 else some false).bind fun t54 =>
  some ((decide (t40.2 = t45.2)) && t54)
end Go.Eng
