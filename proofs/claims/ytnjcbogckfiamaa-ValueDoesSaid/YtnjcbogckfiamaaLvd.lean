/- A part of the proof: Lvd. -/
import Derived.Test.YtnjcbogckfiamaaD3
namespace Go.Eng
set_option linter.unusedVariables false
set_option linter.unusedSimpArgs false

abbrev tyAtom : Ty := rowOf [(.int .i64), (.int .i64), (.int .i64), .str]
abbrev tAtom := Int × Int × Int × (List UInt8) × Unit
abbrev dAtom : tAtom := ((0 : Int), (0 : Int), (0 : Int), ([] : List UInt8), ())
abbrev tywhole : Ty := rowOf [(.int .i64), (.int .i64)]
abbrev twhole := Int × Int × Unit
abbrev dwhole : twhole := ((0 : Int), (0 : Int), ())
/-! ### onceweb/value.Int -/
noncomputable def value_Int (n : Int) : Option ((List tAtom) × Int) :=
  if ((decide (n < (-9007199254740992 : Int))) || (decide ((9007199254740992 : Int) < n))) = true then
  some (([] : List tAtom), (1 : Int))
  else
  some (([((1 : Int), (0 : Int), n, ([] : List UInt8), ())] : List tAtom), (0 : Int))
/-! ### onceweb/oncewebref07.Int -/
noncomputable def ref07_Int (n : Int) : Option ((List tAtom) × Int) :=
  if ((decide (n < (-9007199254740992 : Int))) || (decide ((9007199254740992 : Int) < n))) = true then
  some (([] : List tAtom), (1 : Int))
  else
  some (([((1 : Int), (0 : Int), n, ([] : List UInt8), ())] : List tAtom), (0 : Int))
/-! ### onceweb/oncewebbase.SameValue -/
inductive L_base_SameValue where
  | l4 (a : (List tAtom)) (b : (List tAtom)) (i : Int)
noncomputable def sg_base_SameValue_4 (a : (List tAtom)) (b : (List tAtom)) (i : Int) : Option (L_base_SameValue ⊕ Bool) :=
  if (decide (i < (a.length : Int))) = true then
  (G (0 ≤ i ∧ i < (a.length : Int)) <|
  G (0 ≤ i ∧ i < (b.length : Int)) <|
  if (!(eqR tyAtom (a.getD i.toNat dAtom) (b.getD i.toNat dAtom))) = true then
  some (.inr false)
  else
  some (.inl (.l4 a b (w64 (i + (1 : Int))))))
  else
  some (.inr true)
noncomputable def st_base_SameValue : L_base_SameValue → Option (L_base_SameValue ⊕ Bool)
  | .l4 a b i => sg_base_SameValue_4 a b i
noncomputable def en_base_SameValue (a : (List tAtom)) (b : (List tAtom)) : Option (L_base_SameValue ⊕ Bool) :=
  if (!decide ((a.length : Int) = (b.length : Int))) = true then
  some (.inr false)
  else
  some (.inl (.l4 a b (0 : Int)))
noncomputable def base_SameValue (a : (List tAtom)) (b : (List tAtom)) : Option Bool := runL st_base_SameValue (en_base_SameValue a b)
/-! ### onceweb/value.Text -/
noncomputable def value_Text (s_ : (List UInt8)) : Option ((List tAtom) × Int) :=
  if (decide ((4096 : Int) < (s_.length : Int))) = true then
  some (([] : List tAtom), (3 : Int))
  else
  some (([((2 : Int), (0 : Int), (0 : Int), s_, ())] : List tAtom), (0 : Int))
/-! ### onceweb/oncewebref07.Text -/
noncomputable def ref07_Text (s_ : (List UInt8)) : Option ((List tAtom) × Int) :=
  if (decide ((4096 : Int) < (s_.length : Int))) = true then
  some (([] : List tAtom), (3 : Int))
  else
  some (([((2 : Int), (0 : Int), (0 : Int), s_, ())] : List tAtom), (0 : Int))
/-! ### onceweb/oncewebbase.CopyValue -/
noncomputable def base_CopyValue (v : (List tAtom)) : Option (List tAtom) :=
  G ((([] : List tAtom).length + v.length) * 40 ≤ 140737488355328) <|
  some v
/-! ### onceweb/onceweblaw07.copied -/
inductive L_law07_copied where
  | l3 (l : (List (List tAtom))) (out : (List (List tAtom))) (i : Int)
noncomputable def sg_law07_copied_3 (l : (List (List tAtom))) (out : (List (List tAtom))) (i : Int) : Option (L_law07_copied ⊕ (List (List tAtom))) :=
  if (decide (i < (l.length : Int))) = true then
  (G (0 ≤ i ∧ i < (l.length : Int)) <|
  (base_CopyValue (l.getD i.toNat ([] : List tAtom))).bind fun t17 =>
  G ((out.length + ([t17] : List (List tAtom)).length) * 24 ≤ 140737488355328) <|
  some (.inl (.l3 l (out ++ ([t17] : List (List tAtom))) (w64 (i + (1 : Int))))))
  else
  some (.inr out)
noncomputable def st_law07_copied : L_law07_copied → Option (L_law07_copied ⊕ (List (List tAtom)))
  | .l3 l out i => sg_law07_copied_3 l out i
noncomputable def en_law07_copied (l : (List (List tAtom))) : Option (L_law07_copied ⊕ (List (List tAtom))) :=
  some (.inl (.l3 l ([] : List (List tAtom)) (0 : Int)))
noncomputable def law07_copied (l : (List (List tAtom))) : Option (List (List tAtom)) := runL st_law07_copied (en_law07_copied l)
/-! ### onceweb/value.well -/
noncomputable def value_well (a : tAtom) : Option Bool :=
  if (decide (a.1 = (1 : Int))) = true then
  some ((((decide (a.2.1 = (0 : Int))) && (decide (a.2.2.2.1 = ([] : List UInt8)))) && (decide ((-9007199254740992 : Int) ≤ a.2.2.1))) && (decide (a.2.2.1 ≤ (9007199254740992 : Int))))
  else
  if (decide (a.1 = (2 : Int))) = true then
  some (((decide (a.2.1 = (0 : Int))) && (decide (a.2.2.1 = (0 : Int)))) && (decide ((a.2.2.2.1.length : Int) ≤ (4096 : Int))))
  else
  if (decide (a.1 = (3 : Int))) = true then
  some (((decide ((0 : Int) ≤ a.2.1)) && (decide (a.2.2.1 = (0 : Int)))) && (decide (a.2.2.2.1 = ([] : List UInt8))))
  else
  some false
/-! ### onceweb/value.wholes -/
inductive L_value_wholes where
  | l3 (out : (List twhole)) (stack : (List twhole)) (x16 : (List tAtom)) (x17 : Int) (x18 : Int)
  | l10 (out : (List twhole)) (stack : (List twhole)) (i : Int) (k : Int) (w : Int) (w' : Int) (x16 : (List tAtom)) (x17 : Int) (x18 : Int) (x42 : Nat) (x42' : Nat) (x43 : Int) (x44 : Int)
noncomputable def sg_value_wholes_3 (out : (List twhole)) (stack : (List twhole)) (x16 : (List tAtom)) (x17 : Int) (x18 : Int) : Option (L_value_wholes ⊕ ((List twhole) × Bool)) :=
  if (decide (x18 < x17)) = true then
  (G (0 ≤ x18 ∧ x18 < (x16.length : Int)) <|
  (value_well ((x16.getD x18.toNat dAtom).1, (x16.getD x18.toNat dAtom).2.1, (x16.getD x18.toNat dAtom).2.2.1, (x16.getD x18.toNat dAtom).2.2.2.1, ())).bind fun t24 =>
  if ((!t24) || (decide ((stack.length : Int) < (x16.getD x18.toNat dAtom).2.1))) = true then
  some (.inr (([] : List twhole), false))
  else
  G (0 ≤ (w64 ((stack.length : Int) - (x16.getD x18.toNat dAtom).2.1)) ∧ (w64 ((stack.length : Int) - (x16.getD x18.toNat dAtom).2.1)) ≤ (stack.length : Int)) <|
  some (.inl (.l10 out stack x18 (w64 ((stack.length : Int) - (x16.getD x18.toNat dAtom).2.1)) ((x18, (1 : Int), ()).1) ((x18, (1 : Int), ()).2.1) x16 x17 x18 ((w64 ((stack.length : Int) - (x16.getD x18.toNat dAtom).2.1)).toNat) (stack.length - (w64 ((stack.length : Int) - (x16.getD x18.toNat dAtom).2.1)).toNat) (((stack.length - (w64 ((stack.length : Int) - (x16.getD x18.toNat dAtom).2.1)).toNat) : Nat) : Int) (0 : Int))))
  else
  some (.inr (out, (decide ((stack.length : Int) = (1 : Int)))))
noncomputable def sg_value_wholes_10 (out : (List twhole)) (stack : (List twhole)) (i : Int) (k : Int) (w : Int) (w' : Int) (x16 : (List tAtom)) (x17 : Int) (x18 : Int) (x42 : Nat) (x42' : Nat) (x43 : Int) (x44 : Int) : Option (L_value_wholes ⊕ ((List twhole) × Bool)) :=
  if (decide (x44 < x43)) = true then
  (G (0 ≤ x44 ∧ x44 < (x42' : Int)) <|
  if (decide (x44 = (0 : Int))) = true then
  some (.inl (.l10 out stack i k ((stack.getD (x42 + x44.toNat) dwhole).1) (mxI w' (w64 ((stack.getD (x42 + x44.toNat) dwhole).2.1 + (1 : Int)))) x16 x17 x18 x42 x42' x43 (w64 (x44 + (1 : Int)))))
  else
  some (.inl (.l10 out stack i k w (mxI w' (w64 ((stack.getD (x42 + x44.toNat) dwhole).2.1 + (1 : Int)))) x16 x17 x18 x42 x42' x43 (w64 (x44 + (1 : Int))))))
  else
  if (decide ((32 : Int) < w')) = true then
  some (.inr (([] : List twhole), false))
  else
  G (0 ≤ i ∧ i < (out.length : Int)) <|
  G (0 ≤ k ∧ k ≤ (stack.length : Int)) <|
  G ((k.toNat + ([(w, w', ())] : List twhole).length) * 16 ≤ 140737488355328) <|
  some (.inl (.l3 (out.set i.toNat (w, w', ())) ((stack.take k.toNat) ++ ([(w, w', ())] : List twhole)) x16 x17 (w64 (x18 + (1 : Int)))))
noncomputable def st_value_wholes : L_value_wholes → Option (L_value_wholes ⊕ ((List twhole) × Bool))
  | .l3 out stack x16 x17 x18 => sg_value_wholes_3 out stack x16 x17 x18
  | .l10 out stack i k w w' x16 x17 x18 x42 x42' x43 x44 => sg_value_wholes_10 out stack i k w w' x16 x17 x18 x42 x42' x43 x44
noncomputable def en_value_wholes (v : (List tAtom)) : Option (L_value_wholes ⊕ ((List twhole) × Bool)) :=
  G (0 ≤ (v.length : Int) ∧ (v.length : Int) ≤ (v.length : Int) ∧ (16 : Int) * (v.length : Int) ≤ 281474976710656) <|
  some (.inl (.l3 (List.replicate (v.length : Int).toNat dwhole) ([] : List twhole) v (v.length : Int) (0 : Int)))
noncomputable def value_wholes (v : (List tAtom)) : Option ((List twhole) × Bool) := runL st_value_wholes (en_value_wholes v)
/-! ### onceweb/value.Check -/
noncomputable def value_Check (v : (List tAtom)) : Option Int :=
  if (decide ((1024 : Int) < (v.length : Int))) = true then
  some (3 : Int)
  else
  (value_wholes v).bind fun t10 =>
  if (!t10.2) = true then
  some (5 : Int)
  else
  some (0 : Int)
/-! ### onceweb/value.first -/
inductive L_value_first where
  | l2 (x6 : (List (List tAtom))) (x7 : Int) (x8 : Int)
noncomputable def sg_value_first_2 (x6 : (List (List tAtom))) (x7 : Int) (x8 : Int) : Option (L_value_first ⊕ Int) :=
  if (decide (x8 < x7)) = true then
  (G (0 ≤ x8 ∧ x8 < (x6.length : Int)) <|
  (value_Check (x6.getD x8.toNat ([] : List tAtom))).bind fun t13 =>
  if (!decide (t13 = (0 : Int))) = true then
  some (.inr t13)
  else
  some (.inl (.l2 x6 x7 (w64 (x8 + (1 : Int))))))
  else
  some (.inr (0 : Int))
noncomputable def st_value_first : L_value_first → Option (L_value_first ⊕ Int)
  | .l2 x6 x7 x8 => sg_value_first_2 x6 x7 x8
noncomputable def en_value_first (l : (List (List tAtom))) : Option (L_value_first ⊕ Int) :=
  some (.inl (.l2 l (l.length : Int) (0 : Int)))
noncomputable def value_first (l : (List (List tAtom))) : Option Int := runL st_value_first (en_value_first l)
/-! ### onceweb/value.made -/
inductive L_value_made where
  | l3 (l : (List (List tAtom))) (out : (List tAtom)) (x7 : (List (List tAtom))) (x8 : Int) (x9 : Int)
noncomputable def sg_value_made_3 (l : (List (List tAtom))) (out : (List tAtom)) (x7 : (List (List tAtom))) (x8 : Int) (x9 : Int) : Option (L_value_made ⊕ ((List tAtom) × Bool)) :=
  if (decide (x9 < x8)) = true then
  (G (0 ≤ x9 ∧ x9 < (x7.length : Int)) <|
  if (decide ((1024 : Int) ≤ (w64 ((out.length : Int) + ((x7.getD x9.toNat ([] : List tAtom)).length : Int))))) = true then
  some (.inr (([] : List tAtom), false))
  else
  G ((out.length + (x7.getD x9.toNat ([] : List tAtom)).length) * 40 ≤ 140737488355328) <|
  some (.inl (.l3 l (out ++ (x7.getD x9.toNat ([] : List tAtom))) x7 x8 (w64 (x9 + (1 : Int))))))
  else
  G ((out.length + ([((3 : Int), (l.length : Int), (0 : Int), ([] : List UInt8), ())] : List tAtom).length) * 40 ≤ 140737488355328) <|
  (value_Check (out ++ ([((3 : Int), (l.length : Int), (0 : Int), ([] : List UInt8), ())] : List tAtom))).bind fun t31 =>
  some (.inr ((out ++ ([((3 : Int), (l.length : Int), (0 : Int), ([] : List UInt8), ())] : List tAtom)), (decide (t31 = (0 : Int)))))
noncomputable def st_value_made : L_value_made → Option (L_value_made ⊕ ((List tAtom) × Bool))
  | .l3 l out x7 x8 x9 => sg_value_made_3 l out x7 x8 x9
noncomputable def en_value_made (l : (List (List tAtom))) : Option (L_value_made ⊕ ((List tAtom) × Bool)) :=
  some (.inl (.l3 l ([] : List tAtom) l (l.length : Int) (0 : Int)))
noncomputable def value_made (l : (List (List tAtom))) : Option ((List tAtom) × Bool) := runL st_value_made (en_value_made l)
/-! ### onceweb/value.List -/
noncomputable def value_List (l : (List (List tAtom))) : Option ((List tAtom) × Int) :=
  if (decide ((4096 : Int) < (l.length : Int))) = true then
  some (([] : List tAtom), (3 : Int))
  else
  (value_first l).bind fun t11 =>
  if (!decide (t11 = (0 : Int))) = true then
  some (([] : List tAtom), t11)
  else
  (value_made l).bind fun t17 =>
  if (!t17.2) = true then
  some (([] : List tAtom), (3 : Int))
  else
  some (t17.1, (0 : Int))
/-! ### onceweb/oncewebref07.atom -/
noncomputable def ref07_atom (a : tAtom) : Option Bool :=
  if (decide (a.1 = (1 : Int))) = true then
  some ((((decide (a.2.1 = (0 : Int))) && (decide (a.2.2.2.1 = ([] : List UInt8)))) && (decide ((-9007199254740992 : Int) ≤ a.2.2.1))) && (decide (a.2.2.1 ≤ (9007199254740992 : Int))))
  else
  if (decide (a.1 = (2 : Int))) = true then
  some (((decide (a.2.1 = (0 : Int))) && (decide (a.2.2.1 = (0 : Int)))) && (decide ((a.2.2.2.1.length : Int) ≤ (4096 : Int))))
  else
  if (decide (a.1 = (3 : Int))) = true then
  some (((decide ((0 : Int) ≤ a.2.1)) && (decide (a.2.2.1 = (0 : Int)))) && (decide (a.2.2.2.1 = ([] : List UInt8))))
  else
  some false
/-! ### onceweb/oncewebref07.begins -/
inductive L_ref07_begins where
  | l5 (v : (List tAtom)) (from_ : (List Int)) (stack : (List Int)) (deep : (List Int)) (i : Int)
  | l15 (v : (List tAtom)) (from_ : (List Int)) (stack : (List Int)) (deep : (List Int)) (i : Int) (n : Int) (b : Int) (d : Int) (k : Int)
  | l20 (v : (List tAtom)) (from_ : (List Int)) (stack : (List Int)) (deep : (List Int)) (i : Int) (b : Int) (d : Int)
noncomputable def sg_ref07_begins_5 (v : (List tAtom)) (from_ : (List Int)) (stack : (List Int)) (deep : (List Int)) (i : Int) : Option (L_ref07_begins ⊕ ((List Int) × Int × Bool)) :=
  if (decide (i < (v.length : Int))) = true then
  (G (0 ≤ i ∧ i < (v.length : Int)) <|
  G (0 ≤ i ∧ i < (v.length : Int)) <|
  (ref07_atom (v.getD i.toNat dAtom)).bind fun t31 =>
  if ((!t31) || (decide ((stack.length : Int) < (v.getD i.toNat dAtom).2.1))) = true then
  some (.inr (([] : List Int), (0 : Int), false))
  else
  if (decide ((0 : Int) < (v.getD i.toNat dAtom).2.1)) = true then
  (G (0 ≤ (w64 ((stack.length : Int) - (v.getD i.toNat dAtom).2.1)) ∧ (w64 ((stack.length : Int) - (v.getD i.toNat dAtom).2.1)) < (stack.length : Int)) <|
  some (.inl (.l15 v from_ stack deep i ((v.getD i.toNat dAtom).2.1) (stack.getD ((w64 ((stack.length : Int) - (v.getD i.toNat dAtom).2.1)).toNat) (0 : Int)) (0 : Int) (0 : Int))))
  else
  some (.inl (.l20 v from_ stack deep i i (0 : Int))))
  else
  if (!decide ((stack.length : Int) = (1 : Int))) = true then
  some (.inr (([] : List Int), (0 : Int), false))
  else
  G (0 ≤ (0 : Int) ∧ (0 : Int) < (deep.length : Int)) <|
  some (.inr (from_, (deep.getD ((0 : Int).toNat) (0 : Int)), true))
noncomputable def sg_ref07_begins_15 (v : (List tAtom)) (from_ : (List Int)) (stack : (List Int)) (deep : (List Int)) (i : Int) (n : Int) (b : Int) (d : Int) (k : Int) : Option (L_ref07_begins ⊕ ((List Int) × Int × Bool)) :=
  if (decide (k < n)) = true then
  (G (0 ≤ (w64 ((w64 ((deep.length : Int) - (1 : Int))) - k)) ∧ (w64 ((w64 ((deep.length : Int) - (1 : Int))) - k)) < (deep.length : Int)) <|
  some (.inl (.l15 v from_ stack deep i n b (mxI d (deep.getD ((w64 ((w64 ((deep.length : Int) - (1 : Int))) - k)).toNat) (0 : Int))) (w64 (k + (1 : Int))))))
  else
  G (0 ≤ (w64 ((stack.length : Int) - n)) ∧ (w64 ((stack.length : Int) - n)) ≤ (stack.length : Int)) <|
  G (0 ≤ (w64 ((deep.length : Int) - n)) ∧ (w64 ((deep.length : Int) - n)) ≤ (deep.length : Int)) <|
  some (.inl (.l20 v from_ (stack.take ((w64 ((stack.length : Int) - n)).toNat)) (deep.take ((w64 ((deep.length : Int) - n)).toNat)) i b d))
noncomputable def sg_ref07_begins_20 (v : (List tAtom)) (from_ : (List Int)) (stack : (List Int)) (deep : (List Int)) (i : Int) (b : Int) (d : Int) : Option (L_ref07_begins ⊕ ((List Int) × Int × Bool)) :=
  G ((stack.length + ([b] : List Int).length) * 8 ≤ 140737488355328) <|
  G ((deep.length + ([(w64 (d + (1 : Int)))] : List Int).length) * 8 ≤ 140737488355328) <|
  G ((from_.length + ([b] : List Int).length) * 8 ≤ 140737488355328) <|
  some (.inl (.l5 v (from_ ++ ([b] : List Int)) (stack ++ ([b] : List Int)) (deep ++ ([(w64 (d + (1 : Int)))] : List Int)) (w64 (i + (1 : Int)))))
noncomputable def st_ref07_begins : L_ref07_begins → Option (L_ref07_begins ⊕ ((List Int) × Int × Bool))
  | .l5 v from_ stack deep i => sg_ref07_begins_5 v from_ stack deep i
  | .l15 v from_ stack deep i n b d k => sg_ref07_begins_15 v from_ stack deep i n b d k
  | .l20 v from_ stack deep i b d => sg_ref07_begins_20 v from_ stack deep i b d
noncomputable def en_ref07_begins (v : (List tAtom)) : Option (L_ref07_begins ⊕ ((List Int) × Int × Bool)) :=
  some (.inl (.l5 v ([] : List Int) ([] : List Int) ([] : List Int) (0 : Int)))
noncomputable def ref07_begins (v : (List tAtom)) : Option ((List Int) × Int × Bool) := runL st_ref07_begins (en_ref07_begins v)
/-! ### onceweb/oncewebref07.Check -/
noncomputable def ref07_Check (v : (List tAtom)) : Option Int :=
  if (decide ((1024 : Int) < (v.length : Int))) = true then
  some (3 : Int)
  else
  (ref07_begins v).bind fun t11 =>
  if ((!t11.2.2) || (decide ((32 : Int) < t11.2.1))) = true then
  some (5 : Int)
  else
  some (0 : Int)
/-! ### onceweb/oncewebref07.first -/
inductive L_ref07_first where
  | l2 (l : (List (List tAtom))) (i : Int)
noncomputable def sg_ref07_first_2 (l : (List (List tAtom))) (i : Int) : Option (L_ref07_first ⊕ Int) :=
  if (decide (i < (l.length : Int))) = true then
  (G (0 ≤ i ∧ i < (l.length : Int)) <|
  (ref07_Check (l.getD i.toNat ([] : List tAtom))).bind fun t15 =>
  if (!decide (t15 = (0 : Int))) = true then
  some (.inr t15)
  else
  some (.inl (.l2 l (w64 (i + (1 : Int))))))
  else
  some (.inr (0 : Int))
noncomputable def st_ref07_first : L_ref07_first → Option (L_ref07_first ⊕ Int)
  | .l2 l i => sg_ref07_first_2 l i
noncomputable def en_ref07_first (l : (List (List tAtom))) : Option (L_ref07_first ⊕ Int) :=
  some (.inl (.l2 l (0 : Int)))
noncomputable def ref07_first (l : (List (List tAtom))) : Option Int := runL st_ref07_first (en_ref07_first l)
/-! ### onceweb/oncewebref07.made -/
inductive L_ref07_made where
  | l3 (l : (List (List tAtom))) (out : (List tAtom)) (i : Int)
noncomputable def sg_ref07_made_3 (l : (List (List tAtom))) (out : (List tAtom)) (i : Int) : Option (L_ref07_made ⊕ ((List tAtom) × Bool)) :=
  if (decide (i < (l.length : Int))) = true then
  (G (0 ≤ i ∧ i < (l.length : Int)) <|
  if (decide ((1024 : Int) ≤ (w64 ((out.length : Int) + ((l.getD i.toNat ([] : List tAtom)).length : Int))))) = true then
  some (.inr (([] : List tAtom), false))
  else
  G (0 ≤ i ∧ i < (l.length : Int)) <|
  G ((out.length + (l.getD i.toNat ([] : List tAtom)).length) * 40 ≤ 140737488355328) <|
  some (.inl (.l3 l (out ++ (l.getD i.toNat ([] : List tAtom))) (w64 (i + (1 : Int))))))
  else
  G ((out.length + ([((3 : Int), (l.length : Int), (0 : Int), ([] : List UInt8), ())] : List tAtom).length) * 40 ≤ 140737488355328) <|
  (ref07_Check (out ++ ([((3 : Int), (l.length : Int), (0 : Int), ([] : List UInt8), ())] : List tAtom))).bind fun t36 =>
  some (.inr ((out ++ ([((3 : Int), (l.length : Int), (0 : Int), ([] : List UInt8), ())] : List tAtom)), (decide (t36 = (0 : Int)))))
noncomputable def st_ref07_made : L_ref07_made → Option (L_ref07_made ⊕ ((List tAtom) × Bool))
  | .l3 l out i => sg_ref07_made_3 l out i
noncomputable def en_ref07_made (l : (List (List tAtom))) : Option (L_ref07_made ⊕ ((List tAtom) × Bool)) :=
  some (.inl (.l3 l ([] : List tAtom) (0 : Int)))
noncomputable def ref07_made (l : (List (List tAtom))) : Option ((List tAtom) × Bool) := runL st_ref07_made (en_ref07_made l)
/-! ### onceweb/oncewebref07.List -/
noncomputable def ref07_List (l : (List (List tAtom))) : Option ((List tAtom) × Int) :=
  if (decide ((4096 : Int) < (l.length : Int))) = true then
  some (([] : List tAtom), (3 : Int))
  else
  (ref07_first l).bind fun t11 =>
  if (!decide (t11 = (0 : Int))) = true then
  some (([] : List tAtom), t11)
  else
  (ref07_made l).bind fun t17 =>
  if (!t17.2) = true then
  some (([] : List tAtom), (3 : Int))
  else
  some (t17.1, (0 : Int))

/-! ### onceweb/value.top -/
noncomputable def value_top (v : (List tAtom)) : Option tAtom :=
  G (0 ≤ (w64 ((v.length : Int) - (1 : Int))) ∧ (w64 ((v.length : Int) - (1 : Int))) < (v.length : Int)) <|
  some ((v.getD (w64 ((v.length : Int) - (1 : Int))).toNat dAtom).1, (v.getD (w64 ((v.length : Int) - (1 : Int))).toNat dAtom).2.1, (v.getD (w64 ((v.length : Int) - (1 : Int))).toNat dAtom).2.2.1, (v.getD (w64 ((v.length : Int) - (1 : Int))).toNat dAtom).2.2.2.1, ())
/-! ### onceweb/value.members -/
inductive L_value_members where
  | l5 (v : (List tAtom)) (w : (List twhole)) (out : (List (List tAtom))) (end_ : Int) (i : Int)
noncomputable def sg_value_members_5 (v : (List tAtom)) (w : (List twhole)) (out : (List (List tAtom))) (end_ : Int) (i : Int) : Option (L_value_members ⊕ (List (List tAtom))) :=
  if (decide ((0 : Int) ≤ i)) = true then
  (G (0 ≤ (w64 (end_ - (1 : Int))) ∧ (w64 (end_ - (1 : Int))) < (w.length : Int)) <|
  G (0 ≤ (w.getD ((w64 (end_ - (1 : Int))).toNat) dwhole).1 ∧ (w.getD ((w64 (end_ - (1 : Int))).toNat) dwhole).1 ≤ end_ ∧ end_ ≤ end_ ∧ end_ ≤ (v.length : Int)) <|
  G (0 ≤ i ∧ i < (out.length : Int)) <|
  some (.inl (.l5 v w (out.set i.toNat (cut v ((w.getD ((w64 (end_ - (1 : Int))).toNat) dwhole).1).toNat end_.toNat)) ((w.getD ((w64 (end_ - (1 : Int))).toNat) dwhole).1) (w64 (i - (1 : Int))))))
  else
  some (.inr out)
noncomputable def st_value_members : L_value_members → Option (L_value_members ⊕ (List (List tAtom)))
  | .l5 v w out end_ i => sg_value_members_5 v w out end_ i
noncomputable def en_value_members (v : (List tAtom)) : Option (L_value_members ⊕ (List (List tAtom))) :=
  (value_wholes v).bind fun t11 =>
  (value_top v).bind fun t15 =>
  G (0 ≤ t15.2.1 ∧ t15.2.1 ≤ t15.2.1 ∧ (24 : Int) * t15.2.1 ≤ 281474976710656) <|
  some (.inl (.l5 v t11.1 (List.replicate t15.2.1.toNat ([] : List tAtom)) (w64 ((v.length : Int) - (1 : Int))) (w64 ((((List.replicate t15.2.1.toNat ([] : List tAtom)).length : Nat) : Int) - (1 : Int)))))
noncomputable def value_members (v : (List tAtom)) : Option (List (List tAtom)) := runL st_value_members (en_value_members v)
/-! ### slices_Clone -/
noncomputable def slices_Clone (s_ : List tAtom) : Option (List tAtom) := G ((([] : List tAtom).length + s_.length) * 40 ≤ 140737488355328) <| some s_
/-! ### onceweb/value.Members -/
inductive L_value_Members where
  | l8 (out : (List (Bool × List tAtom))) (x19 : Int) (x20 : Int)
noncomputable def sg_value_Members_8 (out : (List (Bool × List tAtom))) (x19 : Int) (x20 : Int) : Option (L_value_Members ⊕ ((List (Bool × List tAtom)) × Int)) :=
  if (decide (x20 < x19)) = true then
  (G (0 ≤ x20 ∧ x20 < (out.length : Int)) <|
  G ((el2D out x20.toNat).1 = false) <|
  (slices_Clone ((el2D out x20.toNat).2)).bind fun t29 =>
  G (0 ≤ x20 ∧ x20 < (out.length : Int)) <|
  G ((el2D out x20.toNat).1 = false) <|
  some (.inl (.l8 (out.set x20.toNat (true, t29)) x19 (w64 (x20 + (1 : Int))))))
  else
  G (out.length = out.length) <|
  some (.inr (out, (0 : Int)))
noncomputable def st_value_Members : L_value_Members → Option (L_value_Members ⊕ ((List (Bool × List tAtom)) × Int))
  | .l8 out x19 x20 => sg_value_Members_8 out x19 x20
noncomputable def en_value_Members (v : (List tAtom)) : Option (L_value_Members ⊕ ((List (Bool × List tAtom)) × Int)) :=
  (value_Check v).bind fun t8 =>
  if (!decide (t8 = (0 : Int))) = true then
  some (.inr (([] : List (Bool × List tAtom)), t8))
  else
  (value_top v).bind fun t13 =>
  if (!decide (t13.1 = (3 : Int))) = true then
  some (.inr (([] : List (Bool × List tAtom)), (7 : Int)))
  else
  (value_members v).bind fun t17 =>
  some (.inl (.l8 (t17.map fun y => (false, y)) (((t17.map fun y => (false, y)).length : Nat) : Int) (0 : Int)))
noncomputable def value_Members (v : (List tAtom)) : Option ((List (Bool × List tAtom)) × Int) := runL st_value_Members (en_value_Members v)
/-! ### onceweb/oncewebref07.whole -/
noncomputable def ref07_whole (v : (List tAtom)) : Option tAtom :=
  G (0 ≤ (w64 ((v.length : Int) - (1 : Int))) ∧ (w64 ((v.length : Int) - (1 : Int))) < (v.length : Int)) <|
  some ((v.getD (w64 ((v.length : Int) - (1 : Int))).toNat dAtom).1, (v.getD (w64 ((v.length : Int) - (1 : Int))).toNat dAtom).2.1, (v.getD (w64 ((v.length : Int) - (1 : Int))).toNat dAtom).2.2.1, (v.getD (w64 ((v.length : Int) - (1 : Int))).toNat dAtom).2.2.2.1, ())
/-! ### onceweb/oncewebref07.members -/
inductive L_ref07_members where
  | l6 (v : (List tAtom)) (from_ : (List Int)) (out : (List (List tAtom))) (k : Int) (i : Int)
noncomputable def sg_ref07_members_6 (v : (List tAtom)) (from_ : (List Int)) (out : (List (List tAtom))) (k : Int) (i : Int) : Option (L_ref07_members ⊕ (List (List tAtom))) :=
  if (decide ((0 : Int) ≤ i)) = true then
  (G (0 ≤ k ∧ k < (from_.length : Int)) <|
  G (0 ≤ (from_.getD k.toNat (0 : Int)) ∧ (from_.getD k.toNat (0 : Int)) ≤ (w64 (k + (1 : Int))) ∧ (w64 (k + (1 : Int))) ≤ (v.length : Int)) <|
  (base_CopyValue (cut v (from_.getD k.toNat (0 : Int)).toNat (w64 (k + (1 : Int))).toNat)).bind fun t40 =>
  G (0 ≤ i ∧ i < (out.length : Int)) <|
  G (0 ≤ k ∧ k < (from_.length : Int)) <|
  some (.inl (.l6 v from_ (out.set i.toNat t40) (w64 ((from_.getD k.toNat (0 : Int)) - (1 : Int))) (w64 (i - (1 : Int))))))
  else
  some (.inr out)
noncomputable def st_ref07_members : L_ref07_members → Option (L_ref07_members ⊕ (List (List tAtom)))
  | .l6 v from_ out k i => sg_ref07_members_6 v from_ out k i
noncomputable def en_ref07_members (v : (List tAtom)) : Option (L_ref07_members ⊕ (List (List tAtom))) :=
  (ref07_begins v).bind fun t12 =>
  (ref07_whole v).bind fun t17 =>
  G (0 ≤ t17.2.1 ∧ t17.2.1 ≤ t17.2.1 ∧ (24 : Int) * t17.2.1 ≤ 281474976710656) <|
  some (.inl (.l6 v t12.1 (List.replicate t17.2.1.toNat ([] : List tAtom)) (w64 ((v.length : Int) - (2 : Int))) (w64 (t17.2.1 - (1 : Int)))))
noncomputable def ref07_members (v : (List tAtom)) : Option (List (List tAtom)) := runL st_ref07_members (en_ref07_members v)
/-! ### onceweb/oncewebref07.Members -/
noncomputable def ref07_Members (v : (List tAtom)) : Option ((List (List tAtom)) × Int) :=
  (ref07_Check v).bind fun t6 =>
  if (!decide (t6 = (0 : Int))) = true then
  some (([] : List (List tAtom)), t6)
  else
  (ref07_whole v).bind fun t11 =>
  if (!decide (t11.1 = (3 : Int))) = true then
  some (([] : List (List tAtom)), (7 : Int))
  else
  (ref07_members v).bind fun t15 =>
  some (t15, (0 : Int))
/-! ### onceweb/onceweblaw07.values -/
inductive L_law07_values where
  | l4 (a : (List (List tAtom))) (b : (List (List tAtom))) (i : Int)
noncomputable def sg_law07_values_4 (a : (List (List tAtom))) (b : (List (List tAtom))) (i : Int) : Option (L_law07_values ⊕ Bool) :=
  if (decide (i < (a.length : Int))) = true then
  (G (0 ≤ i ∧ i < (a.length : Int)) <|
  G (0 ≤ i ∧ i < (b.length : Int)) <|
  (base_SameValue (a.getD i.toNat ([] : List tAtom)) (b.getD i.toNat ([] : List tAtom))).bind fun t25 =>
  if (!t25) = true then
  some (.inr false)
  else
  some (.inl (.l4 a b (w64 (i + (1 : Int))))))
  else
  some (.inr true)
noncomputable def st_law07_values : L_law07_values → Option (L_law07_values ⊕ Bool)
  | .l4 a b i => sg_law07_values_4 a b i
noncomputable def en_law07_values (a : (List (List tAtom))) (b : (List (List tAtom))) : Option (L_law07_values ⊕ Bool) :=
  if (!decide ((a.length : Int) = (b.length : Int))) = true then
  some (.inr false)
  else
  some (.inl (.l4 a b (0 : Int)))
noncomputable def law07_values (a : (List (List tAtom))) (b : (List (List tAtom))) : Option Bool := runL st_law07_values (en_law07_values a b)
/-! ### onceweb/onceweblaw07.ValueMakes -/
inductive L_law07_ValueMakes where
  | l16 (l : (List (List tAtom))) (own : (List (List tAtom))) (i : Int)
  | l25 (l : (List (List tAtom))) (own : (List (List tAtom))) (i : Int) (p : (List (Bool × List tAtom))) (k : Int)
noncomputable def sg_law07_ValueMakes_16 (l : (List (List tAtom))) (own : (List (List tAtom))) (i : Int) : Option (L_law07_ValueMakes ⊕ Bool) :=
  if (decide (i < (l.length : Int))) = true then
  (G (0 ≤ i ∧ i < (own.length : Int)) <|
  (value_Check (own.getD i.toNat ([] : List tAtom))).bind fun t89 =>
  G (0 ≤ i ∧ i < (l.length : Int)) <|
  (ref07_Check (l.getD i.toNat ([] : List tAtom))).bind fun t94 =>
  if (!decide (t89 = t94)) = true then
  some (.inr false)
  else
  G (0 ≤ i ∧ i < (own.length : Int)) <|
  (value_Members (own.getD i.toNat ([] : List tAtom))).bind fun t101 =>
  G (0 ≤ i ∧ i < (l.length : Int)) <|
  (ref07_Members (l.getD i.toNat ([] : List tAtom))).bind fun t109 =>
  G ((!(!decide (t101.2 = t109.2))) = true → (t101.1.length = t101.1.length)) <|
  (if (!(!decide (t101.2 = t109.2))) = true then law07_values (t101.1.map fun y => y.2) t109.1 else some false).bind fun t118 =>
  if ((!decide (t101.2 = t109.2)) || (!t118)) = true then
  some (.inr false)
  else
  some (.inl (.l25 l own i t101.1 (0 : Int))))
  else
  (law07_values own l).bind fun t134 =>
  some (.inr t134)
noncomputable def sg_law07_ValueMakes_25 (l : (List (List tAtom))) (own : (List (List tAtom))) (i : Int) (p : (List (Bool × List tAtom))) (k : Int) : Option (L_law07_ValueMakes ⊕ Bool) :=
  if (decide (k < (p.length : Int))) = true then
  (G (0 ≤ k ∧ k < (p.length : Int)) <|
  G ((el2D p k.toNat).1 = true) <|
  G ((el2D p k.toNat).2.length = (el2D p k.toNat).2.length) <|
  some (.inl (.l25 l own i (p.set k.toNat (true, (List.replicate (el2D p k.toNat).2.length (((-7 : Int), (0 : Int), (0 : Int), ([] : List UInt8), ()) : tAtom)))) (w64 (k + (1 : Int))))))
  else
  some (.inl (.l16 l own (w64 (i + (1 : Int)))))
noncomputable def st_law07_ValueMakes : L_law07_ValueMakes → Option (L_law07_ValueMakes ⊕ Bool)
  | .l16 l own i => sg_law07_ValueMakes_16 l own i
  | .l25 l own i p k => sg_law07_ValueMakes_25 l own i p k
noncomputable def en_law07_ValueMakes (n : Int) (s_ : (List UInt8)) (l : (List (List tAtom))) : Option (L_law07_ValueMakes ⊕ Bool) :=
  (value_Int n).bind fun t20 =>
  (ref07_Int n).bind fun t25 =>
  (if (!(!decide (t20.2 = t25.2))) = true then base_SameValue t20.1 t25.1 else some false).bind fun t34 =>
  if ((!decide (t20.2 = t25.2)) || (!t34)) = true then
  some (.inr false)
  else
  (value_Text s_).bind fun t39 =>
  (ref07_Text s_).bind fun t44 =>
  (if (!(!decide (t39.2 = t44.2))) = true then base_SameValue t39.1 t44.1 else some false).bind fun t53 =>
  if ((!decide (t39.2 = t44.2)) || (!t53)) = true then
  some (.inr false)
  else
  (law07_copied l).bind fun t57 =>
  (value_List t57).bind fun t60 =>
  (ref07_List l).bind fun t65 =>
  (if (!(!decide (t60.2 = t65.2))) = true then base_SameValue t60.1 t65.1 else some false).bind fun t74 =>
  if ((!decide (t60.2 = t65.2)) || (!t74)) = true then
  some (.inr false)
  else
  some (.inl (.l16 l t57 (0 : Int)))
noncomputable def law07_ValueMakes (n : Int) (s_ : (List UInt8)) (l : (List (List tAtom))) : Option Bool := runL st_law07_ValueMakes (en_law07_ValueMakes n s_ l)
/-! ### cmp.isNaN[int] -/
noncomputable def cmp_isNaN (x : Int) : Option Bool :=
  some (!decide (x = x))
/-! ### cmp.Compare[int] -/
noncomputable def cmp_Compare (x : Int) (y : Int) : Option Int :=
  (cmp_isNaN x).bind fun t8 =>
  (cmp_isNaN y).bind fun t10 =>
  if t8 = true then
  (if t10 = true then
  some (0 : Int)
  else
  some (-1 : Int))
  else
  if t10 = true then
  some (1 : Int)
  else
  if (decide (x < y)) = true then
  some (-1 : Int)
  else
  if (decide (y < x)) = true then
  some (1 : Int)
  else
  some (0 : Int)
/-! ### bytealg_abigen_runtime_cmpstring -/
noncomputable def bytealg_abigen_runtime_cmpstring (a b : List UInt8) : Option Int := some (Lib.compareBytes a b)
/-! ### internal/bytealg.CompareString -/
noncomputable def bytealg_CompareString (a : (List UInt8)) (b : (List UInt8)) : Option Int :=
  (bytealg_abigen_runtime_cmpstring a b).bind fun t7 =>
  some t7
/-! ### strings.Compare -/
noncomputable def strings_Compare (a : (List UInt8)) (b : (List UInt8)) : Option Int :=
  (bytealg_CompareString a b).bind fun t7 =>
  some t7
/-! ### slices.CompareFunc[[]onceweb/api.Value,[]onceweb/api.Value,onceweb/api.Value,onceweb/api.Value] -/
inductive L_slices_CompareFunc where
  | l2 (s1 : (List (List tAtom))) (s2 : (List (List tAtom))) (cmp : Value) (x11 : (List (List tAtom))) (x12 : Int) (x13 : Int)
noncomputable def sg_slices_CompareFunc_2 (dyn : Value → (List tAtom) → (List tAtom) → Option Int) (s1 : (List (List tAtom))) (s2 : (List (List tAtom))) (cmp : Value) (x11 : (List (List tAtom))) (x12 : Int) (x13 : Int) : Option (L_slices_CompareFunc ⊕ Int) :=
  if (decide (x13 < x12)) = true then
  (G (0 ≤ x13 ∧ x13 < (x11.length : Int)) <|
  if (decide ((s2.length : Int) ≤ x13)) = true then
  some (.inr (1 : Int))
  else
  G (0 ≤ x13 ∧ x13 < (s2.length : Int)) <|
  (dyn cmp (x11.getD x13.toNat ([] : List tAtom)) (s2.getD x13.toNat ([] : List tAtom))).bind fun t29 =>
  if (!decide (t29 = (0 : Int))) = true then
  some (.inr t29)
  else
  some (.inl (.l2 s1 s2 cmp x11 x12 (w64 (x13 + (1 : Int))))))
  else
  if (decide ((s1.length : Int) < (s2.length : Int))) = true then
  some (.inr (-1 : Int))
  else
  some (.inr (0 : Int))
noncomputable def st_slices_CompareFunc (dyn : Value → (List tAtom) → (List tAtom) → Option Int) : L_slices_CompareFunc → Option (L_slices_CompareFunc ⊕ Int)
  | .l2 s1 s2 cmp x11 x12 x13 => sg_slices_CompareFunc_2 dyn s1 s2 cmp x11 x12 x13
noncomputable def en_slices_CompareFunc (dyn : Value → (List tAtom) → (List tAtom) → Option Int) (s1 : (List (List tAtom))) (s2 : (List (List tAtom))) (cmp : Value) : Option (L_slices_CompareFunc ⊕ Int) :=
  some (.inl (.l2 s1 s2 cmp s1 (s1.length : Int) (0 : Int)))
noncomputable def slices_CompareFunc (dyn : Value → (List tAtom) → (List tAtom) → Option Int) (s1 : (List (List tAtom))) (s2 : (List (List tAtom))) (cmp : Value) : Option Int := runL (st_slices_CompareFunc dyn) (en_slices_CompareFunc dyn s1 s2 cmp)
/-! ### onceweb/value.compare -/
noncomputable def en_value_compare (rc : (List tAtom) → (List tAtom) → Option Int) (a : (List tAtom)) (b : (List tAtom)) : Option Int :=
  (value_top a).bind fun t8 =>
  (value_top b).bind fun t10 =>
  if (!decide (t8.1 = t10.1)) = true then
  ((cmp_Compare t8.1 t10.1).bind fun t21 =>
  some t21)
  else
  if (decide (t8.1 = (1 : Int))) = true then
  ((cmp_Compare t8.2.2.1 t10.2.2.1).bind fun t30 =>
  some t30)
  else
  if (decide (t8.1 = (2 : Int))) = true then
  ((strings_Compare t8.2.2.2.1 t10.2.2.2.1).bind fun t39 =>
  some t39)
  else
  (value_members a).bind fun t41 =>
  (value_members b).bind fun t43 =>
  (slices_CompareFunc (fun v_ a0 a1 => if fnIs v_ 40 = true then rc a0 a1 else none) t41 t43 (fnv 40)).bind fun t44 =>
  some t44
noncomputable def value_compare_n : Nat → (List tAtom) → (List tAtom) → Option Int
  | 0, _, _ => none
  | n + 1, a, b => en_value_compare (value_compare_n n) a b
noncomputable def value_compare (a : (List tAtom)) (b : (List tAtom)) : Option Int := value_compare_n 64 a b
/-! ### onceweb/value.Compare -/
noncomputable def value_Compare (a : (List tAtom)) (b : (List tAtom)) : Option (Int × Int) :=
  (value_Check a).bind fun t9 =>
  if (!decide (t9 = (0 : Int))) = true then
  some ((0 : Int), t9)
  else
  (value_Check b).bind fun t14 =>
  if (!decide (t14 = (0 : Int))) = true then
  some ((0 : Int), t14)
  else
  (value_compare a b).bind fun t20 =>
  some (t20, (0 : Int))
/-! ### onceweb/oncewebref07.sign -/
noncomputable def ref07_sign (n : Int) : Option Int :=
  if (decide (n < (0 : Int))) = true then
  some (-1 : Int)
  else
  if (decide ((0 : Int) < n)) = true then
  some (1 : Int)
  else
  some (0 : Int)
/-! ### onceweb/oncewebref07.compare -/
inductive L_ref07_compare where
  | l15 (p : (List (List tAtom))) (q : (List (List tAtom))) (i : Int)
noncomputable def sg_ref07_compare_15 (rc : (List tAtom) → (List tAtom) → Option Int) (p : (List (List tAtom))) (q : (List (List tAtom))) (i : Int) : Option (L_ref07_compare ⊕ Int) :=
  if ((decide (i < (p.length : Int))) && (decide (i < (q.length : Int)))) = true then
  (G (0 ≤ i ∧ i < (p.length : Int)) <|
  G (0 ≤ i ∧ i < (q.length : Int)) <|
  (rc (p.getD i.toNat ([] : List tAtom)) (q.getD i.toNat ([] : List tAtom))).bind fun t72 =>
  if (!decide (t72 = (0 : Int))) = true then
  some (.inr t72)
  else
  some (.inl (.l15 p q (w64 (i + (1 : Int))))))
  else
  (ref07_sign (w64 ((p.length : Int) - (q.length : Int)))).bind fun t81 =>
  some (.inr t81)
noncomputable def st_ref07_compare (rc : (List tAtom) → (List tAtom) → Option Int) : L_ref07_compare → Option (L_ref07_compare ⊕ Int)
  | .l15 p q i => sg_ref07_compare_15 rc p q i
noncomputable def en_ref07_compare (rc : (List tAtom) → (List tAtom) → Option Int) (a : (List tAtom)) (b : (List tAtom)) : Option (L_ref07_compare ⊕ Int) :=
  (ref07_whole a).bind fun t12 =>
  (ref07_whole b).bind fun t14 =>
  if (!decide (t12.1 = t14.1)) = true then
  ((ref07_sign (w64 (t12.1 - t14.1))).bind fun t25 =>
  some (.inr t25))
  else
  if (decide (t12.1 = (1 : Int))) = true then
  ((ref07_sign (w64 (t12.2.2.1 - t14.2.2.1))).bind fun t35 =>
  some (.inr t35))
  else
  if (decide (t12.1 = (2 : Int))) = true then
  (if (Op.bytesLess t12.2.2.2.1 t14.2.2.2.1) = true then
  some (.inr (-1 : Int))
  else
  if (!(Op.bytesLess t12.2.2.2.1 t14.2.2.2.1 || decide (t12.2.2.2.1 = t14.2.2.2.1))) = true then
  some (.inr (1 : Int))
  else
  some (.inr (0 : Int)))
  else
  (ref07_members a).bind fun t49 =>
  (ref07_members b).bind fun t51 =>
  some (.inl (.l15 t49 t51 (0 : Int)))
noncomputable def ref07_compare_n : Nat → (List tAtom) → (List tAtom) → Option Int
  | 0, _, _ => none
  | n + 1, a, b => runL (st_ref07_compare (ref07_compare_n n)) (en_ref07_compare (ref07_compare_n n) a b)
noncomputable def ref07_compare (a : (List tAtom)) (b : (List tAtom)) : Option Int := ref07_compare_n 64 a b
/-! ### onceweb/oncewebref07.Compare -/
inductive L_ref07_Compare where
  | l4 (a : (List tAtom)) (b : (List tAtom)) (e : Int)
noncomputable def sg_ref07_Compare_4 (a : (List tAtom)) (b : (List tAtom)) (e : Int) : Option (L_ref07_Compare ⊕ (Int × Int)) :=
  if (!decide (e = (0 : Int))) = true then
  some (.inr ((0 : Int), e))
  else
  (ref07_compare a b).bind fun t18 =>
  some (.inr (t18, (0 : Int)))
noncomputable def st_ref07_Compare : L_ref07_Compare → Option (L_ref07_Compare ⊕ (Int × Int))
  | .l4 a b e => sg_ref07_Compare_4 a b e
noncomputable def en_ref07_Compare (a : (List tAtom)) (b : (List tAtom)) : Option (L_ref07_Compare ⊕ (Int × Int)) :=
  (ref07_Check a).bind fun t8 =>
  if (decide (t8 = (0 : Int))) = true then
  ((ref07_Check b).bind fun t12 =>
  some (.inl (.l4 a b t12)))
  else
  some (.inl (.l4 a b t8))
noncomputable def ref07_Compare (a : (List tAtom)) (b : (List tAtom)) : Option (Int × Int) := runL st_ref07_Compare (en_ref07_Compare a b)
/-! ### (onceweb/value.args).list -/
noncomputable def value_args_list (a : (List (List tAtom))) : Option ((List tAtom) × Bool) :=
  (value_made a).bind fun t5 =>
  some (t5.1, t5.2)
/-! ### slices.IndexFunc[onceweb/value.args,onceweb/api.Value] -/
inductive L_slices_IndexFunc where
  | l2 (s_ : (List (List tAtom))) (f : Value) (x7 : Int) (x8 : Int)
noncomputable def sg_slices_IndexFunc_2 (dyn : Value → (List tAtom) → Option Bool) (s_ : (List (List tAtom))) (f : Value) (x7 : Int) (x8 : Int) : Option (L_slices_IndexFunc ⊕ Int) :=
  if (decide (x8 < x7)) = true then
  (G (0 ≤ x8 ∧ x8 < (s_.length : Int)) <|
  (dyn f (s_.getD x8.toNat ([] : List tAtom))).bind fun t16 =>
  if t16 = true then
  some (.inr x8)
  else
  some (.inl (.l2 s_ f x7 (w64 (x8 + (1 : Int))))))
  else
  some (.inr (-1 : Int))
noncomputable def st_slices_IndexFunc (dyn : Value → (List tAtom) → Option Bool) : L_slices_IndexFunc → Option (L_slices_IndexFunc ⊕ Int)
  | .l2 s_ f x7 x8 => sg_slices_IndexFunc_2 dyn s_ f x7 x8
noncomputable def en_slices_IndexFunc (dyn : Value → (List tAtom) → Option Bool) (s_ : (List (List tAtom))) (f : Value) : Option (L_slices_IndexFunc ⊕ Int) :=
  some (.inl (.l2 s_ f (s_.length : Int) (0 : Int)))
noncomputable def slices_IndexFunc (dyn : Value → (List tAtom) → Option Bool) (s_ : (List (List tAtom))) (f : Value) : Option Int := runL (st_slices_IndexFunc dyn) (en_slices_IndexFunc dyn s_ f)
/-! ### slices.ContainsFunc[onceweb/value.args,onceweb/api.Value] -/
noncomputable def en_slices_ContainsFunc (dyn : Value → (List tAtom) → Option Bool) (s_ : (List (List tAtom))) (f : Value) : Option Bool :=
  (slices_IndexFunc dyn s_ f).bind fun t7 =>
  some (decide ((0 : Int) ≤ t7))
noncomputable def slices_ContainsFunc (dyn : Value → (List tAtom) → Option Bool) (s_ : (List (List tAtom))) (f : Value) : Option Bool := en_slices_ContainsFunc dyn s_ f
/-! ### (onceweb/value.args).ints$1 -/
noncomputable def value_args_ints_1 (v : (List tAtom)) : Option Bool :=
  (value_top v).bind fun t4 =>
  some (!decide (t4.1 = (1 : Int)))
/-! ### (onceweb/value.args).ints -/
noncomputable def en_value_args_ints (a : (List (List tAtom))) : Option Bool :=
  (slices_ContainsFunc (fun v_ a0 => if fnIs v_ 74 = true then value_args_ints_1 a0 else none) a (fnv 74)).bind fun t4 =>
  some (!t4)
noncomputable def value_args_ints (a : (List (List tAtom))) : Option Bool := en_value_args_ints a
/-! ### onceweb/value.number -/
noncomputable def value_number (n : Int) : Option ((List tAtom) × Bool) :=
  (value_Int n).bind fun t8 =>
  some (t8.1, (decide (t8.2 = (0 : Int))))
/-! ### (onceweb/value.args).add -/
noncomputable def value_args_add (a : (List (List tAtom))) : Option ((List tAtom) × Bool) :=
  (value_args_ints a).bind fun t5 =>
  if (!t5) = true then
  some (([] : List tAtom), false)
  else
  G (0 ≤ (0 : Int) ∧ (0 : Int) < (a.length : Int)) <|
  G (0 ≤ (0 : Int) ∧ (0 : Int) < ((a.getD (0 : Int).toNat ([] : List tAtom)).length : Int)) <|
  G (0 ≤ (1 : Int) ∧ (1 : Int) < (a.length : Int)) <|
  G (0 ≤ (0 : Int) ∧ (0 : Int) < ((a.getD (1 : Int).toNat ([] : List tAtom)).length : Int)) <|
  (value_number (w64 (((a.getD (0 : Int).toNat ([] : List tAtom)).getD (0 : Int).toNat dAtom).2.2.1 + ((a.getD (1 : Int).toNat ([] : List tAtom)).getD (0 : Int).toNat dAtom).2.2.1))).bind fun t20 =>
  some (t20.1, t20.2)
/-! ### (onceweb/value.args).sub -/
noncomputable def value_args_sub (a : (List (List tAtom))) : Option ((List tAtom) × Bool) :=
  (value_args_ints a).bind fun t5 =>
  if (!t5) = true then
  some (([] : List tAtom), false)
  else
  G (0 ≤ (0 : Int) ∧ (0 : Int) < (a.length : Int)) <|
  G (0 ≤ (0 : Int) ∧ (0 : Int) < ((a.getD (0 : Int).toNat ([] : List tAtom)).length : Int)) <|
  G (0 ≤ (1 : Int) ∧ (1 : Int) < (a.length : Int)) <|
  G (0 ≤ (0 : Int) ∧ (0 : Int) < ((a.getD (1 : Int).toNat ([] : List tAtom)).length : Int)) <|
  (value_number (w64 (((a.getD (0 : Int).toNat ([] : List tAtom)).getD (0 : Int).toNat dAtom).2.2.1 - ((a.getD (1 : Int).toNat ([] : List tAtom)).getD (0 : Int).toNat dAtom).2.2.1))).bind fun t20 =>
  some (t20.1, t20.2)
/-! ### onceweb/value.size -/
noncomputable def value_size (n : Int) : Option Int :=
  some (mxI n (w64 (0 - n)))
/-! ### (onceweb/value.args).mul -/
noncomputable def value_args_mul (a : (List (List tAtom))) : Option ((List tAtom) × Bool) :=
  (value_args_ints a).bind fun t7 =>
  if (!t7) = true then
  some (([] : List tAtom), false)
  else
  G (0 ≤ (0 : Int) ∧ (0 : Int) < (a.length : Int)) <|
  G (0 ≤ (0 : Int) ∧ (0 : Int) < ((a.getD (0 : Int).toNat ([] : List tAtom)).length : Int)) <|
  G (0 ≤ (1 : Int) ∧ (1 : Int) < (a.length : Int)) <|
  G (0 ≤ (0 : Int) ∧ (0 : Int) < ((a.getD (1 : Int).toNat ([] : List tAtom)).length : Int)) <|
  (if (!decide (((a.getD (0 : Int).toNat ([] : List tAtom)).getD (0 : Int).toNat dAtom).2.2.1 = (0 : Int))) = true then value_size (((a.getD (1 : Int).toNat ([] : List tAtom)).getD (0 : Int).toNat dAtom).2.2.1) else some (0 : Int)).bind fun t25 =>
  (if (!decide (((a.getD (0 : Int).toNat ([] : List tAtom)).getD (0 : Int).toNat dAtom).2.2.1 = (0 : Int))) = true then value_size (((a.getD (0 : Int).toNat ([] : List tAtom)).getD (0 : Int).toNat dAtom).2.2.1) else some (0 : Int)).bind fun t27 =>
  G ((!decide (((a.getD (0 : Int).toNat ([] : List tAtom)).getD (0 : Int).toNat dAtom).2.2.1 = (0 : Int))) = true → (t27 ≠ 0)) <|
  if ((!decide (((a.getD (0 : Int).toNat ([] : List tAtom)).getD (0 : Int).toNat dAtom).2.2.1 = (0 : Int))) && (decide ((w64 (Int.tdiv (9007199254740992 : Int) t27)) < t25))) = true then
  some (([] : List tAtom), false)
  else
  (value_number (w64 (((a.getD (0 : Int).toNat ([] : List tAtom)).getD (0 : Int).toNat dAtom).2.2.1 * ((a.getD (1 : Int).toNat ([] : List tAtom)).getD (0 : Int).toNat dAtom).2.2.1))).bind fun t34 =>
  some (t34.1, t34.2)
/-! ### (onceweb/value.args).join -/
noncomputable def value_args_join (a : (List (List tAtom))) : Option ((List tAtom) × Bool) :=
  G (0 ≤ (0 : Int) ∧ (0 : Int) < (a.length : Int)) <|
  (value_top (a.getD (0 : Int).toNat ([] : List tAtom))).bind fun t9 =>
  G (0 ≤ (1 : Int) ∧ (1 : Int) < (a.length : Int)) <|
  (value_top (a.getD (1 : Int).toNat ([] : List tAtom))).bind fun t13 =>
  if ((!decide (t9.1 = t13.1)) || (decide (t9.1 = (1 : Int)))) = true then
  some (([] : List tAtom), false)
  else
  if (decide (t9.1 = (2 : Int))) = true then
  (if (decide ((4096 : Int) < (w64 ((t9.2.2.2.1.length : Int) + (t13.2.2.2.1.length : Int))))) = true then
  some (([] : List tAtom), false)
  else
  G (t9.2.2.2.1.length + t13.2.2.2.1.length ≤ 9223372036854775807) <|
  some (([((2 : Int), (0 : Int), (0 : Int), (t9.2.2.2.1 ++ t13.2.2.2.1), ())] : List tAtom), true))
  else
  G (0 ≤ (0 : Int) ∧ (0 : Int) < (a.length : Int)) <|
  (value_members (a.getD (0 : Int).toNat ([] : List tAtom))).bind fun t47 =>
  G (0 ≤ (1 : Int) ∧ (1 : Int) < (a.length : Int)) <|
  (value_members (a.getD (1 : Int).toNat ([] : List tAtom))).bind fun t51 =>
  G ((t47.length + t51.length) * 24 ≤ 140737488355328) <|
  (value_made (t47 ++ t51)).bind fun t53 =>
  some (t53.1, t53.2)
/-! ### (onceweb/value.args).item -/
noncomputable def value_args_item (a : (List (List tAtom))) : Option ((List tAtom) × Bool) :=
  G (0 ≤ (0 : Int) ∧ (0 : Int) < (a.length : Int)) <|
  (value_top (a.getD (0 : Int).toNat ([] : List tAtom))).bind fun t9 =>
  G (0 ≤ (1 : Int) ∧ (1 : Int) < (a.length : Int)) <|
  (value_top (a.getD (1 : Int).toNat ([] : List tAtom))).bind fun t13 =>
  if ((((!decide (t9.1 = (3 : Int))) || (!decide (t13.1 = (1 : Int)))) || (decide (t13.2.2.1 < (0 : Int)))) || (decide (t9.2.1 ≤ t13.2.2.1))) = true then
  some (([] : List tAtom), false)
  else
  G (0 ≤ (0 : Int) ∧ (0 : Int) < (a.length : Int)) <|
  (value_members (a.getD (0 : Int).toNat ([] : List tAtom))).bind fun t37 =>
  G (0 ≤ t13.2.2.1 ∧ t13.2.2.1 < (t37.length : Int)) <|
  (slices_Clone (t37.getD t13.2.2.1.toNat ([] : List tAtom))).bind fun t42 =>
  some (t42, true)
/-! ### (onceweb/value.args).size -/
noncomputable def value_args_size (a : (List (List tAtom))) : Option ((List tAtom) × Bool) :=
  G (0 ≤ (0 : Int) ∧ (0 : Int) < (a.length : Int)) <|
  (value_top (a.getD (0 : Int).toNat ([] : List tAtom))).bind fun t8 =>
  if (decide (t8.1 = (2 : Int))) = true then
  ((value_number (t8.2.2.2.1.length : Int)).bind fun t16 =>
  some (t16.1, t16.2))
  else
  if (decide (t8.1 = (3 : Int))) = true then
  ((value_number t8.2.1).bind fun t23 =>
  some (t23.1, t23.2))
  else
  some (([] : List tAtom), false)
/-! ### onceweb/value.truth -/
noncomputable def value_truth (b : Bool) : Option ((List tAtom) × Bool) :=
  if b = true then
  ((value_number (1 : Int)).bind fun t5 =>
  some (t5.1, t5.2))
  else
  (value_number (0 : Int)).bind fun t8 =>
  some (t8.1, t8.2)
/-! ### (onceweb/value.args).less -/
noncomputable def value_args_less (a : (List (List tAtom))) : Option ((List tAtom) × Bool) :=
  G (0 ≤ (0 : Int) ∧ (0 : Int) < (a.length : Int)) <|
  G (0 ≤ (1 : Int) ∧ (1 : Int) < (a.length : Int)) <|
  (value_compare (a.getD (0 : Int).toNat ([] : List tAtom)) (a.getD (1 : Int).toNat ([] : List tAtom))).bind fun t10 =>
  (value_truth (decide (t10 < (0 : Int)))).bind fun t12 =>
  some (t12.1, t12.2)
/-! ### (onceweb/value.args).same -/
noncomputable def value_args_same (a : (List (List tAtom))) : Option ((List tAtom) × Bool) :=
  G (0 ≤ (0 : Int) ∧ (0 : Int) < (a.length : Int)) <|
  G (0 ≤ (1 : Int) ∧ (1 : Int) < (a.length : Int)) <|
  (value_compare (a.getD (0 : Int).toNat ([] : List tAtom)) (a.getD (1 : Int).toNat ([] : List tAtom))).bind fun t10 =>
  (value_truth (decide (t10 = (0 : Int)))).bind fun t12 =>
  some (t12.1, t12.2)
/-! ### onceweb/value.way -/
noncomputable def value_way (kind : Int) : Option (Int × Value) :=
  if (decide (kind = (5 : Int))) = true then
  some ((-1 : Int), (fnv 52))
  else
  if (decide (kind = (6 : Int))) = true then
  some ((2 : Int), (fnv 53))
  else
  if (decide (kind = (7 : Int))) = true then
  some ((2 : Int), (fnv 54))
  else
  if (decide (kind = (8 : Int))) = true then
  some ((2 : Int), (fnv 55))
  else
  if (decide (kind = (9 : Int))) = true then
  some ((2 : Int), (fnv 56))
  else
  if (decide (kind = (10 : Int))) = true then
  some ((2 : Int), (fnv 57))
  else
  if (decide (kind = (11 : Int))) = true then
  some ((1 : Int), (fnv 58))
  else
  if (decide (kind = (12 : Int))) = true then
  some ((2 : Int), (fnv 59))
  else
  if (decide (kind = (13 : Int))) = true then
  some ((2 : Int), (fnv 60))
  else
  some ((0 : Int), Value.nilFunc)
/-! ### onceweb/value.Do -/
noncomputable def dyn_value_Do (v_ : Value) (a0 : (List (List tAtom))) : Option ((List tAtom) × Bool) :=
  if fnIs v_ 52 = true then value_args_list a0 else
  if fnIs v_ 53 = true then value_args_add a0 else
  if fnIs v_ 54 = true then value_args_sub a0 else
  if fnIs v_ 55 = true then value_args_mul a0 else
  if fnIs v_ 56 = true then value_args_join a0 else
  if fnIs v_ 57 = true then value_args_item a0 else
  if fnIs v_ 58 = true then value_args_size a0 else
  if fnIs v_ 59 = true then value_args_less a0 else
  if fnIs v_ 60 = true then value_args_same a0 else
   none
noncomputable def en_value_Do (kind : Int) (l : (List (List tAtom))) : Option ((List tAtom) × Bool × Int) :=
  (value_way kind).bind fun t14 =>
  G (isFnV t14.2 = true) <|
  if (isNilF t14.2) = true then
  some (([] : List tAtom), false, (1 : Int))
  else
  if (decide ((4096 : Int) < (l.length : Int))) = true then
  some (([] : List tAtom), false, (3 : Int))
  else
  if ((decide ((0 : Int) ≤ t14.1)) && (!decide ((l.length : Int) = t14.1))) = true then
  some (([] : List tAtom), false, (5 : Int))
  else
  (value_first l).bind fun t34 =>
  if (!decide (t34 = (0 : Int))) = true then
  some (([] : List tAtom), false, t34)
  else
  (dyn_value_Do t14.2 l).bind fun t41 =>
  if (!t41.2) = true then
  some (([] : List tAtom), false, (0 : Int))
  else
  some (t41.1, true, (0 : Int))
noncomputable def value_Do (kind : Int) (l : (List (List tAtom))) : Option ((List tAtom) × Bool × Int) := en_value_Do kind l
/-! ### onceweb/oncewebref07.number -/
noncomputable def ref07_number (n : Int) : Option ((List tAtom) × Bool) :=
  (ref07_Int n).bind fun t8 =>
  some (t8.1, (decide (t8.2 = (0 : Int))))
/-! ### onceweb/oncewebref07.size -/
noncomputable def ref07_size (n : Int) : Option Int :=
  if (decide (n < (0 : Int))) = true then
  some (w64 (0 - n))
  else
  some n
/-! ### onceweb/oncewebref07.do -/
inductive L_ref07_do where
  | l28 (kind : Int) (a : Int) (a' : Int) (a'' : Int) (a''' : (List UInt8)) (b : Int) (b' : Int) (b'' : Int) (b''' : (List UInt8))
noncomputable def sg_ref07_do_28 (kind : Int) (a : Int) (a' : Int) (a'' : Int) (a''' : (List UInt8)) (b : Int) (b' : Int) (b'' : Int) (b''' : (List UInt8)) : Option (L_ref07_do ⊕ ((List tAtom) × Bool)) :=
  if ((!decide (a = (1 : Int))) || (!decide (b = (1 : Int)))) = true then
  some (.inr (([] : List tAtom), false))
  else
  if (decide (kind = (6 : Int))) = true then
  ((ref07_number (w64 (a'' + b''))).bind fun t164 =>
  some (.inr (t164.1, t164.2)))
  else
  if (decide (kind = (7 : Int))) = true then
  ((ref07_number (w64 (a'' - b''))).bind fun t174 =>
  some (.inr (t174.1, t174.2)))
  else
  (if ((!decide (a'' = (0 : Int))) && (!decide (b'' = (0 : Int)))) = true then ref07_size a'' else some (0 : Int)).bind fun t188 =>
  (if ((!decide (a'' = (0 : Int))) && (!decide (b'' = (0 : Int)))) = true then ref07_size b'' else some (0 : Int)).bind fun t191 =>
  G (((!decide (a'' = (0 : Int))) && (!decide (b'' = (0 : Int)))) = true → (t191 ≠ 0)) <|
  if (((!decide (a'' = (0 : Int))) && (!decide (b'' = (0 : Int)))) && (decide ((w64 (Int.tdiv (9007199254740992 : Int) t191)) < t188))) = true then
  some (.inr (([] : List tAtom), false))
  else
  (ref07_number (w64 (a'' * b''))).bind fun t200 =>
  some (.inr (t200.1, t200.2))
noncomputable def st_ref07_do : L_ref07_do → Option (L_ref07_do ⊕ ((List tAtom) × Bool))
  | .l28 kind a a' a'' a''' b b' b'' b''' => sg_ref07_do_28 kind a a' a'' a''' b b' b'' b'''
noncomputable def en_ref07_do (kind : Int) (args : (List (List tAtom))) : Option (L_ref07_do ⊕ ((List tAtom) × Bool)) :=
  if (decide (kind = (5 : Int))) = true then
  ((ref07_made args).bind fun t16 =>
  some (.inr (t16.1, t16.2)))
  else
  if (decide (kind = (11 : Int))) = true then
  (G (0 ≤ (0 : Int) ∧ (0 : Int) < (args.length : Int)) <|
  (ref07_whole (args.getD (0 : Int).toNat ([] : List tAtom))).bind fun t24 =>
  if (decide (t24.1 = (1 : Int))) = true then
  some (.inr (([] : List tAtom), false))
  else
  (ref07_number (w64 ((t24.2.2.2.1.length : Int) + t24.2.1))).bind fun t34 =>
  some (.inr (t34.1, t34.2)))
  else
  G (0 ≤ (0 : Int) ∧ (0 : Int) < (args.length : Int)) <|
  (ref07_whole (args.getD (0 : Int).toNat ([] : List tAtom))).bind fun t40 =>
  G (0 ≤ (1 : Int) ∧ (1 : Int) < (args.length : Int)) <|
  (ref07_whole (args.getD (1 : Int).toNat ([] : List tAtom))).bind fun t44 =>
  if (decide (kind = (12 : Int))) = true then
  (if (decide (kind = (12 : Int))) = true then
  (G (0 ≤ (0 : Int) ∧ (0 : Int) < (args.length : Int)) <|
  G (0 ≤ (1 : Int) ∧ (1 : Int) < (args.length : Int)) <|
  (ref07_compare (args.getD (0 : Int).toNat ([] : List tAtom)) (args.getD (1 : Int).toNat ([] : List tAtom))).bind fun t55 =>
  if (((decide (kind = (12 : Int))) && (decide (t55 < (0 : Int)))) || ((decide (kind = (13 : Int))) && (decide (t55 = (0 : Int))))) = true then
  ((ref07_number (1 : Int)).bind fun t70 =>
  some (.inr (t70.1, t70.2)))
  else
  (ref07_number (0 : Int)).bind fun t73 =>
  some (.inr (t73.1, t73.2)))
  else
  if (decide (kind = (10 : Int))) = true then
  (if ((((!decide (t40.1 = (3 : Int))) || (!decide (t44.1 = (1 : Int)))) || (decide (t44.2.2.1 < (0 : Int)))) || (decide (t40.2.1 ≤ t44.2.2.1))) = true then
  some (.inr (([] : List tAtom), false))
  else
  G (0 ≤ (0 : Int) ∧ (0 : Int) < (args.length : Int)) <|
  (ref07_members (args.getD (0 : Int).toNat ([] : List tAtom))).bind fun t101 =>
  G (0 ≤ t44.2.2.1 ∧ t44.2.2.1 < (t101.length : Int)) <|
  some (.inr ((t101.getD t44.2.2.1.toNat ([] : List tAtom)), true)))
  else
  if (decide (kind = (9 : Int))) = true then
  (if ((decide (t40.1 = (2 : Int))) && (decide (t44.1 = (2 : Int)))) = true then
  (G (t40.2.2.2.1.length + t44.2.2.2.1.length ≤ 9223372036854775807) <|
  (ref07_Text (t40.2.2.2.1 ++ t44.2.2.2.1)).bind fun t122 =>
  some (.inr (t122.1, (decide (t122.2 = (0 : Int))))))
  else
  if ((decide (t40.1 = (3 : Int))) && (decide (t44.1 = (3 : Int)))) = true then
  (G (0 ≤ (0 : Int) ∧ (0 : Int) < (args.length : Int)) <|
  (ref07_members (args.getD (0 : Int).toNat ([] : List tAtom))).bind fun t139 =>
  G (0 ≤ (1 : Int) ∧ (1 : Int) < (args.length : Int)) <|
  (ref07_members (args.getD (1 : Int).toNat ([] : List tAtom))).bind fun t143 =>
  G ((t139.length + t143.length) * 24 ≤ 140737488355328) <|
  (ref07_made (t139 ++ t143)).bind fun t145 =>
  some (.inr (t145.1, t145.2)))
  else
  some (.inr (([] : List tAtom), false)))
  else
  some (.inl (.l28 kind t40.1 t40.2.1 t40.2.2.1 t40.2.2.2.1 t44.1 t44.2.1 t44.2.2.1 t44.2.2.2.1)))
  else
  if (decide (kind = (13 : Int))) = true then
  (G (0 ≤ (0 : Int) ∧ (0 : Int) < (args.length : Int)) <|
  G (0 ≤ (1 : Int) ∧ (1 : Int) < (args.length : Int)) <|
  (ref07_compare (args.getD (0 : Int).toNat ([] : List tAtom)) (args.getD (1 : Int).toNat ([] : List tAtom))).bind fun t55 =>
  if (((decide (kind = (12 : Int))) && (decide (t55 < (0 : Int)))) || ((decide (kind = (13 : Int))) && (decide (t55 = (0 : Int))))) = true then
  ((ref07_number (1 : Int)).bind fun t70 =>
  some (.inr (t70.1, t70.2)))
  else
  (ref07_number (0 : Int)).bind fun t73 =>
  some (.inr (t73.1, t73.2)))
  else
  if (decide (kind = (10 : Int))) = true then
  (if ((((!decide (t40.1 = (3 : Int))) || (!decide (t44.1 = (1 : Int)))) || (decide (t44.2.2.1 < (0 : Int)))) || (decide (t40.2.1 ≤ t44.2.2.1))) = true then
  some (.inr (([] : List tAtom), false))
  else
  G (0 ≤ (0 : Int) ∧ (0 : Int) < (args.length : Int)) <|
  (ref07_members (args.getD (0 : Int).toNat ([] : List tAtom))).bind fun t101 =>
  G (0 ≤ t44.2.2.1 ∧ t44.2.2.1 < (t101.length : Int)) <|
  some (.inr ((t101.getD t44.2.2.1.toNat ([] : List tAtom)), true)))
  else
  if (decide (kind = (9 : Int))) = true then
  (if ((decide (t40.1 = (2 : Int))) && (decide (t44.1 = (2 : Int)))) = true then
  (G (t40.2.2.2.1.length + t44.2.2.2.1.length ≤ 9223372036854775807) <|
  (ref07_Text (t40.2.2.2.1 ++ t44.2.2.2.1)).bind fun t122 =>
  some (.inr (t122.1, (decide (t122.2 = (0 : Int))))))
  else
  if ((decide (t40.1 = (3 : Int))) && (decide (t44.1 = (3 : Int)))) = true then
  (G (0 ≤ (0 : Int) ∧ (0 : Int) < (args.length : Int)) <|
  (ref07_members (args.getD (0 : Int).toNat ([] : List tAtom))).bind fun t139 =>
  G (0 ≤ (1 : Int) ∧ (1 : Int) < (args.length : Int)) <|
  (ref07_members (args.getD (1 : Int).toNat ([] : List tAtom))).bind fun t143 =>
  G ((t139.length + t143.length) * 24 ≤ 140737488355328) <|
  (ref07_made (t139 ++ t143)).bind fun t145 =>
  some (.inr (t145.1, t145.2)))
  else
  some (.inr (([] : List tAtom), false)))
  else
  some (.inl (.l28 kind t40.1 t40.2.1 t40.2.2.1 t40.2.2.2.1 t44.1 t44.2.1 t44.2.2.1 t44.2.2.2.1))
noncomputable def ref07_do (kind : Int) (args : (List (List tAtom))) : Option ((List tAtom) × Bool) := runL st_ref07_do (en_ref07_do kind args)
/-! ### onceweb/oncewebref07.Do -/
noncomputable def ref07_Do (kind : Int) (args : (List (List tAtom))) : Option ((List tAtom) × Bool × Int) :=
  if ((!decide (kind = (5 : Int))) && ((decide (kind < (6 : Int))) || (decide ((13 : Int) < kind)))) = true then
  some (([] : List tAtom), false, (1 : Int))
  else
  if (decide ((4096 : Int) < (args.length : Int))) = true then
  some (([] : List tAtom), false, (3 : Int))
  else
  if (((decide (kind = (11 : Int))) && (!decide ((args.length : Int) = (1 : Int)))) || (((!decide (kind = (11 : Int))) && (!decide (kind = (5 : Int)))) && (!decide ((args.length : Int) = (2 : Int))))) = true then
  some (([] : List tAtom), false, (5 : Int))
  else
  (ref07_first args).bind fun t44 =>
  if (!decide (t44 = (0 : Int))) = true then
  some (([] : List tAtom), false, t44)
  else
  (ref07_do kind args).bind fun t51 =>
  if (!t51.2) = true then
  some (([] : List tAtom), false, (0 : Int))
  else
  some (t51.1, true, (0 : Int))
/-! ### onceweb/value.Word -/
noncomputable def value_Word (kind : Int) : Option (List UInt8) :=
  if (decide (kind = (5 : Int))) = true then
  some ([108, 105, 115, 116] : List UInt8)
  else
  if (decide (kind = (6 : Int))) = true then
  some ([97, 100, 100] : List UInt8)
  else
  if (decide (kind = (7 : Int))) = true then
  some ([115, 117, 98] : List UInt8)
  else
  if (decide (kind = (8 : Int))) = true then
  some ([109, 117, 108] : List UInt8)
  else
  if (decide (kind = (9 : Int))) = true then
  some ([106, 111, 105, 110] : List UInt8)
  else
  if (decide (kind = (10 : Int))) = true then
  some ([105, 116, 101, 109] : List UInt8)
  else
  if (decide (kind = (11 : Int))) = true then
  some ([115, 105, 122, 101] : List UInt8)
  else
  if (decide (kind = (12 : Int))) = true then
  some ([108, 101, 115, 115] : List UInt8)
  else
  if (decide (kind = (13 : Int))) = true then
  some ([115, 97, 109, 101] : List UInt8)
  else
  if (decide (kind = (14 : Int))) = true then
  some ([105, 102] : List UInt8)
  else
  if (decide (kind = (16 : Int))) = true then
  some ([102, 97, 105, 108] : List UInt8)
  else
  if (decide (kind = (17 : Int))) = true then
  some ([112, 97, 110, 105, 99] : List UInt8)
  else
  some ([] : List UInt8)
/-! ### onceweb/oncewebref07.Word -/
noncomputable def ref07_Word (kind : Int) : Option (List UInt8) :=
  if (decide (kind = (5 : Int))) = true then
  some ([108, 105, 115, 116] : List UInt8)
  else
  if (decide (kind = (6 : Int))) = true then
  some ([97, 100, 100] : List UInt8)
  else
  if (decide (kind = (7 : Int))) = true then
  some ([115, 117, 98] : List UInt8)
  else
  if (decide (kind = (8 : Int))) = true then
  some ([109, 117, 108] : List UInt8)
  else
  if (decide (kind = (9 : Int))) = true then
  some ([106, 111, 105, 110] : List UInt8)
  else
  if (decide (kind = (10 : Int))) = true then
  some ([105, 116, 101, 109] : List UInt8)
  else
  if (decide (kind = (11 : Int))) = true then
  some ([115, 105, 122, 101] : List UInt8)
  else
  if (decide (kind = (12 : Int))) = true then
  some ([108, 101, 115, 115] : List UInt8)
  else
  if (decide (kind = (13 : Int))) = true then
  some ([115, 97, 109, 101] : List UInt8)
  else
  if (decide (kind = (14 : Int))) = true then
  some ([105, 102] : List UInt8)
  else
  if (decide (kind = (16 : Int))) = true then
  some ([102, 97, 105, 108] : List UInt8)
  else
  if (decide (kind = (17 : Int))) = true then
  some ([112, 97, 110, 105, 99] : List UInt8)
  else
  some ([] : List UInt8)
/-! ### onceweb/onceweblaw07.ValueDoes -/
noncomputable def law07_ValueDoes (kind : Int) (args : (List (List tAtom))) : Option Bool :=
  (law07_copied args).bind fun t13 =>
  (value_Do kind t13).bind fun t17 =>
  (ref07_Do kind args).bind fun t24 =>
  (if (!((!decide (t17.2.2 = t24.2.2)) || (!(t17.2.1 == t24.2.1)))) = true then base_SameValue t17.1 t24.1 else some false).bind fun t39 =>
  (if (!(((!decide (t17.2.2 = t24.2.2)) || (!(t17.2.1 == t24.2.1))) || (!t39))) = true then value_Word kind else some ([] : List UInt8)).bind fun t44 =>
  (if (!(((!decide (t17.2.2 = t24.2.2)) || (!(t17.2.1 == t24.2.1))) || (!t39))) = true then ref07_Word kind else some ([] : List UInt8)).bind fun t46 =>
  if ((((!decide (t17.2.2 = t24.2.2)) || (!(t17.2.1 == t24.2.1))) || (!t39)) || (!decide (t44 = t46))) = true then
  some false
  else
  (law07_values t13 args).bind fun t53 =>
  some t53
end Go.Eng
