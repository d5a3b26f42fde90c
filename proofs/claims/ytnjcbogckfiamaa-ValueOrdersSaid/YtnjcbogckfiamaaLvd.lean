/- A part of the proof: Lvd. -/
import Derived.Test.YtnjcbogckfiamaaD3
namespace Go.Eng
set_option linter.unusedVariables false
set_option linter.unusedSimpArgs false
abbrev tyAtom : Ty := rowOf [(.int .i64), (.int .i64), (.int .i64), .str]
abbrev tAtom := Int × Int × Int × (List UInt8) × Unit
abbrev dAtom : tAtom := ((0 : Int), (0 : Int), (0 : Int), ([] : List UInt8), ())
abbrev tywhole : Ty := rowOf [(.int .i64), (.int .i64)]
abbrev twhole := Int × Int × Unit
abbrev dwhole : twhole := ((0 : Int), (0 : Int), ())
noncomputable def base_CopyValue (v : (List tAtom)) : Option (List tAtom) :=
  G ((([] : List tAtom).length + v.length) * 40 ≤ 140737488355328) <|
  some v
inductive L_law07_copied where
  | l3 (l : (List (List tAtom))) (out : (List (List tAtom))) (i : Int)
noncomputable def sg_law07_copied_3 (l : (List (List tAtom))) (out : (List (List tAtom))) (i : Int) : Option (L_law07_copied ⊕ (List (List tAtom))) :=
  if (decide (i < (l.length : Int))) = true then
  (G (0 ≤ i ∧ i < (l.length : Int)) <|
  (base_CopyValue (l.getD i.toNat ([] : List tAtom))).bind fun t17 =>
  G ((out.length + ([t17] : List (List tAtom)).length) * 24 ≤ 140737488355328) <|
  some (.inl (.l3 l (out ++ ([t17] : List (List tAtom))) (w64 (i + (1 : Int))))))
  else
  some (.inr out)
noncomputable def st_law07_copied : L_law07_copied → Option (L_law07_copied ⊕ (List (List tAtom)))
  | .l3 l out i => sg_law07_copied_3 l out i
noncomputable def en_law07_copied (l : (List (List tAtom))) : Option (L_law07_copied ⊕ (List (List tAtom))) :=
  some (.inl (.l3 l ([] : List (List tAtom)) (0 : Int)))
noncomputable def law07_copied (l : (List (List tAtom))) : Option (List (List tAtom)) := runL st_law07_copied (en_law07_copied l)
inductive L_base_SameValue where
  | l4 (a : (List tAtom)) (b : (List tAtom)) (i : Int)
noncomputable def sg_base_SameValue_4 (a : (List tAtom)) (b : (List tAtom)) (i : Int) : Option (L_base_SameValue ⊕ Bool) :=
  if (decide (i < (a.length : Int))) = true then
  (G (0 ≤ i ∧ i < (a.length : Int)) <|
  G (0 ≤ i ∧ i < (b.length : Int)) <|
  if (!(eqR tyAtom (a.getD i.toNat dAtom) (b.getD i.toNat dAtom))) = true then
  some (.inr false)
  else
  some (.inl (.l4 a b (w64 (i + (1 : Int))))))
  else
  some (.inr true)
noncomputable def st_base_SameValue : L_base_SameValue → Option (L_base_SameValue ⊕ Bool)
  | .l4 a b i => sg_base_SameValue_4 a b i
noncomputable def en_base_SameValue (a : (List tAtom)) (b : (List tAtom)) : Option (L_base_SameValue ⊕ Bool) :=
  if (!decide ((a.length : Int) = (b.length : Int))) = true then
  some (.inr false)
  else
  some (.inl (.l4 a b (0 : Int)))
noncomputable def base_SameValue (a : (List tAtom)) (b : (List tAtom)) : Option Bool := runL st_base_SameValue (en_base_SameValue a b)
inductive L_law07_values where
  | l4 (a : (List (List tAtom))) (b : (List (List tAtom))) (i : Int)
noncomputable def sg_law07_values_4 (a : (List (List tAtom))) (b : (List (List tAtom))) (i : Int) : Option (L_law07_values ⊕ Bool) :=
  if (decide (i < (a.length : Int))) = true then
  (G (0 ≤ i ∧ i < (a.length : Int)) <|
  G (0 ≤ i ∧ i < (b.length : Int)) <|
  (base_SameValue (a.getD i.toNat ([] : List tAtom)) (b.getD i.toNat ([] : List tAtom))).bind fun t25 =>
  if (!t25) = true then
  some (.inr false)
  else
  some (.inl (.l4 a b (w64 (i + (1 : Int))))))
  else
  some (.inr true)
noncomputable def st_law07_values : L_law07_values → Option (L_law07_values ⊕ Bool)
  | .l4 a b i => sg_law07_values_4 a b i
noncomputable def en_law07_values (a : (List (List tAtom))) (b : (List (List tAtom))) : Option (L_law07_values ⊕ Bool) :=
  if (!decide ((a.length : Int) = (b.length : Int))) = true then
  some (.inr false)
  else
  some (.inl (.l4 a b (0 : Int)))
noncomputable def law07_values (a : (List (List tAtom))) (b : (List (List tAtom))) : Option Bool := runL st_law07_values (en_law07_values a b)
noncomputable def value_well (a : tAtom) : Option Bool :=
  if (decide (a.1 = (1 : Int))) = true then
  some ((((decide (a.2.1 = (0 : Int))) && (decide (a.2.2.2.1 = ([] : List UInt8)))) && (decide ((-9007199254740992 : Int) ≤ a.2.2.1))) && (decide (a.2.2.1 ≤ (9007199254740992 : Int))))
  else
  if (decide (a.1 = (2 : Int))) = true then
  some (((decide (a.2.1 = (0 : Int))) && (decide (a.2.2.1 = (0 : Int)))) && (decide ((a.2.2.2.1.length : Int) ≤ (4096 : Int))))
  else
  if (decide (a.1 = (3 : Int))) = true then
  some (((decide ((0 : Int) ≤ a.2.1)) && (decide (a.2.2.1 = (0 : Int)))) && (decide (a.2.2.2.1 = ([] : List UInt8))))
  else
  some false
inductive L_value_wholes where
  | l3 (out : (List twhole)) (stack : (List twhole)) (x16 : (List tAtom)) (x17 : Int) (x18 : Int)
  | l10 (out : (List twhole)) (stack : (List twhole)) (i : Int) (k : Int) (w : Int) (w' : Int) (x16 : (List tAtom)) (x17 : Int) (x18 : Int) (x42 : Nat) (x42' : Nat) (x43 : Int) (x44 : Int)
noncomputable def sg_value_wholes_3 (out : (List twhole)) (stack : (List twhole)) (x16 : (List tAtom)) (x17 : Int) (x18 : Int) : Option (L_value_wholes ⊕ ((List twhole) × Bool)) :=
  if (decide (x18 < x17)) = true then
  (G (0 ≤ x18 ∧ x18 < (x16.length : Int)) <|
  (value_well ((x16.getD x18.toNat dAtom).1, (x16.getD x18.toNat dAtom).2.1, (x16.getD x18.toNat dAtom).2.2.1, (x16.getD x18.toNat dAtom).2.2.2.1, ())).bind fun t24 =>
  if ((!t24) || (decide ((stack.length : Int) < (x16.getD x18.toNat dAtom).2.1))) = true then
  some (.inr (([] : List twhole), false))
  else
  G (0 ≤ (w64 ((stack.length : Int) - (x16.getD x18.toNat dAtom).2.1)) ∧ (w64 ((stack.length : Int) - (x16.getD x18.toNat dAtom).2.1)) ≤ (stack.length : Int)) <|
  some (.inl (.l10 out stack x18 (w64 ((stack.length : Int) - (x16.getD x18.toNat dAtom).2.1)) ((x18, (1 : Int), ()).1) ((x18, (1 : Int), ()).2.1) x16 x17 x18 ((w64 ((stack.length : Int) - (x16.getD x18.toNat dAtom).2.1)).toNat) (stack.length - (w64 ((stack.length : Int) - (x16.getD x18.toNat dAtom).2.1)).toNat) (((stack.length - (w64 ((stack.length : Int) - (x16.getD x18.toNat dAtom).2.1)).toNat) : Nat) : Int) (0 : Int))))
  else
  some (.inr (out, (decide ((stack.length : Int) = (1 : Int)))))
noncomputable def sg_value_wholes_10 (out : (List twhole)) (stack : (List twhole)) (i : Int) (k : Int) (w : Int) (w' : Int) (x16 : (List tAtom)) (x17 : Int) (x18 : Int) (x42 : Nat) (x42' : Nat) (x43 : Int) (x44 : Int) : Option (L_value_wholes ⊕ ((List twhole) × Bool)) :=
  if (decide (x44 < x43)) = true then
  (G (0 ≤ x44 ∧ x44 < (x42' : Int)) <|
  if (decide (x44 = (0 : Int))) = true then
  some (.inl (.l10 out stack i k ((stack.getD (x42 + x44.toNat) dwhole).1) (mxI w' (w64 ((stack.getD (x42 + x44.toNat) dwhole).2.1 + (1 : Int)))) x16 x17 x18 x42 x42' x43 (w64 (x44 + (1 : Int)))))
  else
  some (.inl (.l10 out stack i k w (mxI w' (w64 ((stack.getD (x42 + x44.toNat) dwhole).2.1 + (1 : Int)))) x16 x17 x18 x42 x42' x43 (w64 (x44 + (1 : Int))))))
  else
  if (decide ((32 : Int) < w')) = true then
  some (.inr (([] : List twhole), false))
  else
  G (0 ≤ i ∧ i < (out.length : Int)) <|
  G (0 ≤ k ∧ k ≤ (stack.length : Int)) <|
  G ((k.toNat + ([(w, w', ())] : List twhole).length) * 16 ≤ 140737488355328) <|
  some (.inl (.l3 (out.set i.toNat (w, w', ())) ((stack.take k.toNat) ++ ([(w, w', ())] : List twhole)) x16 x17 (w64 (x18 + (1 : Int)))))
noncomputable def st_value_wholes : L_value_wholes → Option (L_value_wholes ⊕ ((List twhole) × Bool))
  | .l3 out stack x16 x17 x18 => sg_value_wholes_3 out stack x16 x17 x18
  | .l10 out stack i k w w' x16 x17 x18 x42 x42' x43 x44 => sg_value_wholes_10 out stack i k w w' x16 x17 x18 x42 x42' x43 x44
noncomputable def en_value_wholes (v : (List tAtom)) : Option (L_value_wholes ⊕ ((List twhole) × Bool)) :=
  G (0 ≤ (v.length : Int) ∧ (v.length : Int) ≤ (v.length : Int) ∧ (16 : Int) * (v.length : Int) ≤ 281474976710656) <|
  some (.inl (.l3 (List.replicate (v.length : Int).toNat dwhole) ([] : List twhole) v (v.length : Int) (0 : Int)))
noncomputable def value_wholes (v : (List tAtom)) : Option ((List twhole) × Bool) := runL st_value_wholes (en_value_wholes v)
noncomputable def value_Check (v : (List tAtom)) : Option Int :=
  if (decide ((1024 : Int) < (v.length : Int))) = true then
  some (3 : Int)
  else
  (value_wholes v).bind fun t10 =>
  if (!t10.2) = true then
  some (5 : Int)
  else
  some (0 : Int)
noncomputable def value_top (v : (List tAtom)) : Option tAtom :=
  G (0 ≤ (w64 ((v.length : Int) - (1 : Int))) ∧ (w64 ((v.length : Int) - (1 : Int))) < (v.length : Int)) <|
  some ((v.getD (w64 ((v.length : Int) - (1 : Int))).toNat dAtom).1, (v.getD (w64 ((v.length : Int) - (1 : Int))).toNat dAtom).2.1, (v.getD (w64 ((v.length : Int) - (1 : Int))).toNat dAtom).2.2.1, (v.getD (w64 ((v.length : Int) - (1 : Int))).toNat dAtom).2.2.2.1, ())
inductive L_value_members where
  | l5 (v : (List tAtom)) (w : (List twhole)) (out : (List (List tAtom))) (end_ : Int) (i : Int)
noncomputable def sg_value_members_5 (v : (List tAtom)) (w : (List twhole)) (out : (List (List tAtom))) (end_ : Int) (i : Int) : Option (L_value_members ⊕ (List (List tAtom))) :=
  if (decide ((0 : Int) ≤ i)) = true then
  (G (0 ≤ (w64 (end_ - (1 : Int))) ∧ (w64 (end_ - (1 : Int))) < (w.length : Int)) <|
  G (0 ≤ (w.getD ((w64 (end_ - (1 : Int))).toNat) dwhole).1 ∧ (w.getD ((w64 (end_ - (1 : Int))).toNat) dwhole).1 ≤ end_ ∧ end_ ≤ end_ ∧ end_ ≤ (v.length : Int)) <|
  G (0 ≤ i ∧ i < (out.length : Int)) <|
  some (.inl (.l5 v w (out.set i.toNat (cut v ((w.getD ((w64 (end_ - (1 : Int))).toNat) dwhole).1).toNat end_.toNat)) ((w.getD ((w64 (end_ - (1 : Int))).toNat) dwhole).1) (w64 (i - (1 : Int))))))
  else
  some (.inr out)
noncomputable def st_value_members : L_value_members → Option (L_value_members ⊕ (List (List tAtom)))
  | .l5 v w out end_ i => sg_value_members_5 v w out end_ i
noncomputable def en_value_members (v : (List tAtom)) : Option (L_value_members ⊕ (List (List tAtom))) :=
  (value_wholes v).bind fun t11 =>
  (value_top v).bind fun t15 =>
  G (0 ≤ t15.2.1 ∧ t15.2.1 ≤ t15.2.1 ∧ (24 : Int) * t15.2.1 ≤ 281474976710656) <|
  some (.inl (.l5 v t11.1 (List.replicate t15.2.1.toNat ([] : List tAtom)) (w64 ((v.length : Int) - (1 : Int))) (w64 ((((List.replicate t15.2.1.toNat ([] : List tAtom)).length : Nat) : Int) - (1 : Int)))))
noncomputable def value_members (v : (List tAtom)) : Option (List (List tAtom)) := runL st_value_members (en_value_members v)
noncomputable def cmp_isNaN (x : Int) : Option Bool :=
  some (!decide (x = x))
noncomputable def cmp_Compare (x : Int) (y : Int) : Option Int :=
  (cmp_isNaN x).bind fun t8 =>
  (cmp_isNaN y).bind fun t10 =>
  if t8 = true then
  (if t10 = true then
  some (0 : Int)
  else
  some (-1 : Int))
  else
  if t10 = true then
  some (1 : Int)
  else
  if (decide (x < y)) = true then
  some (-1 : Int)
  else
  if (decide (y < x)) = true then
  some (1 : Int)
  else
  some (0 : Int)
noncomputable def bytealg_abigen_runtime_cmpstring (a b : List UInt8) : Option Int := some (Lib.compareBytes a b)
noncomputable def bytealg_CompareString (a : (List UInt8)) (b : (List UInt8)) : Option Int :=
  (bytealg_abigen_runtime_cmpstring a b).bind fun t7 =>
  some t7
noncomputable def strings_Compare (a : (List UInt8)) (b : (List UInt8)) : Option Int :=
  (bytealg_CompareString a b).bind fun t7 =>
  some t7
inductive L_slices_CompareFunc where
  | l2 (s1 : (List (List tAtom))) (s2 : (List (List tAtom))) (cmp : Value) (x11 : (List (List tAtom))) (x12 : Int) (x13 : Int)
noncomputable def sg_slices_CompareFunc_2 (dyn : Value → (List tAtom) → (List tAtom) → Option Int) (s1 : (List (List tAtom))) (s2 : (List (List tAtom))) (cmp : Value) (x11 : (List (List tAtom))) (x12 : Int) (x13 : Int) : Option (L_slices_CompareFunc ⊕ Int) :=
  if (decide (x13 < x12)) = true then
  (G (0 ≤ x13 ∧ x13 < (x11.length : Int)) <|
  if (decide ((s2.length : Int) ≤ x13)) = true then
  some (.inr (1 : Int))
  else
  G (0 ≤ x13 ∧ x13 < (s2.length : Int)) <|
  (dyn cmp (x11.getD x13.toNat ([] : List tAtom)) (s2.getD x13.toNat ([] : List tAtom))).bind fun t29 =>
  if (!decide (t29 = (0 : Int))) = true then
  some (.inr t29)
  else
  some (.inl (.l2 s1 s2 cmp x11 x12 (w64 (x13 + (1 : Int))))))
  else
  if (decide ((s1.length : Int) < (s2.length : Int))) = true then
  some (.inr (-1 : Int))
  else
  some (.inr (0 : Int))
noncomputable def st_slices_CompareFunc (dyn : Value → (List tAtom) → (List tAtom) → Option Int) : L_slices_CompareFunc → Option (L_slices_CompareFunc ⊕ Int)
  | .l2 s1 s2 cmp x11 x12 x13 => sg_slices_CompareFunc_2 dyn s1 s2 cmp x11 x12 x13
noncomputable def en_slices_CompareFunc (dyn : Value → (List tAtom) → (List tAtom) → Option Int) (s1 : (List (List tAtom))) (s2 : (List (List tAtom))) (cmp : Value) : Option (L_slices_CompareFunc ⊕ Int) :=
  some (.inl (.l2 s1 s2 cmp s1 (s1.length : Int) (0 : Int)))
noncomputable def slices_CompareFunc (dyn : Value → (List tAtom) → (List tAtom) → Option Int) (s1 : (List (List tAtom))) (s2 : (List (List tAtom))) (cmp : Value) : Option Int := runL (st_slices_CompareFunc dyn) (en_slices_CompareFunc dyn s1 s2 cmp)
noncomputable def en_value_compare (rc : (List tAtom) → (List tAtom) → Option Int) (a : (List tAtom)) (b : (List tAtom)) : Option Int :=
  (value_top a).bind fun t8 =>
  (value_top b).bind fun t10 =>
  if (!decide (t8.1 = t10.1)) = true then
  ((cmp_Compare t8.1 t10.1).bind fun t21 =>
  some t21)
  else
  if (decide (t8.1 = (1 : Int))) = true then
  ((cmp_Compare t8.2.2.1 t10.2.2.1).bind fun t30 =>
  some t30)
  else
  if (decide (t8.1 = (2 : Int))) = true then
  ((strings_Compare t8.2.2.2.1 t10.2.2.2.1).bind fun t39 =>
  some t39)
  else
  (value_members a).bind fun t41 =>
  (value_members b).bind fun t43 =>
  (slices_CompareFunc (fun v_ a0 a1 => if fnIs v_ 40 = true then rc a0 a1 else none) t41 t43 (fnv 40)).bind fun t44 =>
  some t44
noncomputable def value_compare_n : Nat → (List tAtom) → (List tAtom) → Option Int
  | 0, _, _ => none
  | fu_ + 1, a, b => en_value_compare (value_compare_n fu_) a b
noncomputable def value_compare (a : (List tAtom)) (b : (List tAtom)) : Option Int := value_compare_n 64 a b
noncomputable def value_Compare (a : (List tAtom)) (b : (List tAtom)) : Option (Int × Int) :=
  (value_Check a).bind fun t9 =>
  if (!decide (t9 = (0 : Int))) = true then
  some ((0 : Int), t9)
  else
  (value_Check b).bind fun t14 =>
  if (!decide (t14 = (0 : Int))) = true then
  some ((0 : Int), t14)
  else
  (value_compare a b).bind fun t20 =>
  some (t20, (0 : Int))
noncomputable def ref07_atom (a : tAtom) : Option Bool :=
  if (decide (a.1 = (1 : Int))) = true then
  some ((((decide (a.2.1 = (0 : Int))) && (decide (a.2.2.2.1 = ([] : List UInt8)))) && (decide ((-9007199254740992 : Int) ≤ a.2.2.1))) && (decide (a.2.2.1 ≤ (9007199254740992 : Int))))
  else
  if (decide (a.1 = (2 : Int))) = true then
  some (((decide (a.2.1 = (0 : Int))) && (decide (a.2.2.1 = (0 : Int)))) && (decide ((a.2.2.2.1.length : Int) ≤ (4096 : Int))))
  else
  if (decide (a.1 = (3 : Int))) = true then
  some (((decide ((0 : Int) ≤ a.2.1)) && (decide (a.2.2.1 = (0 : Int)))) && (decide (a.2.2.2.1 = ([] : List UInt8))))
  else
  some false
inductive L_ref07_begins where
  | l5 (v : (List tAtom)) (from_ : (List Int)) (stack : (List Int)) (deep : (List Int)) (i : Int)
  | l15 (v : (List tAtom)) (from_ : (List Int)) (stack : (List Int)) (deep : (List Int)) (i : Int) (n : Int) (b : Int) (d : Int) (k : Int)
  | l20 (v : (List tAtom)) (from_ : (List Int)) (stack : (List Int)) (deep : (List Int)) (i : Int) (b : Int) (d : Int)
noncomputable def sg_ref07_begins_5 (v : (List tAtom)) (from_ : (List Int)) (stack : (List Int)) (deep : (List Int)) (i : Int) : Option (L_ref07_begins ⊕ ((List Int) × Int × Bool)) :=
  if (decide (i < (v.length : Int))) = true then
  (G (0 ≤ i ∧ i < (v.length : Int)) <|
  G (0 ≤ i ∧ i < (v.length : Int)) <|
  (ref07_atom (v.getD i.toNat dAtom)).bind fun t31 =>
  if ((!t31) || (decide ((stack.length : Int) < (v.getD i.toNat dAtom).2.1))) = true then
  some (.inr (([] : List Int), (0 : Int), false))
  else
  if (decide ((0 : Int) < (v.getD i.toNat dAtom).2.1)) = true then
  (G (0 ≤ (w64 ((stack.length : Int) - (v.getD i.toNat dAtom).2.1)) ∧ (w64 ((stack.length : Int) - (v.getD i.toNat dAtom).2.1)) < (stack.length : Int)) <|
  some (.inl (.l15 v from_ stack deep i ((v.getD i.toNat dAtom).2.1) (stack.getD ((w64 ((stack.length : Int) - (v.getD i.toNat dAtom).2.1)).toNat) (0 : Int)) (0 : Int) (0 : Int))))
  else
  some (.inl (.l20 v from_ stack deep i i (0 : Int))))
  else
  if (!decide ((stack.length : Int) = (1 : Int))) = true then
  some (.inr (([] : List Int), (0 : Int), false))
  else
  G (0 ≤ (0 : Int) ∧ (0 : Int) < (deep.length : Int)) <|
  some (.inr (from_, (deep.getD ((0 : Int).toNat) (0 : Int)), true))
noncomputable def sg_ref07_begins_15 (v : (List tAtom)) (from_ : (List Int)) (stack : (List Int)) (deep : (List Int)) (i : Int) (n : Int) (b : Int) (d : Int) (k : Int) : Option (L_ref07_begins ⊕ ((List Int) × Int × Bool)) :=
  if (decide (k < n)) = true then
  (G (0 ≤ (w64 ((w64 ((deep.length : Int) - (1 : Int))) - k)) ∧ (w64 ((w64 ((deep.length : Int) - (1 : Int))) - k)) < (deep.length : Int)) <|
  some (.inl (.l15 v from_ stack deep i n b (mxI d (deep.getD ((w64 ((w64 ((deep.length : Int) - (1 : Int))) - k)).toNat) (0 : Int))) (w64 (k + (1 : Int))))))
  else
  G (0 ≤ (w64 ((stack.length : Int) - n)) ∧ (w64 ((stack.length : Int) - n)) ≤ (stack.length : Int)) <|
  G (0 ≤ (w64 ((deep.length : Int) - n)) ∧ (w64 ((deep.length : Int) - n)) ≤ (deep.length : Int)) <|
  some (.inl (.l20 v from_ (stack.take ((w64 ((stack.length : Int) - n)).toNat)) (deep.take ((w64 ((deep.length : Int) - n)).toNat)) i b d))
noncomputable def sg_ref07_begins_20 (v : (List tAtom)) (from_ : (List Int)) (stack : (List Int)) (deep : (List Int)) (i : Int) (b : Int) (d : Int) : Option (L_ref07_begins ⊕ ((List Int) × Int × Bool)) :=
  G ((stack.length + ([b] : List Int).length) * 8 ≤ 140737488355328) <|
  G ((deep.length + ([(w64 (d + (1 : Int)))] : List Int).length) * 8 ≤ 140737488355328) <|
  G ((from_.length + ([b] : List Int).length) * 8 ≤ 140737488355328) <|
  some (.inl (.l5 v (from_ ++ ([b] : List Int)) (stack ++ ([b] : List Int)) (deep ++ ([(w64 (d + (1 : Int)))] : List Int)) (w64 (i + (1 : Int)))))
noncomputable def st_ref07_begins : L_ref07_begins → Option (L_ref07_begins ⊕ ((List Int) × Int × Bool))
  | .l5 v from_ stack deep i => sg_ref07_begins_5 v from_ stack deep i
  | .l15 v from_ stack deep i n b d k => sg_ref07_begins_15 v from_ stack deep i n b d k
  | .l20 v from_ stack deep i b d => sg_ref07_begins_20 v from_ stack deep i b d
noncomputable def en_ref07_begins (v : (List tAtom)) : Option (L_ref07_begins ⊕ ((List Int) × Int × Bool)) :=
  some (.inl (.l5 v ([] : List Int) ([] : List Int) ([] : List Int) (0 : Int)))
noncomputable def ref07_begins (v : (List tAtom)) : Option ((List Int) × Int × Bool) := runL st_ref07_begins (en_ref07_begins v)
noncomputable def ref07_Check (v : (List tAtom)) : Option Int :=
  if (decide ((1024 : Int) < (v.length : Int))) = true then
  some (3 : Int)
  else
  (ref07_begins v).bind fun t11 =>
  if ((!t11.2.2) || (decide ((32 : Int) < t11.2.1))) = true then
  some (5 : Int)
  else
  some (0 : Int)
noncomputable def ref07_whole (v : (List tAtom)) : Option tAtom :=
  G (0 ≤ (w64 ((v.length : Int) - (1 : Int))) ∧ (w64 ((v.length : Int) - (1 : Int))) < (v.length : Int)) <|
  some ((v.getD (w64 ((v.length : Int) - (1 : Int))).toNat dAtom).1, (v.getD (w64 ((v.length : Int) - (1 : Int))).toNat dAtom).2.1, (v.getD (w64 ((v.length : Int) - (1 : Int))).toNat dAtom).2.2.1, (v.getD (w64 ((v.length : Int) - (1 : Int))).toNat dAtom).2.2.2.1, ())
inductive L_ref07_members where
  | l6 (v : (List tAtom)) (from_ : (List Int)) (out : (List (List tAtom))) (k : Int) (i : Int)
noncomputable def sg_ref07_members_6 (v : (List tAtom)) (from_ : (List Int)) (out : (List (List tAtom))) (k : Int) (i : Int) : Option (L_ref07_members ⊕ (List (List tAtom))) :=
  if (decide ((0 : Int) ≤ i)) = true then
  (G (0 ≤ k ∧ k < (from_.length : Int)) <|
  G (0 ≤ (from_.getD k.toNat (0 : Int)) ∧ (from_.getD k.toNat (0 : Int)) ≤ (w64 (k + (1 : Int))) ∧ (w64 (k + (1 : Int))) ≤ (v.length : Int)) <|
  (base_CopyValue (cut v (from_.getD k.toNat (0 : Int)).toNat (w64 (k + (1 : Int))).toNat)).bind fun t40 =>
  G (0 ≤ i ∧ i < (out.length : Int)) <|
  G (0 ≤ k ∧ k < (from_.length : Int)) <|
  some (.inl (.l6 v from_ (out.set i.toNat t40) (w64 ((from_.getD k.toNat (0 : Int)) - (1 : Int))) (w64 (i - (1 : Int))))))
  else
  some (.inr out)
noncomputable def st_ref07_members : L_ref07_members → Option (L_ref07_members ⊕ (List (List tAtom)))
  | .l6 v from_ out k i => sg_ref07_members_6 v from_ out k i
noncomputable def en_ref07_members (v : (List tAtom)) : Option (L_ref07_members ⊕ (List (List tAtom))) :=
  (ref07_begins v).bind fun t12 =>
  (ref07_whole v).bind fun t17 =>
  G (0 ≤ t17.2.1 ∧ t17.2.1 ≤ t17.2.1 ∧ (24 : Int) * t17.2.1 ≤ 281474976710656) <|
  some (.inl (.l6 v t12.1 (List.replicate t17.2.1.toNat ([] : List tAtom)) (w64 ((v.length : Int) - (2 : Int))) (w64 (t17.2.1 - (1 : Int)))))
noncomputable def ref07_members (v : (List tAtom)) : Option (List (List tAtom)) := runL st_ref07_members (en_ref07_members v)
noncomputable def ref07_sign (n : Int) : Option Int :=
  if (decide (n < (0 : Int))) = true then
  some (-1 : Int)
  else
  if (decide ((0 : Int) < n)) = true then
  some (1 : Int)
  else
  some (0 : Int)
inductive L_ref07_compare where
  | l15 (p : (List (List tAtom))) (q : (List (List tAtom))) (i : Int)
noncomputable def sg_ref07_compare_15 (rc : (List tAtom) → (List tAtom) → Option Int) (p : (List (List tAtom))) (q : (List (List tAtom))) (i : Int) : Option (L_ref07_compare ⊕ Int) :=
  if ((decide (i < (p.length : Int))) && (decide (i < (q.length : Int)))) = true then
  (G (0 ≤ i ∧ i < (p.length : Int)) <|
  G (0 ≤ i ∧ i < (q.length : Int)) <|
  (rc (p.getD i.toNat ([] : List tAtom)) (q.getD i.toNat ([] : List tAtom))).bind fun t72 =>
  if (!decide (t72 = (0 : Int))) = true then
  some (.inr t72)
  else
  some (.inl (.l15 p q (w64 (i + (1 : Int))))))
  else
  (ref07_sign (w64 ((p.length : Int) - (q.length : Int)))).bind fun t81 =>
  some (.inr t81)
noncomputable def st_ref07_compare (rc : (List tAtom) → (List tAtom) → Option Int) : L_ref07_compare → Option (L_ref07_compare ⊕ Int)
  | .l15 p q i => sg_ref07_compare_15 rc p q i
noncomputable def en_ref07_compare (rc : (List tAtom) → (List tAtom) → Option Int) (a : (List tAtom)) (b : (List tAtom)) : Option (L_ref07_compare ⊕ Int) :=
  (ref07_whole a).bind fun t12 =>
  (ref07_whole b).bind fun t14 =>
  if (!decide (t12.1 = t14.1)) = true then
  ((ref07_sign (w64 (t12.1 - t14.1))).bind fun t25 =>
  some (.inr t25))
  else
  if (decide (t12.1 = (1 : Int))) = true then
  ((ref07_sign (w64 (t12.2.2.1 - t14.2.2.1))).bind fun t35 =>
  some (.inr t35))
  else
  if (decide (t12.1 = (2 : Int))) = true then
  (if (Op.bytesLess t12.2.2.2.1 t14.2.2.2.1) = true then
  some (.inr (-1 : Int))
  else
  if (!(Op.bytesLess t12.2.2.2.1 t14.2.2.2.1 || decide (t12.2.2.2.1 = t14.2.2.2.1))) = true then
  some (.inr (1 : Int))
  else
  some (.inr (0 : Int)))
  else
  (ref07_members a).bind fun t49 =>
  (ref07_members b).bind fun t51 =>
  some (.inl (.l15 t49 t51 (0 : Int)))
noncomputable def ref07_compare_n : Nat → (List tAtom) → (List tAtom) → Option Int
  | 0, _, _ => none
  | fu_ + 1, a, b => runL (st_ref07_compare (ref07_compare_n fu_)) (en_ref07_compare (ref07_compare_n fu_) a b)
noncomputable def ref07_compare (a : (List tAtom)) (b : (List tAtom)) : Option Int := ref07_compare_n 64 a b
inductive L_ref07_Compare where
  | l4 (a : (List tAtom)) (b : (List tAtom)) (e : Int)
noncomputable def sg_ref07_Compare_4 (a : (List tAtom)) (b : (List tAtom)) (e : Int) : Option (L_ref07_Compare ⊕ (Int × Int)) :=
  if (!decide (e = (0 : Int))) = true then
  some (.inr ((0 : Int), e))
  else
  (ref07_compare a b).bind fun t18 =>
  some (.inr (t18, (0 : Int)))
noncomputable def st_ref07_Compare : L_ref07_Compare → Option (L_ref07_Compare ⊕ (Int × Int))
  | .l4 a b e => sg_ref07_Compare_4 a b e
noncomputable def en_ref07_Compare (a : (List tAtom)) (b : (List tAtom)) : Option (L_ref07_Compare ⊕ (Int × Int)) :=
  (ref07_Check a).bind fun t8 =>
  if (decide (t8 = (0 : Int))) = true then
  ((ref07_Check b).bind fun t12 =>
  some (.inl (.l4 a b t12)))
  else
  some (.inl (.l4 a b t8))
noncomputable def ref07_Compare (a : (List tAtom)) (b : (List tAtom)) : Option (Int × Int) := runL st_ref07_Compare (en_ref07_Compare a b)
inductive L_value_first where
  | l2 (x6 : (List (List tAtom))) (x7 : Int) (x8 : Int)
noncomputable def sg_value_first_2 (x6 : (List (List tAtom))) (x7 : Int) (x8 : Int) : Option (L_value_first ⊕ Int) :=
  if (decide (x8 < x7)) = true then
  (G (0 ≤ x8 ∧ x8 < (x6.length : Int)) <|
  (value_Check (x6.getD x8.toNat ([] : List tAtom))).bind fun t13 =>
  if (!decide (t13 = (0 : Int))) = true then
  some (.inr t13)
  else
  some (.inl (.l2 x6 x7 (w64 (x8 + (1 : Int))))))
  else
  some (.inr (0 : Int))
noncomputable def st_value_first : L_value_first → Option (L_value_first ⊕ Int)
  | .l2 x6 x7 x8 => sg_value_first_2 x6 x7 x8
noncomputable def en_value_first (l : (List (List tAtom))) : Option (L_value_first ⊕ Int) :=
  some (.inl (.l2 l (l.length : Int) (0 : Int)))
noncomputable def value_first (l : (List (List tAtom))) : Option Int := runL st_value_first (en_value_first l)
noncomputable def slices_Clone (s_ : List tAtom) : Option (List tAtom) := G ((([] : List tAtom).length + s_.length) * 40 ≤ 140737488355328) <| some s_
noncomputable def dyn_slices_insertionSortCmpFunc (v_ : Value) (a0 : (List tAtom)) (a1 : (List tAtom)) : Option Int :=
  if fnIs v_ 40 = true then value_compare a0 a1 else
   none
inductive L_slices_insertionSortCmpFunc where
  | l1 (data : (List (Bool × List tAtom))) (a : Int) (b : Int) (cmp : Value) (i : Int)
  | l4 (data : (List (Bool × List tAtom))) (a : Int) (b : Int) (cmp : Value) (i : Int) (j : Int)
noncomputable def sg_slices_insertionSortCmpFunc_1 (data : (List (Bool × List tAtom))) (a : Int) (b : Int) (cmp : Value) (i : Int) : Option (L_slices_insertionSortCmpFunc ⊕ (List (Bool × List tAtom))) :=
  if (decide (i < b)) = true then
  some (.inl (.l4 data a b cmp i i))
  else
  some (.inr data)
noncomputable def sg_slices_insertionSortCmpFunc_4 (data : (List (Bool × List tAtom))) (a : Int) (b : Int) (cmp : Value) (i : Int) (j : Int) : Option (L_slices_insertionSortCmpFunc ⊕ (List (Bool × List tAtom))) :=
  G ((decide (a < j)) = true → (0 ≤ j ∧ j < (data.length : Int))) <|
  G ((decide (a < j)) = true → ((el2D data j.toNat).1 = true)) <|
  G ((decide (a < j)) = true → (0 ≤ (w64 (j - (1 : Int))) ∧ (w64 (j - (1 : Int))) < (data.length : Int))) <|
  G ((decide (a < j)) = true → ((el2D data ((w64 (j - (1 : Int))).toNat)).1 = true)) <|
  G ((decide (a < j)) = true → ((el2D data j.toNat).2.length = (el2D data j.toNat).2.length)) <|
  G ((decide (a < j)) = true → ((el2D data ((w64 (j - (1 : Int))).toNat)).2.length = (el2D data ((w64 (j - (1 : Int))).toNat)).2.length)) <|
  (if (decide (a < j)) = true then dyn_slices_insertionSortCmpFunc cmp ((el2D data j.toNat).2) ((el2D data ((w64 (j - (1 : Int))).toNat)).2) else some (0 : Int)).bind fun t32 =>
  if ((decide (a < j)) && (decide (t32 < (0 : Int)))) = true then
  (G (0 ≤ (w64 (j - (1 : Int))) ∧ (w64 (j - (1 : Int))) < (data.length : Int)) <|
  G ((el2D data ((w64 (j - (1 : Int))).toNat)).1 = true) <|
  G (0 ≤ j ∧ j < (data.length : Int)) <|
  G ((el2D data j.toNat).1 = true) <|
  G (swC data j.toNat ((w64 (j - (1 : Int))).toNat) j (w64 (j - (1 : Int))) data.length ((el2D data ((w64 (j - (1 : Int))).toNat)).2.length) ((el2D data j.toNat).2.length)) <|
  some (.inl (.l4 ((data.set j.toNat (el2D data ((w64 (j - (1 : Int))).toNat))).set ((w64 (j - (1 : Int))).toNat) (el2D data j.toNat)) a b cmp i (w64 (j - (1 : Int))))))
  else
  some (.inl (.l1 data a b cmp (w64 (i + (1 : Int)))))
noncomputable def st_slices_insertionSortCmpFunc : L_slices_insertionSortCmpFunc → Option (L_slices_insertionSortCmpFunc ⊕ (List (Bool × List tAtom)))
  | .l1 data a b cmp i => sg_slices_insertionSortCmpFunc_1 data a b cmp i
  | .l4 data a b cmp i j => sg_slices_insertionSortCmpFunc_4 data a b cmp i j
noncomputable def en_slices_insertionSortCmpFunc (data : (List (Bool × List tAtom))) (a : Int) (b : Int) (cmp : Value) : Option (L_slices_insertionSortCmpFunc ⊕ (List (Bool × List tAtom))) :=
  some (.inl (.l1 data a b cmp (w64 (a + (1 : Int)))))
noncomputable def slices_insertionSortCmpFunc (data : (List (Bool × List tAtom))) (a : Int) (b : Int) (cmp : Value) : Option (List (Bool × List tAtom)) := runL (st_slices_insertionSortCmpFunc) (en_slices_insertionSortCmpFunc data a b cmp)
inductive L_slices_swapRangeCmpFunc where
  | l1 (data : (List (Bool × List tAtom))) (a : Int) (b : Int) (n : Int) (i : Int)
noncomputable def sg_slices_swapRangeCmpFunc_1 (data : (List (Bool × List tAtom))) (a : Int) (b : Int) (n : Int) (i : Int) : Option (L_slices_swapRangeCmpFunc ⊕ (List (Bool × List tAtom))) :=
  if (decide (i < n)) = true then
  (G (0 ≤ (w64 (b + i)) ∧ (w64 (b + i)) < (data.length : Int)) <|
  G ((el2D data ((w64 (b + i)).toNat)).1 = true) <|
  G (0 ≤ (w64 (a + i)) ∧ (w64 (a + i)) < (data.length : Int)) <|
  G ((el2D data ((w64 (a + i)).toNat)).1 = true) <|
  G (swC data ((w64 (a + i)).toNat) ((w64 (b + i)).toNat) (w64 (a + i)) (w64 (b + i)) data.length ((el2D data ((w64 (b + i)).toNat)).2.length) ((el2D data ((w64 (a + i)).toNat)).2.length)) <|
  some (.inl (.l1 ((data.set ((w64 (a + i)).toNat) (el2D data ((w64 (b + i)).toNat))).set ((w64 (b + i)).toNat) (el2D data ((w64 (a + i)).toNat))) a b n (w64 (i + (1 : Int))))))
  else
  some (.inr data)
noncomputable def st_slices_swapRangeCmpFunc : L_slices_swapRangeCmpFunc → Option (L_slices_swapRangeCmpFunc ⊕ (List (Bool × List tAtom)))
  | .l1 data a b n i => sg_slices_swapRangeCmpFunc_1 data a b n i
noncomputable def en_slices_swapRangeCmpFunc (data : (List (Bool × List tAtom))) (a : Int) (b : Int) (n : Int) (cmp : Value) : Option (L_slices_swapRangeCmpFunc ⊕ (List (Bool × List tAtom))) :=
  some (.inl (.l1 data a b n (0 : Int)))
noncomputable def slices_swapRangeCmpFunc (data : (List (Bool × List tAtom))) (a : Int) (b : Int) (n : Int) (cmp : Value) : Option (List (Bool × List tAtom)) := runL (st_slices_swapRangeCmpFunc) (en_slices_swapRangeCmpFunc data a b n cmp)
inductive L_slices_rotateCmpFunc where
  | l2 (data : (List (Bool × List tAtom))) (m : Int) (cmp : Value) (i : Int) (j : Int)
noncomputable def sg_slices_rotateCmpFunc_2 (data : (List (Bool × List tAtom))) (m : Int) (cmp : Value) (i : Int) (j : Int) : Option (L_slices_rotateCmpFunc ⊕ (List (Bool × List tAtom))) :=
  if (!decide (i = j)) = true then
  (if (decide (j < i)) = true then
  (G (data.length = data.length) <|
  (allR (slices_swapRangeCmpFunc data (w64 (m - i)) m j cmp)).bind fun t31 =>
  some (.inl (.l2 t31 m cmp (w64 (i - j)) j)))
  else
  G (data.length = data.length) <|
  (allR (slices_swapRangeCmpFunc data (w64 (m - i)) (w64 ((w64 (m + j)) - i)) i cmp)).bind fun t46 =>
  some (.inl (.l2 t46 m cmp i (w64 (j - i)))))
  else
  G (data.length = data.length) <|
  (allR (slices_swapRangeCmpFunc data (w64 (m - i)) m i cmp)).bind fun t57 =>
  some (.inr t57)
noncomputable def st_slices_rotateCmpFunc : L_slices_rotateCmpFunc → Option (L_slices_rotateCmpFunc ⊕ (List (Bool × List tAtom)))
  | .l2 data m cmp i j => sg_slices_rotateCmpFunc_2 data m cmp i j
noncomputable def en_slices_rotateCmpFunc (data : (List (Bool × List tAtom))) (a : Int) (m : Int) (b : Int) (cmp : Value) : Option (L_slices_rotateCmpFunc ⊕ (List (Bool × List tAtom))) :=
  some (.inl (.l2 data m cmp (w64 (m - a)) (w64 (b - m))))
noncomputable def slices_rotateCmpFunc (data : (List (Bool × List tAtom))) (a : Int) (m : Int) (b : Int) (cmp : Value) : Option (List (Bool × List tAtom)) := runL (st_slices_rotateCmpFunc) (en_slices_rotateCmpFunc data a m b cmp)
noncomputable def dyn_slices_symMergeCmpFunc (v_ : Value) (a0 : (List tAtom)) (a1 : (List tAtom)) : Option Int :=
  if fnIs v_ 40 = true then value_compare a0 a1 else
   none
inductive L_slices_symMergeCmpFunc where
  | l3 (data : (List (Bool × List tAtom))) (a : Int) (cmp : Value) (i : Int) (j : Int)
  | l15 (data : (List (Bool × List tAtom))) (m : Int) (cmp : Value) (i : Int) (j : Int)
  | l32 (data : (List (Bool × List tAtom))) (a : Int) (m : Int) (b : Int) (cmp : Value) (mid : Int) (n : Int) (start : Int) (r_ : Int)
  | l9 (data : (List (Bool × List tAtom))) (i : Int) (k : Int)
  | l21 (data : (List (Bool × List tAtom))) (i : Int) (k : Int)
  | l33 (data : (List (Bool × List tAtom))) (a : Int) (m : Int) (b : Int) (cmp : Value) (mid : Int) (n : Int) (start : Int) (r_ : Int) (p : Int)
  | l41 (data : (List (Bool × List tAtom))) (a : Int) (b : Int) (cmp : Value) (mid : Int) (start : Int) (end_ : Int)
  | l43 (data : (List (Bool × List tAtom))) (b : Int) (cmp : Value) (mid : Int) (end_ : Int)
noncomputable def sg_slices_symMergeCmpFunc_3 (rc : (List (Bool × List tAtom)) → Int → Int → Int → Value → Option (List (Bool × List tAtom))) (data : (List (Bool × List tAtom))) (a : Int) (cmp : Value) (i : Int) (j : Int) : Option (L_slices_symMergeCmpFunc ⊕ (List (Bool × List tAtom))) :=
  if (decide (i < j)) = true then
  (G (0 ≤ (w64 ((Int.fdiv (IntKind.wrap .u64 ((w64 (i + j)))) (2 ^ (min ((1 : Int)).toNat IntKind.u64.bits))))) ∧ (w64 ((Int.fdiv (IntKind.wrap .u64 ((w64 (i + j)))) (2 ^ (min ((1 : Int)).toNat IntKind.u64.bits))))) < (data.length : Int)) <|
  G ((el2D data ((w64 ((Int.fdiv (IntKind.wrap .u64 ((w64 (i + j)))) (2 ^ (min ((1 : Int)).toNat IntKind.u64.bits))))).toNat)).1 = true) <|
  G (0 ≤ a ∧ a < (data.length : Int)) <|
  G ((el2D data a.toNat).1 = true) <|
  G ((el2D data ((w64 ((Int.fdiv (IntKind.wrap .u64 ((w64 (i + j)))) (2 ^ (min ((1 : Int)).toNat IntKind.u64.bits))))).toNat)).2.length = (el2D data ((w64 ((Int.fdiv (IntKind.wrap .u64 ((w64 (i + j)))) (2 ^ (min ((1 : Int)).toNat IntKind.u64.bits))))).toNat)).2.length) <|
  G ((el2D data a.toNat).2.length = (el2D data a.toNat).2.length) <|
  (dyn_slices_symMergeCmpFunc cmp ((el2D data ((w64 ((Int.fdiv (IntKind.wrap .u64 ((w64 (i + j)))) (2 ^ (min ((1 : Int)).toNat IntKind.u64.bits))))).toNat)).2) ((el2D data a.toNat).2)).bind fun t49 =>
  if (decide (t49 < (0 : Int))) = true then
  some (.inl (.l3 data a cmp (w64 ((w64 ((Int.fdiv (IntKind.wrap .u64 ((w64 (i + j)))) (2 ^ (min ((1 : Int)).toNat IntKind.u64.bits))))) + (1 : Int))) j))
  else
  some (.inl (.l3 data a cmp i (w64 ((Int.fdiv (IntKind.wrap .u64 ((w64 (i + j)))) (2 ^ (min ((1 : Int)).toNat IntKind.u64.bits))))))))
  else
  some (.inl (.l9 data i a))
noncomputable def sg_slices_symMergeCmpFunc_15 (rc : (List (Bool × List tAtom)) → Int → Int → Int → Value → Option (List (Bool × List tAtom))) (data : (List (Bool × List tAtom))) (m : Int) (cmp : Value) (i : Int) (j : Int) : Option (L_slices_symMergeCmpFunc ⊕ (List (Bool × List tAtom))) :=
  if (decide (i < j)) = true then
  (G (0 ≤ m ∧ m < (data.length : Int)) <|
  G ((el2D data m.toNat).1 = true) <|
  G (0 ≤ (w64 ((Int.fdiv (IntKind.wrap .u64 ((w64 (i + j)))) (2 ^ (min ((1 : Int)).toNat IntKind.u64.bits))))) ∧ (w64 ((Int.fdiv (IntKind.wrap .u64 ((w64 (i + j)))) (2 ^ (min ((1 : Int)).toNat IntKind.u64.bits))))) < (data.length : Int)) <|
  G ((el2D data ((w64 ((Int.fdiv (IntKind.wrap .u64 ((w64 (i + j)))) (2 ^ (min ((1 : Int)).toNat IntKind.u64.bits))))).toNat)).1 = true) <|
  G ((el2D data m.toNat).2.length = (el2D data m.toNat).2.length) <|
  G ((el2D data ((w64 ((Int.fdiv (IntKind.wrap .u64 ((w64 (i + j)))) (2 ^ (min ((1 : Int)).toNat IntKind.u64.bits))))).toNat)).2.length = (el2D data ((w64 ((Int.fdiv (IntKind.wrap .u64 ((w64 (i + j)))) (2 ^ (min ((1 : Int)).toNat IntKind.u64.bits))))).toNat)).2.length) <|
  (dyn_slices_symMergeCmpFunc cmp ((el2D data m.toNat).2) ((el2D data ((w64 ((Int.fdiv (IntKind.wrap .u64 ((w64 (i + j)))) (2 ^ (min ((1 : Int)).toNat IntKind.u64.bits))))).toNat)).2)).bind fun t101 =>
  if (!(decide (t101 < (0 : Int)))) = true then
  some (.inl (.l15 data m cmp (w64 ((w64 ((Int.fdiv (IntKind.wrap .u64 ((w64 (i + j)))) (2 ^ (min ((1 : Int)).toNat IntKind.u64.bits))))) + (1 : Int))) j))
  else
  some (.inl (.l15 data m cmp i (w64 ((Int.fdiv (IntKind.wrap .u64 ((w64 (i + j)))) (2 ^ (min ((1 : Int)).toNat IntKind.u64.bits))))))))
  else
  some (.inl (.l21 data i m))
noncomputable def sg_slices_symMergeCmpFunc_32 (rc : (List (Bool × List tAtom)) → Int → Int → Int → Value → Option (List (Bool × List tAtom))) (data : (List (Bool × List tAtom))) (a : Int) (m : Int) (b : Int) (cmp : Value) (mid : Int) (n : Int) (start : Int) (r_ : Int) : Option (L_slices_symMergeCmpFunc ⊕ (List (Bool × List tAtom))) :=
  some (.inl (.l33 data a m b cmp mid n start r_ (w64 (n - (1 : Int)))))
noncomputable def sg_slices_symMergeCmpFunc_9 (rc : (List (Bool × List tAtom)) → Int → Int → Int → Value → Option (List (Bool × List tAtom))) (data : (List (Bool × List tAtom))) (i : Int) (k : Int) : Option (L_slices_symMergeCmpFunc ⊕ (List (Bool × List tAtom))) :=
  if (decide (k < (w64 (i - (1 : Int))))) = true then
  (G (0 ≤ (w64 (k + (1 : Int))) ∧ (w64 (k + (1 : Int))) < (data.length : Int)) <|
  G ((el2D data ((w64 (k + (1 : Int))).toNat)).1 = true) <|
  G (0 ≤ k ∧ k < (data.length : Int)) <|
  G ((el2D data k.toNat).1 = true) <|
  G (swC data k.toNat ((w64 (k + (1 : Int))).toNat) k (w64 (k + (1 : Int))) data.length ((el2D data ((w64 (k + (1 : Int))).toNat)).2.length) ((el2D data k.toNat).2.length)) <|
  some (.inl (.l9 ((data.set k.toNat (el2D data ((w64 (k + (1 : Int))).toNat))).set ((w64 (k + (1 : Int))).toNat) (el2D data k.toNat)) i (w64 (k + (1 : Int))))))
  else
  some (.inr data)
noncomputable def sg_slices_symMergeCmpFunc_21 (rc : (List (Bool × List tAtom)) → Int → Int → Int → Value → Option (List (Bool × List tAtom))) (data : (List (Bool × List tAtom))) (i : Int) (k : Int) : Option (L_slices_symMergeCmpFunc ⊕ (List (Bool × List tAtom))) :=
  if (decide (i < k)) = true then
  (G (0 ≤ (w64 (k - (1 : Int))) ∧ (w64 (k - (1 : Int))) < (data.length : Int)) <|
  G ((el2D data ((w64 (k - (1 : Int))).toNat)).1 = true) <|
  G (0 ≤ k ∧ k < (data.length : Int)) <|
  G ((el2D data k.toNat).1 = true) <|
  G (swC data k.toNat ((w64 (k - (1 : Int))).toNat) k (w64 (k - (1 : Int))) data.length ((el2D data ((w64 (k - (1 : Int))).toNat)).2.length) ((el2D data k.toNat).2.length)) <|
  some (.inl (.l21 ((data.set k.toNat (el2D data ((w64 (k - (1 : Int))).toNat))).set ((w64 (k - (1 : Int))).toNat) (el2D data k.toNat)) i (w64 (k - (1 : Int))))))
  else
  some (.inr data)
noncomputable def sg_slices_symMergeCmpFunc_33 (rc : (List (Bool × List tAtom)) → Int → Int → Int → Value → Option (List (Bool × List tAtom))) (data : (List (Bool × List tAtom))) (a : Int) (m : Int) (b : Int) (cmp : Value) (mid : Int) (n : Int) (start : Int) (r_ : Int) (p : Int) : Option (L_slices_symMergeCmpFunc ⊕ (List (Bool × List tAtom))) :=
  if (decide (start < r_)) = true then
  (G (0 ≤ (w64 (p - (w64 ((Int.fdiv (IntKind.wrap .u64 ((w64 (start + r_)))) (2 ^ (min ((1 : Int)).toNat IntKind.u64.bits))))))) ∧ (w64 (p - (w64 ((Int.fdiv (IntKind.wrap .u64 ((w64 (start + r_)))) (2 ^ (min ((1 : Int)).toNat IntKind.u64.bits))))))) < (data.length : Int)) <|
  G ((el2D data ((w64 (p - (w64 ((Int.fdiv (IntKind.wrap .u64 ((w64 (start + r_)))) (2 ^ (min ((1 : Int)).toNat IntKind.u64.bits))))))).toNat)).1 = true) <|
  G (0 ≤ (w64 ((Int.fdiv (IntKind.wrap .u64 ((w64 (start + r_)))) (2 ^ (min ((1 : Int)).toNat IntKind.u64.bits))))) ∧ (w64 ((Int.fdiv (IntKind.wrap .u64 ((w64 (start + r_)))) (2 ^ (min ((1 : Int)).toNat IntKind.u64.bits))))) < (data.length : Int)) <|
  G ((el2D data ((w64 ((Int.fdiv (IntKind.wrap .u64 ((w64 (start + r_)))) (2 ^ (min ((1 : Int)).toNat IntKind.u64.bits))))).toNat)).1 = true) <|
  G ((el2D data ((w64 (p - (w64 ((Int.fdiv (IntKind.wrap .u64 ((w64 (start + r_)))) (2 ^ (min ((1 : Int)).toNat IntKind.u64.bits))))))).toNat)).2.length = (el2D data ((w64 (p - (w64 ((Int.fdiv (IntKind.wrap .u64 ((w64 (start + r_)))) (2 ^ (min ((1 : Int)).toNat IntKind.u64.bits))))))).toNat)).2.length) <|
  G ((el2D data ((w64 ((Int.fdiv (IntKind.wrap .u64 ((w64 (start + r_)))) (2 ^ (min ((1 : Int)).toNat IntKind.u64.bits))))).toNat)).2.length = (el2D data ((w64 ((Int.fdiv (IntKind.wrap .u64 ((w64 (start + r_)))) (2 ^ (min ((1 : Int)).toNat IntKind.u64.bits))))).toNat)).2.length) <|
  (dyn_slices_symMergeCmpFunc cmp ((el2D data ((w64 (p - (w64 ((Int.fdiv (IntKind.wrap .u64 ((w64 (start + r_)))) (2 ^ (min ((1 : Int)).toNat IntKind.u64.bits))))))).toNat)).2) ((el2D data ((w64 ((Int.fdiv (IntKind.wrap .u64 ((w64 (start + r_)))) (2 ^ (min ((1 : Int)).toNat IntKind.u64.bits))))).toNat)).2)).bind fun t169 =>
  if (!(decide (t169 < (0 : Int)))) = true then
  some (.inl (.l33 data a m b cmp mid n (w64 ((w64 ((Int.fdiv (IntKind.wrap .u64 ((w64 (start + r_)))) (2 ^ (min ((1 : Int)).toNat IntKind.u64.bits))))) + (1 : Int))) r_ p))
  else
  some (.inl (.l33 data a m b cmp mid n start (w64 ((Int.fdiv (IntKind.wrap .u64 ((w64 (start + r_)))) (2 ^ (min ((1 : Int)).toNat IntKind.u64.bits))))) p)))
  else
  if ((decide (start < m)) && (decide (m < (w64 (n - start))))) = true then
  (G (data.length = data.length) <|
  (allR (slices_rotateCmpFunc data start m (w64 (n - start)) cmp)).bind fun t191 =>
  some (.inl (.l41 t191 a b cmp mid start (w64 (n - start)))))
  else
  some (.inl (.l41 data a b cmp mid start (w64 (n - start))))
noncomputable def sg_slices_symMergeCmpFunc_41 (rc : (List (Bool × List tAtom)) → Int → Int → Int → Value → Option (List (Bool × List tAtom))) (data : (List (Bool × List tAtom))) (a : Int) (b : Int) (cmp : Value) (mid : Int) (start : Int) (end_ : Int) : Option (L_slices_symMergeCmpFunc ⊕ (List (Bool × List tAtom))) :=
  if ((decide (a < start)) && (decide (start < mid))) = true then
  (G (data.length = data.length) <|
  (allR (rc data a start mid cmp)).bind fun t205 =>
  some (.inl (.l43 t205 b cmp mid end_)))
  else
  some (.inl (.l43 data b cmp mid end_))
noncomputable def sg_slices_symMergeCmpFunc_43 (rc : (List (Bool × List tAtom)) → Int → Int → Int → Value → Option (List (Bool × List tAtom))) (data : (List (Bool × List tAtom))) (b : Int) (cmp : Value) (mid : Int) (end_ : Int) : Option (L_slices_symMergeCmpFunc ⊕ (List (Bool × List tAtom))) :=
  if ((decide (mid < end_)) && (decide (end_ < b))) = true then
  (G (data.length = data.length) <|
  (allR (rc data mid end_ b cmp)).bind fun t219 =>
  some (.inr t219))
  else
  some (.inr data)
noncomputable def st_slices_symMergeCmpFunc (rc : (List (Bool × List tAtom)) → Int → Int → Int → Value → Option (List (Bool × List tAtom))) : L_slices_symMergeCmpFunc → Option (L_slices_symMergeCmpFunc ⊕ (List (Bool × List tAtom)))
  | .l3 data a cmp i j => sg_slices_symMergeCmpFunc_3 rc data a cmp i j
  | .l15 data m cmp i j => sg_slices_symMergeCmpFunc_15 rc data m cmp i j
  | .l32 data a m b cmp mid n start r_ => sg_slices_symMergeCmpFunc_32 rc data a m b cmp mid n start r_
  | .l9 data i k => sg_slices_symMergeCmpFunc_9 rc data i k
  | .l21 data i k => sg_slices_symMergeCmpFunc_21 rc data i k
  | .l33 data a m b cmp mid n start r_ p => sg_slices_symMergeCmpFunc_33 rc data a m b cmp mid n start r_ p
  | .l41 data a b cmp mid start end_ => sg_slices_symMergeCmpFunc_41 rc data a b cmp mid start end_
  | .l43 data b cmp mid end_ => sg_slices_symMergeCmpFunc_43 rc data b cmp mid end_
noncomputable def en_slices_symMergeCmpFunc (rc : (List (Bool × List tAtom)) → Int → Int → Int → Value → Option (List (Bool × List tAtom))) (data : (List (Bool × List tAtom))) (a : Int) (m : Int) (b : Int) (cmp : Value) : Option (L_slices_symMergeCmpFunc ⊕ (List (Bool × List tAtom))) :=
  if (decide ((w64 (m - a)) = (1 : Int))) = true then
  some (.inl (.l3 data a cmp m b))
  else
  if (decide ((w64 (b - m)) = (1 : Int))) = true then
  some (.inl (.l15 data m cmp a m))
  else
  if (decide ((w64 ((Int.fdiv (IntKind.wrap .u64 ((w64 (a + b)))) (2 ^ (min ((1 : Int)).toNat IntKind.u64.bits))))) < m)) = true then
  some (.inl (.l32 data a m b cmp (w64 ((Int.fdiv (IntKind.wrap .u64 ((w64 (a + b)))) (2 ^ (min ((1 : Int)).toNat IntKind.u64.bits))))) (w64 ((w64 ((Int.fdiv (IntKind.wrap .u64 ((w64 (a + b)))) (2 ^ (min ((1 : Int)).toNat IntKind.u64.bits))))) + m)) (w64 ((w64 ((w64 ((Int.fdiv (IntKind.wrap .u64 ((w64 (a + b)))) (2 ^ (min ((1 : Int)).toNat IntKind.u64.bits))))) + m)) - b)) (w64 ((Int.fdiv (IntKind.wrap .u64 ((w64 (a + b)))) (2 ^ (min ((1 : Int)).toNat IntKind.u64.bits)))))))
  else
  some (.inl (.l32 data a m b cmp (w64 ((Int.fdiv (IntKind.wrap .u64 ((w64 (a + b)))) (2 ^ (min ((1 : Int)).toNat IntKind.u64.bits))))) (w64 ((w64 ((Int.fdiv (IntKind.wrap .u64 ((w64 (a + b)))) (2 ^ (min ((1 : Int)).toNat IntKind.u64.bits))))) + m)) a m))
noncomputable def slices_symMergeCmpFunc_n : Nat → (List (Bool × List tAtom)) → Int → Int → Int → Value → Option (List (Bool × List tAtom))
  | 0, _, _, _, _, _ => none
  | fu_ + 1, data, a, m, b, cmp => runL (st_slices_symMergeCmpFunc (slices_symMergeCmpFunc_n fu_)) (en_slices_symMergeCmpFunc (slices_symMergeCmpFunc_n fu_) data a m b cmp)
noncomputable def slices_symMergeCmpFunc (data : (List (Bool × List tAtom))) (a : Int) (m : Int) (b : Int) (cmp : Value) : Option (List (Bool × List tAtom)) := slices_symMergeCmpFunc_n 200 data a m b cmp
inductive L_slices_stableCmpFunc where
  | l2 (data : (List (Bool × List tAtom))) (n : Int) (cmp : Value) (blockSize : Int) (a : Int) (b : Int)
  | l7 (data : (List (Bool × List tAtom))) (n : Int) (cmp : Value) (blockSize : Int)
  | l9 (data : (List (Bool × List tAtom))) (n : Int) (cmp : Value) (blockSize : Int) (a : Int) (b : Int)
noncomputable def sg_slices_stableCmpFunc_2 (data : (List (Bool × List tAtom))) (n : Int) (cmp : Value) (blockSize : Int) (a : Int) (b : Int) : Option (L_slices_stableCmpFunc ⊕ (List (Bool × List tAtom))) :=
  if (decide (b ≤ n)) = true then
  (G (data.length = data.length) <|
  (allR (slices_insertionSortCmpFunc data a b cmp)).bind fun t18 =>
  some (.inl (.l2 t18 n cmp blockSize b (w64 (b + blockSize)))))
  else
  G (data.length = data.length) <|
  (allR (slices_insertionSortCmpFunc data a n cmp)).bind fun t27 =>
  some (.inl (.l7 t27 n cmp blockSize))
noncomputable def sg_slices_stableCmpFunc_7 (data : (List (Bool × List tAtom))) (n : Int) (cmp : Value) (blockSize : Int) : Option (L_slices_stableCmpFunc ⊕ (List (Bool × List tAtom))) :=
  if (decide (blockSize < n)) = true then
  some (.inl (.l9 data n cmp blockSize (0 : Int) (w64 ((2 : Int) * blockSize))))
  else
  some (.inr data)
noncomputable def sg_slices_stableCmpFunc_9 (data : (List (Bool × List tAtom))) (n : Int) (cmp : Value) (blockSize : Int) (a : Int) (b : Int) : Option (L_slices_stableCmpFunc ⊕ (List (Bool × List tAtom))) :=
  if (decide (b ≤ n)) = true then
  (G (data.length = data.length) <|
  (allR (slices_symMergeCmpFunc data a (w64 (a + blockSize)) b cmp)).bind fun t43 =>
  some (.inl (.l9 t43 n cmp blockSize b (w64 (b + (w64 ((2 : Int) * blockSize)))))))
  else
  if (decide ((w64 (a + blockSize)) < n)) = true then
  (G (data.length = data.length) <|
  (allR (slices_symMergeCmpFunc data a (w64 (a + blockSize)) n cmp)).bind fun t60 =>
  some (.inl (.l7 t60 n cmp (w64 (blockSize * (2 : Int))))))
  else
  some (.inl (.l7 data n cmp (w64 (blockSize * (2 : Int)))))
noncomputable def st_slices_stableCmpFunc : L_slices_stableCmpFunc → Option (L_slices_stableCmpFunc ⊕ (List (Bool × List tAtom)))
  | .l2 data n cmp blockSize a b => sg_slices_stableCmpFunc_2 data n cmp blockSize a b
  | .l7 data n cmp blockSize => sg_slices_stableCmpFunc_7 data n cmp blockSize
  | .l9 data n cmp blockSize a b => sg_slices_stableCmpFunc_9 data n cmp blockSize a b
noncomputable def en_slices_stableCmpFunc (data : (List (Bool × List tAtom))) (n : Int) (cmp : Value) : Option (L_slices_stableCmpFunc ⊕ (List (Bool × List tAtom))) :=
  some (.inl (.l2 data n cmp (20 : Int) (0 : Int) (20 : Int)))
noncomputable def slices_stableCmpFunc (data : (List (Bool × List tAtom))) (n : Int) (cmp : Value) : Option (List (Bool × List tAtom)) := runL (st_slices_stableCmpFunc) (en_slices_stableCmpFunc data n cmp)
noncomputable def en_slices_SortStableFunc (x : (List (Bool × List tAtom))) (cmp : Value) : Option (List (Bool × List tAtom)) :=
  G (x.length = x.length) <|
  (allR (slices_stableCmpFunc x (x.length : Int) cmp)).bind fun t8 =>
  some t8
noncomputable def slices_SortStableFunc (x : (List (Bool × List tAtom))) (cmp : Value) : Option (List (Bool × List tAtom)) := en_slices_SortStableFunc x cmp
inductive L_value_Sort where
  | l8 (l : (List (List tAtom))) (out : (List (Bool × List tAtom))) (x19 : Int) (x20 : Int)
noncomputable def sg_value_Sort_8 (l : (List (List tAtom))) (out : (List (Bool × List tAtom))) (x19 : Int) (x20 : Int) : Option (L_value_Sort ⊕ ((List (Bool × List tAtom)) × Int)) :=
  if (decide (x20 < x19)) = true then
  (G (0 ≤ x20 ∧ x20 < (l.length : Int)) <|
  (slices_Clone (l.getD x20.toNat ([] : List tAtom))).bind fun t29 =>
  G (0 ≤ x20 ∧ x20 < (out.length : Int)) <|
  G ((el2D out x20.toNat).1 = false) <|
  some (.inl (.l8 l (out.set x20.toNat (true, t29)) x19 (w64 (x20 + (1 : Int))))))
  else
  G (out.length = out.length) <|
  (allR (slices_SortStableFunc out (fnv 40))).bind fun t33 =>
  G (t33.length = t33.length) <|
  some (.inr (t33, (0 : Int)))
noncomputable def st_value_Sort : L_value_Sort → Option (L_value_Sort ⊕ ((List (Bool × List tAtom)) × Int))
  | .l8 l out x19 x20 => sg_value_Sort_8 l out x19 x20
noncomputable def en_value_Sort (l : (List (List tAtom))) : Option (L_value_Sort ⊕ ((List (Bool × List tAtom)) × Int)) :=
  if (decide ((4096 : Int) < (l.length : Int))) = true then
  some (.inr (([] : List (Bool × List tAtom)), (3 : Int)))
  else
  (value_first l).bind fun t11 =>
  if (!decide (t11 = (0 : Int))) = true then
  some (.inr (([] : List (Bool × List tAtom)), t11))
  else
  G (0 ≤ (l.length : Int) ∧ (l.length : Int) ≤ (l.length : Int) ∧ (24 : Int) * (l.length : Int) ≤ 281474976710656) <|
  some (.inl (.l8 l ((List.replicate (l.length : Int).toNat ([] : List tAtom)).map fun y => (false, y)) (l.length : Int) (0 : Int)))
noncomputable def value_Sort (l : (List (List tAtom))) : Option ((List (Bool × List tAtom)) × Int) := runL st_value_Sort (en_value_Sort l)
inductive L_ref07_first where
  | l2 (l : (List (List tAtom))) (i : Int)
noncomputable def sg_ref07_first_2 (l : (List (List tAtom))) (i : Int) : Option (L_ref07_first ⊕ Int) :=
  if (decide (i < (l.length : Int))) = true then
  (G (0 ≤ i ∧ i < (l.length : Int)) <|
  (ref07_Check (l.getD i.toNat ([] : List tAtom))).bind fun t15 =>
  if (!decide (t15 = (0 : Int))) = true then
  some (.inr t15)
  else
  some (.inl (.l2 l (w64 (i + (1 : Int))))))
  else
  some (.inr (0 : Int))
noncomputable def st_ref07_first : L_ref07_first → Option (L_ref07_first ⊕ Int)
  | .l2 l i => sg_ref07_first_2 l i
noncomputable def en_ref07_first (l : (List (List tAtom))) : Option (L_ref07_first ⊕ Int) :=
  some (.inl (.l2 l (0 : Int)))
noncomputable def ref07_first (l : (List (List tAtom))) : Option Int := runL st_ref07_first (en_ref07_first l)
inductive L_ref07_Sort where
  | l8 (l : (List (List tAtom))) (out : (List (List tAtom))) (i : Int)
  | l11 (l : (List (List tAtom))) (out : (List (List tAtom))) (i : Int) (at_ : Int)
  | l15 (l : (List (List tAtom))) (out : (List (List tAtom))) (i : Int) (at_ : Int) (k : Int)
noncomputable def sg_ref07_Sort_8 (l : (List (List tAtom))) (out : (List (List tAtom))) (i : Int) : Option (L_ref07_Sort ⊕ ((List (List tAtom)) × Int)) :=
  if (decide (i < (l.length : Int))) = true then
  some (.inl (.l11 l out i (out.length : Int)))
  else
  some (.inr (out, (0 : Int)))
noncomputable def sg_ref07_Sort_11 (l : (List (List tAtom))) (out : (List (List tAtom))) (i : Int) (at_ : Int) : Option (L_ref07_Sort ⊕ ((List (List tAtom)) × Int)) :=
  G ((decide ((0 : Int) < at_)) = true → (0 ≤ (w64 (at_ - (1 : Int))) ∧ (w64 (at_ - (1 : Int))) < (out.length : Int))) <|
  G ((decide ((0 : Int) < at_)) = true → (0 ≤ i ∧ i < (l.length : Int))) <|
  (if (decide ((0 : Int) < at_)) = true then ref07_compare (out.getD ((w64 (at_ - (1 : Int))).toNat) ([] : List tAtom)) (l.getD i.toNat ([] : List tAtom)) else some (0 : Int)).bind fun t38 =>
  if ((decide ((0 : Int) < at_)) && (decide ((0 : Int) < t38))) = true then
  some (.inl (.l11 l out i (w64 (at_ - (1 : Int)))))
  else
  G ((out.length + ([([] : List tAtom)] : List (List tAtom)).length) * 24 ≤ 140737488355328) <|
  some (.inl (.l15 l (out ++ ([([] : List tAtom)] : List (List tAtom))) i at_ (w64 ((((out ++ ([([] : List tAtom)] : List (List tAtom))).length : Nat) : Int) - (1 : Int)))))
noncomputable def sg_ref07_Sort_15 (l : (List (List tAtom))) (out : (List (List tAtom))) (i : Int) (at_ : Int) (k : Int) : Option (L_ref07_Sort ⊕ ((List (List tAtom)) × Int)) :=
  if (decide (at_ < k)) = true then
  (G (0 ≤ (w64 (k - (1 : Int))) ∧ (w64 (k - (1 : Int))) < (out.length : Int)) <|
  G (0 ≤ k ∧ k < (out.length : Int)) <|
  some (.inl (.l15 l (out.set k.toNat (out.getD ((w64 (k - (1 : Int))).toNat) ([] : List tAtom))) i at_ (w64 (k - (1 : Int))))))
  else
  G (0 ≤ i ∧ i < (l.length : Int)) <|
  (base_CopyValue (l.getD i.toNat ([] : List tAtom))).bind fun t68 =>
  G (0 ≤ at_ ∧ at_ < (out.length : Int)) <|
  some (.inl (.l8 l (out.set at_.toNat t68) (w64 (i + (1 : Int)))))
noncomputable def st_ref07_Sort : L_ref07_Sort → Option (L_ref07_Sort ⊕ ((List (List tAtom)) × Int))
  | .l8 l out i => sg_ref07_Sort_8 l out i
  | .l11 l out i at_ => sg_ref07_Sort_11 l out i at_
  | .l15 l out i at_ k => sg_ref07_Sort_15 l out i at_ k
noncomputable def en_ref07_Sort (l : (List (List tAtom))) : Option (L_ref07_Sort ⊕ ((List (List tAtom)) × Int)) :=
  if (decide ((4096 : Int) < (l.length : Int))) = true then
  some (.inr (([] : List (List tAtom)), (3 : Int)))
  else
  (ref07_first l).bind fun t13 =>
  if (!decide (t13 = (0 : Int))) = true then
  some (.inr (([] : List (List tAtom)), t13))
  else
  some (.inl (.l8 l ([] : List (List tAtom)) (0 : Int)))
noncomputable def ref07_Sort (l : (List (List tAtom))) : Option ((List (List tAtom)) × Int) := runL st_ref07_Sort (en_ref07_Sort l)
inductive L_law07_ValueOrders where
  | l11 (l : (List (List tAtom))) (own : (List (List tAtom))) (x : (List (Bool × List tAtom))) (i : Int)
noncomputable def sg_law07_ValueOrders_11 (l : (List (List tAtom))) (own : (List (List tAtom))) (x : (List (Bool × List tAtom))) (i : Int) : Option (L_law07_ValueOrders ⊕ Bool) :=
  if (decide (i < (x.length : Int))) = true then
  (G (0 ≤ i ∧ i < (x.length : Int)) <|
  G ((el2D x i.toNat).1 = true) <|
  G ((el2D x i.toNat).2.length = (el2D x i.toNat).2.length) <|
  some (.inl (.l11 l own (x.set i.toNat (true, (List.replicate (el2D x i.toNat).2.length (((-7 : Int), (0 : Int), (0 : Int), ([] : List UInt8), ()) : tAtom)))) (w64 (i + (1 : Int))))))
  else
  (law07_values own l).bind fun t71 =>
  some (.inr t71)
noncomputable def st_law07_ValueOrders : L_law07_ValueOrders → Option (L_law07_ValueOrders ⊕ Bool)
  | .l11 l own x i => sg_law07_ValueOrders_11 l own x i
noncomputable def en_law07_ValueOrders (a : (List tAtom)) (b : (List tAtom)) (l : (List (List tAtom))) : Option (L_law07_ValueOrders ⊕ Bool) :=
  (base_CopyValue a).bind fun t17 =>
  (base_CopyValue b).bind fun t19 =>
  (value_Compare t17 t19).bind fun t20 =>
  (ref07_Compare a b).bind fun t26 =>
  if ((!decide (t20.1 = t26.1)) || (!decide (t20.2 = t26.2))) = true then
  some (.inr false)
  else
  (law07_copied l).bind fun t38 =>
  (value_Sort t38).bind fun t41 =>
  (ref07_Sort l).bind fun t46 =>
  G ((!(!decide (t41.2 = t46.2))) = true → (t41.1.length = t41.1.length)) <|
  (if (!(!decide (t41.2 = t46.2))) = true then law07_values (t41.1.map fun y => y.2) t46.1 else some false).bind fun t55 =>
  if ((!decide (t41.2 = t46.2)) || (!t55)) = true then
  some (.inr false)
  else
  some (.inl (.l11 l t38 t41.1 (0 : Int)))
noncomputable def law07_ValueOrders (a : (List tAtom)) (b : (List tAtom)) (l : (List (List tAtom))) : Option Bool := runL st_law07_ValueOrders (en_law07_ValueOrders a b l)
end Go.Eng
