/- A part of the proof: Lvd. -/
import Derived.Test.YtnjcbogckfiamaaDoorD3
import Derived.Test.YtnjcbogckfiamaaDoorTb
namespace Go.Eng
set_option linter.unusedVariables false
set_option linter.unusedSimpArgs false
abbrev tyAtom:Ty := rowOf [(.int .i64),(.int .i64),(.int .i64),.str]
abbrev tAtom := Int × Int × Int × (List UInt8) × Unit
abbrev dAtom:tAtom := ((0:Int),(0:Int),(0:Int),([]:List UInt8),())
abbrev tywhole:Ty := rowOf [(.int .i64),(.int .i64)]
abbrev twhole := Int × Int × Unit
abbrev dwhole:twhole := ((0:Int),(0:Int),())
abbrev tyreader:Ty := rowOf [.str,(.int .i64),(.sl 4 tyAtom)]
noncomputable def value_well (a:tAtom):Option Bool :=
 if (decide (a.1 = (1:Int))) = true then
 some ((((decide (a.2.1 = (0:Int))) && (decide (a.2.2.2.1 = ([]:List UInt8)))) && (decide ((-9007199254740992:Int) ≤ a.2.2.1))) && (decide (a.2.2.1 ≤ (9007199254740992:Int))))
 else
 if (decide (a.1 = (2:Int))) = true then
 some (((decide (a.2.1 = (0:Int))) && (decide (a.2.2.1 = (0:Int)))) && (decide ((a.2.2.2.1.length:Int) ≤ (4096:Int))))
 else
 if (decide (a.1 = (3:Int))) = true then
 some (((decide ((0:Int) ≤ a.2.1)) && (decide (a.2.2.1 = (0:Int)))) && (decide (a.2.2.2.1 = ([]:List UInt8))))
 else
 some false
inductive L_value_wholes where
 | l3 (out:(List twhole)) (stack:(List twhole)) (x16:(List tAtom)) (x17:Int) (x18:Int)
 | l10 (out:(List twhole)) (stack:(List twhole)) (i:Int) (k:Int) (w:Int) (w':Int) (x16:(List tAtom)) (x17:Int) (x18:Int) (x42:Nat) (x42':Nat) (x43:Int) (x44:Int)
noncomputable def sg_value_wholes_3 (out:(List twhole)) (stack:(List twhole)) (x16:(List tAtom)) (x17:Int) (x18:Int):Option (L_value_wholes ⊕ ((List twhole) × Bool)) :=
 if (decide (x18 < x17)) = true then
 (G (0 ≤ x18 ∧ x18 < (x16.length:Int)) <|
 (value_well ((x16.getD x18.toNat dAtom).1,(x16.getD x18.toNat dAtom).2.1,(x16.getD x18.toNat dAtom).2.2.1,(x16.getD x18.toNat dAtom).2.2.2.1,())).bind fun t24 =>
 if ((!t24) || (decide ((stack.length:Int) < (x16.getD x18.toNat dAtom).2.1))) = true then
 some (.inr (([]:List twhole),false))
 else
 G (0 ≤ (w64 ((stack.length:Int) - (x16.getD x18.toNat dAtom).2.1)) ∧ (w64 ((stack.length:Int) - (x16.getD x18.toNat dAtom).2.1)) ≤ (stack.length:Int)) <|
 some (.inl (.l10 out stack x18 (w64 ((stack.length:Int) - (x16.getD x18.toNat dAtom).2.1)) ((x18,(1:Int),()).1) ((x18,(1:Int),()).2.1) x16 x17 x18 ((w64 ((stack.length:Int) - (x16.getD x18.toNat dAtom).2.1)).toNat) (stack.length - (w64 ((stack.length:Int) - (x16.getD x18.toNat dAtom).2.1)).toNat) (((stack.length - (w64 ((stack.length:Int) - (x16.getD x18.toNat dAtom).2.1)).toNat):Nat):Int) (0:Int))))
 else
 some (.inr (out,(decide ((stack.length:Int) = (1:Int)))))
noncomputable def sg_value_wholes_10 (out:(List twhole)) (stack:(List twhole)) (i:Int) (k:Int) (w:Int) (w':Int) (x16:(List tAtom)) (x17:Int) (x18:Int) (x42:Nat) (x42':Nat) (x43:Int) (x44:Int):Option (L_value_wholes ⊕ ((List twhole) × Bool)) :=
 if (decide (x44 < x43)) = true then
 (G (0 ≤ x44 ∧ x44 < (x42':Int)) <|
 if (decide (x44 = (0:Int))) = true then
 some (.inl (.l10 out stack i k ((stack.getD (x42 + x44.toNat) dwhole).1) (mxI w' (w64 ((stack.getD (x42 + x44.toNat) dwhole).2.1 + (1:Int)))) x16 x17 x18 x42 x42' x43 (w64 (x44 + (1:Int)))))
 else
 some (.inl (.l10 out stack i k w (mxI w' (w64 ((stack.getD (x42 + x44.toNat) dwhole).2.1 + (1:Int)))) x16 x17 x18 x42 x42' x43 (w64 (x44 + (1:Int))))))
 else
 if (decide ((32:Int) < w')) = true then
 some (.inr (([]:List twhole),false))
 else
 G (0 ≤ i ∧ i < (out.length:Int)) <|
 G (0 ≤ k ∧ k ≤ (stack.length:Int)) <|
 G ((k.toNat + ([(w,w',())]:List twhole).length) * 16 ≤ 140737488355328) <|
 some (.inl (.l3 (out.set i.toNat (w,w',())) ((stack.take k.toNat) ++ ([(w,w',())]:List twhole)) x16 x17 (w64 (x18 + (1:Int)))))
noncomputable def st_value_wholes:L_value_wholes → Option (L_value_wholes ⊕ ((List twhole) × Bool))
 | .l3 out stack x16 x17 x18=>sg_value_wholes_3 out stack x16 x17 x18
 | .l10 out stack i k w w' x16 x17 x18 x42 x42' x43 x44=>sg_value_wholes_10 out stack i k w w' x16 x17 x18 x42 x42' x43 x44
noncomputable def en_value_wholes (v:(List tAtom)):Option (L_value_wholes ⊕ ((List twhole) × Bool)) :=
 G (0 ≤ (v.length:Int) ∧ (v.length:Int) ≤ (v.length:Int) ∧ (16:Int) * (v.length:Int) ≤ 281474976710656) <|
 some (.inl (.l3 (List.replicate (v.length:Int).toNat dwhole) ([]:List twhole) v (v.length:Int) (0:Int)))
noncomputable def value_wholes (v:(List tAtom)):Option ((List twhole) × Bool) := runL st_value_wholes (en_value_wholes v)
noncomputable def value_Check (v:(List tAtom)):Option Int :=
 if (decide ((1024:Int) < (v.length:Int))) = true then
 some (3:Int)
 else
 (value_wholes v).bind fun t10 =>
 if (!t10.2) = true then
 some (5:Int)
 else
 some (0:Int)
noncomputable def strconv_Itoa (n:Int):Option (List UInt8) := G (-9223372036854775808 ≤ n ∧ n ≤ 9223372036854775807) <| some (Lib.itoa n)
inductive L_lex_Quote where
 | l4 (s_:(List UInt8)) (out:(List UInt8)) (x14:Int) (x15:Int)
noncomputable def sg_lex_Quote_4 (s_:(List UInt8)) (out:(List UInt8)) (x14:Int) (x15:Int):Option (L_lex_Quote ⊕ (List UInt8)) :=
 if (decide (x15 < x14)) = true then
 (G (0 ≤ x15 ∧ x15 < (s_.length:Int)) <|
 if ((decide (((s_.getD x15.toNat 0).toNat:Int) = 34)) || (decide (((s_.getD x15.toNat 0).toNat:Int) = 92))) = true then
 (G ((out.length + ([(92:UInt8),(s_.getD x15.toNat 0)]:List UInt8).length) * 1 ≤ 140737488355328) <|
 some (.inl (.l4 s_ (out ++ ([(92:UInt8),(s_.getD x15.toNat 0)]:List UInt8)) x14 (w64 (x15 + (1:Int))))))
 else
 if (decide (((s_.getD x15.toNat 0).toNat:Int) = 10)) = true then
 (G ((out.length + ([(92:UInt8),(110:UInt8)]:List UInt8).length) * 1 ≤ 140737488355328) <|
 some (.inl (.l4 s_ (out ++ ([(92:UInt8),(110:UInt8)]:List UInt8)) x14 (w64 (x15 + (1:Int))))))
 else
 if ((decide (((s_.getD x15.toNat 0).toNat:Int) < 32)) || (decide (126 < ((s_.getD x15.toNat 0).toNat:Int)))) = true then
 (G (0 ≤ ((((Int.fdiv ((s_.getD x15.toNat 0).toNat:Int) (2 ^ (min ((4:Int)).toNat IntKind.u8.bits)))).toNat.toUInt8).toNat:Int) ∧ ((((Int.fdiv ((s_.getD x15.toNat 0).toNat:Int) (2 ^ (min ((4:Int)).toNat IntKind.u8.bits)))).toNat.toUInt8).toNat:Int) < (([48,49,50,51,52,53,54,55,56,57,97,98,99,100,101,102]:List UInt8).length:Int)) <|
 G (0 ≤ ((((IntKind.wrap .u8 ((BitVec.ofInt IntKind.u8.bits ((s_.getD x15.toNat 0).toNat:Int) &&& BitVec.ofInt IntKind.u8.bits 15).toNat))).toNat.toUInt8).toNat:Int) ∧ ((((IntKind.wrap .u8 ((BitVec.ofInt IntKind.u8.bits ((s_.getD x15.toNat 0).toNat:Int) &&& BitVec.ofInt IntKind.u8.bits 15).toNat))).toNat.toUInt8).toNat:Int) < (([48,49,50,51,52,53,54,55,56,57,97,98,99,100,101,102]:List UInt8).length:Int)) <|
 G ((out.length + ([(92:UInt8),(120:UInt8),(([48,49,50,51,52,53,54,55,56,57,97,98,99,100,101,102]:List UInt8).getD ((((Int.fdiv ((s_.getD x15.toNat 0).toNat:Int) (2 ^ (min ((4:Int)).toNat IntKind.u8.bits)))).toNat.toUInt8).toNat:Int).toNat 0),(([48,49,50,51,52,53,54,55,56,57,97,98,99,100,101,102]:List UInt8).getD ((((IntKind.wrap .u8 ((BitVec.ofInt IntKind.u8.bits ((s_.getD x15.toNat 0).toNat:Int) &&& BitVec.ofInt IntKind.u8.bits 15).toNat))).toNat.toUInt8).toNat:Int).toNat 0)]:List UInt8).length) * 1 ≤ 140737488355328) <|
 some (.inl (.l4 s_ (out ++ ([(92:UInt8),(120:UInt8),(([48,49,50,51,52,53,54,55,56,57,97,98,99,100,101,102]:List UInt8).getD ((((Int.fdiv ((s_.getD x15.toNat 0).toNat:Int) (2 ^ (min ((4:Int)).toNat IntKind.u8.bits)))).toNat.toUInt8).toNat:Int).toNat 0),(([48,49,50,51,52,53,54,55,56,57,97,98,99,100,101,102]:List UInt8).getD ((((IntKind.wrap .u8 ((BitVec.ofInt IntKind.u8.bits ((s_.getD x15.toNat 0).toNat:Int) &&& BitVec.ofInt IntKind.u8.bits 15).toNat))).toNat.toUInt8).toNat:Int).toNat 0)]:List UInt8)) x14 (w64 (x15 + (1:Int))))))
 else
 G ((out.length + ([(s_.getD x15.toNat 0)]:List UInt8).length) * 1 ≤ 140737488355328) <|
 some (.inl (.l4 s_ (out ++ ([(s_.getD x15.toNat 0)]:List UInt8)) x14 (w64 (x15 + (1:Int))))))
 else
 G ((out.length + ([(34:UInt8)]:List UInt8).length) * 1 ≤ 140737488355328) <|
 some (.inr (out ++ ([(34:UInt8)]:List UInt8)))
noncomputable def st_lex_Quote:L_lex_Quote → Option (L_lex_Quote ⊕ (List UInt8))
 | .l4 s_ out x14 x15=>sg_lex_Quote_4 s_ out x14 x15
noncomputable def en_lex_Quote (s_:(List UInt8)):Option (L_lex_Quote ⊕ (List UInt8)) :=
 G (0 ≤ (0:Int) ∧ (0:Int) ≤ (w64 ((s_.length:Int) + (2:Int))) ∧ (1:Int) * (w64 ((s_.length:Int) + (2:Int))) ≤ 281474976710656) <|
 G (((List.replicate (0:Int).toNat (0:UInt8)).length + ([(34:UInt8)]:List UInt8).length) * 1 ≤ 140737488355328) <|
 some (.inl (.l4 s_ ((List.replicate (0:Int).toNat (0:UInt8)) ++ ([(34:UInt8)]:List UInt8)) (s_.length:Int) (0:Int)))
noncomputable def lex_Quote (s_:(List UInt8)):Option (List UInt8) := runL st_lex_Quote (en_lex_Quote s_)
noncomputable def strings_Join (l:List (List UInt8)) (sep:List UInt8):Option (List UInt8) := G (l.length ≤ 140737488355328 ∧ (Lib.join l sep).length ≤ 140737488355328) <| some (Lib.join l sep)
inductive L_value_Print where
 | l6 (stack:(List (List UInt8))) (x16:(List tAtom)) (x17:Int) (x18:Int)
noncomputable def sg_value_Print_6 (stack:(List (List UInt8))) (x16:(List tAtom)) (x17:Int) (x18:Int):Option (L_value_Print ⊕ ((List UInt8) × Int)) :=
 if (decide (x18 < x17)) = true then
 (G (0 ≤ x18 ∧ x18 < (x16.length:Int)) <|
 if (decide ((x16.getD x18.toNat dAtom).1 = (1:Int))) = true then
 ((strconv_Itoa ((x16.getD x18.toNat dAtom).2.2.1)).bind fun t33 =>
 G (0 ≤ (w64 ((stack.length:Int) - (x16.getD x18.toNat dAtom).2.1)) ∧ (w64 ((stack.length:Int) - (x16.getD x18.toNat dAtom).2.1)) ≤ (stack.length:Int)) <|
 G (((w64 ((stack.length:Int) - (x16.getD x18.toNat dAtom).2.1)).toNat + ([t33]:List (List UInt8)).length) * 16 ≤ 140737488355328) <|
 some (.inl (.l6 ((stack.take ((w64 ((stack.length:Int) - (x16.getD x18.toNat dAtom).2.1)).toNat)) ++ ([t33]:List (List UInt8))) x16 x17 (w64 (x18 + (1:Int))))))
 else
 if (decide ((x16.getD x18.toNat dAtom).1 = (2:Int))) = true then
 ((lex_Quote ((x16.getD x18.toNat dAtom).2.2.2.1)).bind fun t38 =>
 G (0 ≤ (w64 ((stack.length:Int) - (x16.getD x18.toNat dAtom).2.1)) ∧ (w64 ((stack.length:Int) - (x16.getD x18.toNat dAtom).2.1)) ≤ (stack.length:Int)) <|
 G (((w64 ((stack.length:Int) - (x16.getD x18.toNat dAtom).2.1)).toNat + ([t38]:List (List UInt8)).length) * 16 ≤ 140737488355328) <|
 some (.inl (.l6 ((stack.take ((w64 ((stack.length:Int) - (x16.getD x18.toNat dAtom).2.1)).toNat)) ++ ([t38]:List (List UInt8))) x16 x17 (w64 (x18 + (1:Int))))))
 else
 if (decide ((x16.getD x18.toNat dAtom).1 = (3:Int))) = true then
 (G (0 ≤ (w64 ((stack.length:Int) - (x16.getD x18.toNat dAtom).2.1)) ∧ (w64 ((stack.length:Int) - (x16.getD x18.toNat dAtom).2.1)) ≤ (stack.length:Int)) <|
 (strings_Join (stack.drop ((w64 ((stack.length:Int) - (x16.getD x18.toNat dAtom).2.1)).toNat)) ([44,32]:List UInt8)).bind fun t44 =>
 G (([91]:List UInt8).length + t44.length ≤ 9223372036854775807) <|
 G ((([91]:List UInt8) ++ t44).length + ([93]:List UInt8).length ≤ 9223372036854775807) <|
 G (0 ≤ (w64 ((stack.length:Int) - (x16.getD x18.toNat dAtom).2.1)) ∧ (w64 ((stack.length:Int) - (x16.getD x18.toNat dAtom).2.1)) ≤ (stack.length:Int)) <|
 G (((w64 ((stack.length:Int) - (x16.getD x18.toNat dAtom).2.1)).toNat + ([((([91]:List UInt8) ++ t44) ++ ([93]:List UInt8))]:List (List UInt8)).length) * 16 ≤ 140737488355328) <|
 some (.inl (.l6 ((stack.take ((w64 ((stack.length:Int) - (x16.getD x18.toNat dAtom).2.1)).toNat)) ++ ([((([91]:List UInt8) ++ t44) ++ ([93]:List UInt8))]:List (List UInt8))) x16 x17 (w64 (x18 + (1:Int))))))
 else
 G (0 ≤ (w64 ((stack.length:Int) - (x16.getD x18.toNat dAtom).2.1)) ∧ (w64 ((stack.length:Int) - (x16.getD x18.toNat dAtom).2.1)) ≤ (stack.length:Int)) <|
 G (((w64 ((stack.length:Int) - (x16.getD x18.toNat dAtom).2.1)).toNat + ([([]:List UInt8)]:List (List UInt8)).length) * 16 ≤ 140737488355328) <|
 some (.inl (.l6 ((stack.take ((w64 ((stack.length:Int) - (x16.getD x18.toNat dAtom).2.1)).toNat)) ++ ([([]:List UInt8)]:List (List UInt8))) x16 x17 (w64 (x18 + (1:Int))))))
 else
 G (0 ≤ (0:Int) ∧ (0:Int) < (stack.length:Int)) <|
 some (.inr ((stack.getD ((0:Int).toNat) ([]:List UInt8)),(0:Int)))
noncomputable def st_value_Print:L_value_Print → Option (L_value_Print ⊕ ((List UInt8) × Int))
 | .l6 stack x16 x17 x18=>sg_value_Print_6 stack x16 x17 x18
noncomputable def en_value_Print (v:(List tAtom)):Option (L_value_Print ⊕ ((List UInt8) × Int)) :=
 (value_Check v).bind fun t11 =>
 if (!decide (t11 = (0:Int))) = true then
 some (.inr (([]:List UInt8),t11))
 else
 some (.inl (.l6 ([]:List (List UInt8)) v (v.length:Int) (0:Int)))
noncomputable def value_Print (v:(List tAtom)):Option ((List UInt8) × Int) := runL st_value_Print (en_value_Print v)
inductive L_base_SameValue where
 | l4 (a:(List tAtom)) (b:(List tAtom)) (i:Int)
noncomputable def sg_base_SameValue_4 (a:(List tAtom)) (b:(List tAtom)) (i:Int):Option (L_base_SameValue ⊕ Bool) :=
 if (decide (i < (a.length:Int))) = true then
 (G (0 ≤ i ∧ i < (a.length:Int)) <|
 G (0 ≤ i ∧ i < (b.length:Int)) <|
 if (!(eqR tyAtom (a.getD i.toNat dAtom) (b.getD i.toNat dAtom))) = true then
 some (.inr false)
 else
 some (.inl (.l4 a b (w64 (i + (1:Int))))))
 else
 some (.inr true)
noncomputable def st_base_SameValue:L_base_SameValue → Option (L_base_SameValue ⊕ Bool)
 | .l4 a b i=>sg_base_SameValue_4 a b i
noncomputable def en_base_SameValue (a:(List tAtom)) (b:(List tAtom)):Option (L_base_SameValue ⊕ Bool) :=
 if (!decide ((a.length:Int) = (b.length:Int))) = true then
 some (.inr false)
 else
 some (.inl (.l4 a b (0:Int)))
noncomputable def base_SameValue (a:(List tAtom)) (b:(List tAtom)):Option Bool := runL st_base_SameValue (en_base_SameValue a b)
noncomputable def en_value_reader_put (r_:(List UInt8)) (r_':Int) (r_'':(List tAtom)) (a:tAtom):Option (Bool × (List UInt8) × Int × (List tAtom)) :=
 G ((r_''.length + ([(a.1,a.2.1,a.2.2.1,a.2.2.2.1,())]:List tAtom).length) * 40 ≤ 140737488355328) <|
 some ((decide ((((r_'' ++ ([(a.1,a.2.1,a.2.2.1,a.2.2.2.1,())]:List tAtom)).length:Nat):Int) ≤ (1024:Int))),r_,r_',(r_'' ++ ([(a.1,a.2.1,a.2.2.1,a.2.2.2.1,())]:List tAtom)))
noncomputable def value_reader_put (r_:(List UInt8)) (r_':Int) (r_'':(List tAtom)) (a:tAtom):Option (Bool × (List UInt8) × Int × (List tAtom)) := en_value_reader_put r_ r_' r_'' a
noncomputable def bytealg_IndexByteString (s_:List UInt8) (c:UInt8):Option Int := some (Lib.indexByte s_ c)
noncomputable def stringslite_IndexByte (s_:(List UInt8)) (c:UInt8):Option Int :=
 (bytealg_IndexByteString s_ c).bind fun t7 =>
 some t7
noncomputable def strings_IndexByte (s_:(List UInt8)) (c:UInt8):Option Int :=
 (stringslite_IndexByte s_ c).bind fun t7 =>
 some t7
noncomputable def lex_escaped (s_:(List UInt8)) (at_:Int):Option (UInt8 × Int) :=
 G (0 ≤ (w64 (at_ + (1:Int))) ∧ (w64 (at_ + (1:Int))) ≤ (s_.length:Int)) <|
 if (decide ((s_.drop (w64 (at_ + (1:Int))).toNat) = ([]:List UInt8))) = true then
 some ((0:UInt8),(0:Int))
 else
 G (0 ≤ (0:Int) ∧ (0:Int) < ((s_.drop (w64 (at_ + (1:Int))).toNat).length:Int)) <|
 if (decide ((((s_.drop (w64 (at_ + (1:Int))).toNat).getD (0:Int).toNat 0).toNat:Int) = 34)) = true then
 (if (decide ((((s_.drop (w64 (at_ + (1:Int))).toNat).getD (0:Int).toNat 0).toNat:Int) = 34)) = true then
 (G (0 ≤ (0:Int) ∧ (0:Int) < ((s_.drop (w64 (at_ + (1:Int))).toNat).length:Int)) <|
 some (((s_.drop (w64 (at_ + (1:Int))).toNat).getD (0:Int).toNat 0),(2:Int)))
 else
 if (decide ((((s_.drop (w64 (at_ + (1:Int))).toNat).getD (0:Int).toNat 0).toNat:Int) = 110)) = true then
 some ((10:UInt8),(2:Int))
 else
 if (decide ((((s_.drop (w64 (at_ + (1:Int))).toNat).getD (0:Int).toNat 0).toNat:Int) = 120)) = true then
 (if (decide (((s_.drop (w64 (at_ + (1:Int))).toNat).length:Int) < (3:Int))) = true then
 some ((0:UInt8),(0:Int))
 else
 G (0 ≤ (1:Int) ∧ (1:Int) < ((s_.drop (w64 (at_ + (1:Int))).toNat).length:Int)) <|
 (strings_IndexByte ([48,49,50,51,52,53,54,55,56,57,97,98,99,100,101,102]:List UInt8) ((s_.drop (w64 (at_ + (1:Int))).toNat).getD (1:Int).toNat 0)).bind fun t32 =>
 G (0 ≤ (2:Int) ∧ (2:Int) < ((s_.drop (w64 (at_ + (1:Int))).toNat).length:Int)) <|
 (strings_IndexByte ([48,49,50,51,52,53,54,55,56,57,97,98,99,100,101,102]:List UInt8) ((s_.drop (w64 (at_ + (1:Int))).toNat).getD (2:Int).toNat 0)).bind fun t35 =>
 if ((((decide (t32 < (0:Int))) || (decide (t35 < (0:Int)))) || (decide (((((IntKind.wrap .u8 ((w64 ((BitVec.ofInt IntKind.i64.bits (w64 (t32 * 2 ^ (min ((4:Int)).toNat IntKind.i64.bits))) ||| BitVec.ofInt IntKind.i64.bits t35).toNat))))).toNat.toUInt8).toNat:Int) = 10))) || ((decide (32 ≤ ((((IntKind.wrap .u8 ((w64 ((BitVec.ofInt IntKind.i64.bits (w64 (t32 * 2 ^ (min ((4:Int)).toNat IntKind.i64.bits))) ||| BitVec.ofInt IntKind.i64.bits t35).toNat))))).toNat.toUInt8).toNat:Int))) && (decide (((((IntKind.wrap .u8 ((w64 ((BitVec.ofInt IntKind.i64.bits (w64 (t32 * 2 ^ (min ((4:Int)).toNat IntKind.i64.bits))) ||| BitVec.ofInt IntKind.i64.bits t35).toNat))))).toNat.toUInt8).toNat:Int) ≤ 126)))) = true then
 some ((0:UInt8),(0:Int))
 else
 some (((IntKind.wrap .u8 ((w64 ((BitVec.ofInt IntKind.i64.bits (w64 (t32 * 2 ^ (min ((4:Int)).toNat IntKind.i64.bits))) ||| BitVec.ofInt IntKind.i64.bits t35).toNat))))).toNat.toUInt8,(4:Int)))
 else
 some ((0:UInt8),(0:Int)))
 else
 if (decide ((((s_.drop (w64 (at_ + (1:Int))).toNat).getD (0:Int).toNat 0).toNat:Int) = 92)) = true then
 (G (0 ≤ (0:Int) ∧ (0:Int) < ((s_.drop (w64 (at_ + (1:Int))).toNat).length:Int)) <|
 some (((s_.drop (w64 (at_ + (1:Int))).toNat).getD (0:Int).toNat 0),(2:Int)))
 else
 if (decide ((((s_.drop (w64 (at_ + (1:Int))).toNat).getD (0:Int).toNat 0).toNat:Int) = 110)) = true then
 some ((10:UInt8),(2:Int))
 else
 if (decide ((((s_.drop (w64 (at_ + (1:Int))).toNat).getD (0:Int).toNat 0).toNat:Int) = 120)) = true then
 (if (decide (((s_.drop (w64 (at_ + (1:Int))).toNat).length:Int) < (3:Int))) = true then
 some ((0:UInt8),(0:Int))
 else
 G (0 ≤ (1:Int) ∧ (1:Int) < ((s_.drop (w64 (at_ + (1:Int))).toNat).length:Int)) <|
 (strings_IndexByte ([48,49,50,51,52,53,54,55,56,57,97,98,99,100,101,102]:List UInt8) ((s_.drop (w64 (at_ + (1:Int))).toNat).getD (1:Int).toNat 0)).bind fun t32 =>
 G (0 ≤ (2:Int) ∧ (2:Int) < ((s_.drop (w64 (at_ + (1:Int))).toNat).length:Int)) <|
 (strings_IndexByte ([48,49,50,51,52,53,54,55,56,57,97,98,99,100,101,102]:List UInt8) ((s_.drop (w64 (at_ + (1:Int))).toNat).getD (2:Int).toNat 0)).bind fun t35 =>
 if ((((decide (t32 < (0:Int))) || (decide (t35 < (0:Int)))) || (decide (((((IntKind.wrap .u8 ((w64 ((BitVec.ofInt IntKind.i64.bits (w64 (t32 * 2 ^ (min ((4:Int)).toNat IntKind.i64.bits))) ||| BitVec.ofInt IntKind.i64.bits t35).toNat))))).toNat.toUInt8).toNat:Int) = 10))) || ((decide (32 ≤ ((((IntKind.wrap .u8 ((w64 ((BitVec.ofInt IntKind.i64.bits (w64 (t32 * 2 ^ (min ((4:Int)).toNat IntKind.i64.bits))) ||| BitVec.ofInt IntKind.i64.bits t35).toNat))))).toNat.toUInt8).toNat:Int))) && (decide (((((IntKind.wrap .u8 ((w64 ((BitVec.ofInt IntKind.i64.bits (w64 (t32 * 2 ^ (min ((4:Int)).toNat IntKind.i64.bits))) ||| BitVec.ofInt IntKind.i64.bits t35).toNat))))).toNat.toUInt8).toNat:Int) ≤ 126)))) = true then
 some ((0:UInt8),(0:Int))
 else
 some (((IntKind.wrap .u8 ((w64 ((BitVec.ofInt IntKind.i64.bits (w64 (t32 * 2 ^ (min ((4:Int)).toNat IntKind.i64.bits))) ||| BitVec.ofInt IntKind.i64.bits t35).toNat))))).toNat.toUInt8,(4:Int)))
 else
 some ((0:UInt8),(0:Int))
inductive L_lex_quoted where
 | l5 (s_:(List UInt8)) (at_:Int) (out:(List UInt8))
noncomputable def sg_lex_quoted_5 (s_:(List UInt8)) (at_:Int) (out:(List UInt8)):Option (L_lex_quoted ⊕ ((List UInt8) × Int × Bool)) :=
 if (decide (at_ < (s_.length:Int))) = true then
 (G (0 ≤ at_ ∧ at_ < (s_.length:Int)) <|
 if (decide (((s_.getD at_.toNat 0).toNat:Int) = 34)) = true then
 some (.inr (out,(w64 (at_ + (1:Int))),true))
 else
 if (decide (((s_.getD at_.toNat 0).toNat:Int) = 92)) = true then
 ((lex_escaped s_ at_).bind fun t50 =>
 if (decide (t50.2 = (0:Int))) = true then
 some (.inr (([]:List UInt8),(0:Int),false))
 else
 G ((out.length + ([t50.1]:List UInt8).length) * 1 ≤ 140737488355328) <|
 some (.inl (.l5 s_ (w64 (at_ + t50.2)) (out ++ ([t50.1]:List UInt8)))))
 else
 if ((decide (((s_.getD at_.toNat 0).toNat:Int) < 32)) || (decide (126 < ((s_.getD at_.toNat 0).toNat:Int)))) = true then
 some (.inr (([]:List UInt8),(0:Int),false))
 else
 G ((out.length + ([(s_.getD at_.toNat 0)]:List UInt8).length) * 1 ≤ 140737488355328) <|
 some (.inl (.l5 s_ (w64 (at_ + (1:Int))) (out ++ ([(s_.getD at_.toNat 0)]:List UInt8)))))
 else
 some (.inr (([]:List UInt8),(0:Int),false))
noncomputable def st_lex_quoted:L_lex_quoted → Option (L_lex_quoted ⊕ ((List UInt8) × Int × Bool))
 | .l5 s_ at_ out=>sg_lex_quoted_5 s_ at_ out
noncomputable def en_lex_quoted (s_:(List UInt8)) (at_:Int):Option (L_lex_quoted ⊕ ((List UInt8) × Int × Bool)) :=
 G ((!(decide ((s_.length:Int) ≤ at_))) = true → (0 ≤ at_ ∧ at_ < (s_.length:Int))) <|
 if ((decide ((s_.length:Int) ≤ at_)) || (!decide (((s_.getD at_.toNat 0).toNat:Int) = 34))) = true then
 some (.inr (([]:List UInt8),(0:Int),false))
 else
 some (.inl (.l5 s_ (w64 (at_ + (1:Int))) ([]:List UInt8)))
noncomputable def lex_quoted (s_:(List UInt8)) (at_:Int):Option ((List UInt8) × Int × Bool) := runL st_lex_quoted (en_lex_quoted s_ at_)
noncomputable def lex_Unquote (s_:(List UInt8)):Option ((List UInt8) × Bool) :=
 (lex_quoted s_ (0:Int)).bind fun t9 =>
 if ((!t9.2.2) || (!decide (t9.2.1 = (s_.length:Int)))) = true then
 some (([]:List UInt8),false)
 else
 some (t9.1,true)
inductive L_value_reader_text where
 | l2 (r_:(List UInt8)) (r_':Int) (r_'':(List tAtom)) (end_:Int)
noncomputable def sg_value_reader_text_2 (r_:(List UInt8)) (r_':Int) (r_'':(List tAtom)) (end_:Int):Option (L_value_reader_text ⊕ (Bool × (List UInt8) × Int × (List tAtom))) :=
 G ((decide (end_ < (r_.length:Int))) = true → (0 ≤ end_ ∧ end_ < (r_.length:Int))) <|
 if ((decide (end_ < (r_.length:Int))) && (!decide (((r_.getD end_.toNat 0).toNat:Int) = 34))) = true then
 (G (0 ≤ end_ ∧ end_ < (r_.length:Int)) <|
 if (decide (((r_.getD end_.toNat 0).toNat:Int) = 92)) = true then
 some (.inl (.l2 r_ r_' r_'' (w64 ((w64 (end_ + (1:Int))) + (1:Int)))))
 else
 some (.inl (.l2 r_ r_' r_'' (w64 (end_ + (1:Int))))))
 else
 if (decide ((r_.length:Int) ≤ end_)) = true then
 some (.inr (false,r_,r_',r_''))
 else
 G (0 ≤ r_' ∧ r_' ≤ (w64 (end_ + (1:Int))) ∧ (w64 (end_ + (1:Int))) ≤ (r_.length:Int)) <|
 (lex_Unquote (cut r_ r_'.toNat (w64 (end_ + (1:Int))).toNat)).bind fun t57 =>
 if (t57.2 && (decide ((t57.1.length:Int) ≤ (4096:Int)))) = true then
 ((value_reader_put r_ (w64 (end_ + (1:Int))) r_'' ((2:Int),(0:Int),(0:Int),t57.1,())).bind fun t75 =>
 some (.inr (((t57.2 && (decide ((t57.1.length:Int) ≤ (4096:Int)))) && t75.1),t75.2.1,t75.2.2.1,t75.2.2.2)))
 else
 some (.inr (((t57.2 && (decide ((t57.1.length:Int) ≤ (4096:Int)))) && false),r_,(w64 (end_ + (1:Int))),r_''))
noncomputable def st_value_reader_text:L_value_reader_text → Option (L_value_reader_text ⊕ (Bool × (List UInt8) × Int × (List tAtom)))
 | .l2 r_ r_' r_'' end_=>sg_value_reader_text_2 r_ r_' r_'' end_
noncomputable def en_value_reader_text (r_:(List UInt8)) (r_':Int) (r_'':(List tAtom)):Option (L_value_reader_text ⊕ (Bool × (List UInt8) × Int × (List tAtom))) :=
 some (.inl (.l2 r_ r_' r_'' (w64 (r_' + (1:Int)))))
noncomputable def value_reader_text (r_:(List UInt8)) (r_':Int) (r_'':(List tAtom)):Option (Bool × (List UInt8) × Int × (List tAtom)) := runL (st_value_reader_text) (en_value_reader_text r_ r_' r_'')
noncomputable def stringslite_HasPrefix (s_:(List UInt8)) (prefix_:(List UInt8)):Option Bool :=
 G ((decide ((prefix_.length:Int) ≤ (s_.length:Int))) = true → (0 ≤ (prefix_.length:Int) ∧ (prefix_.length:Int) ≤ (s_.length:Int))) <|
 some ((decide ((prefix_.length:Int) ≤ (s_.length:Int))) && (decide ((s_.take (prefix_.length:Int).toNat) = prefix_)))
noncomputable def strings_HasPrefix (s_:(List UInt8)) (prefix_:(List UInt8)):Option Bool :=
 (stringslite_HasPrefix s_ prefix_).bind fun t7 =>
 some t7
noncomputable def en_value_reader_has (r_:(List UInt8)) (r_':Int) (r_'':(List tAtom)) (t_:(List UInt8)):Option (Bool × (List UInt8) × Int × (List tAtom)) :=
 G (0 ≤ r_' ∧ r_' ≤ (r_.length:Int)) <|
 (strings_HasPrefix (r_.drop r_'.toNat) t_).bind fun t16 =>
 if t16 = true then
 some (t16,r_,(w64 (r_' + (t_.length:Int))),r_'')
 else
 some (t16,r_,r_',r_'')
noncomputable def value_reader_has (r_:(List UInt8)) (r_':Int) (r_'':(List tAtom)) (t_:(List UInt8)):Option (Bool × (List UInt8) × Int × (List tAtom)) := en_value_reader_has r_ r_' r_'' t_
noncomputable def lex_digit (c:UInt8):Option Bool :=
 some ((decide (48 ≤ (c.toNat:Int))) && (decide ((c.toNat:Int) ≤ 57)))
inductive L_lex_Number where
 | l5 (s_:(List UInt8)) (n:Int) (x19:Int) (x20:Int)
noncomputable def sg_lex_Number_5 (s_:(List UInt8)) (n:Int) (x19:Int) (x20:Int):Option (L_lex_Number ⊕ (Int × Bool)) :=
 if (decide (x20 < x19)) = true then
 (G (0 ≤ x20 ∧ x20 < (s_.length:Int)) <|
 (lex_digit (s_.getD x20.toNat 0)).bind fun t26 =>
 if (!t26) = true then
 some (.inr ((0:Int),false))
 else
 G (0 ≤ x20 ∧ x20 < (s_.length:Int)) <|
 if (decide ((9007199254740992:Int) < (w64 ((w64 ((10:Int) * n)) + (w64 (((((IntKind.wrap .u8 (((s_.getD x20.toNat 0).toNat:Int) - 48))).toNat.toUInt8).toNat:Int))))))) = true then
 some (.inr ((0:Int),false))
 else
 some (.inl (.l5 s_ (w64 ((w64 ((10:Int) * n)) + (w64 (((((IntKind.wrap .u8 (((s_.getD x20.toNat 0).toNat:Int) - 48))).toNat.toUInt8).toNat:Int))))) x19 (w64 (x20 + (1:Int))))))
 else
 some (.inr (n,true))
noncomputable def st_lex_Number:L_lex_Number → Option (L_lex_Number ⊕ (Int × Bool))
 | .l5 s_ n x19 x20=>sg_lex_Number_5 s_ n x19 x20
noncomputable def en_lex_Number (s_:(List UInt8)):Option (L_lex_Number ⊕ (Int × Bool)) :=
 G (((!(decide (s_ = ([]:List UInt8)))) && (decide ((1:Int) < (s_.length:Int)))) = true → (0 ≤ (0:Int) ∧ (0:Int) < (s_.length:Int))) <|
 if ((decide (s_ = ([]:List UInt8))) || ((decide ((1:Int) < (s_.length:Int))) && (decide (((s_.getD (0:Int).toNat 0).toNat:Int) = 48)))) = true then
 some (.inr ((0:Int),false))
 else
 some (.inl (.l5 s_ (0:Int) (s_.length:Int) (0:Int)))
noncomputable def lex_Number (s_:(List UInt8)):Option (Int × Bool) := runL st_lex_Number (en_lex_Number s_)
inductive L_value_reader_number where
 | l3 (r_:(List UInt8)) (r_':Int) (r_'':(List tAtom)) (neg:Bool) (from_:Int)
noncomputable def sg_value_reader_number_3 (r_:(List UInt8)) (r_':Int) (r_'':(List tAtom)) (neg:Bool) (from_:Int):Option (L_value_reader_number ⊕ (Bool × (List UInt8) × Int × (List tAtom))) :=
 G ((decide (r_' < (r_.length:Int))) = true → (0 ≤ r_' ∧ r_' < (r_.length:Int))) <|
 G (((decide (r_' < (r_.length:Int))) && (decide (48 ≤ ((r_.getD r_'.toNat 0).toNat:Int)))) = true → (0 ≤ r_' ∧ r_' < (r_.length:Int))) <|
 if (((decide (r_' < (r_.length:Int))) && (decide (48 ≤ ((r_.getD r_'.toNat 0).toNat:Int)))) && (decide (((r_.getD r_'.toNat 0).toNat:Int) ≤ 57))) = true then
 some (.inl (.l3 r_ (w64 (r_' + (1:Int))) r_'' neg from_))
 else
 G (0 ≤ from_ ∧ from_ ≤ r_' ∧ r_' ≤ (r_.length:Int)) <|
 (lex_Number (cut r_ from_.toNat r_'.toNat)).bind fun t65 =>
 if neg = true then
 (if (t65.2 && (decide ((0:Int) < t65.1))) = true then
 ((value_reader_put r_ r_' r_'' ((1:Int),(0:Int),(w64 (0 - t65.1)),([]:List UInt8),())).bind fun t81 =>
 some (.inr (((t65.2 && (decide ((0:Int) < t65.1))) && t81.1),t81.2.1,t81.2.2.1,t81.2.2.2)))
 else
 some (.inr (((t65.2 && (decide ((0:Int) < t65.1))) && false),r_,r_',r_'')))
 else
 if t65.2 = true then
 ((value_reader_put r_ r_' r_'' ((1:Int),(0:Int),t65.1,([]:List UInt8),())).bind fun t81 =>
 some (.inr ((t65.2 && t81.1),t81.2.1,t81.2.2.1,t81.2.2.2)))
 else
 some (.inr ((t65.2 && false),r_,r_',r_''))
noncomputable def st_value_reader_number:L_value_reader_number → Option (L_value_reader_number ⊕ (Bool × (List UInt8) × Int × (List tAtom)))
 | .l3 r_ r_' r_'' neg from_=>sg_value_reader_number_3 r_ r_' r_'' neg from_
noncomputable def en_value_reader_number (r_:(List UInt8)) (r_':Int) (r_'':(List tAtom)):Option (L_value_reader_number ⊕ (Bool × (List UInt8) × Int × (List tAtom))) :=
 (value_reader_has r_ r_' r_'' ([45]:List UInt8)).bind fun t8 =>
 some (.inl (.l3 t8.2.1 t8.2.2.1 t8.2.2.2 t8.1 t8.2.2.1))
noncomputable def value_reader_number (r_:(List UInt8)) (r_':Int) (r_'':(List tAtom)):Option (Bool × (List UInt8) × Int × (List tAtom)) := runL (st_value_reader_number) (en_value_reader_number r_ r_' r_'')
inductive L_value_reader_value where
 | l9 (r_:(List UInt8)) (r_':Int) (r_'':(List tAtom)) (deep:Int) (n:Int)
noncomputable def sg_value_reader_value_9 (rc:(List UInt8) → Int → (List tAtom) → Int → Option (Bool × (List UInt8) × Int × (List tAtom))) (r_:(List UInt8)) (r_':Int) (r_'':(List tAtom)) (deep:Int) (n:Int):Option (L_value_reader_value ⊕ (Bool × (List UInt8) × Int × (List tAtom))) :=
 (value_reader_has r_ r_' r_'' ([93]:List UInt8)).bind fun t43 =>
 if (!t43.1) = true then
 (if (decide ((0:Int) < n)) = true then
 ((value_reader_has t43.2.1 t43.2.2.1 t43.2.2.2 ([44,32]:List UInt8)).bind fun t49 =>
 if (!((decide ((0:Int) < n)) && (!t49.1))) = true then
 ((rc t49.2.1 t49.2.2.1 t49.2.2.2 (w64 (deep - (1:Int)))).bind fun t56 =>
 if (((decide ((0:Int) < n)) && (!t49.1)) || (!t56.1)) = true then
 some (.inr (false,t56.2.1,t56.2.2.1,t56.2.2.2))
 else
 some (.inl (.l9 t56.2.1 t56.2.2.1 t56.2.2.2 deep (w64 (n + (1:Int))))))
 else
 if (((decide ((0:Int) < n)) && (!t49.1)) || (!false)) = true then
 some (.inr (false,t49.2.1,t49.2.2.1,t49.2.2.2))
 else
 some (.inl (.l9 t49.2.1 t49.2.2.1 t49.2.2.2 deep (w64 (n + (1:Int))))))
 else
 if (!((decide ((0:Int) < n)) && (!false))) = true then
 ((rc t43.2.1 t43.2.2.1 t43.2.2.2 (w64 (deep - (1:Int)))).bind fun t56 =>
 if (((decide ((0:Int) < n)) && (!false)) || (!t56.1)) = true then
 some (.inr (false,t56.2.1,t56.2.2.1,t56.2.2.2))
 else
 some (.inl (.l9 t56.2.1 t56.2.2.1 t56.2.2.2 deep (w64 (n + (1:Int))))))
 else
 if (((decide ((0:Int) < n)) && (!false)) || (!false)) = true then
 some (.inr (false,t43.2.1,t43.2.2.1,t43.2.2.2))
 else
 some (.inl (.l9 t43.2.1 t43.2.2.1 t43.2.2.2 deep (w64 (n + (1:Int))))))
 else
 (value_reader_put t43.2.1 t43.2.2.1 t43.2.2.2 ((3:Int),n,(0:Int),([]:List UInt8),())).bind fun t64 =>
 some (.inr (t64.1,t64.2.1,t64.2.2.1,t64.2.2.2))
noncomputable def st_value_reader_value (rc:(List UInt8) → Int → (List tAtom) → Int → Option (Bool × (List UInt8) × Int × (List tAtom))):L_value_reader_value → Option (L_value_reader_value ⊕ (Bool × (List UInt8) × Int × (List tAtom)))
 | .l9 r_ r_' r_'' deep n=>sg_value_reader_value_9 rc r_ r_' r_'' deep n
noncomputable def en_value_reader_value (rc:(List UInt8) → Int → (List tAtom) → Int → Option (Bool × (List UInt8) × Int × (List tAtom))) (r_:(List UInt8)) (r_':Int) (r_'':(List tAtom)) (deep:Int):Option (L_value_reader_value ⊕ (Bool × (List UInt8) × Int × (List tAtom))) :=
 if ((decide (deep = (0:Int))) || (decide ((r_.length:Int) ≤ r_'))) = true then
 some (.inr (false,r_,r_',r_''))
 else
 G (0 ≤ r_' ∧ r_' < (r_.length:Int)) <|
 if (decide (((r_.getD r_'.toNat 0).toNat:Int) = 34)) = true then
 ((value_reader_text r_ r_' r_'').bind fun t32 =>
 some (.inr (t32.1,t32.2.1,t32.2.2.1,t32.2.2.2)))
 else
 if (decide (((r_.getD r_'.toNat 0).toNat:Int) = 91)) = true then
 some (.inl (.l9 r_ (w64 (r_' + (1:Int))) r_'' deep (0:Int)))
 else
 (value_reader_number r_ r_' r_'').bind fun t66 =>
 some (.inr (t66.1,t66.2.1,t66.2.2.1,t66.2.2.2))
noncomputable def value_reader_value_n:Nat → (List UInt8) → Int → (List tAtom) → Int → Option (Bool × (List UInt8) × Int × (List tAtom))
 | 0,_,_,_,_=>none
 | fu_ + 1,r_,r_',r_'',deep=>runL (st_value_reader_value (value_reader_value_n fu_)) (en_value_reader_value (value_reader_value_n fu_) r_ r_' r_'' deep)
noncomputable def value_reader_value (r_:(List UInt8)) (r_':Int) (r_'':(List tAtom)) (deep:Int):Option (Bool × (List UInt8) × Int × (List tAtom)) := value_reader_value_n 40 r_ r_' r_'' deep
noncomputable def value_Parse (s_:(List UInt8)):Option ((List tAtom) × Int) :=
 if (decide ((65536:Int) < (s_.length:Int))) = true then
 some (([]:List tAtom),(3:Int))
 else
 (value_reader_value ((s_,(0:Int),(Value.slice none 0 0),()).1) ((s_,(0:Int),(Value.slice none 0 0),()).2.1) ([]:List tAtom) (32:Int)).bind fun t12 =>
 if ((!t12.1) || (!decide (t12.2.2.1 = (s_.length:Int)))) = true then
 some (([]:List tAtom),(2:Int))
 else
 some (t12.2.2.2,(0:Int))
noncomputable def law07_whole (n:Int):Option (List tAtom) :=
 some ([((1:Int),(0:Int),n,([]:List UInt8),())]:List tAtom)
inductive L_value_first where
 | l2 (x6:(List (List tAtom))) (x7:Int) (x8:Int)
noncomputable def sg_value_first_2 (x6:(List (List tAtom))) (x7:Int) (x8:Int):Option (L_value_first ⊕ Int) :=
 if (decide (x8 < x7)) = true then
 (G (0 ≤ x8 ∧ x8 < (x6.length:Int)) <|
 (value_Check (x6.getD x8.toNat ([]:List tAtom))).bind fun t13 =>
 if (!decide (t13 = (0:Int))) = true then
 some (.inr t13)
 else
 some (.inl (.l2 x6 x7 (w64 (x8 + (1:Int))))))
 else
 some (.inr (0:Int))
noncomputable def st_value_first:L_value_first → Option (L_value_first ⊕ Int)
 | .l2 x6 x7 x8=>sg_value_first_2 x6 x7 x8
noncomputable def en_value_first (l:(List (List tAtom))):Option (L_value_first ⊕ Int) :=
 some (.inl (.l2 l (l.length:Int) (0:Int)))
noncomputable def value_first (l:(List (List tAtom))):Option Int := runL st_value_first (en_value_first l)
inductive L_value_made where
 | l3 (l:(List (List tAtom))) (out:(List tAtom)) (x7:(List (List tAtom))) (x8:Int) (x9:Int)
noncomputable def sg_value_made_3 (l:(List (List tAtom))) (out:(List tAtom)) (x7:(List (List tAtom))) (x8:Int) (x9:Int):Option (L_value_made ⊕ ((List tAtom) × Bool)) :=
 if (decide (x9 < x8)) = true then
 (G (0 ≤ x9 ∧ x9 < (x7.length:Int)) <|
 if (decide ((1024:Int) ≤ (w64 ((out.length:Int) + ((x7.getD x9.toNat ([]:List tAtom)).length:Int))))) = true then
 some (.inr (([]:List tAtom),false))
 else
 G ((out.length + (x7.getD x9.toNat ([]:List tAtom)).length) * 40 ≤ 140737488355328) <|
 some (.inl (.l3 l (out ++ (x7.getD x9.toNat ([]:List tAtom))) x7 x8 (w64 (x9 + (1:Int))))))
 else
 G ((out.length + ([((3:Int),(l.length:Int),(0:Int),([]:List UInt8),())]:List tAtom).length) * 40 ≤ 140737488355328) <|
 (value_Check (out ++ ([((3:Int),(l.length:Int),(0:Int),([]:List UInt8),())]:List tAtom))).bind fun t31 =>
 some (.inr ((out ++ ([((3:Int),(l.length:Int),(0:Int),([]:List UInt8),())]:List tAtom)),(decide (t31 = (0:Int)))))
noncomputable def st_value_made:L_value_made → Option (L_value_made ⊕ ((List tAtom) × Bool))
 | .l3 l out x7 x8 x9=>sg_value_made_3 l out x7 x8 x9
noncomputable def en_value_made (l:(List (List tAtom))):Option (L_value_made ⊕ ((List tAtom) × Bool)) :=
 some (.inl (.l3 l ([]:List tAtom) l (l.length:Int) (0:Int)))
noncomputable def value_made (l:(List (List tAtom))):Option ((List tAtom) × Bool) := runL st_value_made (en_value_made l)
noncomputable def value_List (l:(List (List tAtom))):Option ((List tAtom) × Int) :=
 if (decide ((4096:Int) < (l.length:Int))) = true then
 some (([]:List tAtom),(3:Int))
 else
 (value_first l).bind fun t11 =>
 if (!decide (t11 = (0:Int))) = true then
 some (([]:List tAtom),t11)
 else
 (value_made l).bind fun t17 =>
 if (!t17.2) = true then
 some (([]:List tAtom),(3:Int))
 else
 some (t17.1,(0:Int))
inductive L_slices_IndexFunc where
 | l2 (s_:(List (List tAtom))) (f:Value) (x7:Int) (x8:Int)
noncomputable def sg_slices_IndexFunc_2 (dyn:Value → (List tAtom) → Option Bool) (s_:(List (List tAtom))) (f:Value) (x7:Int) (x8:Int):Option (L_slices_IndexFunc ⊕ Int) :=
 if (decide (x8 < x7)) = true then
 (G (0 ≤ x8 ∧ x8 < (s_.length:Int)) <|
 (dyn f (s_.getD x8.toNat ([]:List tAtom))).bind fun t16 =>
 if t16 = true then
 some (.inr x8)
 else
 some (.inl (.l2 s_ f x7 (w64 (x8 + (1:Int))))))
 else
 some (.inr (-1:Int))
noncomputable def st_slices_IndexFunc (dyn:Value → (List tAtom) → Option Bool):L_slices_IndexFunc → Option (L_slices_IndexFunc ⊕ Int)
 | .l2 s_ f x7 x8=>sg_slices_IndexFunc_2 dyn s_ f x7 x8
noncomputable def en_slices_IndexFunc (dyn:Value → (List tAtom) → Option Bool) (s_:(List (List tAtom))) (f:Value):Option (L_slices_IndexFunc ⊕ Int) :=
 some (.inl (.l2 s_ f (s_.length:Int) (0:Int)))
noncomputable def slices_IndexFunc (dyn:Value → (List tAtom) → Option Bool) (s_:(List (List tAtom))) (f:Value):Option Int := runL (st_slices_IndexFunc dyn) (en_slices_IndexFunc dyn s_ f)
noncomputable def en_slices_ContainsFunc (dyn:Value → (List tAtom) → Option Bool) (s_:(List (List tAtom))) (f:Value):Option Bool :=
 (slices_IndexFunc dyn s_ f).bind fun t7 =>
 some (decide ((0:Int) ≤ t7))
noncomputable def slices_ContainsFunc (dyn:Value → (List tAtom) → Option Bool) (s_:(List (List tAtom))) (f:Value):Option Bool := en_slices_ContainsFunc dyn s_ f
noncomputable def value_top (v:(List tAtom)):Option tAtom :=
 G (0 ≤ (w64 ((v.length:Int) - (1:Int))) ∧ (w64 ((v.length:Int) - (1:Int))) < (v.length:Int)) <|
 some ((v.getD (w64 ((v.length:Int) - (1:Int))).toNat dAtom).1,(v.getD (w64 ((v.length:Int) - (1:Int))).toNat dAtom).2.1,(v.getD (w64 ((v.length:Int) - (1:Int))).toNat dAtom).2.2.1,(v.getD (w64 ((v.length:Int) - (1:Int))).toNat dAtom).2.2.2.1,())
noncomputable def value_args_ints_1 (v:(List tAtom)):Option Bool :=
 (value_top v).bind fun t4 =>
 some (!decide (t4.1 = (1:Int)))
noncomputable def en_value_args_ints (a:(List (List tAtom))):Option Bool :=
 (slices_ContainsFunc (fun v_ a0=>if fnIs v_ 104 = true then value_args_ints_1 a0 else none) a (fnv 104)).bind fun t4 =>
 some (!t4)
noncomputable def value_args_ints (a:(List (List tAtom))):Option Bool := en_value_args_ints a
noncomputable def value_Int (n:Int):Option ((List tAtom) × Int) :=
 if ((decide (n < (-9007199254740992:Int))) || (decide ((9007199254740992:Int) < n))) = true then
 some (([]:List tAtom),(1:Int))
 else
 some (([((1:Int),(0:Int),n,([]:List UInt8),())]:List tAtom),(0:Int))
noncomputable def value_number (n:Int):Option ((List tAtom) × Bool) :=
 (value_Int n).bind fun t8 =>
 some (t8.1,(decide (t8.2 = (0:Int))))
noncomputable def value_args_add (a:(List (List tAtom))):Option ((List tAtom) × Bool) :=
 (value_args_ints a).bind fun t5 =>
 if (!t5) = true then
 some (([]:List tAtom),false)
 else
 G (0 ≤ (0:Int) ∧ (0:Int) < (a.length:Int)) <|
 G (0 ≤ (0:Int) ∧ (0:Int) < ((a.getD (0:Int).toNat ([]:List tAtom)).length:Int)) <|
 G (0 ≤ (1:Int) ∧ (1:Int) < (a.length:Int)) <|
 G (0 ≤ (0:Int) ∧ (0:Int) < ((a.getD (1:Int).toNat ([]:List tAtom)).length:Int)) <|
 (value_number (w64 (((a.getD (0:Int).toNat ([]:List tAtom)).getD (0:Int).toNat dAtom).2.2.1 + ((a.getD (1:Int).toNat ([]:List tAtom)).getD (0:Int).toNat dAtom).2.2.1))).bind fun t20 =>
 some (t20.1,t20.2)
inductive L_value_members where
 | l5 (v:(List tAtom)) (w:(List twhole)) (out:(List (List tAtom))) (end_:Int) (i:Int)
noncomputable def sg_value_members_5 (v:(List tAtom)) (w:(List twhole)) (out:(List (List tAtom))) (end_:Int) (i:Int):Option (L_value_members ⊕ (List (List tAtom))) :=
 if (decide ((0:Int) ≤ i)) = true then
 (G (0 ≤ (w64 (end_ - (1:Int))) ∧ (w64 (end_ - (1:Int))) < (w.length:Int)) <|
 G (0 ≤ (w.getD ((w64 (end_ - (1:Int))).toNat) dwhole).1 ∧ (w.getD ((w64 (end_ - (1:Int))).toNat) dwhole).1 ≤ end_ ∧ end_ ≤ end_ ∧ end_ ≤ (v.length:Int)) <|
 G (0 ≤ i ∧ i < (out.length:Int)) <|
 some (.inl (.l5 v w (out.set i.toNat (cut v ((w.getD ((w64 (end_ - (1:Int))).toNat) dwhole).1).toNat end_.toNat)) ((w.getD ((w64 (end_ - (1:Int))).toNat) dwhole).1) (w64 (i - (1:Int))))))
 else
 some (.inr out)
noncomputable def st_value_members:L_value_members → Option (L_value_members ⊕ (List (List tAtom)))
 | .l5 v w out end_ i=>sg_value_members_5 v w out end_ i
noncomputable def en_value_members (v:(List tAtom)):Option (L_value_members ⊕ (List (List tAtom))) :=
 (value_wholes v).bind fun t11 =>
 (value_top v).bind fun t15 =>
 G (0 ≤ t15.2.1 ∧ t15.2.1 ≤ t15.2.1 ∧ (24:Int) * t15.2.1 ≤ 281474976710656) <|
 some (.inl (.l5 v t11.1 (List.replicate t15.2.1.toNat ([]:List tAtom)) (w64 ((v.length:Int) - (1:Int))) (w64 ((((List.replicate t15.2.1.toNat ([]:List tAtom)).length:Nat):Int) - (1:Int)))))
noncomputable def value_members (v:(List tAtom)):Option (List (List tAtom)) := runL st_value_members (en_value_members v)
noncomputable def slices_Clone (s_:List tAtom):Option (List tAtom) := G ((([]:List tAtom).length + s_.length) * 40 ≤ 140737488355328) <| some s_
noncomputable def cmp_isNaN (x:Int):Option Bool :=
 some (!decide (x = x))
noncomputable def cmp_Compare (x:Int) (y:Int):Option Int :=
 (cmp_isNaN x).bind fun t8 =>
 (cmp_isNaN y).bind fun t10 =>
 if t8 = true then
 (if t10 = true then
 some (0:Int)
 else
 some (-1:Int))
 else
 if t10 = true then
 some (1:Int)
 else
 if (decide (x < y)) = true then
 some (-1:Int)
 else
 if (decide (y < x)) = true then
 some (1:Int)
 else
 some (0:Int)
noncomputable def bytealg_abigen_runtime_cmpstring (a b:List UInt8):Option Int := some (Lib.compareBytes a b)
noncomputable def bytealg_CompareString (a:(List UInt8)) (b:(List UInt8)):Option Int :=
 (bytealg_abigen_runtime_cmpstring a b).bind fun t7 =>
 some t7
noncomputable def strings_Compare (a:(List UInt8)) (b:(List UInt8)):Option Int :=
 (bytealg_CompareString a b).bind fun t7 =>
 some t7
inductive L_slices_CompareFunc where
 | l2 (s1:(List (List tAtom))) (s2:(List (List tAtom))) (cmp:Value) (x11:(List (List tAtom))) (x12:Int) (x13:Int)
noncomputable def sg_slices_CompareFunc_2 (dyn:Value → (List tAtom) → (List tAtom) → Option Int) (s1:(List (List tAtom))) (s2:(List (List tAtom))) (cmp:Value) (x11:(List (List tAtom))) (x12:Int) (x13:Int):Option (L_slices_CompareFunc ⊕ Int) :=
 if (decide (x13 < x12)) = true then
 (G (0 ≤ x13 ∧ x13 < (x11.length:Int)) <|
 if (decide ((s2.length:Int) ≤ x13)) = true then
 some (.inr (1:Int))
 else
 G (0 ≤ x13 ∧ x13 < (s2.length:Int)) <|
 (dyn cmp (x11.getD x13.toNat ([]:List tAtom)) (s2.getD x13.toNat ([]:List tAtom))).bind fun t29 =>
 if (!decide (t29 = (0:Int))) = true then
 some (.inr t29)
 else
 some (.inl (.l2 s1 s2 cmp x11 x12 (w64 (x13 + (1:Int))))))
 else
 if (decide ((s1.length:Int) < (s2.length:Int))) = true then
 some (.inr (-1:Int))
 else
 some (.inr (0:Int))
noncomputable def st_slices_CompareFunc (dyn:Value → (List tAtom) → (List tAtom) → Option Int):L_slices_CompareFunc → Option (L_slices_CompareFunc ⊕ Int)
 | .l2 s1 s2 cmp x11 x12 x13=>sg_slices_CompareFunc_2 dyn s1 s2 cmp x11 x12 x13
noncomputable def en_slices_CompareFunc (dyn:Value → (List tAtom) → (List tAtom) → Option Int) (s1:(List (List tAtom))) (s2:(List (List tAtom))) (cmp:Value):Option (L_slices_CompareFunc ⊕ Int) :=
 some (.inl (.l2 s1 s2 cmp s1 (s1.length:Int) (0:Int)))
noncomputable def slices_CompareFunc (dyn:Value → (List tAtom) → (List tAtom) → Option Int) (s1:(List (List tAtom))) (s2:(List (List tAtom))) (cmp:Value):Option Int := runL (st_slices_CompareFunc dyn) (en_slices_CompareFunc dyn s1 s2 cmp)
noncomputable def en_value_compare (rc:(List tAtom) → (List tAtom) → Option Int) (a:(List tAtom)) (b:(List tAtom)):Option Int :=
 (value_top a).bind fun t8 =>
 (value_top b).bind fun t10 =>
 if (!decide (t8.1 = t10.1)) = true then
 ((cmp_Compare t8.1 t10.1).bind fun t21 =>
 some t21)
 else
 if (decide (t8.1 = (1:Int))) = true then
 ((cmp_Compare t8.2.2.1 t10.2.2.1).bind fun t30 =>
 some t30)
 else
 if (decide (t8.1 = (2:Int))) = true then
 ((strings_Compare t8.2.2.2.1 t10.2.2.2.1).bind fun t39 =>
 some t39)
 else
 (value_members a).bind fun t41 =>
 (value_members b).bind fun t43 =>
 (slices_CompareFunc (fun v_ a0 a1=>if fnIs v_ 38 = true then rc a0 a1 else none) t41 t43 (fnv 38)).bind fun t44 =>
 some t44
noncomputable def value_compare_n:Nat → (List tAtom) → (List tAtom) → Option Int
 | 0,_,_=>none
 | fu_ + 1,a,b=>en_value_compare (value_compare_n fu_) a b
noncomputable def value_compare (a:(List tAtom)) (b:(List tAtom)):Option Int := value_compare_n 64 a b
noncomputable def value_way (kind:Int):Option (Int × Value) :=
 if (decide (kind = (5:Int))) = true then
 some ((-1:Int),(fnv 68))
 else
 if (decide (kind = (6:Int))) = true then
 some ((2:Int),(fnv 69))
 else
 if (decide (kind = (7:Int))) = true then
 some ((2:Int),(fnv 70))
 else
 if (decide (kind = (8:Int))) = true then
 some ((2:Int),(fnv 71))
 else
 if (decide (kind = (9:Int))) = true then
 some ((2:Int),(fnv 72))
 else
 if (decide (kind = (10:Int))) = true then
 some ((2:Int),(fnv 73))
 else
 if (decide (kind = (11:Int))) = true then
 some ((1:Int),(fnv 74))
 else
 if (decide (kind = (12:Int))) = true then
 some ((2:Int),(fnv 75))
 else
 if (decide (kind = (13:Int))) = true then
 some ((2:Int),(fnv 76))
 else
 some ((0:Int),Value.nilFunc)
noncomputable def dyn_value_Do (v_:Value) (a0:(List (List tAtom))):Option ((List tAtom) × Bool) :=
 if fnIs v_ 69 = true then value_args_add a0 else
  none
noncomputable def en_value_Do (kind:Int) (l:(List (List tAtom))):Option ((List tAtom) × Bool × Int) :=
 (value_way kind).bind fun t14 =>
 G (isFnV t14.2 = true) <|
 if (isNilF t14.2) = true then
 some (([]:List tAtom),false,(1:Int))
 else
 if (decide ((4096:Int) < (l.length:Int))) = true then
 some (([]:List tAtom),false,(3:Int))
 else
 if ((decide ((0:Int) ≤ t14.1)) && (!decide ((l.length:Int) = t14.1))) = true then
 some (([]:List tAtom),false,(5:Int))
 else
 (value_first l).bind fun t34 =>
 if (!decide (t34 = (0:Int))) = true then
 some (([]:List tAtom),false,t34)
 else
 (dyn_value_Do t14.2 l).bind fun t41 =>
 if (!t41.2) = true then
 some (([]:List tAtom),false,(0:Int))
 else
 some (t41.1,true,(0:Int))
noncomputable def value_Do (kind:Int) (l:(List (List tAtom))):Option ((List tAtom) × Bool × Int) := en_value_Do kind l
noncomputable def law07_works  : Option Bool :=
 (law07_whole (2:Int)).bind fun t9 =>
 (law07_whole (3:Int)).bind fun t10 =>
 (value_Do (6:Int) ([t9,t10]:List (List tAtom))).bind fun t12 =>
 (law07_whole (1:Int)).bind fun t17 =>
 (value_List ([t17,([((2:Int),(0:Int),(0:Int),([97]:List UInt8),())]:List tAtom),([((3:Int),(0:Int),(0:Int),([]:List UInt8),())]:List tAtom)]:List (List tAtom))).bind fun t23 =>
 (value_Print t23.1).bind fun t28 =>
 (if (t12.2.1 && (decide (t12.2.2 = (0:Int)))) = true then law07_whole (5:Int) else some ([]:List tAtom)).bind fun t38 =>
 (if (t12.2.1 && (decide (t12.2.2 = (0:Int)))) = true then base_SameValue t12.1 t38 else some false).bind fun t39 =>
 some (((((t12.2.1 && (decide (t12.2.2 = (0:Int)))) && t39) && (decide (t23.2 = (0:Int)))) && (decide (t28.2 = (0:Int)))) && (decide (t28.1 = ([91,49,44,32,34,97,34,44,32,91,93,93]:List UInt8))))
noncomputable def value_Compare (a:(List tAtom)) (b:(List tAtom)):Option (Int × Int) :=
 (value_Check a).bind fun t9 =>
 if (!decide (t9 = (0:Int))) = true then
 some ((0:Int),t9)
 else
 (value_Check b).bind fun t14 =>
 if (!decide (t14 = (0:Int))) = true then
 some ((0:Int),t14)
 else
 (value_compare a b).bind fun t20 =>
 some (t20,(0:Int))
noncomputable def law07_compare (a:(List tAtom)) (b:(List tAtom)):Option (Int × Bool) :=
 (value_Compare a b).bind fun t11 =>
 some (t11.1,(((decide (t11.2 = (0:Int))) && (decide ((-1:Int) ≤ t11.1))) && (decide (t11.1 ≤ (1:Int)))))
inductive L_value_Members where
 | l8 (out:(List (Bool × List tAtom))) (x19:Int) (x20:Int)
noncomputable def sg_value_Members_8 (out:(List (Bool × List tAtom))) (x19:Int) (x20:Int):Option (L_value_Members ⊕ ((List (Bool × List tAtom)) × Int)) :=
 if (decide (x20 < x19)) = true then
 (G (0 ≤ x20 ∧ x20 < (out.length:Int)) <|
 G ((el2D out x20.toNat).1 = false) <|
 (slices_Clone ((el2D out x20.toNat).2)).bind fun t29 =>
 G (0 ≤ x20 ∧ x20 < (out.length:Int)) <|
 G ((el2D out x20.toNat).1 = false) <|
 some (.inl (.l8 (out.set x20.toNat (true,t29)) x19 (w64 (x20 + (1:Int))))))
 else
 G (out.length = out.length) <|
 some (.inr (out,(0:Int)))
noncomputable def st_value_Members:L_value_Members → Option (L_value_Members ⊕ ((List (Bool × List tAtom)) × Int))
 | .l8 out x19 x20=>sg_value_Members_8 out x19 x20
noncomputable def en_value_Members (v:(List tAtom)):Option (L_value_Members ⊕ ((List (Bool × List tAtom)) × Int)) :=
 (value_Check v).bind fun t8 =>
 if (!decide (t8 = (0:Int))) = true then
 some (.inr (([]:List (Bool × List tAtom)),t8))
 else
 (value_top v).bind fun t13 =>
 if (!decide (t13.1 = (3:Int))) = true then
 some (.inr (([]:List (Bool × List tAtom)),(7:Int)))
 else
 (value_members v).bind fun t17 =>
 some (.inl (.l8 (t17.map fun y=>(false,y)) (((t17.map fun y=>(false,y)).length:Nat):Int) (0:Int)))
noncomputable def value_Members (v:(List tAtom)):Option ((List (Bool × List tAtom)) × Int) := runL st_value_Members (en_value_Members v)
noncomputable def dyn_slices_insertionSortCmpFunc (v_:Value) (a0:(List tAtom)) (a1:(List tAtom)):Option Int :=
 if fnIs v_ 38 = true then value_compare a0 a1 else
  none
inductive L_slices_insertionSortCmpFunc where
 | l1 (data:(List (Bool × List tAtom))) (a:Int) (b:Int) (cmp:Value) (i:Int)
 | l4 (data:(List (Bool × List tAtom))) (a:Int) (b:Int) (cmp:Value) (i:Int) (j:Int)
noncomputable def sg_slices_insertionSortCmpFunc_1 (data:(List (Bool × List tAtom))) (a:Int) (b:Int) (cmp:Value) (i:Int):Option (L_slices_insertionSortCmpFunc ⊕ (List (Bool × List tAtom))) :=
 if (decide (i < b)) = true then
 some (.inl (.l4 data a b cmp i i))
 else
 some (.inr data)
noncomputable def sg_slices_insertionSortCmpFunc_4 (data:(List (Bool × List tAtom))) (a:Int) (b:Int) (cmp:Value) (i:Int) (j:Int):Option (L_slices_insertionSortCmpFunc ⊕ (List (Bool × List tAtom))) :=
 G ((decide (a < j)) = true → (0 ≤ j ∧ j < (data.length:Int))) <|
 G ((decide (a < j)) = true → ((el2D data j.toNat).1 = true)) <|
 G ((decide (a < j)) = true → (0 ≤ (w64 (j - (1:Int))) ∧ (w64 (j - (1:Int))) < (data.length:Int))) <|
 G ((decide (a < j)) = true → ((el2D data ((w64 (j - (1:Int))).toNat)).1 = true)) <|
 G ((decide (a < j)) = true → ((el2D data j.toNat).2.length = (el2D data j.toNat).2.length)) <|
 G ((decide (a < j)) = true → ((el2D data ((w64 (j - (1:Int))).toNat)).2.length = (el2D data ((w64 (j - (1:Int))).toNat)).2.length)) <|
 (if (decide (a < j)) = true then dyn_slices_insertionSortCmpFunc cmp ((el2D data j.toNat).2) ((el2D data ((w64 (j - (1:Int))).toNat)).2) else some (0:Int)).bind fun t32 =>
 if ((decide (a < j)) && (decide (t32 < (0:Int)))) = true then
 (G (0 ≤ (w64 (j - (1:Int))) ∧ (w64 (j - (1:Int))) < (data.length:Int)) <|
 G ((el2D data ((w64 (j - (1:Int))).toNat)).1 = true) <|
 G (0 ≤ j ∧ j < (data.length:Int)) <|
 G ((el2D data j.toNat).1 = true) <|
 G (swC data j.toNat ((w64 (j - (1:Int))).toNat) j (w64 (j - (1:Int))) data.length ((el2D data ((w64 (j - (1:Int))).toNat)).2.length) ((el2D data j.toNat).2.length)) <|
 some (.inl (.l4 ((data.set j.toNat (el2D data ((w64 (j - (1:Int))).toNat))).set ((w64 (j - (1:Int))).toNat) (el2D data j.toNat)) a b cmp i (w64 (j - (1:Int))))))
 else
 some (.inl (.l1 data a b cmp (w64 (i + (1:Int)))))
noncomputable def st_slices_insertionSortCmpFunc:L_slices_insertionSortCmpFunc → Option (L_slices_insertionSortCmpFunc ⊕ (List (Bool × List tAtom)))
 | .l1 data a b cmp i=>sg_slices_insertionSortCmpFunc_1 data a b cmp i
 | .l4 data a b cmp i j=>sg_slices_insertionSortCmpFunc_4 data a b cmp i j
noncomputable def en_slices_insertionSortCmpFunc (data:(List (Bool × List tAtom))) (a:Int) (b:Int) (cmp:Value):Option (L_slices_insertionSortCmpFunc ⊕ (List (Bool × List tAtom))) :=
 some (.inl (.l1 data a b cmp (w64 (a + (1:Int)))))
noncomputable def slices_insertionSortCmpFunc (data:(List (Bool × List tAtom))) (a:Int) (b:Int) (cmp:Value):Option (List (Bool × List tAtom)) := runL (st_slices_insertionSortCmpFunc) (en_slices_insertionSortCmpFunc data a b cmp)
inductive L_slices_swapRangeCmpFunc where
 | l1 (data:(List (Bool × List tAtom))) (a:Int) (b:Int) (n:Int) (i:Int)
noncomputable def sg_slices_swapRangeCmpFunc_1 (data:(List (Bool × List tAtom))) (a:Int) (b:Int) (n:Int) (i:Int):Option (L_slices_swapRangeCmpFunc ⊕ (List (Bool × List tAtom))) :=
 if (decide (i < n)) = true then
 (G (0 ≤ (w64 (b + i)) ∧ (w64 (b + i)) < (data.length:Int)) <|
 G ((el2D data ((w64 (b + i)).toNat)).1 = true) <|
 G (0 ≤ (w64 (a + i)) ∧ (w64 (a + i)) < (data.length:Int)) <|
 G ((el2D data ((w64 (a + i)).toNat)).1 = true) <|
 G (swC data ((w64 (a + i)).toNat) ((w64 (b + i)).toNat) (w64 (a + i)) (w64 (b + i)) data.length ((el2D data ((w64 (b + i)).toNat)).2.length) ((el2D data ((w64 (a + i)).toNat)).2.length)) <|
 some (.inl (.l1 ((data.set ((w64 (a + i)).toNat) (el2D data ((w64 (b + i)).toNat))).set ((w64 (b + i)).toNat) (el2D data ((w64 (a + i)).toNat))) a b n (w64 (i + (1:Int))))))
 else
 some (.inr data)
noncomputable def st_slices_swapRangeCmpFunc:L_slices_swapRangeCmpFunc → Option (L_slices_swapRangeCmpFunc ⊕ (List (Bool × List tAtom)))
 | .l1 data a b n i=>sg_slices_swapRangeCmpFunc_1 data a b n i
noncomputable def en_slices_swapRangeCmpFunc (data:(List (Bool × List tAtom))) (a:Int) (b:Int) (n:Int) (cmp:Value):Option (L_slices_swapRangeCmpFunc ⊕ (List (Bool × List tAtom))) :=
 some (.inl (.l1 data a b n (0:Int)))
noncomputable def slices_swapRangeCmpFunc (data:(List (Bool × List tAtom))) (a:Int) (b:Int) (n:Int) (cmp:Value):Option (List (Bool × List tAtom)) := runL (st_slices_swapRangeCmpFunc) (en_slices_swapRangeCmpFunc data a b n cmp)
inductive L_slices_rotateCmpFunc where
 | l2 (data:(List (Bool × List tAtom))) (m:Int) (cmp:Value) (i:Int) (j:Int)
noncomputable def sg_slices_rotateCmpFunc_2 (data:(List (Bool × List tAtom))) (m:Int) (cmp:Value) (i:Int) (j:Int):Option (L_slices_rotateCmpFunc ⊕ (List (Bool × List tAtom))) :=
 if (!decide (i = j)) = true then
 (if (decide (j < i)) = true then
 (G (data.length = data.length) <|
 (allR (slices_swapRangeCmpFunc data (w64 (m - i)) m j cmp)).bind fun t31 =>
 some (.inl (.l2 t31 m cmp (w64 (i - j)) j)))
 else
 G (data.length = data.length) <|
 (allR (slices_swapRangeCmpFunc data (w64 (m - i)) (w64 ((w64 (m + j)) - i)) i cmp)).bind fun t46 =>
 some (.inl (.l2 t46 m cmp i (w64 (j - i)))))
 else
 G (data.length = data.length) <|
 (allR (slices_swapRangeCmpFunc data (w64 (m - i)) m i cmp)).bind fun t57 =>
 some (.inr t57)
noncomputable def st_slices_rotateCmpFunc:L_slices_rotateCmpFunc → Option (L_slices_rotateCmpFunc ⊕ (List (Bool × List tAtom)))
 | .l2 data m cmp i j=>sg_slices_rotateCmpFunc_2 data m cmp i j
noncomputable def en_slices_rotateCmpFunc (data:(List (Bool × List tAtom))) (a:Int) (m:Int) (b:Int) (cmp:Value):Option (L_slices_rotateCmpFunc ⊕ (List (Bool × List tAtom))) :=
 some (.inl (.l2 data m cmp (w64 (m - a)) (w64 (b - m))))
noncomputable def slices_rotateCmpFunc (data:(List (Bool × List tAtom))) (a:Int) (m:Int) (b:Int) (cmp:Value):Option (List (Bool × List tAtom)) := runL (st_slices_rotateCmpFunc) (en_slices_rotateCmpFunc data a m b cmp)
noncomputable def dyn_slices_symMergeCmpFunc (v_:Value) (a0:(List tAtom)) (a1:(List tAtom)):Option Int :=
 if fnIs v_ 38 = true then value_compare a0 a1 else
  none
inductive L_slices_symMergeCmpFunc where
 | l3 (data:(List (Bool × List tAtom))) (a:Int) (cmp:Value) (i:Int) (j:Int)
 | l15 (data:(List (Bool × List tAtom))) (m:Int) (cmp:Value) (i:Int) (j:Int)
 | l32 (data:(List (Bool × List tAtom))) (a:Int) (m:Int) (b:Int) (cmp:Value) (mid:Int) (n:Int) (start:Int) (r_:Int)
 | l9 (data:(List (Bool × List tAtom))) (i:Int) (k:Int)
 | l21 (data:(List (Bool × List tAtom))) (i:Int) (k:Int)
 | l33 (data:(List (Bool × List tAtom))) (a:Int) (m:Int) (b:Int) (cmp:Value) (mid:Int) (n:Int) (start:Int) (r_:Int) (p:Int)
 | l41 (data:(List (Bool × List tAtom))) (a:Int) (b:Int) (cmp:Value) (mid:Int) (start:Int) (end_:Int)
 | l43 (data:(List (Bool × List tAtom))) (b:Int) (cmp:Value) (mid:Int) (end_:Int)
noncomputable def sg_slices_symMergeCmpFunc_3 (rc:(List (Bool × List tAtom)) → Int → Int → Int → Value → Option (List (Bool × List tAtom))) (data:(List (Bool × List tAtom))) (a:Int) (cmp:Value) (i:Int) (j:Int):Option (L_slices_symMergeCmpFunc ⊕ (List (Bool × List tAtom))) :=
 if (decide (i < j)) = true then
 (G (0 ≤ (w64 ((Int.fdiv (IntKind.wrap .u64 ((w64 (i + j)))) (2 ^ (min ((1:Int)).toNat IntKind.u64.bits))))) ∧ (w64 ((Int.fdiv (IntKind.wrap .u64 ((w64 (i + j)))) (2 ^ (min ((1:Int)).toNat IntKind.u64.bits))))) < (data.length:Int)) <|
 G ((el2D data ((w64 ((Int.fdiv (IntKind.wrap .u64 ((w64 (i + j)))) (2 ^ (min ((1:Int)).toNat IntKind.u64.bits))))).toNat)).1 = true) <|
 G (0 ≤ a ∧ a < (data.length:Int)) <|
 G ((el2D data a.toNat).1 = true) <|
 G ((el2D data ((w64 ((Int.fdiv (IntKind.wrap .u64 ((w64 (i + j)))) (2 ^ (min ((1:Int)).toNat IntKind.u64.bits))))).toNat)).2.length = (el2D data ((w64 ((Int.fdiv (IntKind.wrap .u64 ((w64 (i + j)))) (2 ^ (min ((1:Int)).toNat IntKind.u64.bits))))).toNat)).2.length) <|
 G ((el2D data a.toNat).2.length = (el2D data a.toNat).2.length) <|
 (dyn_slices_symMergeCmpFunc cmp ((el2D data ((w64 ((Int.fdiv (IntKind.wrap .u64 ((w64 (i + j)))) (2 ^ (min ((1:Int)).toNat IntKind.u64.bits))))).toNat)).2) ((el2D data a.toNat).2)).bind fun t49 =>
 if (decide (t49 < (0:Int))) = true then
 some (.inl (.l3 data a cmp (w64 ((w64 ((Int.fdiv (IntKind.wrap .u64 ((w64 (i + j)))) (2 ^ (min ((1:Int)).toNat IntKind.u64.bits))))) + (1:Int))) j))
 else
 some (.inl (.l3 data a cmp i (w64 ((Int.fdiv (IntKind.wrap .u64 ((w64 (i + j)))) (2 ^ (min ((1:Int)).toNat IntKind.u64.bits))))))))
 else
 some (.inl (.l9 data i a))
noncomputable def sg_slices_symMergeCmpFunc_15 (rc:(List (Bool × List tAtom)) → Int → Int → Int → Value → Option (List (Bool × List tAtom))) (data:(List (Bool × List tAtom))) (m:Int) (cmp:Value) (i:Int) (j:Int):Option (L_slices_symMergeCmpFunc ⊕ (List (Bool × List tAtom))) :=
 if (decide (i < j)) = true then
 (G (0 ≤ m ∧ m < (data.length:Int)) <|
 G ((el2D data m.toNat).1 = true) <|
 G (0 ≤ (w64 ((Int.fdiv (IntKind.wrap .u64 ((w64 (i + j)))) (2 ^ (min ((1:Int)).toNat IntKind.u64.bits))))) ∧ (w64 ((Int.fdiv (IntKind.wrap .u64 ((w64 (i + j)))) (2 ^ (min ((1:Int)).toNat IntKind.u64.bits))))) < (data.length:Int)) <|
 G ((el2D data ((w64 ((Int.fdiv (IntKind.wrap .u64 ((w64 (i + j)))) (2 ^ (min ((1:Int)).toNat IntKind.u64.bits))))).toNat)).1 = true) <|
 G ((el2D data m.toNat).2.length = (el2D data m.toNat).2.length) <|
 G ((el2D data ((w64 ((Int.fdiv (IntKind.wrap .u64 ((w64 (i + j)))) (2 ^ (min ((1:Int)).toNat IntKind.u64.bits))))).toNat)).2.length = (el2D data ((w64 ((Int.fdiv (IntKind.wrap .u64 ((w64 (i + j)))) (2 ^ (min ((1:Int)).toNat IntKind.u64.bits))))).toNat)).2.length) <|
 (dyn_slices_symMergeCmpFunc cmp ((el2D data m.toNat).2) ((el2D data ((w64 ((Int.fdiv (IntKind.wrap .u64 ((w64 (i + j)))) (2 ^ (min ((1:Int)).toNat IntKind.u64.bits))))).toNat)).2)).bind fun t101 =>
 if (!(decide (t101 < (0:Int)))) = true then
 some (.inl (.l15 data m cmp (w64 ((w64 ((Int.fdiv (IntKind.wrap .u64 ((w64 (i + j)))) (2 ^ (min ((1:Int)).toNat IntKind.u64.bits))))) + (1:Int))) j))
 else
 some (.inl (.l15 data m cmp i (w64 ((Int.fdiv (IntKind.wrap .u64 ((w64 (i + j)))) (2 ^ (min ((1:Int)).toNat IntKind.u64.bits))))))))
 else
 some (.inl (.l21 data i m))
noncomputable def sg_slices_symMergeCmpFunc_32 (rc:(List (Bool × List tAtom)) → Int → Int → Int → Value → Option (List (Bool × List tAtom))) (data:(List (Bool × List tAtom))) (a:Int) (m:Int) (b:Int) (cmp:Value) (mid:Int) (n:Int) (start:Int) (r_:Int):Option (L_slices_symMergeCmpFunc ⊕ (List (Bool × List tAtom))) :=
 some (.inl (.l33 data a m b cmp mid n start r_ (w64 (n - (1:Int)))))
noncomputable def sg_slices_symMergeCmpFunc_9 (rc:(List (Bool × List tAtom)) → Int → Int → Int → Value → Option (List (Bool × List tAtom))) (data:(List (Bool × List tAtom))) (i:Int) (k:Int):Option (L_slices_symMergeCmpFunc ⊕ (List (Bool × List tAtom))) :=
 if (decide (k < (w64 (i - (1:Int))))) = true then
 (G (0 ≤ (w64 (k + (1:Int))) ∧ (w64 (k + (1:Int))) < (data.length:Int)) <|
 G ((el2D data ((w64 (k + (1:Int))).toNat)).1 = true) <|
 G (0 ≤ k ∧ k < (data.length:Int)) <|
 G ((el2D data k.toNat).1 = true) <|
 G (swC data k.toNat ((w64 (k + (1:Int))).toNat) k (w64 (k + (1:Int))) data.length ((el2D data ((w64 (k + (1:Int))).toNat)).2.length) ((el2D data k.toNat).2.length)) <|
 some (.inl (.l9 ((data.set k.toNat (el2D data ((w64 (k + (1:Int))).toNat))).set ((w64 (k + (1:Int))).toNat) (el2D data k.toNat)) i (w64 (k + (1:Int))))))
 else
 some (.inr data)
noncomputable def sg_slices_symMergeCmpFunc_21 (rc:(List (Bool × List tAtom)) → Int → Int → Int → Value → Option (List (Bool × List tAtom))) (data:(List (Bool × List tAtom))) (i:Int) (k:Int):Option (L_slices_symMergeCmpFunc ⊕ (List (Bool × List tAtom))) :=
 if (decide (i < k)) = true then
 (G (0 ≤ (w64 (k - (1:Int))) ∧ (w64 (k - (1:Int))) < (data.length:Int)) <|
 G ((el2D data ((w64 (k - (1:Int))).toNat)).1 = true) <|
 G (0 ≤ k ∧ k < (data.length:Int)) <|
 G ((el2D data k.toNat).1 = true) <|
 G (swC data k.toNat ((w64 (k - (1:Int))).toNat) k (w64 (k - (1:Int))) data.length ((el2D data ((w64 (k - (1:Int))).toNat)).2.length) ((el2D data k.toNat).2.length)) <|
 some (.inl (.l21 ((data.set k.toNat (el2D data ((w64 (k - (1:Int))).toNat))).set ((w64 (k - (1:Int))).toNat) (el2D data k.toNat)) i (w64 (k - (1:Int))))))
 else
 some (.inr data)
noncomputable def sg_slices_symMergeCmpFunc_33 (rc:(List (Bool × List tAtom)) → Int → Int → Int → Value → Option (List (Bool × List tAtom))) (data:(List (Bool × List tAtom))) (a:Int) (m:Int) (b:Int) (cmp:Value) (mid:Int) (n:Int) (start:Int) (r_:Int) (p:Int):Option (L_slices_symMergeCmpFunc ⊕ (List (Bool × List tAtom))) :=
 if (decide (start < r_)) = true then
 (G (0 ≤ (w64 (p - (w64 ((Int.fdiv (IntKind.wrap .u64 ((w64 (start + r_)))) (2 ^ (min ((1:Int)).toNat IntKind.u64.bits))))))) ∧ (w64 (p - (w64 ((Int.fdiv (IntKind.wrap .u64 ((w64 (start + r_)))) (2 ^ (min ((1:Int)).toNat IntKind.u64.bits))))))) < (data.length:Int)) <|
 G ((el2D data ((w64 (p - (w64 ((Int.fdiv (IntKind.wrap .u64 ((w64 (start + r_)))) (2 ^ (min ((1:Int)).toNat IntKind.u64.bits))))))).toNat)).1 = true) <|
 G (0 ≤ (w64 ((Int.fdiv (IntKind.wrap .u64 ((w64 (start + r_)))) (2 ^ (min ((1:Int)).toNat IntKind.u64.bits))))) ∧ (w64 ((Int.fdiv (IntKind.wrap .u64 ((w64 (start + r_)))) (2 ^ (min ((1:Int)).toNat IntKind.u64.bits))))) < (data.length:Int)) <|
 G ((el2D data ((w64 ((Int.fdiv (IntKind.wrap .u64 ((w64 (start + r_)))) (2 ^ (min ((1:Int)).toNat IntKind.u64.bits))))).toNat)).1 = true) <|
 G ((el2D data ((w64 (p - (w64 ((Int.fdiv (IntKind.wrap .u64 ((w64 (start + r_)))) (2 ^ (min ((1:Int)).toNat IntKind.u64.bits))))))).toNat)).2.length = (el2D data ((w64 (p - (w64 ((Int.fdiv (IntKind.wrap .u64 ((w64 (start + r_)))) (2 ^ (min ((1:Int)).toNat IntKind.u64.bits))))))).toNat)).2.length) <|
 G ((el2D data ((w64 ((Int.fdiv (IntKind.wrap .u64 ((w64 (start + r_)))) (2 ^ (min ((1:Int)).toNat IntKind.u64.bits))))).toNat)).2.length = (el2D data ((w64 ((Int.fdiv (IntKind.wrap .u64 ((w64 (start + r_)))) (2 ^ (min ((1:Int)).toNat IntKind.u64.bits))))).toNat)).2.length) <|
 (dyn_slices_symMergeCmpFunc cmp ((el2D data ((w64 (p - (w64 ((Int.fdiv (IntKind.wrap .u64 ((w64 (start + r_)))) (2 ^ (min ((1:Int)).toNat IntKind.u64.bits))))))).toNat)).2) ((el2D data ((w64 ((Int.fdiv (IntKind.wrap .u64 ((w64 (start + r_)))) (2 ^ (min ((1:Int)).toNat IntKind.u64.bits))))).toNat)).2)).bind fun t169 =>
 if (!(decide (t169 < (0:Int)))) = true then
 some (.inl (.l33 data a m b cmp mid n (w64 ((w64 ((Int.fdiv (IntKind.wrap .u64 ((w64 (start + r_)))) (2 ^ (min ((1:Int)).toNat IntKind.u64.bits))))) + (1:Int))) r_ p))
 else
 some (.inl (.l33 data a m b cmp mid n start (w64 ((Int.fdiv (IntKind.wrap .u64 ((w64 (start + r_)))) (2 ^ (min ((1:Int)).toNat IntKind.u64.bits))))) p)))
 else
 if ((decide (start < m)) && (decide (m < (w64 (n - start))))) = true then
 (G (data.length = data.length) <|
 (allR (slices_rotateCmpFunc data start m (w64 (n - start)) cmp)).bind fun t191 =>
 some (.inl (.l41 t191 a b cmp mid start (w64 (n - start)))))
 else
 some (.inl (.l41 data a b cmp mid start (w64 (n - start))))
noncomputable def sg_slices_symMergeCmpFunc_41 (rc:(List (Bool × List tAtom)) → Int → Int → Int → Value → Option (List (Bool × List tAtom))) (data:(List (Bool × List tAtom))) (a:Int) (b:Int) (cmp:Value) (mid:Int) (start:Int) (end_:Int):Option (L_slices_symMergeCmpFunc ⊕ (List (Bool × List tAtom))) :=
 if ((decide (a < start)) && (decide (start < mid))) = true then
 (G (data.length = data.length) <|
 (allR (rc data a start mid cmp)).bind fun t205 =>
 some (.inl (.l43 t205 b cmp mid end_)))
 else
 some (.inl (.l43 data b cmp mid end_))
noncomputable def sg_slices_symMergeCmpFunc_43 (rc:(List (Bool × List tAtom)) → Int → Int → Int → Value → Option (List (Bool × List tAtom))) (data:(List (Bool × List tAtom))) (b:Int) (cmp:Value) (mid:Int) (end_:Int):Option (L_slices_symMergeCmpFunc ⊕ (List (Bool × List tAtom))) :=
 if ((decide (mid < end_)) && (decide (end_ < b))) = true then
 (G (data.length = data.length) <|
 (allR (rc data mid end_ b cmp)).bind fun t219 =>
 some (.inr t219))
 else
 some (.inr data)
noncomputable def st_slices_symMergeCmpFunc (rc:(List (Bool × List tAtom)) → Int → Int → Int → Value → Option (List (Bool × List tAtom))):L_slices_symMergeCmpFunc → Option (L_slices_symMergeCmpFunc ⊕ (List (Bool × List tAtom)))
 | .l3 data a cmp i j=>sg_slices_symMergeCmpFunc_3 rc data a cmp i j
 | .l15 data m cmp i j=>sg_slices_symMergeCmpFunc_15 rc data m cmp i j
 | .l32 data a m b cmp mid n start r_=>sg_slices_symMergeCmpFunc_32 rc data a m b cmp mid n start r_
 | .l9 data i k=>sg_slices_symMergeCmpFunc_9 rc data i k
 | .l21 data i k=>sg_slices_symMergeCmpFunc_21 rc data i k
 | .l33 data a m b cmp mid n start r_ p=>sg_slices_symMergeCmpFunc_33 rc data a m b cmp mid n start r_ p
 | .l41 data a b cmp mid start end_=>sg_slices_symMergeCmpFunc_41 rc data a b cmp mid start end_
 | .l43 data b cmp mid end_=>sg_slices_symMergeCmpFunc_43 rc data b cmp mid end_
noncomputable def en_slices_symMergeCmpFunc (rc:(List (Bool × List tAtom)) → Int → Int → Int → Value → Option (List (Bool × List tAtom))) (data:(List (Bool × List tAtom))) (a:Int) (m:Int) (b:Int) (cmp:Value):Option (L_slices_symMergeCmpFunc ⊕ (List (Bool × List tAtom))) :=
 if (decide ((w64 (m - a)) = (1:Int))) = true then
 some (.inl (.l3 data a cmp m b))
 else
 if (decide ((w64 (b - m)) = (1:Int))) = true then
 some (.inl (.l15 data m cmp a m))
 else
 if (decide ((w64 ((Int.fdiv (IntKind.wrap .u64 ((w64 (a + b)))) (2 ^ (min ((1:Int)).toNat IntKind.u64.bits))))) < m)) = true then
 some (.inl (.l32 data a m b cmp (w64 ((Int.fdiv (IntKind.wrap .u64 ((w64 (a + b)))) (2 ^ (min ((1:Int)).toNat IntKind.u64.bits))))) (w64 ((w64 ((Int.fdiv (IntKind.wrap .u64 ((w64 (a + b)))) (2 ^ (min ((1:Int)).toNat IntKind.u64.bits))))) + m)) (w64 ((w64 ((w64 ((Int.fdiv (IntKind.wrap .u64 ((w64 (a + b)))) (2 ^ (min ((1:Int)).toNat IntKind.u64.bits))))) + m)) - b)) (w64 ((Int.fdiv (IntKind.wrap .u64 ((w64 (a + b)))) (2 ^ (min ((1:Int)).toNat IntKind.u64.bits)))))))
 else
 some (.inl (.l32 data a m b cmp (w64 ((Int.fdiv (IntKind.wrap .u64 ((w64 (a + b)))) (2 ^ (min ((1:Int)).toNat IntKind.u64.bits))))) (w64 ((w64 ((Int.fdiv (IntKind.wrap .u64 ((w64 (a + b)))) (2 ^ (min ((1:Int)).toNat IntKind.u64.bits))))) + m)) a m))
noncomputable def slices_symMergeCmpFunc_n:Nat → (List (Bool × List tAtom)) → Int → Int → Int → Value → Option (List (Bool × List tAtom))
 | 0,_,_,_,_,_=>none
 | fu_ + 1,data,a,m,b,cmp=>runL (st_slices_symMergeCmpFunc (slices_symMergeCmpFunc_n fu_)) (en_slices_symMergeCmpFunc (slices_symMergeCmpFunc_n fu_) data a m b cmp)
noncomputable def slices_symMergeCmpFunc (data:(List (Bool × List tAtom))) (a:Int) (m:Int) (b:Int) (cmp:Value):Option (List (Bool × List tAtom)) := slices_symMergeCmpFunc_n 200 data a m b cmp
inductive L_slices_stableCmpFunc where
 | l2 (data:(List (Bool × List tAtom))) (n:Int) (cmp:Value) (blockSize:Int) (a:Int) (b:Int)
 | l7 (data:(List (Bool × List tAtom))) (n:Int) (cmp:Value) (blockSize:Int)
 | l9 (data:(List (Bool × List tAtom))) (n:Int) (cmp:Value) (blockSize:Int) (a:Int) (b:Int)
noncomputable def sg_slices_stableCmpFunc_2 (data:(List (Bool × List tAtom))) (n:Int) (cmp:Value) (blockSize:Int) (a:Int) (b:Int):Option (L_slices_stableCmpFunc ⊕ (List (Bool × List tAtom))) :=
 if (decide (b ≤ n)) = true then
 (G (data.length = data.length) <|
 (allR (slices_insertionSortCmpFunc data a b cmp)).bind fun t18 =>
 some (.inl (.l2 t18 n cmp blockSize b (w64 (b + blockSize)))))
 else
 G (data.length = data.length) <|
 (allR (slices_insertionSortCmpFunc data a n cmp)).bind fun t27 =>
 some (.inl (.l7 t27 n cmp blockSize))
noncomputable def sg_slices_stableCmpFunc_7 (data:(List (Bool × List tAtom))) (n:Int) (cmp:Value) (blockSize:Int):Option (L_slices_stableCmpFunc ⊕ (List (Bool × List tAtom))) :=
 if (decide (blockSize < n)) = true then
 some (.inl (.l9 data n cmp blockSize (0:Int) (w64 ((2:Int) * blockSize))))
 else
 some (.inr data)
noncomputable def sg_slices_stableCmpFunc_9 (data:(List (Bool × List tAtom))) (n:Int) (cmp:Value) (blockSize:Int) (a:Int) (b:Int):Option (L_slices_stableCmpFunc ⊕ (List (Bool × List tAtom))) :=
 if (decide (b ≤ n)) = true then
 (G (data.length = data.length) <|
 (allR (slices_symMergeCmpFunc data a (w64 (a + blockSize)) b cmp)).bind fun t43 =>
 some (.inl (.l9 t43 n cmp blockSize b (w64 (b + (w64 ((2:Int) * blockSize)))))))
 else
 if (decide ((w64 (a + blockSize)) < n)) = true then
 (G (data.length = data.length) <|
 (allR (slices_symMergeCmpFunc data a (w64 (a + blockSize)) n cmp)).bind fun t60 =>
 some (.inl (.l7 t60 n cmp (w64 (blockSize * (2:Int))))))
 else
 some (.inl (.l7 data n cmp (w64 (blockSize * (2:Int)))))
noncomputable def st_slices_stableCmpFunc:L_slices_stableCmpFunc → Option (L_slices_stableCmpFunc ⊕ (List (Bool × List tAtom)))
 | .l2 data n cmp blockSize a b=>sg_slices_stableCmpFunc_2 data n cmp blockSize a b
 | .l7 data n cmp blockSize=>sg_slices_stableCmpFunc_7 data n cmp blockSize
 | .l9 data n cmp blockSize a b=>sg_slices_stableCmpFunc_9 data n cmp blockSize a b
noncomputable def en_slices_stableCmpFunc (data:(List (Bool × List tAtom))) (n:Int) (cmp:Value):Option (L_slices_stableCmpFunc ⊕ (List (Bool × List tAtom))) :=
 some (.inl (.l2 data n cmp (20:Int) (0:Int) (20:Int)))
noncomputable def slices_stableCmpFunc (data:(List (Bool × List tAtom))) (n:Int) (cmp:Value):Option (List (Bool × List tAtom)) := runL (st_slices_stableCmpFunc) (en_slices_stableCmpFunc data n cmp)
noncomputable def en_slices_SortStableFunc (x:(List (Bool × List tAtom))) (cmp:Value):Option (List (Bool × List tAtom)) :=
 G (x.length = x.length) <|
 (allR (slices_stableCmpFunc x (x.length:Int) cmp)).bind fun t8 =>
 some t8
noncomputable def slices_SortStableFunc (x:(List (Bool × List tAtom))) (cmp:Value):Option (List (Bool × List tAtom)) := en_slices_SortStableFunc x cmp
inductive L_value_Sort where
 | l8 (l:(List (List tAtom))) (out:(List (Bool × List tAtom))) (x19:Int) (x20:Int)
noncomputable def sg_value_Sort_8 (l:(List (List tAtom))) (out:(List (Bool × List tAtom))) (x19:Int) (x20:Int):Option (L_value_Sort ⊕ ((List (Bool × List tAtom)) × Int)) :=
 if (decide (x20 < x19)) = true then
 (G (0 ≤ x20 ∧ x20 < (l.length:Int)) <|
 (slices_Clone (l.getD x20.toNat ([]:List tAtom))).bind fun t29 =>
 G (0 ≤ x20 ∧ x20 < (out.length:Int)) <|
 G ((el2D out x20.toNat).1 = false) <|
 some (.inl (.l8 l (out.set x20.toNat (true,t29)) x19 (w64 (x20 + (1:Int))))))
 else
 G (out.length = out.length) <|
 (allR (slices_SortStableFunc out (fnv 38))).bind fun t33 =>
 G (t33.length = t33.length) <|
 some (.inr (t33,(0:Int)))
noncomputable def st_value_Sort:L_value_Sort → Option (L_value_Sort ⊕ ((List (Bool × List tAtom)) × Int))
 | .l8 l out x19 x20=>sg_value_Sort_8 l out x19 x20
noncomputable def en_value_Sort (l:(List (List tAtom))):Option (L_value_Sort ⊕ ((List (Bool × List tAtom)) × Int)) :=
 if (decide ((4096:Int) < (l.length:Int))) = true then
 some (.inr (([]:List (Bool × List tAtom)),(3:Int)))
 else
 (value_first l).bind fun t11 =>
 if (!decide (t11 = (0:Int))) = true then
 some (.inr (([]:List (Bool × List tAtom)),t11))
 else
 G (0 ≤ (l.length:Int) ∧ (l.length:Int) ≤ (l.length:Int) ∧ (24:Int) * (l.length:Int) ≤ 281474976710656) <|
 some (.inl (.l8 l ((List.replicate (l.length:Int).toNat ([]:List tAtom)).map fun y=>(false,y)) (l.length:Int) (0:Int)))
noncomputable def value_Sort (l:(List (List tAtom))):Option ((List (Bool × List tAtom)) × Int) := runL st_value_Sort (en_value_Sort l)
inductive L_law07_ValueBack where
 | l8 (v:(List tAtom)) (s_:(List UInt8)) (l:(List (List tAtom)))
 | l13 (v:(List tAtom)) (l:(List (List tAtom)))
 | l18 (l:(List (List tAtom)))
 | l24 (l:(List (List tAtom))) (x:(List (Bool × List tAtom))) (i:Int)
 | l30 (l:(List (List tAtom))) (x:(List (Bool × List tAtom))) (i:Int)
 | l34 (l:(List (List tAtom))) (x:(List (Bool × List tAtom))) (i:Int) (n:Int) (k:Int)
 | l38 (l:(List (List tAtom))) (x:(List (Bool × List tAtom))) (i:Int) (n:Int) (k:Int)
noncomputable def sg_law07_ValueBack_8 (v:(List tAtom)) (s_:(List UInt8)) (l:(List (List tAtom))):Option (L_law07_ValueBack ⊕ Bool) :=
 (value_Parse s_).bind fun t49 =>
 if (decide (t49.2 = (0:Int))) = true then
 ((value_Print t49.1).bind fun t56 =>
 if ((!decide (t56.2 = (0:Int))) || (!decide (t56.1 = s_))) = true then
 some (.inr false)
 else
 some (.inl (.l13 v l)))
 else
 some (.inl (.l13 v l))
noncomputable def sg_law07_ValueBack_13 (v:(List tAtom)) (l:(List (List tAtom))):Option (L_law07_ValueBack ⊕ Bool) :=
 (value_Members v).bind fun t68 =>
 if (decide (t68.2 = (0:Int))) = true then
 (G (t68.1.length = t68.1.length) <|
 (value_List (t68.1.map fun y=>y.2)).bind fun t75 =>
 (if (!(!decide (t75.2 = (0:Int)))) = true then base_SameValue v t75.1 else some false).bind fun t83 =>
 if ((!decide (t75.2 = (0:Int))) || (!t83)) = true then
 some (.inr false)
 else
 some (.inl (.l18 l)))
 else
 some (.inl (.l18 l))
noncomputable def sg_law07_ValueBack_18 (l:(List (List tAtom))):Option (L_law07_ValueBack ⊕ Bool) :=
 (value_Sort l).bind fun t88 =>
 if (!decide (t88.2 = (0:Int))) = true then
 some (.inr (decide ((t88.1.length:Int) = (0:Int))))
 else
 if (!decide ((t88.1.length:Int) = (l.length:Int))) = true then
 some (.inr false)
 else
 some (.inl (.l24 l t88.1 (1:Int)))
noncomputable def sg_law07_ValueBack_24 (l:(List (List tAtom))) (x:(List (Bool × List tAtom))) (i:Int):Option (L_law07_ValueBack ⊕ Bool) :=
 if (decide (i < (x.length:Int))) = true then
 (G (0 ≤ (w64 (i - (1:Int))) ∧ (w64 (i - (1:Int))) < (x.length:Int)) <|
 G ((el2D x ((w64 (i - (1:Int))).toNat)).1 = true) <|
 G (0 ≤ i ∧ i < (x.length:Int)) <|
 G ((el2D x i.toNat).1 = true) <|
 G ((el2D x ((w64 (i - (1:Int))).toNat)).2.length = (el2D x ((w64 (i - (1:Int))).toNat)).2.length) <|
 G ((el2D x i.toNat).2.length = (el2D x i.toNat).2.length) <|
 (law07_compare ((el2D x ((w64 (i - (1:Int))).toNat)).2) ((el2D x i.toNat).2)).bind fun t117 =>
 if ((!t117.2) || (decide ((0:Int) < t117.1))) = true then
 some (.inr false)
 else
 some (.inl (.l24 l x (w64 (i + (1:Int))))))
 else
 some (.inl (.l30 l x (0:Int)))
noncomputable def sg_law07_ValueBack_30 (l:(List (List tAtom))) (x:(List (Bool × List tAtom))) (i:Int):Option (L_law07_ValueBack ⊕ Bool) :=
 if ((decide (i < (l.length:Int))) && (decide (i < (60:Int)))) = true then
 some (.inl (.l34 l x i (0:Int) (0:Int)))
 else
 some (.inr true)
noncomputable def sg_law07_ValueBack_34 (l:(List (List tAtom))) (x:(List (Bool × List tAtom))) (i:Int) (n:Int) (k:Int):Option (L_law07_ValueBack ⊕ Bool) :=
 if (decide (k < (l.length:Int))) = true then
 (G (0 ≤ k ∧ k < (l.length:Int)) <|
 G (0 ≤ i ∧ i < (l.length:Int)) <|
 (base_SameValue (l.getD k.toNat ([]:List tAtom)) (l.getD i.toNat ([]:List tAtom))).bind fun t150 =>
 if t150 = true then
 some (.inl (.l38 l x i (w64 (n + (1:Int))) k))
 else
 some (.inl (.l38 l x i n k)))
 else
 if (!decide (n = (0:Int))) = true then
 some (.inr false)
 else
 some (.inl (.l30 l x (w64 (i + (1:Int)))))
noncomputable def sg_law07_ValueBack_38 (l:(List (List tAtom))) (x:(List (Bool × List tAtom))) (i:Int) (n:Int) (k:Int):Option (L_law07_ValueBack ⊕ Bool) :=
 G (0 ≤ k ∧ k < (x.length:Int)) <|
 G ((el2D x k.toNat).1 = true) <|
 G (0 ≤ i ∧ i < (l.length:Int)) <|
 G ((el2D x k.toNat).2.length = (el2D x k.toNat).2.length) <|
 (base_SameValue ((el2D x k.toNat).2) (l.getD i.toNat ([]:List tAtom))).bind fun t161 =>
 if t161 = true then
 some (.inl (.l34 l x i (w64 (n - (1:Int))) (w64 (k + (1:Int)))))
 else
 some (.inl (.l34 l x i n (w64 (k + (1:Int)))))
noncomputable def st_law07_ValueBack:L_law07_ValueBack → Option (L_law07_ValueBack ⊕ Bool)
 | .l8 v s_ l=>sg_law07_ValueBack_8 v s_ l
 | .l13 v l=>sg_law07_ValueBack_13 v l
 | .l18 l=>sg_law07_ValueBack_18 l
 | .l24 l x i=>sg_law07_ValueBack_24 l x i
 | .l30 l x i=>sg_law07_ValueBack_30 l x i
 | .l34 l x i n k=>sg_law07_ValueBack_34 l x i n k
 | .l38 l x i n k=>sg_law07_ValueBack_38 l x i n k
noncomputable def en_law07_ValueBack (v:(List tAtom)) (s_:(List UInt8)) (l:(List (List tAtom))):Option (L_law07_ValueBack ⊕ Bool) :=
 (law07_works).bind fun t20 =>
 if (!t20) = true then
 some (.inr false)
 else
 (value_Print v).bind fun t24 =>
 if ((decide (t24.2 = (0:Int))) && (decide ((t24.1.length:Int) ≤ (65536:Int)))) = true then
 ((value_Parse t24.1).bind fun t36 =>
 (if (!(!decide (t36.2 = (0:Int)))) = true then base_SameValue v t36.1 else some false).bind fun t44 =>
 if ((!decide (t36.2 = (0:Int))) || (!t44)) = true then
 some (.inr false)
 else
 some (.inl (.l8 v s_ l)))
 else
 some (.inl (.l8 v s_ l))
noncomputable def law07_ValueBack (v:(List tAtom)) (s_:(List UInt8)) (l:(List (List tAtom))):Option Bool := runL st_law07_ValueBack (en_law07_ValueBack v s_ l)
end Go.Eng
