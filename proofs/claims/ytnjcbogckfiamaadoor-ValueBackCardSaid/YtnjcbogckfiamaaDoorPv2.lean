/- A part of the proof: Pv2. -/
import Derived.Test.YtnjcbogckfiamaaDoorPv1
import Derived.Test.YtnjcbogckfiamaaDoorTree
namespace Go.Eng
set_option linter.unusedVariables false
set_option linter.unusedSimpArgs false
def arV (a:tAtom):Nat := a.2.1.toNat
noncomputable def goodV (lim:Int) (t:Tr tAtom):Bool := wellA t.a && decide ((tdeep t:Int) ≤ lim)
def qW (p:Nat × Nat):twhole := ((p.1:Int),(p.2:Int),())
def whQ (F:List (Tr tAtom)):List twhole := (whF F 0).map qW
def outQ (F:List (Tr tAtom)):List twhole := (outF F 0).map qW
theorem dmax_wh:∀ (f:List (Tr tAtom)) (p:Nat),dmax ((whF f p).map qW) = (tdeeps f:Int)
 | [],p=>rfl
 | t :: f,p=>by
  rw [whF,List.map_cons,dmax,dmax_wh f]
  simp only [qW,tdeeps]; omega
theorem whQ_len (F:List (Tr tAtom)):(whQ F).length = F.length := by rw [whQ,List.length_map,whF_len]
theorem topW_wh (F:List (Tr tAtom)) (k:Nat) (hk:k ≤ F.length) (a:tAtom):topW ((flats F).length:Int) ((whQ F).drop k) = qW ((flats (F.take k)).length,tdeep (.node a (F.drop k))) := by
 have e:(whQ F).drop k = (whF (F.drop k) (0 + (flats (F.take k)).length)).map qW := by rw [whQ,← List.map_drop,whF_drop F 0 k hk]
 rw [e]
 unfold topW
 rw [dmax_wh,Nat.zero_add]
 have h1:headW ((flats F).length:Int) ((whF (F.drop k) (flats (F.take k)).length).map qW) = ((flats (F.take k)).length:Int) := by
  cases hd:F.drop k with
  | nil =>
   have:F.take k = F := by
    have := List.take_append_drop k F
    rw [hd,List.append_nil] at this; exact this
   rw [this]; rfl
  | cons t r=>rfl
 rw [h1]
 show _ = (((flats (F.take k)).length:Int),((tdeeps (F.drop k) + 1:Nat):Int),())
 rfl
theorem step_push {lim:Int} (F:List (Tr tAtom)) (a:tAtom) (hw:wellA a = true) (hn:arV a ≤ F.length) :
  stepW ((flats F).length:Int) a (whQ F) = some (qW ((flats (F.take (F.length - arV a))).length,tdeep (.node a (F.drop (F.length - arV a)))),whQ (F.take (F.length - arV a) ++ [.node a (F.drop (F.length - arV a))])) := by
 have hp := wellA_pos hw
 unfold stepW
 rw [if_pos ⟨hw,by rw [whQ_len]; unfold arV at hn; omega⟩,whQ_len]
 have e := topW_wh F (F.length - arV a) (by omega) a
 rw [show F.length - a.2.1.toNat = F.length - arV a from rfl,e]
 congr 1
 congr 1
 rw [whQ,whQ,← List.map_take,whF_take F 0 _ (by omega),whF_app,List.map_append,Nat.zero_add]
 rfl
theorem outQ_push (F:List (Tr tAtom)) (a:tAtom) (k:Nat):outQ (F.take k ++ [.node a (F.drop k)]) = outQ F ++ [qW ((flats (F.take k)).length,tdeep (.node a (F.drop k)))] := by
 rw [outQ,outF_app,Nat.zero_add,outF,outT,outF,List.append_nil,List.map_append,List.map_append,← List.append_assoc,outQ]
 congr 1
 rw [← List.map_append]
 congr 1
 have:outF F 0 = outF (F.take k ++ F.drop k) 0 := by rw [List.take_append_drop]
 rw [this,outF_app,Nat.zero_add]
theorem begV_parse (lim:Int):∀ (l:List tAtom) (F:List (Tr tAtom)),begV lim l (flats F).length (outQ F) (whQ F) = (parseT arV (goodV lim) l F).map fun F'=>(outQ F',whQ F')
 | [],F=>rfl
 | a :: r,F=>by
  rw [begV,parseT]
  by_cases hc:wellA a = true ∧ arV a ≤ F.length
  ·rw [step_push (lim := lim) F a hc.1 hc.2]
   simp only
   by_cases hd:((tdeep (.node a (F.drop (F.length - arV a))):Nat):Int) ≤ lim
   ·have hg:goodV lim (.node a (F.drop (F.length - arV a))) = true := by simp only [goodV,Tr.a,hc.1,hd,decide_true,Bool.and_self]
    have hp:pushT arV (goodV lim) a F = some (F.take (F.length - arV a) ++ [.node a (F.drop (F.length - arV a))]) := by rw [pushT,if_pos ⟨hc.2,hg⟩]
    have hl:¬ lim < (qW ((flats (F.take (F.length - arV a))).length,tdeep (.node a (F.drop (F.length - arV a))))).2.1 := by show ¬ lim < ((tdeep (.node a (F.drop (F.length - arV a))):Nat):Int); omega
    rw [hp,if_neg hl]
    simp only
    rw [← outQ_push,← begV_parse lim r,flats_app,flats,flat,flats,List.append_nil,← List.append_assoc,← flats_app,List.take_append_drop,List.length_append]; rfl
   ·have hg:goodV lim (.node a (F.drop (F.length - arV a))) = false := by simp only [goodV,Tr.a,hc.1,hd,decide_false,Bool.and_false]
    have hp:pushT arV (goodV lim) a F = none := by rw [pushT,if_neg (by rw [hg]; simp)]
    have hl:lim < (qW ((flats (F.take (F.length - arV a))).length,tdeep (.node a (F.drop (F.length - arV a))))).2.1 := by show lim < ((tdeep (.node a (F.drop (F.length - arV a))):Nat):Int); omega
    rw [hp,if_pos hl]
    rfl
  ·have h1:stepW ((flats F).length:Int) a (whQ F) = none := by
    unfold stepW
    rw [if_neg]
    rintro ⟨k1,k2⟩
    have := wellA_pos k1
    rw [whQ_len] at k2
    exact hc ⟨k1,by unfold arV; omega⟩
   have h2:pushT arV (goodV lim) a F = none := by
    unfold pushT
    rw [if_neg]
    rintro ⟨k1,k2⟩
    refine hc ⟨?_,k1⟩
    simp only [goodV,Tr.a,Bool.and_eq_true] at k2
    exact k2.1
   rw [h1,h2]; rfl
theorem begV_top (lim:Int) (l:List tAtom):begV lim l 0 [] [] = (parseT arV (goodV lim) l []).map fun F'=>(outQ F',whQ F') := begV_parse lim l []
theorem wholes_par (v:List tAtom) (hv:v.length ≤ 1024):value_wholes v = some (match parseT arV (goodV 32) v [] with | some F=>(outQ F,decide (F.length = 1)) | none=>([],false)) := by
 rw [wholes_eq v hv,begV_top]
 cases parseT arV (goodV 32) v [] with
 | none=>rfl
 | some F=>simp only [Option.map_some,whQ_len]
end Go.Eng
