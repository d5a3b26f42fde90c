/- A part of the proof: So2. -/
import Derived.Test.YtnjcbogckfiamaaDoorSo1
namespace Go.Eng
set_option linter.unusedVariables false
set_option linter.unusedSimpArgs false
theorem dynI_eq {a b:List tAtom} (ha:rV a) (hb:rV b):dyn_slices_insertionSortCmpFunc (fnv 38) a b = some (cV a b) := by
 unfold dyn_slices_insertionSortCmpFunc
 rw [if_pos (fnIs_self 38),vcmp_eq ha hb]
theorem Gno {ρ:Type} {c:Bool} {p:Prop} {d:Decidable (c = true → p)} {k:Option ρ} (h:c = false):@G ρ (c = true → p) d k = k := Gx fun e=>by rw [h] at e; cases e
theorem ins_inner (X R:List SE) (b i:Int):∀ (k:Nat) (S1 S2:List SE) (x:SE),S1.length = k → (X ++ (S1 ++ (x :: (S2 ++ R)))).length < 2305843009213693952 → okL S1 → okE x → okL S2 → srt (S1 ++ S2) → (∀ z ∈ S2,leE x z) →
  ∃ W:List SE,W.Perm (S1 ++ x :: S2) ∧ srt W ∧ iter st_slices_insertionSortCmpFunc (.l4 (X ++ (S1 ++ (x :: (S2 ++ R)))) (X.length:Int) b (fnv 38) i ((X.length + S1.length:Nat):Int)) = iter st_slices_insertionSortCmpFunc (.l1 (X ++ (W ++ R)) (X.length:Int) b (fnv 38) (w64 (i + 1)))
 | 0,S1,S2,x,hk,hs,o1,ox,o2,hst,hx=>by
  have h1:S1 = [] := List.length_eq_zero_iff.1 hk
  subst h1
  refine ⟨x :: S2,List.Perm.refl _,srt_cons.2 ⟨hx,hst⟩,?_⟩
  rw [iter_eq']
  have hf:decide ((X.length:Int) < ((X.length + 0:Nat):Int)) = false := decide_eq_false (by omega)
  show runL _ (sg_slices_insertionSortCmpFunc_4 _ _ _ _ _ _) = _
  unfold sg_slices_insertionSortCmpFunc_4
  rw [List.length_nil,Gno hf,Gno hf,Gno hf,Gno hf,Gno hf,Gno hf,hf]
  simp only [Bool.false_eq_true,if_false,Option.bind_some,Bool.false_and]
  rfl
 | k + 1,S1,S2,x,hk,hs,o1,ox,o2,hst,hx=>by
  obtain ⟨S,y,rfl⟩:∃ S y,S1 = S ++ [y] := by
   rcases List.eq_nil_or_concat S1 with rfl | ⟨S,y,rfl⟩
   ·cases hk
   ·exact ⟨S,y,by simp⟩
  have hS:S.length = k := by simpa using hk
  have oS := (okL_app.1 o1).1
  have oy:okE y := o1 y (by simp)
  have hsz:X.length + (S.length + (1 + (1 + (S2.length + R.length)))) < 2305843009213693952 := by simp only [List.length_append,List.length_cons,List.length_nil] at hs; omega
  have e0:X ++ (S ++ [y] ++ (x :: (S2 ++ R))) = (X ++ S) ++ y :: ([] ++ x :: (S2 ++ R)) := by simp
  have hj:((X.length + (S ++ [y]).length:Nat):Int) = (((X ++ S).length + 1 + ([]:List SE).length:Nat):Int) := by simp; omega
  have hlt:decide ((X.length:Int) < (((X ++ S).length + 1 + ([]:List SE).length:Nat):Int)) = true := decide_eq_true (by simp; omega)
  have hj1:w64 ((((X ++ S).length + 1 + ([]:List SE).length:Nat):Int) - 1) = (((X ++ S).length:Nat):Int) := by
   have:(X ++ S).length = X.length + S.length := List.length_append
   rw [w64_eq (by omega) (by simp only [List.length_nil]; omega)]; simp only [List.length_nil]; omega
  obtain ⟨s1,s2,s3,s4⟩ := swap_md (X ++ S) [] (S2 ++ R) y x rfl (q := (X ++ S).length + 1 + ([]:List SE).length) rfl
  have hlen:((X ++ S) ++ y :: ([] ++ x :: (S2 ++ R))).length = (X ++ S).length + 1 + ([]:List SE).length + 1 + (S2 ++ R).length := by simp only [List.length_append,List.length_cons,List.length_nil]; omega
  rw [e0,hj,iter_eq']
  show ∃ W,_ ∧ _ ∧ runL _ (sg_slices_insertionSortCmpFunc_4 _ _ _ _ _ _) = _
  unfold sg_slices_insertionSortCmpFunc_4
  rw [hj1]
  rw [Gx fun _=>⟨by omega,by rw [hlen]; omega⟩,Gx fun _=>(by rw [Int.toNat_natCast,s2]; exact ox.1),Gx fun _=>⟨by omega,by rw [hlen]; omega⟩,Gx fun _=>(by rw [Int.toNat_natCast,s1]; exact oy.1),Gx fun _=>rfl,Gx fun _=>rfl]
  have hdy:dyn_slices_insertionSortCmpFunc (fnv 38) (el2D ((X ++ S) ++ y :: ([] ++ x :: (S2 ++ R))) (((X ++ S).length + 1 + ([]:List SE).length:Nat):Int).toNat).2 (el2D ((X ++ S) ++ y :: ([] ++ x :: (S2 ++ R))) (((X ++ S).length:Nat):Int).toNat).2 = some (cV x.2 y.2) := by
   rw [Int.toNat_natCast,Int.toNat_natCast,s1,s2,dynI_eq ox.2 oy.2]
  rw [if_pos hlt,hdy,Option.bind_some,hlt]
  have e3:((X ++ S) ++ x :: ([] ++ y :: (S2 ++ R))) = X ++ (S ++ (x :: ((y :: S2) ++ R))) := by simp
  by_cases hc:cV x.2 y.2 < 0
  ·rw [if_pos (by simp [hc])]
   rw [Gx ⟨by omega,by rw [hlen]; omega⟩,Gx (by rw [Int.toNat_natCast,s1]; exact oy.1),Gx ⟨by omega,by rw [hlen]; omega⟩,Gx (by rw [Int.toNat_natCast,s2]; exact ox.1)]
   have hsw := sw_ok ((X ++ S) ++ y :: ([] ++ x :: (S2 ++ R))) (p := (X ++ S).length + 1 + ([]:List SE).length) (q := (X ++ S).length) (p' := (((X ++ S).length + 1 + ([]:List SE).length:Nat):Int)) (q' := ((X ++ S).length:Int)) rfl rfl (by omega) (by rw [hlen]; omega) (by rw [hlen]; omega) (by rw [s2]; exact ox.1) (by rw [s1]; exact oy.1)
   rw [Gx hsw,Int.toNat_natCast,Int.toNat_natCast,s1,s2,s4,e3]
   obtain ⟨W,w1,w2,w3⟩ := ins_inner X R b i k S (y :: S2) x hS (by simp only [List.length_append,List.length_cons]; omega) oS ox (okL_cons.2 ⟨oy,o2⟩) (by simpa using hst) (fun z hz=>by
    rcases List.mem_cons.1 hz with rfl | hz
    ·exact leE_lt hc
    ·exact hx z hz)
   refine ⟨W,w1.trans ?_,w2,?_⟩
   ·rw [List.append_assoc]
    exact List.Perm.append_left _ (List.Perm.swap _ _ _)
   ·have e4:(((X ++ S).length:Nat):Int) = ((X.length + S.length:Nat):Int) := by rw [List.length_append]
    rw [e4]
    exact w3
  ·rw [if_neg (by simp [hc])]
   have hyx := leE_nlt ox oy hc
   refine ⟨S ++ [y] ++ x :: S2,List.Perm.refl _,?_,?_⟩
   ·obtain ⟨t1,t2,t3⟩ := srt_app.1 hst
    refine srt_app.2 ⟨t1,srt_cons.2 ⟨hx,t2⟩,fun u hu v hv=>?_⟩
    rcases List.mem_cons.1 hv with rfl | hv
    ·rcases List.mem_append.1 hu with hu' | hu'
     ·exact leE_trans (oS u hu') oy ox ((srt_app.1 t1).2.2 u hu' y (by simp)) hyx
     ·rw [List.mem_singleton.1 hu']; exact hyx
    ·exact t3 u hu v hv
   ·have e5:X ++ S ++ y :: ([] ++ x :: (S2 ++ R)) = X ++ (S ++ [y] ++ x :: S2 ++ R) := by simp
    rw [e5]; rfl
theorem ins_outer (X R:List SE):∀ (T S:List SE) (b:Nat),b = X.length + S.length + T.length → (X ++ (S ++ (T ++ R))).length < 2305843009213693952 → okL S → okL T → srt S →
  ∃ W:List SE,W.Perm (S ++ T) ∧ srt W ∧ iter st_slices_insertionSortCmpFunc (.l1 (X ++ (S ++ (T ++ R))) (X.length:Int) (b:Int) (fnv 38) ((X.length + S.length:Nat):Int)) = some (X ++ (W ++ R))
 | [],S,b,hb,hs,oS,oT,hS=>by
  refine ⟨S,by simp,hS,?_⟩
  rw [iter_eq']
  have:¬ ((X.length + S.length:Nat):Int) < (b:Int) := by simp only [List.length_nil] at hb; omega
  simp only [st_slices_insertionSortCmpFunc,sg_slices_insertionSortCmpFunc_1,this,decide_false,Bool.false_eq_true,if_false,runL,List.nil_append]
 | x :: T,S,b,hb,hs,oS,oT,hS=>by
  simp only [List.length_cons] at hb
  have hsz:X.length + (S.length + (T.length + 1 + R.length)) < 2305843009213693952 := by simp only [List.length_append,List.length_cons] at hs; omega
  obtain ⟨W,w1,w2,w3⟩ := ins_inner X (T ++ R) (b:Int) ((X.length + S.length:Nat):Int) S.length S [] x rfl (by simpa using hs) oS (okL_cons.1 oT).1 (fun y hy=>by cases hy) (by simpa using hS) (fun z hz=>by cases hz)
  have oW:okL W := okL_perm w1.symm (okL_app.2 ⟨oS,okL_cons.2 ⟨(okL_cons.1 oT).1,fun y hy=>by cases hy⟩⟩)
  have hWl:W.length = S.length + 1 := by rw [w1.length_eq]; simp
  obtain ⟨V,v1,v2,v3⟩ := ins_outer X R T W b (by omega) (by simp only [List.length_append]; omega) oW (okL_cons.1 oT).2 w2
  refine ⟨V,v1.trans ?_,v2,?_⟩
  ·have := w1.append_right T
   simpa using this
  ·rw [iter_eq']
   have hlt:((X.length + S.length:Nat):Int) < (b:Int) := by omega
   show runL _ (sg_slices_insertionSortCmpFunc_1 _ _ _ _ _) = _
   unfold sg_slices_insertionSortCmpFunc_1
   rw [if_pos (decide_eq_true hlt)]
   show iter _ _ = _
   have e1:X ++ (S ++ (x :: T ++ R)) = X ++ (S ++ (x :: ([] ++ (T ++ R)))) := by simp
   rw [e1,w3]
   have e2:w64 (((X.length + S.length:Nat):Int) + 1) = ((X.length + W.length:Nat):Int) := by rw [w64_eq (by omega) (by omega),hWl]; omega
   rw [e2]
   exact v3
theorem insSort_eq (X U R:List SE) (a b:Int) (ha:a = (X.length:Int)) (hb:b = ((X.length + U.length:Nat):Int)) (hs:(X ++ (U ++ R)).length < 2305843009213693952) (hU:okL U) :
  ∃ W:List SE,W.Perm U ∧ srt W ∧ slices_insertionSortCmpFunc (X ++ (U ++ R)) a b (fnv 38) = some (X ++ (W ++ R)) := by
 subst ha hb
 have hsz:X.length + (U.length + R.length) < 2305843009213693952 := by simpa using hs
 have e1:w64 ((X.length:Int) + 1) = ((X.length + 1:Nat):Int) := by rw [w64_eq (by omega) (by omega)]; omega
 cases U with
 | nil =>
  refine ⟨[],List.Perm.refl _,List.Pairwise.nil,?_⟩
  unfold slices_insertionSortCmpFunc en_slices_insertionSortCmpFunc
  rw [e1]
  show iter _ _ = _
  rw [iter_eq']
  have:¬ ((X.length + 1:Nat):Int) < ((X.length + 0:Nat):Int) := by omega
  simp only [st_slices_insertionSortCmpFunc,sg_slices_insertionSortCmpFunc_1,List.length_nil,this,decide_false,Bool.false_eq_true,if_false,runL]
 | cons u U =>
  obtain ⟨W,w1,w2,w3⟩ := ins_outer X R U [u] (X.length + (u :: U).length) (by simp; omega) (by simpa using hs) (fun y hy=>hU y (by simp at hy; simp [hy])) (okL_cons.1 hU).2 (List.pairwise_singleton _ _)
  refine ⟨W,by simpa using w1,w2,?_⟩
  unfold slices_insertionSortCmpFunc en_slices_insertionSortCmpFunc
  rw [e1]
  show iter _ _ = _
  have e2:X ++ (u :: U ++ R) = X ++ ([u] ++ (U ++ R)) := by simp
  rw [e2]
  exact w3
end Go.Eng
