/- A part of the proof: So1. -/
import Derived.Test.YtnjcbogckfiamaaDoorSo0
namespace Go.Eng
set_option linter.unusedVariables false
set_option linter.unusedSimpArgs false
theorem Gx {ρ:Type} {p:Prop} {d:Decidable p} {k:Option ρ} (h:p):@G ρ p d k = k := by unfold G; exact if_pos h
theorem el_mid (A:List SE) (x:SE) (B:List SE) {n:Nat} (h:A.length = n):el2D (A ++ x :: B) n = x := by
 subst h
 unfold el2D
 rw [List.getD_eq_getElem?_getD,List.getElem?_append_right (Nat.le_refl _)]; simp
theorem set_md (A:List SE) (x y:SE) (B:List SE) {n:Nat} (h:A.length = n):(A ++ x :: B).set n y = A ++ y :: B := by
 subst h
 rw [List.set_append_right _ _ (Nat.le_refl _)]; simp
theorem swap_md (A M B:List SE) (x y:SE) {p q:Nat} (hp:A.length = p) (hq:p + 1 + M.length = q) :
  el2D (A ++ x :: (M ++ y :: B)) p = x ∧ el2D (A ++ x :: (M ++ y :: B)) q = y ∧ ((A ++ x :: (M ++ y :: B)).set p y).set q x = A ++ y :: (M ++ x :: B) ∧ ((A ++ x :: (M ++ y :: B)).set q x).set p y = A ++ y :: (M ++ x :: B) := by
 have e:∀ z:SE,A ++ z :: (M ++ y :: B) = (A ++ z :: M) ++ y :: B := fun z=>by simp
 have hl:∀ z:SE,(A ++ z :: M).length = q := fun z=>by simp; omega
 refine ⟨el_mid _ _ _ hp,by rw [e]; exact el_mid _ _ _ (hl x),?_,?_⟩
 ·rw [set_md _ _ _ _ hp,e,set_md _ _ _ _ (hl y)]; simp
 ·rw [e,set_md _ _ _ _ (hl x),show (A ++ x :: M) ++ x :: B = A ++ x :: (M ++ x :: B) by simp,set_md _ _ _ _ hp]
theorem sw_ok (D:List SE) {p q:Nat} {p' q':Int} (hp:p' = (p:Int)) (hq:q' = (q:Int)) (hpq:p ≠ q) (h1:p < D.length) (h2:q < D.length) (t1:(el2D D p).1 = true) (t2:(el2D D q).1 = true):swC D p'.toNat q'.toNat p' q' D.length ((el2D D q'.toNat).2.length) ((el2D D p'.toNat).2.length) := by
 subst hp hq
 rw [Int.toNat_natCast,Int.toNat_natCast]
 exact ⟨⟨⟨rfl,rfl⟩,hpq,rfl,rfl,rfl⟩,⟨⟨by omega,by omega⟩,by omega,by omega⟩,t1,t2⟩
theorem swapR_loop (n:Nat):∀ (U V X M Z:List SE) (a b i:Nat),U.length = V.length → a + i = X.length → b + i = X.length + U.length + M.length → i + U.length = n → (X ++ (U ++ (M ++ (V ++ Z)))).length < 4611686018427387904 → okL (U ++ V) →
  iter st_slices_swapRangeCmpFunc (.l1 (X ++ (U ++ (M ++ (V ++ Z)))) (a:Int) (b:Int) (n:Int) (i:Int)) = some (X ++ (V ++ (M ++ (U ++ Z))))
 | [],V,X,M,Z,a,b,i,hl,ha,hb,hn,hs,ho=>by
  have hV:V = [] := List.length_eq_zero_iff.1 hl.symm
  subst hV
  simp only [List.length_nil,Nat.add_zero] at hn
  rw [iter_eq']
  have:¬ (i:Int) < (n:Int) := by omega
  simp only [st_slices_swapRangeCmpFunc,sg_slices_swapRangeCmpFunc_1,this,decide_false,Bool.false_eq_true,if_false,runL,List.nil_append]
 | u :: U,[],X,M,Z,a,b,i,hl,ha,hb,hn,hs,ho=>by cases hl
 | u :: U,v :: V,X,M,Z,a,b,i,hl,ha,hb,hn,hs,ho=>by
  simp only [List.length_cons] at hl hb hn
  simp only [List.length_append,List.length_cons] at hs
  have hi:(i:Int) < (n:Int) := by omega
  have ea:w64 ((a:Int) + (i:Int)) = ((X.length:Nat):Int) := by rw [w64_eq (by omega) (by omega)]; omega
  have eb:w64 ((b:Int) + (i:Int)) = ((X.length + 1 + (U ++ M).length:Nat):Int) := by rw [w64_eq (by omega) (by omega),List.length_append]; omega
  have ei:w64 ((i:Int) + 1) = ((i + 1:Nat):Int) := by rw [w64_eq (by omega) (by omega)]; omega
  have e0:X ++ (u :: U ++ (M ++ (v :: V ++ Z))) = X ++ u :: ((U ++ M) ++ v :: (V ++ Z)) := by simp
  obtain ⟨s1,s2,s3,s4⟩ := swap_md X (U ++ M) (V ++ Z) u v rfl (q := X.length + 1 + (U ++ M).length) rfl
  have hlen:(X ++ u :: ((U ++ M) ++ v :: (V ++ Z))).length = X.length + 1 + (U ++ M).length + 1 + (V ++ Z).length := by simp; omega
  have hu:okE u := ho u (by simp)
  have hv:okE v := ho v (by simp)
  rw [e0,iter_eq']
  simp only [st_slices_swapRangeCmpFunc,sg_slices_swapRangeCmpFunc_1]
  rw [if_pos (decide_eq_true hi),ea,eb,ei]
  rw [Gx (by rw [hlen]; omega),Gx (by rw [Int.toNat_natCast,s2]; exact hv.1),Gx (by rw [hlen]; omega),Gx (by rw [Int.toNat_natCast,s1]; exact hu.1),
   Gx (sw_ok _ rfl rfl (by omega) (by rw [hlen]; omega) (by rw [hlen]; omega) (by rw [s1]; exact hu.1) (by rw [s2]; exact hv.1))]
  rw [Int.toNat_natCast,Int.toNat_natCast,s1,s2,s3]
  show iter _ _ = _
  have := swapR_loop n U V (X ++ [v]) (M ++ [u]) Z a b (i + 1) (by omega) (by simp; omega) (by simp; omega) (by omega) (by simp only [List.length_append,List.length_cons,List.length_nil]; omega) (fun y hy=>ho y (by
   simp only [List.cons_append,List.mem_cons,List.mem_append] at hy ⊢
   rcases hy with h | h
   ·exact .inr (.inl h)
   ·exact .inr (.inr (.inr h))))
  have e1:X ++ [v] ++ (U ++ (M ++ [u] ++ (V ++ Z))) = X ++ v :: (U ++ M ++ u :: (V ++ Z)) := by simp
  rw [e1] at this
  rw [this]; simp
theorem swapR_eq (U V X M Z:List SE) (c:Value) (a b n:Int) (hl:U.length = V.length) (ha:a = (X.length:Int)) (hb:b = ((X.length + U.length + M.length:Nat):Int)) (hn:n = (U.length:Int)) (hs:(X ++ (U ++ (M ++ (V ++ Z)))).length < 4611686018427387904) (ho:okL (U ++ V)) :
  slices_swapRangeCmpFunc (X ++ (U ++ (M ++ (V ++ Z)))) a b n c = some (X ++ (V ++ (M ++ (U ++ Z)))) := by
 subst ha hb hn
 exact swapR_loop U.length U V X M Z X.length _ 0 hl rfl (by omega) (by omega) hs ho
theorem allR_ok {l:List SE} {x:Option (List SE)} (hx:x = some l) (h:okL l):allR x = some l := by
 unfold allR
 rw [hx,Option.bind_some,Gx]
 rw [List.all_eq_true]
 exact fun y hy=>(h y hy).1
theorem rot_loop (m:Nat) (c:Value):∀ (k:Nat) (U V X Z:List SE),U.length + V.length ≤ k → 0 < U.length → 0 < V.length → X.length + U.length = m → (X ++ (U ++ (V ++ Z))).length < 2305843009213693952 → okL (X ++ (U ++ (V ++ Z))) →
  iter st_slices_rotateCmpFunc (.l2 (X ++ (U ++ (V ++ Z))) (m:Int) c (U.length:Int) (V.length:Int)) = some (X ++ (V ++ (U ++ Z)))
 | 0,U,V,X,Z,hk,h1,h2,hm,hs,ho=>by omega
 | k + 1,U,V,X,Z,hk,h1,h2,hm,hs,ho=>by
  have hsz:X.length + (U.length + (V.length + Z.length)) < 2305843009213693952 := by simpa using hs
  rw [iter_eq']
  simp only [st_slices_rotateCmpFunc,sg_slices_rotateCmpFunc_2]
  have e1:w64 ((m:Int) - (U.length:Int)) = ((X.length:Nat):Int) := by rw [w64_eq (by omega) (by omega)]; omega
  by_cases he:U.length = V.length
  ·rw [if_neg (by simp only [Bool.not_eq_true',decide_eq_false_iff_not,Decidable.not_not]; omega),Gx trivial,e1]
   have := swapR_eq U V X [] Z c (X.length:Int) (m:Int) (U.length:Int) he rfl (by simp; omega) rfl (by simpa using (by omega:X.length + (U.length + (V.length + Z.length)) < 4611686018427387904)) (okL_app.2 ⟨(okL_app.1 (okL_app.1 ho).2).1,(okL_app.1 (okL_app.1 (okL_app.1 ho).2).2).1⟩)
   simp only [List.nil_append] at this
   rw [allR_ok this (okL_perm (by
    refine List.Perm.append_left _ ?_
    rw [← List.append_assoc,← List.append_assoc]
    exact List.perm_append_comm.append_right _) ho),Option.bind_some]; rfl
  ·rw [if_pos (by simp only [Bool.not_eq_true',decide_eq_false_iff_not]; omega)]
   by_cases hlt:V.length < U.length
   ·rw [if_pos (decide_eq_true (by omega)),Gx trivial,e1]
    obtain ⟨U1,U2,rfl,hU1⟩:∃ U1 U2,U = U1 ++ U2 ∧ U1.length = V.length := ⟨U.take V.length,U.drop V.length,(List.take_append_drop _ _).symm,by rw [List.length_take]; omega⟩
    rw [List.length_append] at *
    have hoU:okL (U1 ++ U2) := (okL_app.1 (okL_app.1 ho).2).1
    have hoV:okL V := (okL_app.1 (okL_app.1 (okL_app.1 ho).2).2).1
    have := swapR_eq U1 V X U2 Z c (X.length:Int) (m:Int) (V.length:Int) hU1 rfl (by omega) (by omega) (by simpa using (by omega:X.length + (U1.length + (U2.length + (V.length + Z.length))) < 4611686018427387904)) (okL_app.2 ⟨(okL_app.1 hoU).1,hoV⟩)
    have e2:X ++ (U1 ++ U2 ++ (V ++ Z)) = X ++ (U1 ++ (U2 ++ (V ++ Z))) := by simp
    have hp:(X ++ (U1 ++ (U2 ++ (V ++ Z)))).Perm (X ++ (V ++ (U2 ++ (U1 ++ Z)))) := by
     refine List.Perm.append_left _ ?_
     have q1:(U1 ++ (U2 ++ (V ++ Z))).Perm (V ++ (U1 ++ (U2 ++ Z))) := by
      have:(U1 ++ U2 ++ V ++ Z).Perm (V ++ (U1 ++ U2) ++ Z) := List.perm_append_comm.append_right _
      simpa using this
     have q2:(V ++ (U1 ++ (U2 ++ Z))).Perm (V ++ (U2 ++ (U1 ++ Z))) := by
      refine List.Perm.append_left _ ?_
      have:(U1 ++ U2 ++ Z).Perm (U2 ++ U1 ++ Z) := List.perm_append_comm.append_right _
      simpa using this
     exact q1.trans q2
    have ho2 := okL_perm hp (by rw [← e2]; exact ho)
    rw [e2,allR_ok this ho2,Option.bind_some]
    show iter _ _ = _
    have e3:w64 (((U1.length + U2.length:Nat):Int) - (V.length:Int)) = (U2.length:Int) := by rw [w64_eq (by omega) (by omega)]; omega
    have hv1:(V.length:Int) = (U1.length:Int) := by omega
    rw [e3,hv1]
    have ih := rot_loop m c k U2 U1 (X ++ V) Z (by omega) (by omega) (by omega) (by simp; omega) (by simpa using (by omega:X.length + (V.length + (U2.length + (U1.length + Z.length))) < 2305843009213693952)) (by simpa using ho2)
    have e4:X ++ V ++ (U2 ++ (U1 ++ Z)) = X ++ (V ++ (U2 ++ (U1 ++ Z))) := by simp
    rw [e4] at ih
    rw [ih]; simp
   ·rw [if_neg (by rw [decide_eq_true_eq]; omega),Gx trivial,e1]
    obtain ⟨V1,V2,rfl,hV2⟩:∃ V1 V2,V = V1 ++ V2 ∧ V2.length = U.length := ⟨V.take (V.length - U.length),V.drop (V.length - U.length),(List.take_append_drop _ _).symm,by rw [List.length_drop]; omega⟩
    rw [List.length_append] at *
    have hoU:okL U := (okL_app.1 (okL_app.1 ho).2).1
    have hoV:okL (V1 ++ V2) := (okL_app.1 (okL_app.1 (okL_app.1 ho).2).2).1
    have e5:w64 (w64 ((m:Int) + ((V1.length + V2.length:Nat):Int)) - (U.length:Int)) = ((X.length + U.length + V1.length:Nat):Int) := by
     rw [w64_eq (a := (m:Int) + _) (by omega) (by omega),w64_eq (by omega) (by omega)]; omega
    have := swapR_eq U V2 X V1 Z c (X.length:Int) ((X.length + U.length + V1.length:Nat):Int) (U.length:Int) hV2.symm rfl rfl rfl (by simpa using (by omega:X.length + (U.length + (V1.length + (V2.length + Z.length))) < 4611686018427387904)) (okL_app.2 ⟨hoU,(okL_app.1 hoV).2⟩)
    have e2:X ++ (U ++ (V1 ++ V2 ++ Z)) = X ++ (U ++ (V1 ++ (V2 ++ Z))) := by simp
    have hp:(X ++ (U ++ (V1 ++ (V2 ++ Z)))).Perm (X ++ (V2 ++ (V1 ++ (U ++ Z)))) := by
     refine List.Perm.append_left _ ?_
     have q1:(U ++ (V1 ++ (V2 ++ Z))).Perm (V2 ++ (U ++ (V1 ++ Z))) := by
      have:(U ++ V1 ++ V2 ++ Z).Perm (V2 ++ (U ++ V1) ++ Z) := List.perm_append_comm.append_right _
      simpa using this
     have q2:(V2 ++ (U ++ (V1 ++ Z))).Perm (V2 ++ (V1 ++ (U ++ Z))) := by
      refine List.Perm.append_left _ ?_
      have:(U ++ V1 ++ Z).Perm (V1 ++ U ++ Z) := List.perm_append_comm.append_right _
      simpa using this
     exact q1.trans q2
    have ho2 := okL_perm hp (by rw [← e2]; exact ho)
    rw [e2,e5,allR_ok this ho2,Option.bind_some]
    show iter _ _ = _
    have e3:w64 (((V1.length + V2.length:Nat):Int) - (U.length:Int)) = (V1.length:Int) := by rw [w64_eq (by omega) (by omega)]; omega
    have hv1:(U.length:Int) = (V2.length:Int) := by omega
    rw [e3,hv1]
    have ih := rot_loop m c k V2 V1 X (U ++ Z) (by omega) (by omega) (by omega) (by omega) (by simpa using (by omega:X.length + (V2.length + (V1.length + (U.length + Z.length))) < 2305843009213693952)) ho2
    rw [ih]; simp
theorem rot_eq (U V X Z:List SE) (c:Value) (a m b:Int) (h1:0 < U.length) (h2:0 < V.length) (ha:a = (X.length:Int)) (hm:m = ((X.length + U.length:Nat):Int)) (hb:b = ((X.length + U.length + V.length:Nat):Int)) (hs:(X ++ (U ++ (V ++ Z))).length < 2305843009213693952) (ho:okL (X ++ (U ++ (V ++ Z)))) :
  slices_rotateCmpFunc (X ++ (U ++ (V ++ Z))) a m b c = some (X ++ (V ++ (U ++ Z))) := by
 subst ha hm hb
 have hsz:X.length + (U.length + (V.length + Z.length)) < 2305843009213693952 := by simpa using hs
 have e1:w64 (((X.length + U.length:Nat):Int) - (X.length:Int)) = (U.length:Int) := by rw [w64_eq (by omega) (by omega)]; omega
 have e2:w64 (((X.length + U.length + V.length:Nat):Int) - ((X.length + U.length:Nat):Int)) = (V.length:Int) := by rw [w64_eq (by omega) (by omega)]; omega
 unfold slices_rotateCmpFunc en_slices_rotateCmpFunc
 rw [e1,e2]
 exact rot_loop _ c _ U V X Z (Nat.le_refl _) h1 h2 rfl hs ho
end Go.Eng
