/- A part of the proof: So5. -/
import Derived.Test.YtnjcbogckfiamaaDoorSo4
namespace Go.Eng
set_option linter.unusedVariables false
set_option linter.unusedSimpArgs false
theorem nil_of_len {α:Type} {l:List α} (h:l.length = 0):l = [] := List.length_eq_zero_iff.1 h
theorem symM:∀ (k fu:Nat),k ≤ fu → ∀ (X U V Z:List SE),0 < U.length → 0 < V.length → U.length + V.length ≤ 2 ^ k → (X ++ (U ++ (V ++ Z))).length < 1152921504606846976 → okL (X ++ (U ++ (V ++ Z))) → srt U → srt V →
  ∃ W:List SE,W.Perm (U ++ V) ∧ srt W ∧ slices_symMergeCmpFunc_n (fu + 1) (X ++ (U ++ (V ++ Z))) (X.length:Int) ((X.length + U.length:Nat):Int) ((X.length + U.length + V.length:Nat):Int) (fnv 38) = some (X ++ (W ++ Z))
 | 0,fu,hf,X,U,V,Z,h1,h2,h3,hs,ho,hU,hV=>by simp only [Nat.pow_zero] at h3; omega
 | k + 1,0,hf,X,U,V,Z,h1,h2,h3,hs,ho,hU,hV=>by omega
 | k + 1,fu + 1,hf,X,U,V,Z,h1,h2,h3,hs,ho,hU,hV=>by
  have hsz:X.length + (U.length + (V.length + Z.length)) < 1152921504606846976 := by simpa using hs
  have oU:okL U := (okL_app.1 (okL_app.1 ho).2).1
  have oV:okL V := (okL_app.1 (okL_app.1 (okL_app.1 ho).2).2).1
  have w1:w64 (((X.length + U.length:Nat):Int) - (X.length:Int)) = (U.length:Int) := by rw [w64_eq (by omega) (by omega)]; omega
  have w2:w64 (((X.length + U.length + V.length:Nat):Int) - ((X.length + U.length:Nat):Int)) = (V.length:Int) := by rw [w64_eq (by omega) (by omega)]; omega
  rw [slices_symMergeCmpFunc_n]
  generalize hrc:slices_symMergeCmpFunc_n (fu + 1) = rc
  unfold en_slices_symMergeCmpFunc
  rw [w1,w2]
  by_cases hu1:U.length = 1
  ·obtain ⟨x,rfl⟩:∃ x,U = [x] := List.length_eq_one_iff.1 hu1
   rw [if_pos (decide_eq_true (by simp))]
   exact one_left rc X Z V x (by simpa using (by simp only [List.length_singleton] at hsz; omega:X.length + (V.length + Z.length + 1) < 2305843009213693952)) (oU x (by simp)) oV hV
  rw [if_neg (by rw [decide_eq_true_eq]; omega)]
  by_cases hv1:V.length = 1
  ·obtain ⟨x,rfl⟩:∃ x,V = [x] := List.length_eq_one_iff.1 hv1
   rw [if_pos (decide_eq_true (by simp))]
   exact one_right rc X Z U x (by simpa using (by simp only [List.length_singleton] at hsz; omega:X.length + (U.length + (Z.length + 1)) < 2305843009213693952)) (oV x (by simp)) oU hU
  rw [if_neg (by rw [decide_eq_true_eq]; omega)]
  rw [mid_w X.length (X.length + U.length + V.length) (by omega)]
  -- the numbers
  obtain ⟨mid,hmid⟩:∃ mid,mid = (X.length + (X.length + U.length + V.length)) / 2 := ⟨_,rfl⟩
  obtain ⟨n,hn⟩:∃ n,n = mid + (X.length + U.length) := ⟨_,rfl⟩
  rw [← hmid]
  have w3:w64 ((mid:Int) + ((X.length + U.length:Nat):Int)) = (n:Int) := by rw [w64_eq (by omega) (by omega)]; omega
  have w4:n ≥ X.length + U.length + V.length → w64 ((n:Int) - ((X.length + U.length + V.length:Nat):Int)) = ((n - (X.length + U.length + V.length):Nat):Int) := fun h=>by rw [w64_eq (by omega) (by omega)]; omega
  have w5:w64 ((n:Int) - 1) = ((n - 1:Nat):Int) := by rw [w64_eq (by omega) (by omega)]; omega
  rw [w3]
  obtain ⟨lo,hi,b1,b2,b3,b4,b5,b6,b7,hent⟩:∃ lo hi,X.length ≤ lo ∧ lo ≤ hi ∧ hi ≤ mid ∧ hi ≤ X.length + U.length ∧ n - lo ≤ X.length + U.length + V.length ∧ (lo = X.length ∨ lo + (X.length + U.length + V.length) = n) ∧ (hi = mid ∨ hi = X.length + U.length) ∧
    (if decide ((mid:Int) < ((X.length + U.length:Nat):Int)) = true then some (.inl (.l32 (X ++ (U ++ (V ++ Z))) (X.length:Int) ((X.length + U.length:Nat):Int) ((X.length + U.length + V.length:Nat):Int) (fnv 38) (mid:Int) (n:Int) (w64 ((n:Int) - ((X.length + U.length + V.length:Nat):Int))) (mid:Int))) else
     some (.inl (.l32 (X ++ (U ++ (V ++ Z))) (X.length:Int) ((X.length + U.length:Nat):Int) ((X.length + U.length + V.length:Nat):Int) (fnv 38) (mid:Int) (n:Int) (X.length:Int) ((X.length + U.length:Nat):Int)))) =
    (some (.inl (.l32 (X ++ (U ++ (V ++ Z))) (X.length:Int) ((X.length + U.length:Nat):Int) ((X.length + U.length + V.length:Nat):Int) (fnv 38) (mid:Int) (n:Int) (lo:Int) (hi:Int))):Option (L_slices_symMergeCmpFunc ⊕ List SE)) := by
   by_cases hc:mid < X.length + U.length
   ·refine ⟨n - (X.length + U.length + V.length),mid,by omega,by omega,by omega,by omega,by omega,by omega,.inl rfl,?_⟩
    rw [if_pos (decide_eq_true (by omega)),w4 (by omega)]
   ·refine ⟨X.length,X.length + U.length,by omega,by omega,by omega,by omega,by omega,.inl rfl,.inr rfl,?_⟩
    rw [if_neg (by rw [decide_eq_true_eq]; omega)]
  rw [hent]
  show ∃ W,_ ∧ _ ∧ iter (st_slices_symMergeCmpFunc rc) _ = _
  have e32:iter (st_slices_symMergeCmpFunc rc) (.l32 (X ++ (U ++ (V ++ Z))) (X.length:Int) ((X.length + U.length:Nat):Int) ((X.length + U.length + V.length:Nat):Int) (fnv 38) (mid:Int) (n:Int) (lo:Int) (hi:Int)) =
    iter (st_slices_symMergeCmpFunc rc) (.l33 (X ++ (U ++ (V ++ Z))) (X.length:Int) ((X.length + U.length:Nat):Int) ((X.length + U.length + V.length:Nat):Int) (fnv 38) (mid:Int) (n:Int) (lo:Int) (hi:Int) ((n - 1:Nat):Int)) := by
   rw [iter_eq',← w5]; rfl
  rw [e32]
  have hlen:(X ++ (U ++ (V ++ Z))).length = X.length + (U.length + (V.length + Z.length)) := by simp
  have elU:∀ h (h1:X.length ≤ h) (h2:h < X.length + U.length),el2D (X ++ (U ++ (V ++ Z))) h = U[h - X.length]'(by omega) := fun h h1 h2=>el_in X U (V ++ Z) h1 h2
  have elV:∀ h (h1:X.length + U.length ≤ h) (h2:h < X.length + U.length + V.length),el2D (X ++ (U ++ (V ++ Z))) h = V[h - (X.length + U.length)]'(by omega) := fun h h1 h2=>by
   have hXU:(X ++ U).length = X.length + U.length := List.length_append
   rw [← List.append_assoc,el_in (X ++ U) V Z (by omega) (by omega)]
   simp only [hXU]
  have oh:∀ h,lo ≤ h → h < hi → okE (el2D (X ++ (U ++ (V ++ Z))) h) ∧ okE (el2D (X ++ (U ++ (V ++ Z))) (n - 1 - h)) := fun h a b=>by
   rw [elU h (by omega) (by omega),elV (n - 1 - h) (by omega) (by omega)]
   exact ⟨oU _ (List.getElem_mem _),oV _ (List.getElem_mem _)⟩
  have step:∀ i j:Nat,lo ≤ i → i < j → j ≤ hi → iter (st_slices_symMergeCmpFunc rc) (.l33 (X ++ (U ++ (V ++ Z))) (X.length:Int) ((X.length + U.length:Nat):Int) ((X.length + U.length + V.length:Nat):Int) (fnv 38) (mid:Int) (n:Int) (i:Int) (j:Int) ((n - 1:Nat):Int)) =
    if ¬ cV (el2D (X ++ (U ++ (V ++ Z))) (n - 1 - (i + j) / 2)).2 (el2D (X ++ (U ++ (V ++ Z))) ((i + j) / 2)).2 < 0 then iter (st_slices_symMergeCmpFunc rc) (.l33 (X ++ (U ++ (V ++ Z))) (X.length:Int) ((X.length + U.length:Nat):Int) ((X.length + U.length + V.length:Nat):Int) (fnv 38) (mid:Int) (n:Int) (((i + j) / 2 + 1:Nat):Int) (j:Int) ((n - 1:Nat):Int))
    else iter (st_slices_symMergeCmpFunc rc) (.l33 (X ++ (U ++ (V ++ Z))) (X.length:Int) ((X.length + U.length:Nat):Int) ((X.length + U.length + V.length:Nat):Int) (fnv 38) (mid:Int) (n:Int) (i:Int) (((i + j) / 2:Nat):Int) ((n - 1:Nat):Int)) := fun i j a1 a2 a3=>by
   obtain ⟨oz,oy⟩ := oh ((i + j) / 2) (by omega) (by omega)
   rw [iter_eq']
   show runL _ (sg_slices_symMergeCmpFunc_33 rc _ _ _ _ _ _ _ _ _ _) = _
   unfold sg_slices_symMergeCmpFunc_33
   rw [if_pos (decide_eq_true (by omega)),mid_w i j (by omega)]
   have ep:w64 (((n - 1:Nat):Int) - (((i + j) / 2:Nat):Int)) = ((n - 1 - (i + j) / 2:Nat):Int) := by rw [w64_eq (by omega) (by omega)]; omega
   rw [ep]
   have hdy:dyn_slices_symMergeCmpFunc (fnv 38) (el2D (X ++ (U ++ (V ++ Z))) ((((n - 1 - (i + j) / 2:Nat):Int)).toNat)).2 (el2D (X ++ (U ++ (V ++ Z))) ((((i + j) / 2:Nat):Int)).toNat).2 = some (cV (el2D (X ++ (U ++ (V ++ Z))) (n - 1 - (i + j) / 2)).2 (el2D (X ++ (U ++ (V ++ Z))) ((i + j) / 2)).2) := by
    rw [Int.toNat_natCast,Int.toNat_natCast,dynS_eq oy.2 oz.2]
   rw [Gx ⟨by omega,by rw [hlen]; omega⟩,Gx (by rw [Int.toNat_natCast]; exact oy.1),Gx ⟨by omega,by rw [hlen]; omega⟩,Gx (by rw [Int.toNat_natCast]; exact oz.1),Gx rfl,Gx rfl,hdy,Option.bind_some]
   have e1:w64 ((((i + j) / 2:Nat):Int) + 1) = (((i + j) / 2 + 1:Nat):Int) := by rw [w64_eq (by omega) (by omega)]; omega
   rw [e1]
   by_cases hc:cV (el2D (X ++ (U ++ (V ++ Z))) (n - 1 - (i + j) / 2)).2 (el2D (X ++ (U ++ (V ++ Z))) ((i + j) / 2)).2 < 0
   ·rw [if_neg (by simpa using hc),if_neg (fun h=>h hc)]; rfl
   ·rw [if_pos (by simpa using hc),if_pos hc]; rfl
  obtain ⟨q,q1,q2,q3,q4,q5⟩ := bs_gen (fun i j=>iter (st_slices_symMergeCmpFunc rc) (.l33 (X ++ (U ++ (V ++ Z))) (X.length:Int) ((X.length + U.length:Nat):Int) ((X.length + U.length + V.length:Nat):Int) (fnv 38) (mid:Int) (n:Int) (i:Int) (j:Int) ((n - 1:Nat):Int)))
   (fun i=>runL (st_slices_symMergeCmpFunc rc) (if ((decide ((i:Int) < ((X.length + U.length:Nat):Int))) && (decide (((X.length + U.length:Nat):Int) < (w64 ((n:Int) - (i:Int)))))) = true then
     (G ((X ++ (U ++ (V ++ Z))).length = (X ++ (U ++ (V ++ Z))).length) <| (allR (slices_rotateCmpFunc (X ++ (U ++ (V ++ Z))) (i:Int) ((X.length + U.length:Nat):Int) (w64 ((n:Int) - (i:Int))) (fnv 38))).bind fun t191=>some (.inl (.l41 t191 (X.length:Int) ((X.length + U.length + V.length:Nat):Int) (fnv 38) (mid:Int) (i:Int) (w64 ((n:Int) - (i:Int))))))
     else some (.inl (.l41 (X ++ (U ++ (V ++ Z))) (X.length:Int) ((X.length + U.length + V.length:Nat):Int) (fnv 38) (mid:Int) (i:Int) (w64 ((n:Int) - (i:Int)))))))
   (fun h => ¬ cV (el2D (X ++ (U ++ (V ++ Z))) (n - 1 - h)).2 (el2D (X ++ (U ++ (V ++ Z))) h).2 < 0) lo hi (fun h h' a1 a2 a3 a4=>by
    rw [elU h (by omega) (by omega),elV (n - 1 - h) (by omega) (by omega)] at a4
    rw [elU h' (by omega) (by omega),elV (n - 1 - h') (by omega) (by omega)]
    have o1 := oU _ (List.getElem_mem (l := U) (n := h' - X.length) (by omega))
    have o2 := oU _ (List.getElem_mem (l := U) (n := h - X.length) (by omega))
    have o3 := oV _ (List.getElem_mem (l := V) (n := n - 1 - h - (X.length + U.length)) (by omega))
    have o4 := oV _ (List.getElem_mem (l := V) (n := n - 1 - h' - (X.length + U.length)) (by omega))
    have t1:leE _ _ := srt_el hU oU (i := h' - X.length) (j := h - X.length) (by omega) (by omega)
    have t2:leE _ _ := srt_el hV oV (i := n - 1 - h - (X.length + U.length)) (j := n - 1 - h' - (X.length + U.length)) (by omega) (by omega)
    have t3 := leE_trans o1 o3 o4 (leE_trans o1 o2 o3 t1 (leE_nlt o3 o2 a4)) t2
    have := cV_neg o4.2 o1.2
    unfold leE at t3
    omega)
   (fun i j a1 a2 a3 a4=>by rw [step i j a1 a2 a3,if_pos a4]) (fun i j a1 a2 a3 a4=>by rw [step i j a1 a2 a3,if_neg a4])
   (fun i a1 a2=>by
    rw [iter_eq']
    show runL _ (sg_slices_symMergeCmpFunc_33 rc _ _ _ _ _ _ _ _ _ _) = _
    unfold sg_slices_symMergeCmpFunc_33
    rw [if_neg (by rw [decide_eq_true_eq]; omega)])
   (hi - lo) lo hi (Nat.le_refl _) (Nat.le_refl _) b2 (Nat.le_refl _) (fun h a b=>by omega) (fun h a b=>by omega)
  have eend:w64 ((n:Int) - (q:Int)) = ((n - q:Nat):Int) := by rw [w64_eq (by omega) (by omega)]; omega
  obtain ⟨U1,U2,hUs,hU1⟩ := split_at U (k := q - X.length) (by omega)
  obtain ⟨V1,V2,hVs,hV1⟩ := split_at V (k := mid - q) (by omega)
  have hUl:U.length = U1.length + U2.length := by rw [hUs,List.length_append]
  have hVl:V.length = V1.length + V2.length := by rw [hVs,List.length_append]
  obtain ⟨oU1,oU2⟩:okL U1 ∧ okL U2 := okL_app.1 (by rw [← hUs]; exact oU)
  obtain ⟨oV1,oV2⟩:okL V1 ∧ okL V2 := okL_app.1 (by rw [← hVs]; exact oV)
  have oX:okL X := (okL_app.1 ho).1
  have oZ:okL Z := (okL_app.1 (okL_app.1 (okL_app.1 ho).2).2).2
  obtain ⟨sU1,sU2,sU12⟩:srt U1 ∧ srt U2 ∧ ∀ a ∈ U1,∀ b ∈ U2,leE a b := srt_app.1 (by rw [← hUs]; exact hU)
  obtain ⟨sV1,sV2,sV12⟩:srt V1 ∧ srt V2 ∧ ∀ a ∈ V1,∀ b ∈ V2,leE a b := srt_app.1 (by rw [← hVs]; exact hV)
  have eD:X ++ (U ++ (V ++ Z)) = (X ++ U1) ++ (U2 ++ (V1 ++ (V2 ++ Z))) := by rw [hUs,hVs]; simp
  -- after the turn
  have e41:runL (st_slices_symMergeCmpFunc rc) (if ((decide ((q:Int) < ((X.length + U.length:Nat):Int))) && (decide (((X.length + U.length:Nat):Int) < (w64 ((n:Int) - (q:Int)))))) = true then
     (G ((X ++ (U ++ (V ++ Z))).length = (X ++ (U ++ (V ++ Z))).length) <| (allR (slices_rotateCmpFunc (X ++ (U ++ (V ++ Z))) (q:Int) ((X.length + U.length:Nat):Int) (w64 ((n:Int) - (q:Int))) (fnv 38))).bind fun t191=>some (.inl (.l41 t191 (X.length:Int) ((X.length + U.length + V.length:Nat):Int) (fnv 38) (mid:Int) (q:Int) (w64 ((n:Int) - (q:Int))))))
     else some (.inl (.l41 (X ++ (U ++ (V ++ Z))) (X.length:Int) ((X.length + U.length + V.length:Nat):Int) (fnv 38) (mid:Int) (q:Int) (w64 ((n:Int) - (q:Int)))))) =
    iter (st_slices_symMergeCmpFunc rc) (.l41 (X ++ (U1 ++ (V1 ++ (U2 ++ (V2 ++ Z))))) (X.length:Int) ((X.length + U.length + V.length:Nat):Int) (fnv 38) (mid:Int) (q:Int) ((n - q:Nat):Int)) := by
   rw [eend]
   by_cases hr:q < X.length + U.length ∧ X.length + U.length < n - q
   ·rw [if_pos (by rw [Bool.and_eq_true,decide_eq_true_eq,decide_eq_true_eq]; omega),Gx rfl]
    have := rot_eq U2 V1 (X ++ U1) (V2 ++ Z) (fnv 38) (q:Int) ((X.length + U.length:Nat):Int) ((n - q:Nat):Int) (by omega) (by omega) (by rw [List.length_append]; omega) (by rw [List.length_append]; omega) (by rw [List.length_append]; omega) (by rw [← eD]; omega) (by rw [← eD]; exact ho)
    rw [eD,allR_ok this (by
     refine okL_app.2 ⟨okL_app.2 ⟨oX,oU1⟩,okL_app.2 ⟨oV1,okL_app.2 ⟨oU2,okL_app.2 ⟨oV2,oZ⟩⟩⟩⟩),Option.bind_some]
    have e9:X ++ U1 ++ (V1 ++ (U2 ++ (V2 ++ Z))) = X ++ (U1 ++ (V1 ++ (U2 ++ (V2 ++ Z)))) := by simp
    rw [e9]; rfl
   ·rw [if_neg (by rw [Bool.and_eq_true,decide_eq_true_eq,decide_eq_true_eq]; omega)]
    have e9:X ++ (U ++ (V ++ Z)) = X ++ (U1 ++ (V1 ++ (U2 ++ (V2 ++ Z)))) := by
     by_cases h0:U2.length = 0
     ·have := nil_of_len h0; subst this
      rw [hUs,hVs]; simp
     ·have := nil_of_len (l := V1) (by omega); subst this
      rw [hUs,hVs]; simp
    rw [e9]; rfl
  rw [q3,e41]
  have hpk:2 ^ (k + 1) = 2 ^ k + 2 ^ k := by rw [Nat.pow_succ]; omega
  -- what is left
  obtain ⟨W1,p1,p2,p3⟩:∃ W1:List SE,W1.Perm (U1 ++ V1) ∧ srt W1 ∧ iter (st_slices_symMergeCmpFunc rc) (.l41 (X ++ (U1 ++ (V1 ++ (U2 ++ (V2 ++ Z))))) (X.length:Int) ((X.length + U.length + V.length:Nat):Int) (fnv 38) (mid:Int) (q:Int) ((n - q:Nat):Int)) =
    iter (st_slices_symMergeCmpFunc rc) (.l43 (X ++ (W1 ++ (U2 ++ (V2 ++ Z)))) ((X.length + U.length + V.length:Nat):Int) (fnv 38) (mid:Int) ((n - q:Nat):Int)) := by
   by_cases hr:X.length < q ∧ q < mid
   ·obtain ⟨W1,p1,p2,p3⟩ := symM k fu (by omega) X U1 V1 (U2 ++ (V2 ++ Z)) (by omega) (by omega) (by omega) (by simp only [List.length_append]; omega) (okL_app.2 ⟨oX,okL_app.2 ⟨oU1,okL_app.2 ⟨oV1,okL_app.2 ⟨oU2,okL_app.2 ⟨oV2,oZ⟩⟩⟩⟩⟩) sU1 sV1
    refine ⟨W1,p1,p2,?_⟩
    rw [iter_eq']
    show runL _ (sg_slices_symMergeCmpFunc_41 rc _ _ _ _ _ _ _) = _
    unfold sg_slices_symMergeCmpFunc_41
    rw [if_pos (by rw [Bool.and_eq_true,decide_eq_true_eq,decide_eq_true_eq]; omega),Gx rfl]
    have e1:X.length + U1.length = q := by omega
    have e2:X.length + U1.length + V1.length = mid := by omega
    rw [hrc,e2,e1] at p3
    rw [allR_ok p3 (okL_app.2 ⟨oX,okL_app.2 ⟨okL_perm p1.symm (okL_app.2 ⟨oU1,oV1⟩),okL_app.2 ⟨oU2,okL_app.2 ⟨oV2,oZ⟩⟩⟩⟩),Option.bind_some]
    rfl
   ·refine ⟨U1 ++ V1,List.Perm.refl _,?_,?_⟩
    ·by_cases h0:U1.length = 0
     ·have := nil_of_len h0; subst this
      exact sV1
     ·have := nil_of_len (l := V1) (by omega); subst this
      rw [List.append_nil]; exact sU1
    ·rw [iter_eq']
     show runL _ (sg_slices_symMergeCmpFunc_41 rc _ _ _ _ _ _ _) = _
     unfold sg_slices_symMergeCmpFunc_41
     rw [if_neg (by rw [Bool.and_eq_true,decide_eq_true_eq,decide_eq_true_eq]; omega),List.append_assoc]
     rfl
  have hW1:W1.length = U1.length + V1.length := by rw [p1.length_eq,List.length_append]
  have oW1:okL W1 := okL_perm p1.symm (okL_app.2 ⟨oU1,oV1⟩)
  -- what is right
  obtain ⟨W2,r1,r2,r3⟩:∃ W2:List SE,W2.Perm (U2 ++ V2) ∧ srt W2 ∧ iter (st_slices_symMergeCmpFunc rc) (.l43 (X ++ (W1 ++ (U2 ++ (V2 ++ Z)))) ((X.length + U.length + V.length:Nat):Int) (fnv 38) (mid:Int) ((n - q:Nat):Int)) = some (X ++ (W1 ++ (W2 ++ Z))) := by
   by_cases hr:mid < n - q ∧ n - q < X.length + U.length + V.length
   ·obtain ⟨W2,r1,r2,r3⟩ := symM k fu (by omega) (X ++ W1) U2 V2 Z (by omega) (by omega) (by omega) (by simp only [List.length_append]; omega) (okL_app.2 ⟨okL_app.2 ⟨oX,oW1⟩,okL_app.2 ⟨oU2,okL_app.2 ⟨oV2,oZ⟩⟩⟩) sU2 sV2
    refine ⟨W2,r1,r2,?_⟩
    rw [iter_eq']
    show runL _ (sg_slices_symMergeCmpFunc_43 rc _ _ _ _ _) = _
    unfold sg_slices_symMergeCmpFunc_43
    rw [if_pos (by rw [Bool.and_eq_true,decide_eq_true_eq,decide_eq_true_eq]; omega),Gx rfl]
    have e0:(X ++ W1).length = mid := by rw [List.length_append]; omega
    have e1:mid + U2.length = n - q := by omega
    have e2:n - q + V2.length = X.length + U.length + V.length := by omega
    rw [hrc,e0,e1,e2,List.append_assoc] at r3
    rw [allR_ok r3 (okL_app.2 ⟨okL_app.2 ⟨oX,oW1⟩,okL_app.2 ⟨okL_perm r1.symm (okL_app.2 ⟨oU2,oV2⟩),oZ⟩⟩),Option.bind_some,List.append_assoc]
    rfl
   ·refine ⟨U2 ++ V2,List.Perm.refl _,?_,?_⟩
    ·by_cases h0:U2.length = 0
     ·have := nil_of_len h0; subst this
      exact sV2
     ·have := nil_of_len (l := V2) (by omega); subst this
      rw [List.append_nil]; exact sU2
    ·rw [iter_eq']
     show runL _ (sg_slices_symMergeCmpFunc_43 rc _ _ _ _ _) = _
     unfold sg_slices_symMergeCmpFunc_43
     rw [if_neg (by rw [Bool.and_eq_true,decide_eq_true_eq,decide_eq_true_eq]; omega),List.append_assoc]
     rfl
  refine ⟨W1 ++ W2,?_,srt_app.2 ⟨p2,r2,fun a ha b hb=>?_⟩,by rw [p3,r3,List.append_assoc]⟩
  ·refine (p1.append r1).trans ?_
   rw [hUs,hVs]
   have q1:(U1 ++ V1 ++ (U2 ++ V2)).Perm (U1 ++ (V1 ++ U2) ++ V2) := by simp
   have q2:(U1 ++ (V1 ++ U2) ++ V2).Perm (U1 ++ (U2 ++ V1) ++ V2) := (List.perm_append_comm.append_left _).append_right _
   exact q1.trans (q2.trans (by simp))
  ·refine cut_ok (U1 := U1) (U2 := U2) (V1 := V1) (V2 := V2) (okL_app.2 ⟨oU1,oU2⟩) (okL_app.2 ⟨oV1,oV2⟩) (by rw [← hUs]; exact hU) (by rw [← hVs]; exact hV) (fun u v hu hv=>?_) (fun v u hv hu=>?_) a (p1.mem_iff.1 ha) b (r1.mem_iff.1 hb)
   ·have hn1:0 < U1.length := by cases U1 with | nil=>cases hu | cons _ _=>simp
    have hn2:0 < V2.length := by cases V2 with | nil=>cases hv | cons _ _=>simp
    obtain ⟨U',u',rfl⟩ := lastE hn1
    obtain rfl:u' = u := by simpa using hu
    obtain ⟨v',V',rfl⟩:∃ v' V',V2 = v' :: V' := by cases V2 with | nil=>cases hn2 | cons v' V'=>exact ⟨v',V',rfl⟩
    obtain rfl:v' = v := by simpa using hv
    have hUl':(U' ++ [u']).length = U'.length + 1 := by simp
    have := q4 (q - 1) (by omega) (by omega)
    have g1:el2D (X ++ (U ++ (V ++ Z))) (q - 1) = u' := by
     rw [hUs,show X ++ (U' ++ [u'] ++ U2 ++ (V ++ Z)) = (X ++ U') ++ u' :: (U2 ++ (V ++ Z)) by simp]
     exact el_mid _ _ _ (by rw [List.length_append]; omega)
    have g2:el2D (X ++ (U ++ (V ++ Z))) (n - 1 - (q - 1)) = v' := by
     rw [hVs,show X ++ (U ++ (V1 ++ v' :: V' ++ Z)) = (X ++ U ++ V1) ++ v' :: (V' ++ Z) by simp]
     exact el_mid _ _ _ (by rw [List.length_append,List.length_append]; omega)
    rw [g1,g2] at this
    exact leE_nlt (oV2 _ (by simp)) (oU1 _ (by simp)) this
   ·have hn1:0 < V1.length := by cases V1 with | nil=>cases hv | cons _ _=>simp
    have hn2:0 < U2.length := by cases U2 with | nil=>cases hu | cons _ _=>simp
    obtain ⟨V',v',rfl⟩ := lastE hn1
    obtain rfl:v' = v := by simpa using hv
    obtain ⟨u',U',rfl⟩:∃ u' U',U2 = u' :: U' := by cases U2 with | nil=>cases hn2 | cons u' U'=>exact ⟨u',U',rfl⟩
    obtain rfl:u' = u := by simpa using hu
    have hVl':(V' ++ [v']).length = V'.length + 1 := by simp
    have := q5 q (Nat.le_refl _) (by omega)
    have g1:el2D (X ++ (U ++ (V ++ Z))) q = u' := by
     rw [hUs,show X ++ (U1 ++ u' :: U' ++ (V ++ Z)) = (X ++ U1) ++ u' :: (U' ++ (V ++ Z)) by simp]
     exact el_mid _ _ _ (by rw [List.length_append]; omega)
    have g2:el2D (X ++ (U ++ (V ++ Z))) (n - 1 - q) = v' := by
     rw [hVs,show X ++ (U ++ (V' ++ [v'] ++ V2 ++ Z)) = (X ++ U ++ V') ++ v' :: (V2 ++ Z) by simp]
     exact el_mid _ _ _ (by rw [List.length_append,List.length_append]; omega)
    rw [g1,g2,Decidable.not_not] at this
    exact leE_lt this
end Go.Eng
