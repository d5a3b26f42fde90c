/- A part of the proof: So4. -/
import Derived.Test.YtnjcbogckfiamaaDoorSo3
namespace Go.Eng
set_option linter.unusedVariables false
set_option linter.unusedSimpArgs false
variable (rc:List SE → Int → Int → Int → Value → Option (List SE))
theorem one_right (X Z U:List SE) (x:SE) (hs:(X ++ (U ++ (x :: Z))).length < 2305843009213693952) (ox:okE x) (oU:okL U) (hU:srt U) :
  ∃ W:List SE,W.Perm (U ++ [x]) ∧ srt W ∧ iter (st_slices_symMergeCmpFunc rc) (.l15 (X ++ (U ++ (x :: Z))) ((X.length + U.length:Nat):Int) (fnv 38) (X.length:Int) ((X.length + U.length:Nat):Int)) = some (X ++ (W ++ Z)) := by
 have hsz:X.length + (U.length + (1 + Z.length)) < 2305843009213693952 := by simp only [List.length_append,List.length_cons] at hs; omega
 have hlen:(X ++ (U ++ (x :: Z))).length = X.length + (U.length + (1 + Z.length)) := by simp; omega
 have ea:el2D (X ++ (U ++ (x :: Z))) (X.length + U.length) = x := by rw [← List.append_assoc]; exact el_mid _ _ _ (by simp)
 have el:∀ h (h1:X.length ≤ h) (h2:h < X.length + U.length),el2D (X ++ (U ++ (x :: Z))) h = U[h - X.length]'(by omega) := fun h h1 h2=>el_in X U (x :: Z) h1 h2
 have step:∀ i j:Nat,X.length ≤ i → i < j → j ≤ X.length + U.length → iter (st_slices_symMergeCmpFunc rc) (.l15 (X ++ (U ++ (x :: Z))) ((X.length + U.length:Nat):Int) (fnv 38) (i:Int) (j:Int)) =
   if ¬ cV x.2 (el2D (X ++ (U ++ (x :: Z))) ((i + j) / 2)).2 < 0 then iter (st_slices_symMergeCmpFunc rc) (.l15 (X ++ (U ++ (x :: Z))) ((X.length + U.length:Nat):Int) (fnv 38) (((i + j) / 2 + 1:Nat):Int) (j:Int)) else iter (st_slices_symMergeCmpFunc rc) (.l15 (X ++ (U ++ (x :: Z))) ((X.length + U.length:Nat):Int) (fnv 38) (i:Int) (((i + j) / 2:Nat):Int)) := fun i j h1 h2 h3=>by
  have oz:okE (el2D (X ++ (U ++ (x :: Z))) ((i + j) / 2)) := by rw [el _ (by omega) (by omega)]; exact oU _ (List.getElem_mem _)
  rw [iter_eq']
  show runL _ (sg_slices_symMergeCmpFunc_15 rc _ _ _ _ _) = _
  unfold sg_slices_symMergeCmpFunc_15
  rw [if_pos (decide_eq_true (by omega)),mid_w i j (by omega)]
  have hdy:dyn_slices_symMergeCmpFunc (fnv 38) (el2D (X ++ (U ++ (x :: Z))) (((X.length + U.length:Nat):Int)).toNat).2 (el2D (X ++ (U ++ (x :: Z))) ((((i + j) / 2:Nat):Int)).toNat).2 = some (cV x.2 (el2D (X ++ (U ++ (x :: Z))) ((i + j) / 2)).2) := by
   rw [Int.toNat_natCast,Int.toNat_natCast,ea,dynS_eq ox.2 oz.2]
  rw [Gx ⟨by omega,by rw [hlen]; omega⟩,Gx (by rw [Int.toNat_natCast,ea]; exact ox.1),Gx ⟨by omega,by rw [hlen]; omega⟩,Gx (by rw [Int.toNat_natCast]; exact oz.1),Gx rfl,Gx rfl,hdy,Option.bind_some]
  have e1:w64 ((((i + j) / 2:Nat):Int) + 1) = (((i + j) / 2 + 1:Nat):Int) := by rw [w64_eq (by omega) (by omega)]; omega
  rw [e1]
  by_cases hc:cV x.2 (el2D (X ++ (U ++ (x :: Z))) ((i + j) / 2)).2 < 0
  ·rw [if_neg (by simpa using hc),if_neg (fun h=>h hc)]; rfl
  ·rw [if_pos (by simpa using hc),if_pos hc]; rfl
 obtain ⟨q,q1,q2,q3,q4,q5⟩ := bs_gen (fun i j=>iter (st_slices_symMergeCmpFunc rc) (.l15 (X ++ (U ++ (x :: Z))) ((X.length + U.length:Nat):Int) (fnv 38) (i:Int) (j:Int))) (fun i=>iter (st_slices_symMergeCmpFunc rc) (.l21 (X ++ (U ++ (x :: Z))) (i:Int) ((X.length + U.length:Nat):Int)))
  (fun h => ¬ cV x.2 (el2D (X ++ (U ++ (x :: Z))) h).2 < 0) X.length (X.length + U.length) (fun h h' a1 a2 a3 a4=>by
   rw [el h (by omega) (by omega)] at a4
   rw [el h' (by omega) (by omega)]
   have o1 := oU _ (List.getElem_mem (l := U) (n := h' - X.length) (by omega))
   have o2 := oU _ (List.getElem_mem (l := U) (n := h - X.length) (by omega))
   have h1:leE _ _ := srt_el hU oU (i := h' - X.length) (j := h - X.length) (by omega) (by omega)
   have h2 := leE_trans o1 o2 ox h1 (leE_nlt ox o2 a4)
   have := cV_neg ox.2 o1.2
   unfold leE at h2
   omega)
  (fun i j a1 a2 a3 a4=>by rw [step i j a1 a2 a3,if_pos a4]) (fun i j a1 a2 a3 a4=>by rw [step i j a1 a2 a3,if_neg a4])
  (fun i a1 a2=>by
   rw [iter_eq']
   have:¬ (i:Int) < (i:Int) := by omega
   simp only [st_slices_symMergeCmpFunc,sg_slices_symMergeCmpFunc_15,this,decide_false,Bool.false_eq_true,if_false]; rfl)
  U.length X.length (X.length + U.length) (by omega) (Nat.le_refl _) (by omega) (Nat.le_refl _) (fun h a b=>by omega) (fun h a b=>by omega)
 have hUs:U = U.take (q - X.length) ++ U.drop (q - X.length) := (List.take_append_drop _ _).symm
 have hl1:(U.take (q - X.length)).length = q - X.length := by rw [List.length_take]; omega
 have hl2:(U.drop (q - X.length)).length = U.length - (q - X.length) := List.length_drop
 have lt1:∀ z ∈ U.take (q - X.length),leE z x := fun z hz=>by
  obtain ⟨t,ht,rfl⟩ := List.mem_iff_getElem.1 hz
  rw [hl1] at ht
  have := q4 (X.length + t) (by omega) (by omega)
  rw [el _ (by omega) (by omega)] at this
  rw [List.getElem_take]
  have e:X.length + t - X.length = t := by omega
  simp only [e] at this
  exact leE_nlt ox (oU _ (List.getElem_mem _)) this
 have lt2:∀ z ∈ U.drop (q - X.length),leE x z := fun z hz=>by
  obtain ⟨t,ht,rfl⟩ := List.mem_iff_getElem.1 hz
  rw [List.length_drop] at ht
  have := q5 (q + t) (by omega) (by omega)
  rw [el _ (by omega) (by omega)] at this
  rw [List.getElem_drop]
  have e:q + t - X.length = q - X.length + t := by omega
  simp only [e,Decidable.not_not] at this
  exact leE_lt this
 refine ⟨U.take (q - X.length) ++ x :: U.drop (q - X.length),?_,?_,?_⟩
 ·refine List.perm_middle.trans ?_
  rw [← hUs]
  exact (List.perm_append_singleton _ _).symm
 ·rw [hUs] at hU
  obtain ⟨t1,t2,t3⟩ := srt_app.1 hU
  refine srt_app.2 ⟨t1,srt_cons.2 ⟨lt2,t2⟩,fun u hu v hv=>?_⟩
  rcases List.mem_cons.1 hv with rfl | hv
  ·exact lt1 u hu
  ·exact t3 u hu v hv
 ·rw [q3]
  have := bub21 rc (X ++ U.take (q - X.length)) Z _ (U.drop (q - X.length)) x rfl (by
   simp only [List.length_append,List.length_cons,hl1,hl2]; omega) ox (fun y hy=>oU y (List.mem_of_mem_drop hy))
  have e3:X ++ U.take (q - X.length) ++ (U.drop (q - X.length) ++ x :: Z) = X ++ (U ++ (x :: Z)) := by
   rw [List.append_assoc,← List.append_assoc (U.take _),← hUs]
  have e4:(X ++ U.take (q - X.length)).length = q := by rw [List.length_append,hl1]; omega
  rw [e3,e4,hl2] at this
  have e5:q + (U.length - (q - X.length)) = X.length + U.length := by omega
  rw [e5] at this
  rw [this]; simp
theorem split_at {α:Type} (l:List α) {k:Nat} (h:k ≤ l.length):∃ l1 l2,l = l1 ++ l2 ∧ l1.length = k := ⟨l.take k,l.drop k,(List.take_append_drop _ _).symm,by rw [List.length_take]; omega⟩
theorem lastE {l:List SE} (h:0 < l.length):∃ l' y,l = l' ++ [y] := by
 rcases List.eq_nil_or_concat l with rfl | ⟨S,y,rfl⟩
 ·cases h
 ·exact ⟨S,y,by simp⟩
theorem cut_ok {U1 U2 V1 V2:List SE} (oU:okL (U1 ++ U2)) (oV:okL (V1 ++ V2)) (hU:srt (U1 ++ U2)) (hV:srt (V1 ++ V2)) (h1:∀ u v,U1.getLast? = some u → V2.head? = some v → leE u v) (h2:∀ v u,V1.getLast? = some v → U2.head? = some u → leE v u) :
  ∀ a ∈ U1 ++ V1,∀ b ∈ U2 ++ V2,leE a b := by
 have key:∀ {A B:List SE},okL A → okL B → srt A → srt B → (∀ u v,A.getLast? = some u → B.head? = some v → leE u v) → ∀ a ∈ A,∀ b ∈ B,leE a b := by
  intro A B oA oB sA sB h a ha b hb
  obtain ⟨A',u,rfl⟩ := lastE (l := A) (by cases A; cases ha; simp)
  obtain ⟨v,B',rfl⟩:∃ v B',B = v :: B' := by cases B with | nil=>cases hb | cons v B'=>exact ⟨v,B',rfl⟩
  have huv := h u v (by simp) rfl
  have hu:leE a u := by
   rcases List.mem_append.1 ha with ha' | ha'
   ·exact (srt_app.1 sA).2.2 a ha' u (by simp)
   ·rw [List.mem_singleton.1 ha']; unfold leE; have := (cV_zero (oA u (by simp)).2 (oA u (by simp)).2).2 rfl; omega
  have hv:leE v b := by
   rcases List.mem_cons.1 hb with rfl | hb'
   ·unfold leE; have := (cV_zero (oB b (by simp)).2 (oB b (by simp)).2).2 rfl; omega
   ·exact (srt_cons.1 sB).1 b hb'
  exact leE_trans (oA a ha) (oA u (by simp)) (oB b hb) hu (leE_trans (oA u (by simp)) (oB v (by simp)) (oB b hb) huv hv)
 obtain ⟨u1,u2,u3⟩ := srt_app.1 hU
 obtain ⟨v1,v2,v3⟩ := srt_app.1 hV
 obtain ⟨p1,p2⟩ := okL_app.1 oU
 obtain ⟨p3,p4⟩ := okL_app.1 oV
 intro a ha b hb
 rcases List.mem_append.1 ha with ha | ha <;> rcases List.mem_append.1 hb with hb | hb
 ·exact u3 a ha b hb
 ·exact key p1 p4 u1 v2 h1 a ha b hb
 ·exact key p3 p2 v1 u2 h2 a ha b hb
 ·exact v3 a ha b hb
end Go.Eng
