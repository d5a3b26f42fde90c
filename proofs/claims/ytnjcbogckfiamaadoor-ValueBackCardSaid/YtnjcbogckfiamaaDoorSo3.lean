/- A part of the proof: So3. -/
import Derived.Test.YtnjcbogckfiamaaDoorSo2
namespace Go.Eng
set_option linter.unusedVariables false
set_option linter.unusedSimpArgs false
theorem mid_w (i j:Nat) (h:i + j < 4611686018427387904):w64 (Int.fdiv (IntKind.wrap .u64 (w64 ((i:Int) + (j:Int)))) (2 ^ (min ((1:Int)).toNat IntKind.u64.bits))) = (((i + j) / 2:Nat):Int) := by
 have e1:w64 ((i:Int) + (j:Int)) = ((i + j:Nat):Int) := by rw [w64_eq (by omega) (by omega)]; omega
 have e2:IntKind.wrap .u64 ((i + j:Nat):Int) = ((i + j:Nat):Int) := by
  simp [IntKind.wrap,IntKind.bits,IntKind.signed]; omega
 have e3:(2:Int) ^ (min ((1:Int)).toNat IntKind.u64.bits) = 2 := by decide
 rw [e1,e2,e3,Int.fdiv_eq_ediv_of_nonneg _ (by omega),w64_eq (by omega) (by omega)]
 omega
theorem bs_gen {R:Type} (f:Nat → Nat → Option R) (e:Nat → Option R) (c:Nat → Prop) (lo hi:Nat) (hc:∀ h h',lo ≤ h' → h' ≤ h → h < hi → c h → c h')
  (h1:∀ i j,lo ≤ i → i < j → j ≤ hi → c ((i + j) / 2) → f i j = f ((i + j) / 2 + 1) j) (h2:∀ i j,lo ≤ i → i < j → j ≤ hi → ¬ c ((i + j) / 2) → f i j = f i ((i + j) / 2)) (h3:∀ i,lo ≤ i → i ≤ hi → f i i = e i) :
  ∀ (k i j:Nat),j - i ≤ k → lo ≤ i → i ≤ j → j ≤ hi → (∀ h,lo ≤ h → h < i → c h) → (∀ h,j ≤ h → h < hi → ¬ c h) →
   ∃ q,lo ≤ q ∧ q ≤ hi ∧ f i j = e q ∧ (∀ h,lo ≤ h → h < q → c h) ∧ ∀ h,q ≤ h → h < hi → ¬ c h := by
 intro k
 induction k with
 | zero =>
  intro i j hk hi1 hij hj q1 q2
  have:i = j := by omega
  subst this
  exact ⟨i,hi1,hj,h3 i hi1 hj,q1,q2⟩
 | succ k ih =>
  intro i j hk hi1 hij hj q1 q2
  by_cases hlt:i < j
  ·by_cases hm:c ((i + j) / 2)
   ·rw [h1 i j hi1 hlt hj hm]
    exact ih _ _ (by omega) (by omega) (by omega) hj (fun h a b=>hc _ _ a (by omega) (by omega) hm) q2
   ·rw [h2 i j hi1 hlt hj hm]
    exact ih _ _ (by omega) hi1 (by omega) (by omega) q1 (fun h a b hch=>hm (hc _ _ (by omega) a b hch))
  ·have:i = j := by omega
   subst this
   exact ⟨i,hi1,hj,h3 i hi1 hj,q1,q2⟩
theorem el_in (X V Z:List SE) {h:Nat} (h1:X.length ≤ h) (h2:h < X.length + V.length):el2D (X ++ (V ++ Z)) h = V[h - X.length]'(by omega) := by
 unfold el2D
 rw [List.getD_eq_getElem?_getD,List.getElem?_append_right h1,List.getElem?_append_left (by omega),List.getElem?_eq_getElem (by omega)]; rfl
theorem srt_el {V:List SE} (hV:srt V) (ho:okL V) {i j:Nat} (hij:i ≤ j) (hj:j < V.length):leE (V[i]'(by omega)) V[j] := by
 rcases Nat.lt_or_ge i j with h | h
 ·exact List.pairwise_iff_getElem.1 hV i j (by omega) hj h
 ·have:i = j := by omega
  subst this
  have := (cV_zero (ho V[i] (List.getElem_mem _)).2 (ho V[i] (List.getElem_mem _)).2).2 rfl
  unfold leE; omega
theorem dynS_eq {a b:List tAtom} (ha:rV a) (hb:rV b):dyn_slices_symMergeCmpFunc (fnv 38) a b = some (cV a b) := by
 unfold dyn_slices_symMergeCmpFunc
 rw [if_pos (fnIs_self 38),vcmp_eq ha hb]
variable (rc:List SE → Int → Int → Int → Value → Option (List SE))
theorem bub9 (X Z:List SE):∀ (Q P:List SE) (x:SE) (i:Nat),i = X.length + P.length + Q.length + 1 → (X ++ (P ++ x :: (Q ++ Z))).length < 2305843009213693952 → okE x → okL Q →
  iter (st_slices_symMergeCmpFunc rc) (.l9 (X ++ (P ++ x :: (Q ++ Z))) (i:Int) ((X.length + P.length:Nat):Int)) = some (X ++ (P ++ (Q ++ x :: Z)))
 | [],P,x,i,hi,hs,ox,oQ=>by
  simp only [List.length_nil] at hi
  have hsz:X.length + (P.length + (1 + Z.length)) < 2305843009213693952 := by simp only [List.length_append,List.length_cons,List.length_nil] at hs; omega
  rw [iter_eq']
  have e:w64 ((i:Int) - 1) = ((i - 1:Nat):Int) := by rw [w64_eq (by omega) (by omega)]; omega
  have:¬ ((X.length + P.length:Nat):Int) < ((i - 1:Nat):Int) := by omega
  simp only [st_slices_symMergeCmpFunc,sg_slices_symMergeCmpFunc_9,e,this,decide_false,Bool.false_eq_true,if_false,runL,List.nil_append]
 | y :: Q,P,x,i,hi,hs,ox,oQ=>by
  simp only [List.length_cons] at hi
  have hsz:X.length + (P.length + (1 + (1 + Q.length + Z.length))) < 2305843009213693952 := by simp only [List.length_append,List.length_cons] at hs; omega
  have oy := (okL_cons.1 oQ).1
  have e0:X ++ (P ++ x :: (y :: Q ++ Z)) = (X ++ P) ++ x :: ([] ++ y :: (Q ++ Z)) := by simp
  obtain ⟨s1,s2,s3,s4⟩ := swap_md (X ++ P) [] (Q ++ Z) x y rfl (q := (X ++ P).length + 1 + ([]:List SE).length) rfl
  have hXP:(X ++ P).length = X.length + P.length := List.length_append
  have hlen:((X ++ P) ++ x :: ([] ++ y :: (Q ++ Z))).length = (X ++ P).length + 1 + ([]:List SE).length + 1 + (Q ++ Z).length := by simp only [List.length_append,List.length_cons,List.length_nil]; omega
  have e1:w64 ((i:Int) - 1) = ((i - 1:Nat):Int) := by rw [w64_eq (by omega) (by omega)]; omega
  have e2:w64 ((((X ++ P).length:Nat):Int) + 1) = (((X ++ P).length + 1 + ([]:List SE).length:Nat):Int) := by rw [w64_eq (by omega) (by omega)]; simp
  have hlt:(((X ++ P).length:Nat):Int) < ((i - 1:Nat):Int) := by omega
  rw [e0,← hXP,iter_eq']
  show runL _ (sg_slices_symMergeCmpFunc_9 rc _ _ _) = _
  unfold sg_slices_symMergeCmpFunc_9
  rw [e1,e2,if_pos (decide_eq_true hlt)]
  rw [Gx ⟨by omega,by rw [hlen]; omega⟩,Gx (by rw [Int.toNat_natCast,s2]; exact oy.1),Gx ⟨by omega,by rw [hlen]; omega⟩,Gx (by rw [Int.toNat_natCast,s1]; exact ox.1),
   Gx (sw_ok _ rfl rfl (by simp only [List.length_nil]; omega) (by rw [hlen]; omega) (by rw [hlen]; omega) (by rw [s1]; exact ox.1) (by rw [s2]; exact oy.1)),Int.toNat_natCast,Int.toNat_natCast,s1,s2,s3]
  show iter _ _ = _
  have := bub9 X Z Q (P ++ [y]) x i (by simp; omega) (by simp only [List.length_append,List.length_cons,List.length_nil]; omega) ox (okL_cons.1 oQ).2
  have e3:X ++ (P ++ [y] ++ x :: (Q ++ Z)) = X ++ P ++ y :: ([] ++ x :: (Q ++ Z)) := by simp
  have e4:((X.length + (P ++ [y]).length:Nat):Int) = (((X ++ P).length + 1 + ([]:List SE).length:Nat):Int) := by simp; omega
  rw [e3,e4] at this
  rw [this]; simp
theorem bub21 (X Z:List SE):∀ (k:Nat) (P:List SE) (x:SE),P.length = k → (X ++ (P ++ x :: Z)).length < 2305843009213693952 → okE x → okL P →
  iter (st_slices_symMergeCmpFunc rc) (.l21 (X ++ (P ++ x :: Z)) (X.length:Int) ((X.length + P.length:Nat):Int)) = some (X ++ (x :: (P ++ Z)))
 | 0,P,x,hk,hs,ox,oP=>by
  have hP:P = [] := List.length_eq_zero_iff.1 hk
  subst hP
  rw [iter_eq']
  have:¬ (X.length:Int) < ((X.length + 0:Nat):Int) := by omega
  simp only [st_slices_symMergeCmpFunc,sg_slices_symMergeCmpFunc_21,List.length_nil,this,decide_false,Bool.false_eq_true,if_false,runL,List.nil_append]
 | k + 1,P1,x,hk,hs,ox,oP=>by
  obtain ⟨P,y,rfl⟩:∃ S y,P1 = S ++ [y] := by
   rcases List.eq_nil_or_concat P1 with rfl | ⟨S,y,rfl⟩
   ·cases hk
   ·exact ⟨S,y,by simp⟩
  have hP:P.length = k := by simpa using hk
  have hsz:X.length + (P.length + (1 + (1 + Z.length))) < 2305843009213693952 := by simp only [List.length_append,List.length_cons,List.length_nil] at hs; omega
  have oy:okE y := oP y (by simp)
  have e0:X ++ (P ++ [y] ++ x :: Z) = (X ++ P) ++ y :: ([] ++ x :: Z) := by simp
  obtain ⟨s1,s2,s3,s4⟩ := swap_md (X ++ P) [] Z y x rfl (q := (X ++ P).length + 1 + ([]:List SE).length) rfl
  have hXP:(X ++ P).length = X.length + P.length := List.length_append
  have hlen:((X ++ P) ++ y :: ([] ++ x :: Z)).length = (X ++ P).length + 1 + ([]:List SE).length + 1 + Z.length := by simp only [List.length_append,List.length_cons,List.length_nil]; omega
  have hj:((X.length + (P ++ [y]).length:Nat):Int) = (((X ++ P).length + 1 + ([]:List SE).length:Nat):Int) := by simp; omega
  have e1:w64 ((((X ++ P).length + 1 + ([]:List SE).length:Nat):Int) - 1) = (((X ++ P).length:Nat):Int) := by
   rw [w64_eq (by omega) (by simp only [List.length_nil]; omega)]; simp only [List.length_nil]; omega
  have hlt:(X.length:Int) < (((X ++ P).length + 1 + ([]:List SE).length:Nat):Int) := by simp only [List.length_nil]; omega
  rw [e0,hj,iter_eq']
  show runL _ (sg_slices_symMergeCmpFunc_21 rc _ _ _) = _
  unfold sg_slices_symMergeCmpFunc_21
  rw [e1,if_pos (decide_eq_true hlt)]
  rw [Gx ⟨by omega,by rw [hlen]; omega⟩,Gx (by rw [Int.toNat_natCast,s1]; exact oy.1),Gx ⟨by omega,by rw [hlen]; omega⟩,Gx (by rw [Int.toNat_natCast,s2]; exact ox.1),
   Gx (sw_ok _ rfl rfl (by simp only [List.length_nil]; omega) (by rw [hlen]; omega) (by rw [hlen]; omega) (by rw [s2]; exact ox.1) (by rw [s1]; exact oy.1)),Int.toNat_natCast,Int.toNat_natCast,s1,s2,s4]
  show iter _ _ = _
  have := bub21 X (y :: Z) k P x hP (by simp only [List.length_append,List.length_cons]; omega) ox (okL_app.1 oP).1
  have e3:X ++ (P ++ x :: (y :: Z)) = X ++ P ++ x :: ([] ++ y :: Z) := by simp
  rw [e3,← hXP] at this
  rw [this]; simp
theorem one_left (X Z V:List SE) (x:SE) (hs:(X ++ (x :: (V ++ Z))).length < 2305843009213693952) (ox:okE x) (oV:okL V) (hV:srt V) :
  ∃ W:List SE,W.Perm (x :: V) ∧ srt W ∧ iter (st_slices_symMergeCmpFunc rc) (.l3 (X ++ (x :: (V ++ Z))) (X.length:Int) (fnv 38) ((X.length + 1:Nat):Int) ((X.length + 1 + V.length:Nat):Int)) = some (X ++ (W ++ Z)) := by
 have hsz:X.length + (1 + (V.length + Z.length)) < 2305843009213693952 := by simp only [List.length_append,List.length_cons] at hs; omega
 have eD:X ++ (x :: (V ++ Z)) = (X ++ [x]) ++ (V ++ Z) := by simp
 have hX1:(X ++ [x]).length = X.length + 1 := by simp
 have hlen:(X ++ (x :: (V ++ Z))).length = X.length + (1 + (V.length + Z.length)) := by simp; omega
 have ea:el2D (X ++ (x :: (V ++ Z))) X.length = x := el_mid _ _ _ rfl
 have el:∀ h (h1:X.length + 1 ≤ h) (h2:h < X.length + 1 + V.length),el2D (X ++ (x :: (V ++ Z))) h = V[h - (X.length + 1)]'(by omega) := fun h h1 h2=>by
  rw [eD,el_in (X ++ [x]) V Z (by omega) (by omega)]; simp only [hX1]
 have step:∀ i j:Nat,X.length + 1 ≤ i → i < j → j ≤ X.length + 1 + V.length → iter (st_slices_symMergeCmpFunc rc) (.l3 (X ++ (x :: (V ++ Z))) (X.length:Int) (fnv 38) (i:Int) (j:Int)) =
   if cV (el2D (X ++ (x :: (V ++ Z))) ((i + j) / 2)).2 x.2 < 0 then iter (st_slices_symMergeCmpFunc rc) (.l3 (X ++ (x :: (V ++ Z))) (X.length:Int) (fnv 38) (((i + j) / 2 + 1:Nat):Int) (j:Int)) else iter (st_slices_symMergeCmpFunc rc) (.l3 (X ++ (x :: (V ++ Z))) (X.length:Int) (fnv 38) (i:Int) (((i + j) / 2:Nat):Int)) := fun i j h1 h2 h3=>by
  have oz:okE (el2D (X ++ (x :: (V ++ Z))) ((i + j) / 2)) := by rw [el _ (by omega) (by omega)]; exact oV _ (List.getElem_mem _)
  rw [iter_eq']
  show runL _ (sg_slices_symMergeCmpFunc_3 rc _ _ _ _ _) = _
  unfold sg_slices_symMergeCmpFunc_3
  rw [if_pos (decide_eq_true (by omega)),mid_w i j (by omega)]
  have hdy:dyn_slices_symMergeCmpFunc (fnv 38) (el2D (X ++ (x :: (V ++ Z))) ((((i + j) / 2:Nat):Int)).toNat).2 (el2D (X ++ (x :: (V ++ Z))) ((X.length:Int)).toNat).2 = some (cV (el2D (X ++ (x :: (V ++ Z))) ((i + j) / 2)).2 x.2) := by
   rw [Int.toNat_natCast,Int.toNat_natCast,ea,dynS_eq oz.2 ox.2]
  rw [Gx ⟨by omega,by rw [hlen]; omega⟩,Gx (by rw [Int.toNat_natCast]; exact oz.1),Gx ⟨by omega,by rw [hlen]; omega⟩,Gx (by rw [Int.toNat_natCast,ea]; exact ox.1),Gx rfl,Gx rfl,hdy,Option.bind_some]
  have e1:w64 ((((i + j) / 2:Nat):Int) + 1) = (((i + j) / 2 + 1:Nat):Int) := by rw [w64_eq (by omega) (by omega)]; omega
  rw [e1]
  by_cases hc:cV (el2D (X ++ (x :: (V ++ Z))) ((i + j) / 2)).2 x.2 < 0
  ·rw [if_pos (decide_eq_true hc),if_pos hc]; rfl
  ·rw [if_neg (by simpa using hc),if_neg hc]; rfl
 obtain ⟨q,q1,q2,q3,q4,q5⟩ := bs_gen (fun i j=>iter (st_slices_symMergeCmpFunc rc) (.l3 (X ++ (x :: (V ++ Z))) (X.length:Int) (fnv 38) (i:Int) (j:Int))) (fun i=>iter (st_slices_symMergeCmpFunc rc) (.l9 (X ++ (x :: (V ++ Z))) (i:Int) (X.length:Int)))
  (fun h=>cV (el2D (X ++ (x :: (V ++ Z))) h).2 x.2 < 0) (X.length + 1) (X.length + 1 + V.length) (fun h h' a1 a2 a3 a4=>by
   rw [el h (by omega) (by omega)] at a4
   rw [el h' (by omega) (by omega)]
   have o1 := oV _ (List.getElem_mem (l := V) (n := h' - (X.length + 1)) (by omega))
   have o2 := oV _ (List.getElem_mem (l := V) (n := h - (X.length + 1)) (by omega))
   have h1:leE _ _ := srt_el hV oV (i := h' - (X.length + 1)) (j := h - (X.length + 1)) (by omega) (by omega)
   have h2 := leE_trans o1 o2 ox h1 (leE_lt a4)
   have h3 := (cV_zero o1.2 ox.2)
   unfold leE at h1 h2
   rcases Int.lt_or_eq_of_le h2 with h2 | h2
   ·exact h2
   ·have e := h3.1 h2
    rw [e] at h1
    have := cV_neg ox.2 o2.2
    omega)
  (fun i j a1 a2 a3 a4=>by rw [step i j a1 a2 a3,if_pos a4]) (fun i j a1 a2 a3 a4=>by rw [step i j a1 a2 a3,if_neg a4])
  (fun i a1 a2=>by
   rw [iter_eq']
   have:¬ (i:Int) < (i:Int) := by omega
   simp only [st_slices_symMergeCmpFunc,sg_slices_symMergeCmpFunc_3,this,decide_false,Bool.false_eq_true,if_false]; rfl)
  V.length (X.length + 1) (X.length + 1 + V.length) (by omega) (Nat.le_refl _) (by omega) (Nat.le_refl _) (fun h a b=>by omega) (fun h a b=>by omega)
 have hVs:V = V.take (q - (X.length + 1)) ++ V.drop (q - (X.length + 1)) := (List.take_append_drop _ _).symm
 have hl1:(V.take (q - (X.length + 1))).length = q - (X.length + 1) := by rw [List.length_take]; omega
 have lt1:∀ z ∈ V.take (q - (X.length + 1)),leE z x := fun z hz=>by
  obtain ⟨t,ht,rfl⟩ := List.mem_iff_getElem.1 hz
  rw [hl1] at ht
  have := q4 (X.length + 1 + t) (by omega) (by omega)
  rw [el _ (by omega) (by omega)] at this
  rw [List.getElem_take]
  have e:X.length + 1 + t - (X.length + 1) = t := by omega
  simp only [e] at this
  exact leE_lt this
 have lt2:∀ z ∈ V.drop (q - (X.length + 1)),leE x z := fun z hz=>by
  obtain ⟨t,ht,rfl⟩ := List.mem_iff_getElem.1 hz
  rw [List.length_drop] at ht
  have := q5 (q + t) (by omega) (by omega)
  rw [el _ (by omega) (by omega)] at this
  rw [List.getElem_drop]
  have e:q + t - (X.length + 1) = q - (X.length + 1) + t := by omega
  simp only [e] at this
  exact leE_nlt (oV _ (List.getElem_mem _)) ox this
 refine ⟨V.take (q - (X.length + 1)) ++ x :: V.drop (q - (X.length + 1)),?_,?_,?_⟩
 ·refine List.perm_middle.trans ?_
  rw [← hVs]
 ·rw [hVs] at hV
  obtain ⟨t1,t2,t3⟩ := srt_app.1 hV
  refine srt_app.2 ⟨t1,srt_cons.2 ⟨lt2,t2⟩,fun u hu v hv=>?_⟩
  rcases List.mem_cons.1 hv with rfl | hv
  ·exact lt1 u hu
  ·exact t3 u hu v hv
 ·rw [q3]
  have := bub9 rc X (V.drop (q - (X.length + 1)) ++ Z) (V.take (q - (X.length + 1))) [] x q (by rw [hl1]; simp only [List.length_nil]; omega) (by
   simp only [List.length_append,List.length_cons,List.length_nil,hl1,List.length_drop]; omega) ox (fun y hy=>oV y (List.mem_of_mem_take hy))
  have e3:X ++ ([] ++ x :: (V.take (q - (X.length + 1)) ++ (V.drop (q - (X.length + 1)) ++ Z))) = X ++ (x :: (V ++ Z)) := by
   rw [← List.append_assoc (V.take _),← hVs]; rfl
  rw [e3] at this
  rw [show ((X.length:Nat):Int) = ((X.length + ([]:List SE).length:Nat):Int) from rfl,this]; simp
end Go.Eng
