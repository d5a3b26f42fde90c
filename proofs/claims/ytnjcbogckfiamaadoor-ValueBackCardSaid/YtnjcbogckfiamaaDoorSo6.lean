/- A part of the proof: So6. -/
import Derived.Test.YtnjcbogckfiamaaDoorSo5
namespace Go.Eng
set_option linter.unusedVariables false
set_option linter.unusedSimpArgs false
inductive blk (s:Nat):List SE → Prop
 | short {l:List SE} (h:l.length ≤ s) (hs:srt l):blk s l
 | cons {U R:List SE} (h:U.length = s) (hs:srt U) (hr:blk s R):blk s (U ++ R)
theorem blk_done {s:Nat} {l:List SE} (h:blk s l) (hl:l.length ≤ s):srt l := by
 cases h with
 | short _ h=>exact h
 | cons h hs hr =>
  rename_i U R
  rw [List.length_append] at hl
  have:R = [] := nil_of_len (by omega)
  subst this
  rw [List.append_nil]; exact hs
theorem symM_eq (X U V Z:List SE) (a m b:Int) (h1:0 < U.length) (h2:0 < V.length) (ha:a = (X.length:Int)) (hm:m = ((X.length + U.length:Nat):Int)) (hb:b = ((X.length + U.length + V.length:Nat):Int)) (hs:(X ++ (U ++ (V ++ Z))).length < 576460752303423488) (ho:okL (X ++ (U ++ (V ++ Z)))) (hU:srt U) (hV:srt V) :
  ∃ W:List SE,W.Perm (U ++ V) ∧ srt W ∧ slices_symMergeCmpFunc (X ++ (U ++ (V ++ Z))) a m b (fnv 38) = some (X ++ (W ++ Z)) := by
 subst ha hm hb
 have hsz:X.length + (U.length + (V.length + Z.length)) < 576460752303423488 := by simpa using hs
 exact symM 60 199 (by decide) X U V Z h1 h2 (by omega) (by omega) ho hU hV
theorem st_l2 (n:Nat):∀ (k:Nat) (P R:List SE),R.length ≤ k → P.length + R.length = n → n < 288230376151711744 → okL (P ++ R) →
  ∃ R':List SE,R'.Perm R ∧ blk 20 R' ∧ iter st_slices_stableCmpFunc (.l2 (P ++ R) (n:Int) (fnv 38) 20 (P.length:Int) ((P.length + 20:Nat):Int)) = iter st_slices_stableCmpFunc (.l7 (P ++ R') (n:Int) (fnv 38) 20) := by
 intro k
 induction k with
 | zero=>?_
 | succ k ih=>?_
 all_goals
  intro P R hk hn hsz ho
  obtain ⟨oP,oR⟩ := okL_app.1 ho
  by_cases hb:P.length + 20 ≤ n
 ·omega
 ·obtain ⟨W,w1,w2,w3⟩ := insSort_eq P R [] (P.length:Int) (n:Int) rfl (by omega) (by simp only [List.append_nil,List.length_append]; omega) oR
  simp only [List.append_nil] at w3
  refine ⟨W,w1,.short (by rw [w1.length_eq]; omega) w2,?_⟩
  rw [iter_eq']
  show runL _ (sg_slices_stableCmpFunc_2 _ _ _ _ _ _) = _
  unfold sg_slices_stableCmpFunc_2
  rw [if_neg (by rw [decide_eq_true_eq]; omega),Gx rfl,allR_ok w3 (okL_app.2 ⟨oP,okL_perm w1.symm oR⟩),Option.bind_some]; rfl
 ·obtain ⟨U,R1,rfl,hU⟩ := split_at R (k := 20) (by omega)
  rw [List.length_append] at hk hn
  obtain ⟨oU,oR1⟩ := okL_app.1 oR
  obtain ⟨W,w1,w2,w3⟩ := insSort_eq P U R1 (P.length:Int) ((P.length + 20:Nat):Int) rfl (by rw [hU]) (by simp only [List.length_append]; omega) oU
  have oW := okL_perm w1.symm oU
  have hW:W.length = 20 := by rw [w1.length_eq,hU]
  obtain ⟨R',r1,r2,r3⟩ := ih (P ++ W) R1 (by omega) (by rw [List.length_append]; omega) hsz (okL_app.2 ⟨okL_app.2 ⟨oP,oW⟩,oR1⟩)
  refine ⟨W ++ R',w1.append r1,.cons hW w2 r2,?_⟩
  rw [iter_eq']
  show runL _ (sg_slices_stableCmpFunc_2 _ _ _ _ _ _) = _
  unfold sg_slices_stableCmpFunc_2
  rw [if_pos (decide_eq_true (by omega)),Gx rfl,allR_ok w3 (okL_app.2 ⟨oP,okL_app.2 ⟨oW,oR1⟩⟩),Option.bind_some]
  show iter _ _ = _
  have e1:w64 (((P.length + 20:Nat):Int) + 20) = (((P ++ W).length + 20:Nat):Int) := by rw [w64_eq (by omega) (by omega),List.length_append]; omega
  have e2:((P.length + 20:Nat):Int) = ((P ++ W).length:Int) := by rw [List.length_append]; omega
  rw [e1,e2,← List.append_assoc P W R1,r3,List.append_assoc]
 ·obtain ⟨W,w1,w2,w3⟩ := insSort_eq P R [] (P.length:Int) (n:Int) rfl (by omega) (by simp only [List.append_nil,List.length_append]; omega) oR
  simp only [List.append_nil] at w3
  refine ⟨W,w1,.short (by rw [w1.length_eq]; omega) w2,?_⟩
  rw [iter_eq']
  show runL _ (sg_slices_stableCmpFunc_2 _ _ _ _ _ _) = _
  unfold sg_slices_stableCmpFunc_2
  rw [if_neg (by rw [decide_eq_true_eq]; omega),Gx rfl,allR_ok w3 (okL_app.2 ⟨oP,okL_perm w1.symm oR⟩),Option.bind_some]; rfl
theorem blk_first {s:Nat} {l:List SE} (h:blk s l) (hl:s < l.length):∃ U R,l = U ++ R ∧ U.length = s ∧ srt U ∧ blk s R := by
 cases h with
 | short h _=>omega
 | cons h hs hr=>exact ⟨_,_,rfl,h,hs,hr⟩
theorem blk_head {s:Nat} (h0:0 < s) {l:List SE} (h:blk s l) (hl:s ≤ l.length):∃ U R,l = U ++ R ∧ U.length = s ∧ srt U ∧ blk s R := by
 cases h with
 | short h hs=>exact ⟨l,[],by simp,by omega,hs,.short (by simp) List.Pairwise.nil⟩
 | cons h hs hr=>exact ⟨_,_,rfl,h,hs,hr⟩
theorem st_l9 (n s:Nat) (hs0:0 < s) (hsn:s < n) (hsz:n < 144115188075855872):∀ (k:Nat) (P R:List SE),R.length ≤ k → P.length + R.length = n → okL (P ++ R) → blk s R →
  ∃ R':List SE,R'.Perm R ∧ blk (s * 2) R' ∧ iter st_slices_stableCmpFunc (.l9 (P ++ R) (n:Int) (fnv 38) (s:Int) (P.length:Int) ((P.length + 2 * s:Nat):Int)) = iter st_slices_stableCmpFunc (.l7 (P ++ R') (n:Int) (fnv 38) ((s * 2:Nat):Int)) := by
 have e0:w64 ((s:Int) * 2) = ((s * 2:Nat):Int) := by rw [w64_eq (by omega) (by omega)]; omega
 have e0':w64 ((2:Int) * (s:Int)) = ((2 * s:Nat):Int) := by rw [w64_eq (by omega) (by omega)]; omega
 -- the last ones
 have fin:∀ (P R:List SE),P.length + R.length = n → okL (P ++ R) → blk s R → ¬ P.length + 2 * s ≤ n →
   ∃ R':List SE,R'.Perm R ∧ blk (s * 2) R' ∧ iter st_slices_stableCmpFunc (.l9 (P ++ R) (n:Int) (fnv 38) (s:Int) (P.length:Int) ((P.length + 2 * s:Nat):Int)) = iter st_slices_stableCmpFunc (.l7 (P ++ R') (n:Int) (fnv 38) ((s * 2:Nat):Int)) := by
  intro P R hn ho hb hlt
  obtain ⟨oP,oR⟩ := okL_app.1 ho
  have em:w64 ((P.length:Int) + (s:Int)) = ((P.length + s:Nat):Int) := by rw [w64_eq (by omega) (by omega)]; omega
  have h0:iter st_slices_stableCmpFunc (.l9 (P ++ R) (n:Int) (fnv 38) (s:Int) (P.length:Int) ((P.length + 2 * s:Nat):Int)) = runL st_slices_stableCmpFunc (sg_slices_stableCmpFunc_9 (P ++ R) (n:Int) (fnv 38) (s:Int) (P.length:Int) ((P.length + 2 * s:Nat):Int)) := iter_eq' _ _
  rw [h0]
  unfold sg_slices_stableCmpFunc_9
  rw [if_neg (by rw [decide_eq_true_eq]; omega),em,e0]
  by_cases hm:P.length + s < n
  ·obtain ⟨U,V,rfl,hU,sU,bV⟩ := blk_first hb (by omega)
   rw [List.length_append] at hn
   have sV := blk_done bV (by omega)
   obtain ⟨W,w1,w2,w3⟩ := symM_eq P U V [] (P.length:Int) ((P.length + s:Nat):Int) (n:Int) (by omega) (by omega) rfl (by rw [hU]) (by omega) (by simp only [List.append_nil,List.length_append]; omega) (by rw [List.append_nil]; exact ho) sU sV
   simp only [List.append_nil] at w3
   refine ⟨W,w1,.short (by rw [w1.length_eq,List.length_append]; omega) w2,?_⟩
   rw [if_pos (decide_eq_true (by omega)),Gx rfl,allR_ok w3 (okL_app.2 ⟨oP,okL_perm w1.symm oR⟩),Option.bind_some]; rfl
  ·refine ⟨R,List.Perm.refl _,.short (by omega) (blk_done hb (by omega)),?_⟩
   rw [if_neg (by rw [decide_eq_true_eq]; omega)]; rfl
 intro k
 induction k with
 | zero =>
  intro P R hk hn ho hb
  exact fin P R hn ho hb (by omega)
 | succ k ih =>
  intro P R hk hn ho hb
  by_cases hlt:P.length + 2 * s ≤ n
  ·obtain ⟨oP,oR⟩ := okL_app.1 ho
   obtain ⟨U,R1,rfl,hU,sU,bR1⟩ := blk_head hs0 hb (by omega)
   rw [List.length_append] at hk hn
   obtain ⟨V,R2,rfl,hV,sV,bR2⟩ := blk_head hs0 bR1 (by omega)
   rw [List.length_append] at hk hn
   obtain ⟨oU,oR1⟩ := okL_app.1 oR
   obtain ⟨oV,oR2⟩ := okL_app.1 oR1
   have em:w64 ((P.length:Int) + (s:Int)) = ((P.length + s:Nat):Int) := by rw [w64_eq (by omega) (by omega)]; omega
   obtain ⟨W,w1,w2,w3⟩ := symM_eq P U V R2 (P.length:Int) ((P.length + s:Nat):Int) ((P.length + 2 * s:Nat):Int) (by omega) (by omega) rfl (by rw [hU]) (by omega) (by simp only [List.length_append]; omega) ho sU sV
   have oW := okL_perm w1.symm (okL_app.2 ⟨oU,oV⟩)
   have hW:W.length = 2 * s := by rw [w1.length_eq,List.length_append]; omega
   obtain ⟨R',r1,r2,r3⟩ := ih (P ++ W) R2 (by omega) (by rw [List.length_append]; omega) (okL_app.2 ⟨okL_app.2 ⟨oP,oW⟩,oR2⟩) bR2
   refine ⟨W ++ R',?_,.cons (by omega) w2 r2,?_⟩
   ·have := w1.append r1
    rwa [List.append_assoc] at this
   ·rw [iter_eq']
    show runL _ (sg_slices_stableCmpFunc_9 _ _ _ _ _ _) = _
    unfold sg_slices_stableCmpFunc_9
    rw [if_pos (decide_eq_true (by omega)),Gx rfl,em,allR_ok w3 (okL_app.2 ⟨oP,okL_app.2 ⟨oW,oR2⟩⟩),Option.bind_some,e0']
    show iter _ _ = _
    have e1:w64 (((P.length + 2 * s:Nat):Int) + ((2 * s:Nat):Int)) = (((P ++ W).length + 2 * s:Nat):Int) := by rw [w64_eq (by omega) (by omega),List.length_append]; omega
    have e2:((P.length + 2 * s:Nat):Int) = ((P ++ W).length:Int) := by rw [List.length_append]; omega
    rw [e1,e2,← List.append_assoc P W R2,r3,List.append_assoc]
  ·exact fin P R hn ho hb hlt
theorem st_l7 (n:Nat) (hsz:n < 72057594037927936):∀ (k s:Nat) (D:List SE),n - s ≤ k → 0 < s → s < 144115188075855872 → D.length = n → okL D → blk s D →
  ∃ W:List SE,W.Perm D ∧ srt W ∧ iter st_slices_stableCmpFunc (.l7 D (n:Int) (fnv 38) (s:Int)) = some W := by
 have fin:∀ (s:Nat) (D:List SE),D.length = n → blk s D → n ≤ s → ∃ W:List SE,W.Perm D ∧ srt W ∧ iter st_slices_stableCmpFunc (.l7 D (n:Int) (fnv 38) (s:Int)) = some W := by
  intro s D hD hb h
  refine ⟨D,List.Perm.refl _,blk_done hb (by omega),?_⟩
  rw [iter_eq']
  show runL _ (sg_slices_stableCmpFunc_7 _ _ _ _) = _
  unfold sg_slices_stableCmpFunc_7
  rw [if_neg (by rw [decide_eq_true_eq]; omega)]; rfl
 intro k
 induction k with
 | zero=>exact fun s D hk h0 h1 hD ho hb=>fin s D hD hb (by omega)
 | succ k ih =>
  intro s D hk h0 h1 hD ho hb
  by_cases hlt:s < n
  ·obtain ⟨R',r1,r2,r3⟩ := st_l9 n s h0 hlt (by omega) n [] D (by omega) (by simp [hD]) (by simpa using ho) hb
   obtain ⟨W,w1,w2,w3⟩ := ih (s * 2) R' (by omega) (by omega) (by omega) (by rw [r1.length_eq,hD]) (okL_perm r1.symm ho) r2
   refine ⟨W,w1.trans r1,w2,?_⟩
   rw [iter_eq']
   show runL _ (sg_slices_stableCmpFunc_7 _ _ _ _) = _
   unfold sg_slices_stableCmpFunc_7
   rw [if_pos (decide_eq_true (by omega))]
   show iter _ _ = _
   have e0':w64 ((2:Int) * (s:Int)) = ((2 * s:Nat):Int) := by rw [w64_eq (by omega) (by omega)]; omega
   simp only [List.nil_append,List.length_nil,Nat.zero_add] at r3
   rw [e0',show (0:Int) = ((0:Nat):Int) from rfl,r3,w3]
  ·exact fin s D hD hb (by omega)
theorem sortStable_eq (D:List SE) (hsz:D.length < 72057594037927936) (ho:okL D):∃ W:List SE,W.Perm D ∧ srt W ∧ slices_SortStableFunc D (fnv 38) = some W := by
 obtain ⟨R',r1,r2,r3⟩ := st_l2 D.length D.length [] D (Nat.le_refl _) (by simp) (by omega) (by simpa using ho)
 obtain ⟨W,w1,w2,w3⟩ := st_l7 D.length hsz D.length 20 R' (by omega) (by omega) (by omega) r1.length_eq (okL_perm r1.symm ho) r2
 simp only [List.nil_append,List.length_nil,Nat.zero_add] at r3
 refine ⟨W,w1.trans r1,w2,?_⟩
 have hst:slices_stableCmpFunc D (D.length:Int) (fnv 38) = some W := by
  unfold slices_stableCmpFunc en_slices_stableCmpFunc
  show iter _ _ = _
  rw [show (0:Int) = ((0:Nat):Int) from rfl,show (20:Int) = ((20:Nat):Int) from rfl]
  have r3' := r3
  rw [show (20:Int) = ((20:Nat):Int) from rfl] at r3'
  rw [r3',w3]
 unfold slices_SortStableFunc en_slices_SortStableFunc
 rw [Gx rfl,allR_ok hst (okL_perm (w1.trans r1).symm ho),Option.bind_some]
end Go.Eng
