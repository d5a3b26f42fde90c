/- A part of the proof: Vb2. -/
import Derived.Test.YtnjcbogckfiamaaDoorSo7
import Derived.Test.YtnjcbogckfiamaaDoorWk
namespace Go.Eng
set_option linter.unusedVariables false
set_option linter.unusedSimpArgs false
set_option linter.unusedSectionVars false
theorem vback_one {t:Tr tAtom} {v:List tAtom} (h:isV t v) (hl:(printT t).length ≤ 65536):parseV (printT t) = (v,0) := by
 have := vprint_back t h.2.1 32 (isV_deep h) [] (.inl rfl)
 rw [List.append_nil] at this
 unfold parseV
 rw [if_neg (by omega),this]
 dsimp only
 rw [h.2.2,if_pos ⟨rfl,checkV_of h⟩]
theorem vback_two (s:List UInt8) (h:(parseV s).2 = 0):printV (parseV s).1 = (s,0) := by
 unfold parseV at h ⊢
 split at h
 ·cases h
 ·rename_i h1
  rw [if_neg h1]
  split at h
  ·rename_i x k hx
   split at h
   ·rename_i hk
    rw [if_pos hk]
    obtain ⟨g1,g2⟩ := (valT_check hx).1 hk.2
    have hg := valT_good 32 _ _ _ hx g2
    rw [printV_of (t := x) ⟨g1,hg,rfl⟩]
    have := vread_back _ _ _ _ hx
    rw [hk.1,List.take_length] at this
    rw [← this]
   ·cases h
  ·cases h
theorem printV_zero {v:List tAtom} (h:(printV v).2 = 0):∃ t,isV t v := by
 by_cases h0:checkV v = 0
 ·exact checkV_ok h0
 ·rw [printV_no h0] at h; exact absurd h h0
theorem lcompare {a b:List tAtom} (ha:rV a) (hb:rV b):law07_compare a b = some (cV a b,true) := by
 obtain ⟨t,ht⟩ := ha
 obtain ⟨u,hu⟩ := hb
 unfold law07_compare value_Compare
 simp only [vcheck_eq,checkV_of ht,checkV_of hu,Option.bind_some,decide_true,Bool.not_true,Bool.false_eq_true,if_false,vcompare_eq ht hu,Bool.true_and,(cmpT_bd t u).1,(cmpT_bd t u).2,cV_of ht hu]
theorem el2D_get {x:List SE} {i:Nat} (h:i < x.length):el2D x i = x[i] := by
 unfold el2D
 rw [List.getD_eq_getElem?_getD,List.getElem?_eq_getElem h]; rfl
theorem getD_lt {α:Type} {x:List α} {d:α} {i:Nat} (h:i < x.length):x.getD i d = x[i] := by
 rw [List.getD_eq_getElem?_getD,List.getElem?_eq_getElem h]; rfl
section
variable {l:List (List tAtom)} {W:List SE} (hl:l.length ≤ 4096) (hp:W.Perm (ows l)) (ho:∀ v ∈ l,rV v) (hs:srt W)
include hl hp ho
theorem W_len:W.length = l.length := by rw [hp.length_eq]; unfold ows; exact List.length_map _
theorem W_ok:okL W := okL_perm hp.symm (ows_ok ho)
def cnt (c:List tAtom) (m:List (List tAtom)):Nat := (m.filter fun v=>decide (v = c)).length
omit hl hp ho in
theorem cnt_le (c:List tAtom) (m:List (List tAtom)):cnt c m ≤ m.length := List.length_filter_le _ _
omit hl hp ho in
theorem cnt_snoc (c:List tAtom) (m:List (List tAtom)) (v:List tAtom):cnt c (m ++ [v]) = cnt c m + if v = c then 1 else 0 := by
 unfold cnt
 rw [List.filter_append,List.length_append]
 by_cases h:v = c
 ·rw [if_pos h]; simp [h]
 ·rw [if_neg h]; simp [h]
omit hl hp ho in
theorem take_snoc {α:Type} (m:List α) (k:Nat) (h:k < m.length):m.take (k + 1) = m.take k ++ [m[k]] := by
 rw [List.take_add_one,List.getElem?_eq_getElem h]; rfl
theorem back_count (i:Nat) (hi:i < l.length):∀ (d k:Nat),k + d = l.length →
  iter st_law07_ValueBack (.l34 l W (i:Int) ((cnt (l.getD i []) (l.take k):Int) - (cnt (l.getD i []) ((W.map (fun y=>y.2)).take k):Int)) (k:Int)) = iter st_law07_ValueBack (.l30 l W ((i + 1:Nat):Int))
 | 0,k,hk=>by
  have hk':k = l.length := by omega
  have hW := W_len hl hp ho
  have e6:w64 ((i:Int) + 1) = ((i + 1:Nat):Int) := w64_eq (by omega) (by omega)
  have hpp:(W.map (fun y=>y.2)).Perm l := by
   have := hp.map (fun y=>y.2)
   rw [ows_snd] at this; exact this
  have hc:cnt (l.getD i []) (l.take k) = cnt (l.getD i []) ((W.map (fun y=>y.2)).take k) := by
   rw [hk',List.take_length,List.take_of_length_le (by rw [List.length_map]; omega)]
   unfold cnt
   exact ((hpp.filter _).length_eq).symm
  rw [hc,Int.sub_self,iter_eq']
  show runL _ (sg_law07_ValueBack_34 _ _ _ _ _) = _
  unfold sg_law07_ValueBack_34
  rw [if_neg (by rw [decide_eq_true_eq]; omega),if_neg (by decide),e6]; rfl
 | d + 1,k,hk=>by
  have hW := W_len hl hp ho
  have hok := W_ok hl hp ho
  have hkl:k < l.length := by omega
  have hkW:k < W.length := by omega
  have e6:w64 ((k:Int) + 1) = ((k + 1:Nat):Int) := w64_eq (by omega) (by omega)
  have hlk:(l.getD k []).length ≤ 1024 := rV_len (ho _ (by rw [getD_lt hkl]; exact List.getElem_mem _))
  have hWk:okE W[k] := hok _ (List.getElem_mem _)
  have ih := back_count i hi d (k + 1) (by omega)
  generalize hv:l.getD i [] = c at *
  have n1 := cnt_le c (l.take k)
  have n2 := cnt_le c ((W.map (fun y=>y.2)).take k)
  rw [List.length_take] at n1 n2
  have el:l.take (k + 1) = l.take k ++ [l.getD k []] := by rw [take_snoc l k hkl,getD_lt hkl]
  have eW:(W.map (fun y=>y.2)).take (k + 1) = (W.map (fun y=>y.2)).take k ++ [W[k].2] := by
   rw [take_snoc _ k (by rw [List.length_map]; exact hkW),List.getElem_map]
  rw [el,eW,cnt_snoc,cnt_snoc] at ih
  generalize cnt c (l.take k) = p at *
  generalize cnt c ((W.map (fun y=>y.2)).take k) = q at *
  have step38:∀ n:Int,-4096 ≤ n → n ≤ 4097 → iter st_law07_ValueBack (.l38 l W (i:Int) n (k:Int)) = iter st_law07_ValueBack (.l34 l W (i:Int) (n - ((if W[k].2 = c then 1 else 0:Nat):Int)) ((k + 1:Nat):Int)) := fun n h1 h2=>by
   rw [iter_eq']
   show runL _ (sg_law07_ValueBack_38 _ _ _ _ _) = _
   unfold sg_law07_ValueBack_38
   rw [Gx ⟨by omega,by omega⟩,Int.toNat_natCast,el2D_get hkW,Gx hWk.1,Gx ⟨by omega,by omega⟩,Gx rfl,Int.toNat_natCast,hv,vsame_eq _ _ (by have := rV_len hWk.2; omega),Option.bind_some,e6]
   by_cases h:W[k].2 = c
   ·rw [if_pos (decide_eq_true h),if_pos h,w64_eq (by omega) (by omega)]; rfl
   ·rw [if_neg (by simpa using h),if_neg h]
    have:n - ((0:Nat):Int) = n := by omega
    rw [this]; rfl
  rw [iter_eq']
  show runL _ (sg_law07_ValueBack_34 _ _ _ _ _) = _
  unfold sg_law07_ValueBack_34
  rw [if_pos (decide_eq_true (by omega)),Gx ⟨by omega,by omega⟩,Gx ⟨by omega,by omega⟩,Int.toNat_natCast,Int.toNat_natCast,hv,vsame_eq _ _ (by omega),Option.bind_some]
  by_cases h:l.getD k [] = c
  ·rw [if_pos h] at ih
   rw [if_pos (decide_eq_true h),w64_eq (by omega) (by omega)]
   show iter _ _ = _
   rw [step38 _ (by omega) (by omega),← ih]
   congr 2; omega
  ·rw [if_neg h] at ih
   rw [if_neg (by simpa using h)]
   show iter _ _ = _
   rw [step38 _ (by omega) (by omega),← ih]
   congr 2; omega
theorem back_all:∀ (d i:Nat),i + d = l.length → iter st_law07_ValueBack (.l30 l W (i:Int)) = some true
 | 0,i,hi=>by
  rw [iter_eq']
  show runL _ (sg_law07_ValueBack_30 _ _ _) = _
  unfold sg_law07_ValueBack_30
  rw [if_neg (by rw [Bool.and_eq_true,decide_eq_true_eq]; omega)]; rfl
 | d + 1,i,hi=>by
  rw [iter_eq']
  show runL _ (sg_law07_ValueBack_30 _ _ _) = _
  unfold sg_law07_ValueBack_30
  split
  ·show iter _ _ = _
   have := back_count hl hp ho i (by omega) l.length 0 (by omega)
   rw [List.take_zero,List.take_zero] at this
   have e0:((cnt (l.getD i []) []:Nat):Int) - ((cnt (l.getD i []) []:Nat):Int) = 0 := by omega
   rw [e0] at this
   rw [show (0:Int) = ((0:Nat):Int) from rfl] at this ⊢
   rw [this]
   exact back_all d (i + 1) (by omega)
  ·rfl
include hs in
theorem back_order:∀ (d i:Nat),1 ≤ i → (i + d = W.length ∨ W.length ≤ i) → iter st_law07_ValueBack (.l24 l W (i:Int)) = some true
 | d,i,h1,hi=>by
  have hW := W_len hl hp ho
  have hok := W_ok hl hp ho
  by_cases hlt:i < W.length
  ·match d,hi with
   | 0,hi=>omega
   | d + 1,hi =>
    have e6:w64 ((i:Int) + 1) = ((i + 1:Nat):Int) := w64_eq (by omega) (by omega)
    have e5:w64 ((i:Int) - 1) = ((i - 1:Nat):Int) := by rw [w64_eq (by omega) (by omega)]; omega
    have o1:okE W[i - 1] := hok _ (List.getElem_mem _)
    have o2:okE W[i] := hok _ (List.getElem_mem _)
    have hle:cV W[i - 1].2 W[i].2 ≤ 0 := (List.pairwise_iff_getElem.1 hs) (i - 1) i (by omega) hlt (by omega)
    rw [iter_eq']
    show runL _ (sg_law07_ValueBack_24 _ _ _) = _
    unfold sg_law07_ValueBack_24
    rw [if_pos (decide_eq_true (by omega)),e5,Gx ⟨by omega,by omega⟩,Int.toNat_natCast,Int.toNat_natCast,el2D_get (show i - 1 < W.length by omega),el2D_get hlt,Gx o1.1,Gx ⟨by omega,by omega⟩,Gx o2.1,Gx rfl,Gx rfl,lcompare o1.2 o2.2,Option.bind_some,e6]
    rw [if_neg (by simp; omega)]
    show iter _ _ = _
    exact back_order d (i + 1) (by omega) (by omega)
  ·rw [iter_eq']
   show runL _ (sg_law07_ValueBack_24 _ _ _) = _
   unfold sg_law07_ValueBack_24
   rw [if_neg (by rw [decide_eq_true_eq]; omega)]
   show iter _ _ = _
   exact back_all hl hp ho l.length 0 (by omega)
end
theorem back_18 (l:List (List tAtom)) (hl:l.length < 4611686018427387904):iter st_law07_ValueBack (.l18 l) = some true := by
 rw [iter_eq']
 show runL _ (sg_law07_ValueBack_18 _) = _
 unfold sg_law07_ValueBack_18
 by_cases h1:4096 < l.length
 ·have:value_Sort l = some ([],3) := by
   unfold value_Sort en_value_Sort
   rw [if_pos (decide_eq_true (by omega))]; rfl
  rw [this]; rfl
 ·by_cases hf:firstV l = 0
  ·obtain ⟨W,w1,w2,w3⟩ := vsort_eq l (by omega) hf
   have ho := firstV_all hf
   have hW := W_len (by omega) w1 ho
   rw [w3,Option.bind_some,if_neg (by simp),if_neg (by simp [hW])]
   show iter _ _ = _
   exact back_order (by omega) w1 ho w2 (W.length - 1) 1 (by omega) (by omega)
  ·have:value_Sort l = some ([],firstV l) := by
    unfold value_Sort en_value_Sort
    rw [if_neg (by rw [decide_eq_true_eq]; omega),vfirst_eq l hl,Option.bind_some,if_pos (by simp [hf])]; rfl
   rw [this,Option.bind_some,if_pos (by simp [hf])]; rfl
theorem back_13 (v:List tAtom) (l:List (List tAtom)) (hl:l.length < 4611686018427387904):iter st_law07_ValueBack (.l13 v l) = some true := by
 rw [iter_eq']
 show runL _ (sg_law07_ValueBack_13 _ _) = _
 unfold sg_law07_ValueBack_13
 rw [vMembers_eq,Option.bind_some]
 split
 ·rename_i h
  have h:(membersV v).2 = 0 := of_decide_eq_true h
  have hc:checkV v = 0 := by
   by_cases h0:checkV v = 0
   ·exact h0
   ·rw [membersV_no h0] at h; exact absurd h h0
  obtain ⟨t,ht⟩ := checkV_ok hc
  have hm := membersV_of ht
  have h3:t.a.1 = 3 := by
   by_cases h3:t.a.1 = 3
   ·exact h3
   ·rw [hm,if_neg h3] at h; cases h
  rw [if_pos h3] at hm
  obtain ⟨m1,m2⟩ := membersV_len v
  have hsz:vsizes (membersV v).1 := ⟨by omega,fun y hy=>by have := m2 y hy; omega⟩
  have em:((membersV v).1.map (fun y=>(true,y))).map (fun y=>y.2) = (membersV v).1 := by rw [List.map_map]; exact List.map_id _
  rw [Gx rfl,em,vlist_eq _ hsz,Option.bind_some,hm,list_back ht h3]
  dsimp only
  rw [if_pos (by simp),vsame_eq v v (by have := ht.1; omega),Option.bind_some,if_neg (by simp)]
  exact back_18 l hl
 ·exact back_18 l hl
theorem back_8 (v:List tAtom) (s:List UInt8) (l:List (List tAtom)) (hl:l.length < 4611686018427387904):iter st_law07_ValueBack (.l8 v s l) = some true := by
 rw [iter_eq']
 show runL _ (sg_law07_ValueBack_8 _ _ _) = _
 unfold sg_law07_ValueBack_8
 rw [vParse_eq,Option.bind_some]
 split
 ·rename_i h
  rw [vPrint_eq,Option.bind_some,vback_two s (of_decide_eq_true h),if_neg (by simp)]
  exact back_13 v l hl
 ·exact back_13 v l hl
theorem ValueBack_pure (v:List tAtom) (s:List UInt8) (l:List (List tAtom)) (hl:vsizes l):law07_ValueBack v s l = some true := by
 have hl':l.length < 4611686018427387904 := by have := hl.1; omega
 unfold law07_ValueBack en_law07_ValueBack
 rw [works_eq,Option.bind_some,if_neg (by decide),vPrint_eq,Option.bind_some]
 split
 ·rename_i h
  simp only [Bool.and_eq_true,decide_eq_true_eq] at h
  obtain ⟨t,ht⟩ := printV_zero h.1
  rw [printV_of ht] at h ⊢
  dsimp only at h ⊢
  rw [vParse_eq,Option.bind_some,vback_one ht (by omega)]
  dsimp only
  rw [if_pos (by simp),vsame_eq v v (by have := ht.1; omega),Option.bind_some,if_neg (by simp)]
  exact back_8 v s l hl'
 ·exact back_8 v s l hl'
end Go.Eng
