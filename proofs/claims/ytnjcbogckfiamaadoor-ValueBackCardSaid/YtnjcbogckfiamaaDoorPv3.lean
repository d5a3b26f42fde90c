/- A part of the proof: Pv3. -/
import Derived.Test.YtnjcbogckfiamaaDoorPv2
namespace Go.Eng
set_option linter.unusedVariables false
set_option linter.unusedSimpArgs false
def isV (t:Tr tAtom) (v:List tAtom):Prop := v.length ≤ 1024 ∧ okT arV (goodV 32) t ∧ flat t = v
mutual
theorem okT_up {lim lim2:Int} (hl:lim ≤ lim2):∀ t:Tr tAtom,okT arV (goodV lim) t → okT arV (goodV lim2) t
 | .node a ts,h=>by
  obtain ⟨h1,h2,h3⟩ := h
  refine ⟨h1,?_,okF_up hl ts h3⟩
  simp only [goodV,Bool.and_eq_true,decide_eq_true_eq] at h2 ⊢
  exact ⟨h2.1,by omega⟩
theorem okF_up {lim lim2:Int} (hl:lim ≤ lim2):∀ f:List (Tr tAtom),okF arV (goodV lim) f → okF arV (goodV lim2) f
 | [],_=>trivial
 | t :: f,h=>⟨okT_up hl t h.1,okF_up hl f h.2⟩
end
theorem okT_deep {lim:Int} {t:Tr tAtom} (h:okT arV (goodV lim) t):(tdeep t:Int) ≤ lim := by
 cases t with
 | node a ts =>
  have h2 := h.2.1
  simp only [goodV,Bool.and_eq_true,decide_eq_true_eq] at h2
  exact h2.2
open Classical in
/-- What is wrong with a value. -/
noncomputable def checkV (v:List tAtom):Int := if 1024 < v.length then 3 else if ∃ t,isV t v then 0 else 5
theorem checkV_ok {v:List tAtom} (h:checkV v = 0):∃ t,isV t v := by
 unfold checkV at h
 split at h
 ·cases h
 ·split at h
  ·assumption
  ·cases h
theorem checkV_of {t:Tr tAtom} {v:List tAtom} (h:isV t v):checkV v = 0 := by
 unfold checkV
 have := h.1
 rw [if_neg (by omega),if_pos ⟨t,h⟩]
theorem isV_inj {t u:Tr tAtom} {v:List tAtom} (ht:isV t v) (hu:isV u v):t = u := flat_inj ht.2.1 hu.2.1 (by rw [ht.2.2,hu.2.2])
theorem par_one {v:List tAtom} {lim:Int} {F:List (Tr tAtom)} (h:parseT arV (goodV lim) v [] = some F) (h1:F.length = 1):∃ t,F = [t] ∧ okT arV (goodV lim) t ∧ flat t = v := by
 obtain ⟨t,rfl⟩ := List.length_eq_one_iff.1 h1
 exact ⟨t,rfl,parse_one.1 h⟩
theorem vcheck_eq (v:List tAtom):value_Check v = some (checkV v) := by
 unfold value_Check checkV
 by_cases h:1024 < v.length
 ·rw [if_pos h,if_pos (by simp only [decide_eq_true_eq]; omega)]
 ·rw [if_neg h,if_neg (by simp only [decide_eq_true_eq]; omega),wholes_par v (by omega)]
  have no:∀ F,parseT arV (goodV 32) v [] = F → (∀ t,F ≠ some [t]) → ¬ ∃ t,isV t v := by
   rintro F hF hn ⟨t,h1,h2,h3⟩
   exact hn t (by rw [← hF]; exact parse_one.2 ⟨h2,h3⟩)
  cases hF:parseT arV (goodV 32) v [] with
  | none=>rw [if_neg (no _ hF (fun t e=>by cases e))]; rfl
  | some F =>
   by_cases h1:F.length = 1
   ·obtain ⟨t,rfl,h2,h3⟩ := par_one hF h1
    rw [if_pos ⟨t,by omega,h2,h3⟩]; rfl
   ·rw [if_neg (no _ hF (fun t e=>by cases e; exact h1 rfl))]
    simp only [Option.bind_some,h1,decide_false,Bool.not_false,if_true]
theorem isV_top {t:Tr tAtom} {v:List tAtom} (h:isV t v):v = flats t.ts ++ [t.a] ∧ v.length = (flats t.ts).length + 1 := by
 obtain ⟨h1,h2,rfl⟩ := h
 cases t with
 | node a ts=>exact ⟨rfl,by simp [flat,Tr.ts]⟩
theorem last_get {v:List tAtom} {x:List tAtom} {a:tAtom} (h:v = x ++ [a]):v.getD x.length dAtom = a := by
 subst h
 rw [List.getD_eq_getElem?_getD,List.getElem?_append_right (Nat.le_refl _),Nat.sub_self]; rfl
theorem vtop_eq {t:Tr tAtom} {v:List tAtom} (h:isV t v):value_top v = some t.a := by
 obtain ⟨h1,h2⟩ := isV_top h
 have h3 := h.1
 have hw:w64 ((v.length:Int) - 1) = ((flats t.ts).length:Int) := by rw [w64_eq (by omega) (by omega)]; omega
 unfold value_top
 rw [hw,G_pos (by omega),Int.toNat_natCast,last_get h1]
theorem isV_ar {t:Tr tAtom} {v:List tAtom} (h:isV t v):t.a.2.1 = (t.ts.length:Int) := by
 obtain ⟨h1,h2,h3⟩ := h
 cases t with
 | node a ts =>
  obtain ⟨k1,k2,k3⟩ := h2
  simp only [goodV,Bool.and_eq_true,Tr.a] at k2
  have := wellA_pos k2.1
  simp only [arV] at k1
  show a.2.1 = (ts.length:Int)
  omega
theorem len_flats:∀ f:List (Tr tAtom),f.length ≤ (flats f).length
 | []=>Nat.le_refl _
 | t :: f=>by have := len_flats f; have := flat_pos t; simp only [List.length_cons,flats,List.length_append]; omega
theorem out_last (f:List (Tr tAtom)) (t:Tr tAtom) (rest:List (Nat × Nat)):(outF (f ++ [t]) 0 ++ rest)[(flats (f ++ [t])).length - 1]? = some ((flats f).length,tdeep t) := by
 have hp := flat_pos t
 have hl:(flats (f ++ [t])).length = (flats f).length + (flat t).length := by rw [flats_app,List.length_append,flats,flats,List.append_nil]
 rw [List.getElem?_append_left (by rw [outF_len]; omega),outF_app,Nat.zero_add,List.getElem?_append_right (by rw [outF_len]; omega),outF_len,hl]
 cases t with
 | node a ts =>
  rw [outF,outF,List.append_nil,outT]
  have e:(flat (.node a ts)).length = (flats ts).length + 1 := by simp [flat]
  rw [List.getElem?_append_right (by rw [outF_len]; omega),outF_len]
  rw [show (flats f).length + (flat (Tr.node a ts)).length - 1 - (flats f).length - (flats ts).length = 0 by omega]; rfl
theorem cut_mid {α:Type} (x y z:List α):cut (x ++ y ++ z) x.length (x ++ y).length = y := by
 unfold cut
 rw [List.take_append_of_le_length (Nat.le_refl _),List.take_length,List.drop_left]
theorem set_mid {α:Type} (x:List α) (y z:α) (r:List α) (n:Nat) (h:x.length = n):(x ++ y :: r).set n z = x ++ z :: r := by
 subst h; simp
theorem members_loop (v:List tAtom) (hv:v.length ≤ 1024) (w:List twhole) (ts:List (Tr tAtom)) (a:tAtom) (hvt:v = flats ts ++ [a]) (hw:∃ rest,w = (outF ts 0 ++ rest).map qW) :
  ∀ (k:Nat) (f g:List (Tr tAtom)),ts = f ++ g → f.length = k → iter st_value_members (.l5 v w (List.replicate k ([]:List tAtom) ++ g.map flat) ((flats f).length:Int) ((k:Int) - 1)) = some (ts.map flat)
 | 0,f,g,hfg,hk=>by
  have hf:f = [] := List.length_eq_zero_iff.1 hk
  subst hf
  rw [iter_eq']
  have:¬ (0:Int) ≤ ((0:Nat):Int) - 1 := by omega
  simp only [st_value_members,sg_value_members_5,this,decide_false,Bool.false_eq_true,if_false,List.replicate_zero,List.nil_append,runL]
  rw [hfg]; rfl
 | k + 1,f,g,hfg,hk=>by
  obtain ⟨f',t,rfl⟩:∃ f' t,f = f' ++ [t] := by
   rcases List.eq_nil_or_concat f with rfl | ⟨f',t,rfl⟩
   ·cases hk
   ·exact ⟨f',t,by simp⟩
  have hk':f'.length = k := by simpa using hk
  rw [iter_eq']
  have hp := flat_pos t
  have hl:(flats (f' ++ [t])).length = (flats f').length + (flat t).length := by rw [flats_app,List.length_append,flats,flats,List.append_nil]
  have hvl:(flats (f' ++ [t])).length + (flats g).length + 1 = v.length := by rw [hvt,hfg]; simp only [flats_app,List.length_append,List.length_singleton,flats,List.append_nil,List.length_nil]
  have hk0:f'.length ≤ (flats f').length := len_flats f'
  obtain ⟨rest,hw⟩ := hw
  have hg:(outF ts 0 ++ rest)[(flats (f' ++ [t])).length - 1]? = some ((flats f').length,tdeep t) := by
   rw [hfg,outF_app,List.append_assoc]; exact out_last f' t _
  have hwl:(flats (f' ++ [t])).length - 1 < w.length := by
   rw [hw,List.length_map]
   rcases Nat.lt_or_ge ((flats (f' ++ [t])).length - 1) (outF ts 0 ++ rest).length with h | h
   ·exact h
   ·rw [List.getElem?_eq_none h] at hg; cases hg
  have e0:(((k + 1:Nat):Int) - 1) = (k:Int) := by omega
  have g0:(0:Int) ≤ (k:Int) := by omega
  have ew:w64 (((flats (f' ++ [t])).length:Int) - 1) = (((flats (f' ++ [t])).length - 1:Nat):Int) := by rw [w64_eq (by omega) (by omega)]; omega
  have ew2:w64 ((k:Int) - 1) = (k:Int) - 1 := w64_eq (by omega) (by omega)
  have hget:w.getD ((flats (f' ++ [t])).length - 1) dwhole = qW ((flats f').length,tdeep t) := by
   rw [List.getD_eq_getElem?_getD,hw,List.getElem?_map,hg]; rfl
  have hq1:(qW ((flats f').length,tdeep t)).1 = ((flats f').length:Int) := rfl
  have hcut:cut v (flats f').length (flats (f' ++ [t])).length = flat t := by
   have e:flats (f' ++ [t]) = flats f' ++ flat t := by rw [flats_app,flats,flats,List.append_nil]
   rw [hvt,hfg,flats_app,e,List.append_assoc (flats f' ++ flat t)]
   exact cut_mid (flats f') (flat t) _
  simp only [e0,st_value_members,sg_value_members_5,decide_eq_true_eq,if_pos g0,ew,Int.toNat_natCast,hget,hq1,hcut,ew2]
  rw [G_pos (by omega),G_pos (by omega),G_pos (by rw [List.length_append,List.length_replicate]; omega)]
  show iter _ _ = _
  have hset:(List.replicate (k + 1) ([]:List tAtom) ++ g.map flat).set k (flat t) = List.replicate k ([]:List tAtom) ++ (t :: g).map flat := by
   rw [List.replicate_succ',List.append_assoc]
   exact set_mid _ _ _ _ _ (by simp)
  rw [hset]
  exact members_loop v hv w ts a hvt ⟨rest,hw⟩ k f' (t :: g) (by rw [hfg]; simp) hk'
theorem isV_par {t:Tr tAtom} {v:List tAtom} (h:isV t v):parseT arV (goodV 32) v [] = some [t] := parse_one.2 ⟨h.2.1,h.2.2⟩
theorem vmembers_eq {t:Tr tAtom} {v:List tAtom} (h:isV t v):value_members v = some (t.ts.map flat) := by
 have h3 := h.1
 obtain ⟨h1,h2⟩ := isV_top h
 have ha := isV_ar h
 have hl := len_flats t.ts
 unfold value_members en_value_members
 rw [wholes_par v h.1,isV_par h,vtop_eq h]
 simp only [Option.bind_some,ha]
 rw [G_pos (by omega),Int.toNat_natCast,List.length_replicate]
 have e1:w64 ((v.length:Int) - 1) = ((flats t.ts).length:Int) := by rw [w64_eq (by omega) (by omega)]; omega
 have e2:w64 ((t.ts.length:Int) - 1) = (t.ts.length:Int) - 1 := w64_eq (by omega) (by omega)
 rw [e1,e2]
 show iter _ _ = _
 have ho:outQ [t] = (outF t.ts 0 ++ [(0,tdeep t)]).map qW := by
  cases t with
  | node a ts=>simp [outQ,outF,outT,Tr.ts]
 have := members_loop v h.1 (outQ [t]) t.ts t.a h1 ⟨_,ho⟩ t.ts.length t.ts [] (by simp) rfl
 simpa using this
end Go.Eng
