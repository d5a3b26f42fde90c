/- A part of the proof: Pv4. -/
import Derived.Test.YtnjcbogckfiamaaDoorPv3
namespace Go.Eng
set_option linter.unusedVariables false
set_option linter.unusedSimpArgs false
def vsizes (l:List (List tAtom)):Prop := l.length * 24 ≤ 140737488351232 ∧ ∀ v ∈ l,v.length * 40 ≤ 140737488351232
noncomputable def firstV:List (List tAtom) → Int
 | []=>0
 | v :: r=>if checkV v = 0 then firstV r else checkV v
theorem vfirst_loop (l:List (List tAtom)) (hl:l.length < 4611686018427387904):∀ (d i:Nat),i + d = l.length → iter st_value_first (.l2 l (l.length:Int) (i:Int)) = some (firstV (l.drop i))
 | 0,i,hi=>by
  rw [iter_eq']
  have hd:l.drop i = [] := List.drop_eq_nil_of_le (by omega)
  have:¬ (i:Int) < (l.length:Int) := by omega
  simp only [st_value_first,sg_value_first_2,this,decide_false,Bool.false_eq_true,if_false,hd,firstV]; rfl
 | d + 1,i,hi=>by
  rw [iter_eq']
  obtain ⟨c,r,hL⟩ := drop_ex (show i < l.length by omega)
  obtain ⟨hc,hr,hlen⟩ := drop_cons (d := ([]:List tAtom)) hL
  have hlt:(i:Int) < (l.length:Int) := by omega
  have hG:0 ≤ (i:Int) ∧ (i:Int) < (l.length:Int) := ⟨by omega,hlt⟩
  have e6:w64 ((i:Int) + 1) = ((i + 1:Nat):Int) := w64_eq (by omega) (by omega)
  rw [hL,firstV]
  simp only [st_value_first,sg_value_first_2,decide_eq_true_eq,if_pos hlt,G_pos hG,Int.toNat_natCast,hc,vcheck_eq,Option.bind_some,e6]
  by_cases h:checkV c = 0
  ·simp only [h,decide_true,Bool.not_true,Bool.false_eq_true,if_false,if_true]
   show iter _ _ = _
   rw [vfirst_loop l hl d (i + 1) (by omega),hr]
  ·simp only [h,decide_false,Bool.not_false,if_true,if_false]; rfl
theorem vfirst_eq (l:List (List tAtom)) (hl:l.length < 4611686018427387904):value_first l = some (firstV l) := by
 unfold value_first en_value_first
 show iter _ _ = _
 have := vfirst_loop l hl l.length 0 (by omega)
 simpa using this
def madeL:List (List tAtom) → List tAtom → Option (List tAtom)
 | [],out=>some out
 | v :: r,out=>if 1024 ≤ out.length + v.length then none else madeL r (out ++ v)
def lastA (n:Nat):tAtom := (3,(n:Int),0,([]:List UInt8),())
noncomputable def madeV (l:List (List tAtom)):List tAtom × Bool := match madeL l [] with
 | none=>([],false)
 | some out=>(out ++ [lastA l.length],decide (checkV (out ++ [lastA l.length]) = 0))
theorem vmade_loop (l:List (List tAtom)) (hl:l.length < 4611686018427387904) (hv:∀ v ∈ l,v.length < 4611686018427387904):∀ (d i:Nat) (out:List tAtom),i + d = l.length → out.length ≤ 1024 →
  iter st_value_made (.l3 l out l (l.length:Int) (i:Int)) = some (match madeL (l.drop i) out with | none=>([],false) | some out=>(out ++ [lastA l.length],decide (checkV (out ++ [lastA l.length]) = 0)))
 | 0,i,out,hi,ho=>by
  rw [iter_eq']
  have hd:l.drop i = [] := List.drop_eq_nil_of_le (by omega)
  have:¬ (i:Int) < (l.length:Int) := by omega
  simp only [st_value_made,sg_value_made_3,this,decide_false,Bool.false_eq_true,if_false,hd,madeL,List.length_singleton]
  rw [G_pos (by omega),vcheck_eq]; rfl
 | d + 1,i,out,hi,ho=>by
  rw [iter_eq']
  obtain ⟨c,r,hL⟩ := drop_ex (show i < l.length by omega)
  obtain ⟨hc,hr,hlen⟩ := drop_cons (d := ([]:List tAtom)) hL
  have hcv := hv c (List.mem_of_mem_drop (by rw [hL]; simp))
  have hlt:(i:Int) < (l.length:Int) := by omega
  have hG:0 ≤ (i:Int) ∧ (i:Int) < (l.length:Int) := ⟨by omega,hlt⟩
  have e6:w64 ((i:Int) + 1) = ((i + 1:Nat):Int) := w64_eq (by omega) (by omega)
  have e7:w64 ((out.length:Int) + (c.length:Int)) = (out.length:Int) + (c.length:Int) := w64_eq (by omega) (by omega)
  rw [hL,madeL]
  simp only [st_value_made,sg_value_made_3,decide_eq_true_eq,if_pos hlt,G_pos hG,Int.toNat_natCast,hc,e6,e7]
  by_cases h:1024 ≤ out.length + c.length
  ·rw [if_pos h,if_pos (by omega)]; rfl
  ·rw [if_neg h,if_neg (by omega),G_pos (by omega)]
   show iter _ _ = _
   rw [vmade_loop l hl hv d (i + 1) _ (by omega) (by rw [List.length_append]; omega),hr]
theorem vmade_eq (l:List (List tAtom)) (hl:l.length < 4611686018427387904) (hv:∀ v ∈ l,v.length < 4611686018427387904):value_made l = some (madeV l) := by
 unfold value_made en_value_made
 show iter _ _ = _
 have := vmade_loop l hl hv l.length 0 [] (by omega) (by simp)
 rw [List.drop_zero] at this
 exact this
noncomputable def listV (l:List (List tAtom)):List tAtom × Int :=
 if 4096 < l.length then ([],3) else if firstV l ≠ 0 then ([],firstV l) else if (madeV l).2 = true then ((madeV l).1,0) else ([],3)
theorem sizes_lt {l:List (List tAtom)} (h:vsizes l):l.length < 4611686018427387904 ∧ ∀ v ∈ l,v.length < 4611686018427387904 := by
 refine ⟨by have := h.1; omega,fun v hv=>?_⟩
 have := h.2 v hv; omega
theorem vlist_eq (l:List (List tAtom)) (hl:vsizes l):value_List l = some (listV l) := by
 obtain ⟨h1,h2⟩ := sizes_lt hl
 unfold value_List listV
 rw [vfirst_eq l h1,vmade_eq l h1 h2]
 simp only [decide_eq_true_eq,Option.bind_some]
 by_cases h:4096 < l.length
 ·rw [if_pos h,if_pos (by omega)]
 ·rw [if_neg h,if_neg (by omega)]
  by_cases hf:firstV l = 0
  ·cases hm:(madeV l).2 <;> simp [hf]
  ·simp [hf]
theorem clone_loop (q:List (List tAtom)) (hq:q.length < 4611686018427387904) (hv:∀ v ∈ q,v.length ≤ 1024):∀ (d i:Nat) (f g:List (List tAtom)),q = f ++ g → f.length = i → g.length = d →
  iter st_value_Members (.l8 (f.map (fun y=>(true,y)) ++ g.map fun y=>(false,y)) (q.length:Int) (i:Int)) = some (q.map fun y=>(true,y),0)
 | 0,i,f,g,hfg,hf,hg=>by
  have hg0:g = [] := List.length_eq_zero_iff.1 hg
  subst hg0
  rw [List.append_nil] at hfg
  subst hfg
  rw [iter_eq']
  have:¬ (i:Int) < (q.length:Int) := by omega
  simp only [st_value_Members,sg_value_Members_8,this,decide_false,Bool.false_eq_true,if_false,List.map_nil,List.append_nil]
  rw [G_pos trivial]; rfl
 | d + 1,i,f,g,hfg,hf,hg=>by
  obtain ⟨c,g',rfl⟩:∃ c g',g = c :: g' := by
   cases g with
   | nil=>cases hg
   | cons c g'=>exact ⟨c,g',rfl⟩
  rw [iter_eq']
  have hql:q.length = i + (d + 1) := by rw [hfg,List.length_append]; omega
  have hlt:(i:Int) < (q.length:Int) := by omega
  have hel:el2D (f.map (fun y=>(true,y)) ++ (c :: g').map fun y=>(false,y)) i = (false,c) := by
   unfold el2D
   rw [List.getD_eq_getElem?_getD,List.getElem?_append_right (by rw [List.length_map]; omega),List.length_map,hf,Nat.sub_self]; rfl
  have hset:(f.map (fun y=>(true,y)) ++ (c :: g').map fun y=>(false,y)).set i (true,c) = (f ++ [c]).map (fun y=>(true,y)) ++ g'.map fun y=>(false,y) := by
   rw [List.map_cons,set_mid _ _ _ _ _ (by rw [List.length_map]; exact hf)]; simp
  have hcl:slices_Clone c = some c := vclone_eq c (by have := hv c (by rw [hfg]; simp); omega)
  have e6:w64 ((i:Int) + 1) = ((i + 1:Nat):Int) := w64_eq (by omega) (by omega)
  have hll:(f.map (fun y=>(true,y)) ++ (c :: g').map fun y=>(false,y)).length = q.length := by simp; rw [hfg]; simp
  simp only [st_value_Members,sg_value_Members_8,decide_eq_true_eq,if_pos hlt,Int.toNat_natCast,hel,hcl,hset,e6,Option.bind_some]
  rw [G_pos (by rw [hll]; omega),G_pos trivial,G_pos (by rw [hll]; omega),G_pos trivial]
  show iter _ _ = _
  exact clone_loop q hq hv d (i + 1) (f ++ [c]) g' (by rw [hfg]; simp) (by simp [hf]) (by simpa using hg)
open Classical in
noncomputable def membersV (v:List tAtom):List (List tAtom) × Int :=
 if h:∃ t,isV t v then (if h.choose.a.1 = 3 then (h.choose.ts.map flat,0) else ([],7)) else ([],checkV v)
theorem membersV_of {t:Tr tAtom} {v:List tAtom} (h:isV t v):membersV v = if t.a.1 = 3 then (t.ts.map flat,0) else ([],7) := by
 unfold membersV
 have hex:∃ t,isV t v := ⟨t,h⟩
 rw [dif_pos hex,isV_inj hex.choose_spec h]
theorem membersV_no {v:List tAtom} (h:checkV v ≠ 0):membersV v = ([],checkV v) := by
 unfold membersV
 rw [dif_neg (fun ⟨t,ht⟩=>h (checkV_of ht))]
theorem vMembers_eq (v:List tAtom):value_Members v = some ((membersV v).1.map (fun y=>(true,y)),(membersV v).2) := by
 unfold value_Members en_value_Members
 rw [vcheck_eq]
 simp only [Option.bind_some]
 by_cases h:checkV v = 0
 ·obtain ⟨t,ht⟩ := checkV_ok h
  simp only [h,decide_true,Bool.not_true,Bool.false_eq_true,if_false,vtop_eq ht,Option.bind_some,membersV_of ht]
  by_cases h3:t.a.1 = 3
  ·simp only [h3,decide_true,Bool.not_true,Bool.false_eq_true,if_false,if_true,vmembers_eq ht,Option.bind_some]
   have hlen := len_flats t.ts
   obtain ⟨_,h2⟩ := isV_top ht
   have := ht.1
   rw [show (((t.ts.map flat).map fun y=>(false,y)).length:Int) = ((t.ts.map flat).length:Int) by simp]
   show iter _ _ = _
   refine clone_loop (t.ts.map flat) (by simp; omega) (fun v hv=>?_) _ 0 [] (t.ts.map flat) (by simp) rfl rfl
   obtain ⟨u,hu,rfl⟩ := List.mem_map.1 hv
   have := flat_le u hu
   omega
  ·simp only [h3,decide_false,Bool.not_false,if_true,if_false]; rfl
 ·rw [membersV_no h]
  simp only [h,decide_false,Bool.not_false,if_true,if_false]; rfl
theorem membersV_len (v:List tAtom):(membersV v).1.length ≤ 1024 ∧ ∀ y ∈ (membersV v).1,y.length ≤ 1024 := by
 by_cases h:checkV v = 0
 ·obtain ⟨t,ht⟩ := checkV_ok h
  rw [membersV_of ht]
  have hlen := len_flats t.ts
  obtain ⟨_,h2⟩ := isV_top ht
  have := ht.1
  split
  ·refine ⟨by simp; omega,fun y hy=>?_⟩
   obtain ⟨u,hu,rfl⟩ := List.mem_map.1 hy
   have := flat_le u hu
   omega
  ·simp
 ·rw [membersV_no h]; simp
end Go.Eng
