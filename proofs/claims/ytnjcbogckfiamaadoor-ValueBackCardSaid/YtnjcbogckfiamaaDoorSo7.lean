/- A part of the proof: So7. -/
import Derived.Test.YtnjcbogckfiamaaDoorSo6
import Derived.Test.YtnjcbogckfiamaaDoorVb1
namespace Go.Eng
set_option linter.unusedVariables false
set_option linter.unusedSimpArgs false
def ows (l:List (List tAtom)):List SE := l.map fun v=>(true,v)
theorem ows_snd (l:List (List tAtom)):(ows l).map (fun y=>y.2) = l := by unfold ows; rw [List.map_map]; exact List.map_id l
theorem firstV_all:∀ {l:List (List tAtom)},firstV l = 0 → ∀ v ∈ l,rV v
 | [],_,v,hv=>by cases hv
 | x :: l,h,v,hv=>by
  unfold firstV at h
  split at h
  ·rename_i hx
   rcases List.mem_cons.1 hv with rfl | hv
   ·exact checkV_ok hx
   ·exact firstV_all h v hv
  ·rename_i hx; exact absurd h hx
theorem ows_ok {l:List (List tAtom)} (h:∀ v ∈ l,rV v):okL (ows l) := fun y hy=>by
 obtain ⟨v,hv,rfl⟩ := List.mem_map.1 hy
 exact ⟨rfl,h v hv⟩
theorem rV_len {v:List tAtom} (h:rV v):v.length ≤ 1024 := by obtain ⟨t,h⟩ := h; exact h.1
theorem vs_loop (l:List (List tAtom)) (hl:l.length ≤ 4096) (ho:∀ v ∈ l,rV v):∀ (d i:Nat),i + d = l.length →
  iter st_value_Sort (.l8 l (ows (l.take i) ++ List.replicate d (false,[])) (l.length:Int) (i:Int)) = iter st_value_Sort (.l8 l (ows l) (l.length:Int) (l.length:Int))
 | 0,i,hi=>by
  simp only [Nat.add_zero] at hi
  subst hi
  rw [List.take_length]; simp
 | d + 1,i,hi=>by
  obtain ⟨c,r,hL⟩ := drop_ex (show i < l.length by omega)
  obtain ⟨hc,hr,hlen⟩ := drop_cons (d := ([]:List tAtom)) hL
  have oc:rV c := ho c (List.mem_of_mem_drop (by rw [hL]; exact List.mem_cons_self))
  have hcl := rV_len oc
  have htl:(ows (l.take i)).length = i := by unfold ows; rw [List.length_map,List.length_take]; omega
  have e6:w64 ((i:Int) + 1) = ((i + 1:Nat):Int) := w64_eq (by omega) (by omega)
  rw [List.replicate_succ,iter_eq']
  show runL _ (sg_value_Sort_8 _ _ _ _) = _
  unfold sg_value_Sort_8
  rw [if_pos (decide_eq_true (by omega)),Gx ⟨by omega,by omega⟩,Int.toNat_natCast,hc,vclone_eq c (by omega),Option.bind_some,Gx ⟨by omega,by rw [List.length_append,List.length_cons,List.length_replicate]; omega⟩,Gx (by rw [el_mid _ _ _ htl]),set_md _ _ _ _ htl,e6]
  show iter _ _ = _
  have et:l.take (i + 1) = l.take i ++ [c] := by
   have h1:l[i]? = some c := by rw [← List.head?_drop,hL]; rfl
   rw [List.take_add_one,h1]; rfl
  have e7:ows (l.take i) ++ (true,c) :: List.replicate d (false,([]:List tAtom)) = ows (l.take (i + 1)) ++ List.replicate d (false,[]) := by
   rw [et]; unfold ows; simp
  rw [e7]
  exact vs_loop l hl ho d (i + 1) (by omega)
theorem vsort_eq (l:List (List tAtom)) (hl:l.length ≤ 4096) (hf:firstV l = 0):∃ W:List SE,W.Perm (ows l) ∧ srt W ∧ value_Sort l = some (W,0) := by
 have ho := firstV_all hf
 have hol:(ows l).length = l.length := by unfold ows; exact List.length_map _
 obtain ⟨W,w1,w2,w3⟩ := sortStable_eq (ows l) (by rw [hol]; omega) (ows_ok ho)
 refine ⟨W,w1,w2,?_⟩
 unfold value_Sort en_value_Sort
 rw [if_neg (by rw [decide_eq_true_eq]; omega),vfirst_eq l (by omega),hf,Option.bind_some,if_neg (by decide),Gx ⟨by omega,by omega,by omega⟩]
 show iter _ _ = _
 have e0:(List.replicate ((l.length:Int)).toNat ([]:List tAtom)).map (fun y=>(false,y)) = ows (l.take 0) ++ List.replicate l.length (false,[]) := by
  rw [List.map_replicate,Int.toNat_natCast]; rfl
 rw [e0,show (0:Int) = ((0:Nat):Int) from rfl,vs_loop l hl ho l.length 0 (by omega),iter_eq']
 show runL _ (sg_value_Sort_8 _ _ _ _) = _
 unfold sg_value_Sort_8
 rw [if_neg (by rw [decide_eq_true_eq]; omega),Gx rfl,allR_ok w3 (okL_perm w1.symm (ows_ok ho)),Option.bind_some,Gx rfl]; rfl
end Go.Eng
