/- A part of the proof: Wk. -/
import Derived.Test.YtnjcbogckfiamaaDoorVb1
import Derived.Test.YtnjcbogckfiamaaDoorSo0
namespace Go.Eng
set_option linter.unusedVariables false
set_option linter.unusedSimpArgs false
theorem madeL_all:∀ (ts:List (Tr tAtom)) (out:List tAtom),out.length + (flats ts).length < 1024 → madeL (ts.map flat) out = some (out ++ flats ts)
 | [],out,h=>by simp [madeL,flats]
 | t :: ts,out,h=>by
  simp only [flats,List.length_append] at h
  have hp:0 < (flat t).length := flat_pos t
  rw [List.map_cons,madeL,if_neg (by omega),madeL_all ts (out ++ flat t) (by rw [List.length_append]; omega)]
  simp [flats]
theorem firstV_children {t:Tr tAtom} {v:List tAtom} (h:isV t v):∀ l:List (Tr tAtom),(∀ x ∈ l,x ∈ t.ts) → firstV (l.map flat) = 0
 | [],_=>rfl
 | x :: l,hl=>by
  have hx := isV_child h (hl x List.mem_cons_self)
  rw [List.map_cons,firstV,if_pos (checkV_of hx)]
  exact firstV_children h l fun y hy=>hl y (List.mem_cons_of_mem _ hy)
theorem list_back {t:Tr tAtom} {v:List tAtom} (h:isV t v) (h3:t.a.1 = 3):listV (t.ts.map flat) = (v,0) := by
 obtain ⟨e1,e2⟩ := isV_top h
 have hlen := h.1
 have ha := isV_ar h
 have hw := wellA_kind (okT_well h.2.1)
 have hat:t.a = lastA t.ts.length := by
  unfold lastA
  rcases hw with w | w | ⟨_,_,w3,w4⟩
  ·omega
  ·omega
  ·exact atom_ext h3 ha w3 w4
 have hm:madeV (t.ts.map flat) = (v,true) := by
  unfold madeV
  rw [madeL_all t.ts [] (by simp only [List.length_nil]; omega)]
  dsimp only
  rw [List.nil_append,List.length_map,← hat,← e1]
  rw [decide_eq_true (checkV_of h)]
 have hc := isV_ts_len h
 unfold listV
 rw [if_neg (by rw [List.length_map]; omega),firstV_children h t.ts (fun _ hx=>hx),if_neg (by simp),hm,if_pos rfl]
theorem isV_n (n:Int) (h:wellA (1,0,n,[],()) = true):isV (.node (1,0,n,[],()) []) [(1,0,n,[],())] := ⟨by simp,okT_leaf (by decide) h rfl,rfl⟩
theorem isV_ex:isV (lstA [numA 1,txtA [97],lstA []]) [(1,0,1,[],()),(2,0,0,[97],()),(3,0,0,[],()),(3,3,0,[],())] := by
 refine ⟨by simp,okT_up (lim := ((30 + 1:Nat):Int)) (by decide) _ (okT_list fun x hx=>?_),rfl⟩
 simp only [List.mem_cons,List.not_mem_nil,or_false] at hx
 rcases hx with rfl | rfl | rfl
 ·exact okT_leaf (by decide) (wellA_num (by decide) (by decide)) rfl
 ·exact okT_leaf (by decide) (wellA_txt (by decide)) rfl
 ·exact okT_up (lim := ((0 + 1:Nat):Int)) (by decide) _ (okT_list fun x hx=>by cases hx)
theorem ints_23:value_args_ints [[(1,0,2,[],())],[(1,0,3,[],())]] = some true := by
 have h:slices_IndexFunc (fun v_ a0=>if fnIs v_ 104 = true then value_args_ints_1 a0 else none) [[(1,0,2,[],())],[(1,0,3,[],())]] (fnv 104) = some (-1) := by
  unfold slices_IndexFunc
  show iter _ _ = _
  rw [iter_eq']
  show iter _ _ = _
  rw [iter_eq']
  show iter _ _ = _
  rw [iter_eq']; rfl
 unfold value_args_ints en_value_args_ints slices_ContainsFunc en_slices_ContainsFunc
 rw [h]; rfl
theorem do_23:value_Do 6 [[(1,0,2,[],())],[(1,0,3,[],())]] = some ([(1,0,5,[],())],true,0) := by
 have h1:value_way 6 = some (2,fnv 69) := by kernel_rfl
 have h2:value_first [[(1,0,2,[],())],[(1,0,3,[],())]] = some 0 := by
  rw [vfirst_eq _ (by simp)]
  simp only [firstV,checkV_of (isV_n 2 (wellA_num (by decide) (by decide))),checkV_of (isV_n 3 (wellA_num (by decide) (by decide))),if_true]
 have h3:dyn_value_Do (fnv 69) [[(1,0,2,[],())],[(1,0,3,[],())]] = some ([(1,0,5,[],())],true) := by
  have e:dyn_value_Do (fnv 69) [[(1,0,2,[],())],[(1,0,3,[],())]] = value_args_add [[(1,0,2,[],())],[(1,0,3,[],())]] := by
   unfold dyn_value_Do
   rw [if_pos (by decide)]
  rw [e]
  unfold value_args_add
  rw [ints_23]; rfl
 unfold value_Do en_value_Do
 rw [h1,Option.bind_some,h2,Option.bind_some,h3]
 rfl
theorem works_eq:law07_works = some true := by
 have hx := isV_ex
 unfold law07_works law07_whole
 simp only [Option.bind_some]
 rw [do_23,Option.bind_some]
 have hL:value_List [[(1,0,1,[],())],[(2,0,0,[97],())],[(3,0,0,[],())]] = some ([(1,0,1,[],()),(2,0,0,[97],()),(3,0,0,[],()),(3,3,0,[],())],0) := by
  rw [vlist_eq _ ⟨by simp,by simp⟩]
  have := list_back hx rfl
  exact congrArg some this
 have hP:value_Print [(1,0,1,[],()),(2,0,0,[97],()),(3,0,0,[],()),(3,3,0,[],())] = some ([91,49,44,32,34,97,34,44,32,91,93,93],0) := by
  rw [vPrint_eq,printV_of hx,printT_lst]
  simp only [printTs,printT_num,printT_txt,printT_lst]
  rw [itoa_pos (by decide),dec_small (by decide)]; rfl
 rw [hL,Option.bind_some,hP,Option.bind_some]
 simp only [decide_true,Bool.and_self,if_true,vsame_eq [((1:Int),(0:Int),(5:Int),([]:List UInt8),())] [((1:Int),(0:Int),(5:Int),([]:List UInt8),())] (by simp),Option.bind_some]
end Go.Eng
