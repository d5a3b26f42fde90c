/- A part of the proof: Pv6. -/
import Derived.Test.YtnjcbogckfiamaaDoorPv4
namespace Go.Eng
set_option linter.unusedVariables false
set_option linter.unusedSimpArgs false
theorem wellA_kind {a:tAtom} (h:wellA a = true):(a.1 = 1 ∧ a.2.1 = 0 ∧ a.2.2.2.1 = [] ∧ -9007199254740992 ≤ a.2.2.1 ∧ a.2.2.1 ≤ 9007199254740992) ∨ (a.1 = 2 ∧ a.2.1 = 0 ∧ a.2.2.1 = 0 ∧ a.2.2.2.1.length ≤ 4096) ∨ (a.1 = 3 ∧ 0 ≤ a.2.1 ∧ a.2.2.1 = 0 ∧ a.2.2.2.1 = []) := by
 unfold wellA value_well at h
 split at h
 ·rename_i h1
  simp only [Option.getD_some,Bool.and_eq_true,decide_eq_true_eq] at h h1
  exact .inl ⟨h1,h.1.1.1,h.1.1.2,h.1.2,h.2⟩
 ·split at h
  ·rename_i h1
   simp only [Option.getD_some,Bool.and_eq_true,decide_eq_true_eq] at h h1
   exact .inr (.inl ⟨h1,h.1.1,h.1.2,by omega⟩)
  ·split at h
   ·rename_i h1
    simp only [Option.getD_some,Bool.and_eq_true,decide_eq_true_eq] at h h1
    exact .inr (.inr ⟨h1,h.1.1,h.1.2,h.2⟩)
   ·cases h
theorem okT_well {lim:Int} {t:Tr tAtom} (h:okT arV (goodV lim) t):wellA t.a = true := by
 cases t with
 | node a ts =>
  have h2 := h.2.1
  simp only [goodV,Bool.and_eq_true] at h2
  exact h2.1
theorem isV_child {t x:Tr tAtom} {v:List tAtom} (h:isV t v) (hx:x ∈ t.ts):isV x (flat x) := by
 obtain ⟨h1,h2⟩ := isV_top h
 have h3 := h.1
 have h4 := flat_le x hx
 refine ⟨by omega,?_,rfl⟩
 cases t with
 | node a ts=>exact okF_mem.1 h.2.1.2.2 x hx
theorem deep_child {t x:Tr tAtom} (hx:x ∈ t.ts):tdeep x < tdeep t := by
 cases t with
 | node a ts=>have := tdeeps_le (f := ts) x hx; simp only [tdeep]; omega
def cmI (x y:Int):Int := if x < y then -1 else if y < x then 1 else 0
mutual
def cmpT:Tr tAtom → Tr tAtom → Int
 | .node a ts,u=>if a.1 ≠ u.a.1 then cmI a.1 u.a.1 else if a.1 = 1 then cmI a.2.2.1 u.a.2.2.1 else if a.1 = 2 then Lib.compareBytes a.2.2.2.1 u.a.2.2.2.1 else cmpTs ts u.ts
def cmpTs:List (Tr tAtom) → List (Tr tAtom) → Int
 | [],us=>if us.isEmpty then 0 else -1
 | t :: ts,us=>match us with
  | []=>1
  | u :: us=>if cmpT t u ≠ 0 then cmpT t u else cmpTs ts us
end
theorem cmpTs_cn (t:Tr tAtom) (ts:List (Tr tAtom)):cmpTs (t :: ts) [] = 1 := by simp [cmpTs]
theorem cmpTs_cc (t u:Tr tAtom) (ts us:List (Tr tAtom)):cmpTs (t :: ts) (u :: us) = if cmpT t u ≠ 0 then cmpT t u else cmpTs ts us := by simp [cmpTs]
theorem cmpT_eq (t u:Tr tAtom):cmpT t u = if t.a.1 ≠ u.a.1 then cmI t.a.1 u.a.1 else if t.a.1 = 1 then cmI t.a.2.2.1 u.a.2.2.1 else if t.a.1 = 2 then Lib.compareBytes t.a.2.2.2.1 u.a.2.2.2.1 else cmpTs t.ts u.ts := by
 cases t with
 | node a ts=>rw [cmpT]; rfl
theorem cmpCompare_eq (x y:Int):cmp_Compare x y = some (cmI x y) := by
 unfold cmp_Compare cmp_isNaN cmI
 simp only [Option.bind_some,decide_true,Bool.not_true,Bool.false_eq_true,if_false,decide_eq_true_eq]
 split
 ·rfl
 ·split <;> rfl
theorem comp_zero:∀ (x y:List UInt8),Lib.compareBytes x y = 0 ↔ x = y
 | [],[]=>by simp [Lib.compareBytes]
 | [],_ :: _=>by simp [Lib.compareBytes]
 | _ :: _,[]=>by simp [Lib.compareBytes]
 | a :: x,b :: y=>by
  simp only [Lib.compareBytes]
  by_cases h:a < b
  ·have:a ≠ b := fun e=>by subst e; exact absurd h (UInt8.lt_irrefl a)
   simp [h,this]
  ·by_cases h2:b < a
   ·have:a ≠ b := fun e=>by subst e; exact absurd h2 (UInt8.lt_irrefl a)
    simp [h,h2,this]
   ·have he:a = b := UInt8.le_antisymm (UInt8.not_lt.1 h2) (UInt8.not_lt.1 h)
    subst he
    simp [h,comp_zero x y]
theorem comp_range:∀ (x y:List UInt8),Lib.compareBytes x y = -1 ∨ Lib.compareBytes x y = 0 ∨ Lib.compareBytes x y = 1
 | [],[]=>by simp [Lib.compareBytes]
 | [],_ :: _=>by simp [Lib.compareBytes]
 | _ :: _,[]=>by simp [Lib.compareBytes]
 | a :: x,b :: y=>by
  simp only [Lib.compareBytes]
  split
  ·simp
  ·split
   ·simp
   ·exact comp_range x y
theorem strCompare_eq (x y:List UInt8):strings_Compare x y = some (Lib.compareBytes x y) := rfl
theorem get_map {F:List (Tr tAtom)} {i:Nat} {x:Tr tAtom} (h:F[i]? = some x):(F.map flat).getD i ([]:List tAtom) = flat x := by
 rw [List.getD_eq_getElem?_getD,List.getElem?_map,h]; rfl
theorem compFunc_loop (dyn:Value → List tAtom → List tAtom → Option Int) (c:Value) (ts us:List (Tr tAtom)) (hl:ts.length ≤ 1024) (hu:us.length ≤ 1024) (hd:∀ t ∈ ts,∀ u ∈ us,dyn c (flat t) (flat u) = some (cmpT t u)) :
  ∀ (d i:Nat),i + d = ts.length → i ≤ us.length → iter (st_slices_CompareFunc dyn) (.l2 (ts.map flat) (us.map flat) c (ts.map flat) ((ts.map flat).length:Int) (i:Int)) = some (cmpTs (ts.drop i) (us.drop i))
 | 0,i,hi,hiu=>by
  rw [iter_eq']
  have hd0:ts.drop i = [] := List.drop_eq_nil_of_le (by omega)
  have hn:¬ (i:Int) < (ts.length:Int) := by omega
  rw [hd0,cmpTs]
  simp only [st_slices_CompareFunc,sg_slices_CompareFunc_2,List.length_map,hn,decide_false,Bool.false_eq_true,if_false,decide_eq_true_eq,List.isEmpty_iff,List.drop_eq_nil_iff]
  by_cases h:us.length ≤ i
  ·rw [if_pos h,if_neg (by omega)]; rfl
  ·rw [if_neg h,if_pos (by omega)]; rfl
 | d + 1,i,hi,hiu=>by
  rw [iter_eq']
  obtain ⟨t,r,hL⟩ := drop_ex (show i < ts.length by omega)
  have ht:ts[i]? = some t := by
   have := congrArg (fun l=>l[0]?) hL
   simpa using this
  have hr:ts.drop (i + 1) = r := by
   have := congrArg List.tail hL
   simpa using this
  have hlt:(i:Int) < ((ts.map flat).length:Int) := by rw [List.length_map]; omega
  have hG:0 ≤ (i:Int) ∧ (i:Int) < ((ts.map flat).length:Int) := ⟨by omega,hlt⟩
  have e6:w64 ((i:Int) + 1) = ((i + 1:Nat):Int) := w64_eq (by omega) (by omega)
  rw [hL]
  simp only [st_slices_CompareFunc,sg_slices_CompareFunc_2,decide_eq_true_eq,if_pos hlt,G_pos hG,Int.toNat_natCast,get_map ht,e6]
  by_cases h:i < us.length
  ·obtain ⟨u,r2,hL2⟩ := drop_ex h
   have hu2:us[i]? = some u := by
    have := congrArg (fun l=>l[0]?) hL2
    simpa using this
   have hr2:us.drop (i + 1) = r2 := by
    have := congrArg List.tail hL2
    simpa using this
   have hnle:¬ ((us.map flat).length:Int) ≤ (i:Int) := by rw [List.length_map]; omega
   have hG2:0 ≤ (i:Int) ∧ (i:Int) < ((us.map flat).length:Int) := by rw [List.length_map]; omega
   simp only [if_neg hnle,G_pos hG2,get_map hu2,hd t (List.mem_of_getElem? ht) u (List.mem_of_getElem? hu2),Option.bind_some,hL2,cmpTs_cc]
   by_cases hc:cmpT t u = 0
   ·simp only [hc,decide_true,Bool.not_true,Bool.false_eq_true,if_false,ne_eq,not_true_eq_false]
    show iter _ _ = _
    rw [compFunc_loop dyn c ts us hl hu hd d (i + 1) (by omega) (by omega),hr,hr2]
   ·simp only [hc,decide_false,Bool.not_false,if_true,ne_eq,not_false_eq_true]; rfl
  ·have hd2:us.drop i = [] := List.drop_eq_nil_of_le (by omega)
   have hle:((us.map flat).length:Int) ≤ (i:Int) := by rw [List.length_map]; omega
   simp only [if_pos hle,hd2,cmpTs_cn]; rfl
theorem compFunc_eq (dyn:Value → List tAtom → List tAtom → Option Int) (c:Value) (ts us:List (Tr tAtom)) (hl:ts.length ≤ 1024) (hu:us.length ≤ 1024) (hd:∀ t ∈ ts,∀ u ∈ us,dyn c (flat t) (flat u) = some (cmpT t u)) :
  slices_CompareFunc dyn (ts.map flat) (us.map flat) c = some (cmpTs ts us) := by
 unfold slices_CompareFunc en_slices_CompareFunc
 show iter _ _ = _
 have := compFunc_loop dyn c ts us hl hu hd ts.length 0 (by omega) (by omega)
 simpa using this
theorem isV_ts_len {t:Tr tAtom} {v:List tAtom} (h:isV t v):t.ts.length ≤ 1024 := by
 have h1 := len_flats t.ts
 obtain ⟨_,h2⟩ := isV_top h
 have := h.1
 omega
theorem fnIs_self (f:FuncId):fnIs (fnv f) f = true := by simp [fnIs,fnv]
theorem vcompare_n:∀ (n:Nat) (t u:Tr tAtom) (a b:List tAtom),isV t a → isV u b → tdeep t ≤ n → value_compare_n n a b = some (cmpT t u)
 | 0,t,u,a,b,ha,hb,hn=>by have := tdeep_pos t; omega
 | n + 1,t,u,a,b,ha,hb,hn=>by
  rw [cmpT_eq]
  unfold value_compare_n en_value_compare
  simp only [vtop_eq ha,vtop_eq hb,Option.bind_some,cmpCompare_eq,strCompare_eq,vmembers_eq ha,vmembers_eq hb,fnIs_self,if_true]
  by_cases h1:t.a.1 = u.a.1
  ·simp only [h1,decide_true,Bool.not_true,Bool.false_eq_true,if_false,ne_eq,not_true_eq_false,decide_eq_true_eq]
   split
   ·rfl
   ·split
    ·rfl
    ·rw [compFunc_eq _ _ t.ts u.ts (isV_ts_len ha) (isV_ts_len hb) (fun x hx y hy=>by
      simp only [fnIs_self,if_true]
      exact vcompare_n n x y _ _ (isV_child ha hx) (isV_child hb hy) (by have := deep_child hx; omega))]
     rfl
  ·simp only [h1,decide_false,Bool.not_false,if_true,ne_eq,not_false_eq_true]
theorem isV_deep {t:Tr tAtom} {v:List tAtom} (h:isV t v):tdeep t ≤ 32 := by have := okT_deep h.2.1; omega
theorem vcompare_eq {t u:Tr tAtom} {a b:List tAtom} (ha:isV t a) (hb:isV u b):value_compare a b = some (cmpT t u) :=
 vcompare_n 64 t u a b ha hb (by have := isV_deep ha; omega)
end Go.Eng
