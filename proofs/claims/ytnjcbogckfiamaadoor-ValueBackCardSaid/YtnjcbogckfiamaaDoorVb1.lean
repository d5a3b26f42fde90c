/- A part of the proof: Vb1. -/
import Derived.Test.YtnjcbogckfiamaaDoorVq
import Derived.Test.YtnjcbogckfiamaaDoorVn1
import Derived.Test.YtnjcbogckfiamaaDoorPq6
namespace Go.Eng
set_option linter.unusedVariables false
set_option linter.unusedSimpArgs false
def endV (r:List UInt8):Prop := r = [] ∨ ∃ r',r = 44 :: r' ∨ r = 93 :: r'
theorem cutD_app:∀ (w r:List UInt8),w.all isD = true → endV r → cutD (w ++ r) = w
 | [],r,_,hr=>by
  rcases hr with rfl | ⟨r',rfl | rfl⟩
  ·rfl
  ·rfl
  ·rfl
 | c :: w,r,hw,hr=>by
  simp only [List.all_cons,Bool.and_eq_true] at hw
  have ih := cutD_app w r hw.2 hr
  unfold cutD at ih ⊢
  rw [List.cons_append,List.takeWhile_cons,if_pos hw.1,ih]
theorem itoa_neg {n:Int} (h:n < 0):Lib.itoa n = 45 :: Lib.decDigits n.natAbs := by unfold Lib.itoa; rw [if_pos h]
theorem itoa_pos {n:Int} (h:¬ n < 0):Lib.itoa n = Lib.decDigits n.toNat := by unfold Lib.itoa; rw [if_neg h]
theorem dec_cons (m:Nat):∃ c r,Lib.decDigits m = c :: r ∧ isD c = true := by
 have h1 := dec_ne m
 have h2 := dec_all m
 cases h:Lib.decDigits m with
 | nil=>exact absurd h h1
 | cons c r =>
  rw [h,List.all_cons,Bool.and_eq_true] at h2
  exact ⟨c,r,rfl,h2.1⟩
theorem isD_bd {c:UInt8} (h:isD c = true):48 ≤ (c.toNat:Int) ∧ (c.toNat:Int) ≤ 57 := by
 simpa [isD] using h
theorem numV_back (n:Int) (h1 : -9007199254740992 ≤ n) (h2:n ≤ 9007199254740992) (r:List UInt8) (hr:endV r):numV (Lib.itoa n ++ r) = some (numA n,(Lib.itoa n).length) := by
 by_cases hn:n < 0
 ·rw [itoa_neg hn,List.cons_append]
  simp only [numV]
  rw [if_pos (by rfl),cutD_app _ _ (dec_all _) hr,numS_dec _ (by omega)]
  rw [if_pos ⟨rfl,by show (0:Int) < _; omega⟩]
  have : -((n.natAbs:Nat):Int) = n := by omega
  simp only [this,List.length_cons]
 ·rw [itoa_pos hn]
  obtain ⟨c,q,hc,hd⟩ := dec_cons n.toNat
  have hb := isD_bd hd
  have hcut := cutD_app _ r (dec_all n.toNat) hr
  have hs := numS_dec n.toNat (by omega)
  rw [hc] at hcut hs ⊢
  rw [List.cons_append] at hcut ⊢
  simp only [numV]
  rw [if_neg (by omega),hcut,hs,if_pos rfl]
  have:((n.toNat:Nat):Int) = n := by omega
  rw [this]
theorem numV_take {s:List UInt8} {x:Tr tAtom} {k:Nat} (h:numV s = some (x,k)):∃ n,x = numA n ∧ s.take k = Lib.itoa n := by
 cases s with
 | nil=>cases h
 | cons c r =>
  rw [numV] at h
  split at h
  ·rename_i h45
   split at h
   ·rename_i hq
    simp only [Option.some.injEq,Prod.mk.injEq] at h
    obtain ⟨rfl,rfl⟩ := h
    have hn:numS (cutD r) = ((numS (cutD r)).1,true) := Prod.ext rfl hq.1
    obtain ⟨m,e1,e2,_⟩ := numS_text hn
    have h0 := hq.2
    rw [e1] at h0 ⊢
    have hc:c = 45 := UInt8.toNat_inj.1 (by have:((45:UInt8).toNat:Int) = 45 := rfl; omega)
    refine ⟨_,rfl,?_⟩
    rw [itoa_neg (by omega),List.take_succ_cons,← cutD_take,hc,e2]
    congr 2; omega
   ·cases h
  ·split at h
   ·rename_i hq
    simp only [Option.some.injEq,Prod.mk.injEq] at h
    obtain ⟨rfl,rfl⟩ := h
    have hn:numS (cutD (c :: r)) = ((numS (cutD (c :: r))).1,true) := Prod.ext rfl hq
    obtain ⟨m,e1,e2,_⟩ := numS_text hn
    refine ⟨_,rfl,?_⟩
    rw [e1,itoa_pos (by omega),← cutD_take,Int.toNat_natCast]
    exact e2
   ·cases h
theorem printT_num (n:Int):printT (numA n) = Lib.itoa n := by unfold numA; rw [printT,if_pos rfl]
theorem printT_txt (t:List UInt8):printT (txtA t) = quoteT t := by unfold txtA; rw [printT,if_neg (show ¬ (2:Int) = 1 by decide),if_pos rfl]
theorem printT_lst (l:List (Tr tAtom)):printT (lstA l) = [91] ++ Lib.join (printTs l) [44,32] ++ [93] := by
 unfold lstA lastA
 rw [printT,if_neg (show ¬ (3:Int) = 1 by decide),if_neg (show ¬ (3:Int) = 2 by decide)]
theorem okT_cases {x:Tr tAtom} (h:okT arV (goodV 32) x):(∃ n,x = numA n ∧ -9007199254740992 ≤ n ∧ n ≤ 9007199254740992) ∨ (∃ t,x = txtA t) ∨ (∃ l,x = lstA l ∧ okF arV (goodV 32) l ∧ tdeeps l + 1 = tdeep x) := by
 have hw := okT_well h
 obtain ⟨⟨k,p,n,t,⟨⟩⟩,ts⟩ := x
 obtain ⟨ha,_,hf⟩ := h
 simp only [Tr.a,arV] at hw ha
 rcases wellA_kind hw with ⟨e1,e2,e3,e4,e5⟩ | ⟨e1,e2,e3,e4⟩ | ⟨e1,e2,e3,e4⟩
 ·simp only at e1 e2 e3 e4 e5
  subst e1; subst e2; subst e3
  have:ts = [] := List.eq_nil_of_length_eq_zero (by simpa using ha.symm)
  subst this
  exact .inl ⟨n,rfl,e4,e5⟩
 ·simp only at e1 e2 e3 e4
  subst e1; subst e2; subst e3
  have:ts = [] := List.eq_nil_of_length_eq_zero (by simpa using ha.symm)
  subst this
  exact .inr (.inl ⟨t,rfl⟩)
 ·simp only at e1 e2 e3 e4
  subst e1; subst e3; subst e4
  have:p = (ts.length:Int) := by omega
  subst this
  refine .inr (.inr ⟨ts,rfl,hf,?_⟩)
  simp only [tdeep]
theorem endV_tail (l:List (List UInt8)) (r:List UInt8):endV (Lib.joinTail [44,32] l ++ 93 :: r) := by
 cases l with
 | nil=>exact .inr ⟨r,.inr rfl⟩
 | cons x l=>exact .inr ⟨32 :: (x ++ Lib.joinTail [44,32] l) ++ 93 :: r,.inl (by rw [joinTail_cons]; simp)⟩
theorem printT_head {x:Tr tAtom} (h:okT arV (goodV 32) x):∃ c q,printT x = c :: q ∧ ¬ (c.toNat:Int) = 93 := by
 rcases okT_cases h with ⟨n,rfl,_⟩ | ⟨t,rfl⟩ | ⟨l,rfl,_⟩
 ·rw [printT_num]
  by_cases hn:n < 0
  ·exact ⟨45,_,itoa_neg hn,by decide⟩
  ·obtain ⟨c,q,hc,hd⟩ := dec_cons n.toNat
   have hb := isD_bd hd
   exact ⟨c,q,by rw [itoa_pos hn,hc],by omega⟩
 ·rw [printT_txt]
  exact ⟨34,_,by unfold quoteT; rfl,by decide⟩
 ·rw [printT_lst]
  exact ⟨91,_,rfl,by decide⟩
theorem joinTail_len:∀ l:List (List UInt8),l.length ≤ (Lib.joinTail [44,32] l).length
 | []=>by simp
 | x :: l=>by
  have := joinTail_len l
  rw [joinTail_cons]; simp only [List.length_append,List.length_cons,List.length_nil]; omega
mutual
theorem vprint_back:∀ (x:Tr tAtom),okT arV (goodV 32) x → ∀ (d:Nat),tdeep x ≤ d → ∀ r:List UInt8,endV r → valT d (printT x ++ r) = some (x,(printT x).length)
 | .node a ts,h,d,hd,r,hr=>by
  match d,hd with
  | 0,hd=>simp [tdeep] at hd
  | d + 1,hd =>
   rcases okT_cases h with ⟨n,hx,b1,b2⟩ | ⟨t,hx⟩ | ⟨l,hx,hf,hdl⟩
   ·rw [hx,printT_num]
    have := numV_back n b1 b2 r hr
    by_cases hn:n < 0
    ·rw [itoa_neg hn,List.cons_append] at this ⊢
     rw [valT_cons,if_neg (by decide),if_neg (by decide),this]
    ·obtain ⟨c,q,hc,hdc⟩ := dec_cons n.toNat
     have hb := isD_bd hdc
     rw [itoa_pos hn,hc,List.cons_append] at this ⊢
     rw [valT_cons,if_neg (by omega),if_neg (by omega),this]
   ·rw [hx,printT_txt]
    have := txtV_back t r
    have e:quoteT t ++ r = 34 :: (t.flatMap quoteW ++ 34 :: r) := by unfold quoteT; simp
    rw [e] at this ⊢
    rw [valT_cons,if_pos (by rfl),this]
   ·have hts:ts = l := by unfold lstA at hx; cases hx; rfl
    have hd':tdeeps ts ≤ d := by rw [hts]; omega
    rw [hx,printT_lst,← hts]
    rw [← hts] at hf
    have e:[91] ++ Lib.join (printTs ts) [44,32] ++ [93] ++ r = 91 :: (Lib.join (printTs ts) [44,32] ++ 93 :: r) := by simp
    rw [e,valT_list d _ _ (by decide) (by rfl)]
    match ts,hf,hd' with
    | [],hf,hd'=>rfl
    | y :: ys,hf,hd' =>
     simp only [tdeeps] at hd'
     obtain ⟨c,q,hc,h93⟩ := printT_head hf.1
     rw [printTs,Lib.join_cons]
     have hy := vprint_back y hf.1 d (by omega) _ (endV_tail (printTs ys) r)
     have ht := fun f hf'=>vtail_back ys hf.2 d (by omega) r f hf'
     have e2:printT y ++ Lib.joinTail [44,32] (printTs ys) ++ 93 :: r = c :: (q ++ (Lib.joinTail [44,32] (printTs ys) ++ 93 :: r)) := by rw [hc]; simp
     have e3:c :: (q ++ (Lib.joinTail [44,32] (printTs ys) ++ 93 :: r)) = printT y ++ (Lib.joinTail [44,32] (printTs ys) ++ 93 :: r) := by rw [hc]; simp
     rw [e2,listT_cons,if_neg h93,e3,hy]
     dsimp only
     have hl := joinTail_len (printTs ys)
     have hl2:(printTs ys).length = ys.length := by rw [printTs_map,List.length_map]
     rw [List.drop_left' rfl,ht _ (by simp only [List.length_append,List.length_cons]; omega)]
     simp only [List.length_append,List.length_cons,List.length_nil]
     congr 2; omega
theorem vtail_back:∀ (xs:List (Tr tAtom)),okF arV (goodV 32) xs → ∀ (d:Nat),tdeeps xs ≤ d → ∀ (r:List UInt8) (f:Nat),xs.length < f → moreT (valT d) f (Lib.joinTail [44,32] (printTs xs) ++ 93 :: r) = some (xs,(Lib.joinTail [44,32] (printTs xs)).length + 1)
 | [],_,d,_,r,f,hf=>by
  match f,hf with
  | f + 1,_ =>
   rw [printTs]
   show moreT (valT d) (f + 1) (93 :: r) = _
   rw [moreT.eq_def]; dsimp only; rw [if_pos (by rfl)]; rfl
 | y :: ys,h,d,hd,r,f,hf=>by
  simp only [tdeeps] at hd
  match f,hf with
  | f + 1,hf =>
   have e:Lib.joinTail [44,32] (printTs (y :: ys)) ++ 93 :: r = 44 :: 32 :: (printT y ++ (Lib.joinTail [44,32] (printTs ys) ++ 93 :: r)) := by
    rw [printTs,joinTail_cons]; simp
   have hy := vprint_back y h.1 d (by omega) _ (endV_tail (printTs ys) r)
   have ht := vtail_back ys h.2 d (by omega) r f (by simp only [List.length_cons] at hf; omega)
   rw [e,moreT.eq_def]
   dsimp only
   rw [if_neg (by decide),if_pos (by rfl),if_pos (by rfl),hy]
   dsimp only
   rw [List.drop_left' rfl,ht]
   dsimp only
   rw [printTs,joinTail_cons]
   simp only [List.length_append,List.length_cons,List.length_nil]
   congr 2
end
theorem moreT_read {val:List UInt8 → Option (Tr tAtom × Nat)} (hv:∀ s x k,val s = some (x,k) → s.take k = printT x):∀ (f:Nat) (l:List UInt8) (xs:List (Tr tAtom)) (m:Nat),moreT val f l = some (xs,m) → l.take m = Lib.joinTail [44,32] (printTs xs) ++ [93]
 | 0,l,xs,m,h=>by cases h
 | f + 1,[],xs,m,h=>by cases h
 | f + 1,c :: r,xs,m,h=>by
  rw [moreT.eq_def] at h
  dsimp only at h
  split at h
  ·rename_i h93
   simp only [Option.some.injEq,Prod.mk.injEq] at h
   obtain ⟨rfl,rfl⟩ := h
   have hc:c = 93 := UInt8.toNat_inj.1 (by have:((93:UInt8).toNat:Int) = 93 := rfl; omega)
   rw [hc,printTs]; rfl
  ·split at h
   ·rename_i h44
    have hc:c = 44 := UInt8.toNat_inj.1 (by have:((44:UInt8).toNat:Int) = 44 := rfl; omega)
    split at h
    ·cases h
    ·rename_i e r'
     split at h
     ·rename_i h32
      have he:e = 32 := UInt8.toNat_inj.1 (by have:((32:UInt8).toNat:Int) = 32 := rfl; omega)
      split at h
      ·rename_i x k hx
       split at h
       ·rename_i ys n hm
        simp only [Option.some.injEq,Prod.mk.injEq] at h
        obtain ⟨rfl,rfl⟩ := h
        have ih := moreT_read hv f _ _ _ hm
        rw [hc,he,Nat.add_assoc,List.take_add,printTs,joinTail_cons]
        show [44,32] ++ (r'.take (k + n)) = _
        rw [List.take_add,hv _ _ _ hx,ih]; simp
       ·cases h
      ·cases h
     ·cases h
   ·cases h
theorem vread_back:∀ (d:Nat) (s:List UInt8) (x:Tr tAtom) (k:Nat),valT d s = some (x,k) → s.take k = printT x
 | 0,s,x,k,h=>by cases h
 | d + 1,[],x,k,h=>by cases h
 | d + 1,c :: r,x,k,h=>by
  rw [valT_cons] at h
  split at h
  ·obtain ⟨t,rfl,e⟩ := txtV_take h
   rw [e,printT_txt]
  ·split at h
   ·rename_i h91
    have hc:c = 91 := UInt8.toNat_inj.1 (by have:((91:UInt8).toNat:Int) = 91 := rfl; omega)
    cases r with
    | nil=>cases h
    | cons e r' =>
     rw [listT_cons] at h
     split at h
     ·rename_i h93
      have he:e = 93 := UInt8.toNat_inj.1 (by have:((93:UInt8).toNat:Int) = 93 := rfl; omega)
      simp only [Option.some.injEq,Prod.mk.injEq] at h
      obtain ⟨rfl,rfl⟩ := h
      rw [hc,he,printT_lst]; rfl
     ·split at h
      ·rename_i y b hy
       split at h
       ·rename_i ys m hm
        simp only [Option.some.injEq,Prod.mk.injEq] at h
        obtain ⟨rfl,rfl⟩ := h
        have e1 := vread_back d _ _ _ hy
        have e2 := moreT_read (vread_back d) _ _ _ _ hm
        rw [Nat.add_assoc,Nat.add_comm 1,List.take_succ_cons,List.take_add,e1,e2,hc,printT_lst,printTs,Lib.join_cons]
        simp
       ·cases h
      ·cases h
   ·obtain ⟨n,rfl,e⟩ := numV_take h
    rw [e,printT_num]
end Go.Eng
