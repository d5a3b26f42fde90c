/- A part of the proof: Pv1. -/
import Derived.Test.YtnjcbogckfiamaaDoorLvd
namespace Go.Eng
set_option linter.unusedVariables false
set_option linter.unusedSimpArgs false
theorem vsame_loop (a b:List tAtom) (ha:a.length < 4611686018427387904) (hab:a.length = b.length):∀ (d i:Nat),i + d = a.length → iter st_base_SameValue (.l4 a b (i:Int)) = some (decide (a.drop i = b.drop i))
 | 0,i,hi=>by
  rw [iter_eq']
  have hd:a.drop i = [] := List.drop_eq_nil_of_le (by omega)
  have hd2:b.drop i = [] := List.drop_eq_nil_of_le (by omega)
  have:¬ (i:Int) < (a.length:Int) := by omega
  simp only [st_base_SameValue,sg_base_SameValue_4,this,decide_false,Bool.false_eq_true,if_false,hd,hd2]; rfl
 | d + 1,i,hi=>by
  rw [iter_eq']
  obtain ⟨c,r,hL⟩ := drop_ex (show i < a.length by omega)
  obtain ⟨hc,hr,hlen⟩ := drop_cons (d := dAtom) hL
  obtain ⟨c2,r2,hL2⟩ := drop_ex (show i < b.length by omega)
  obtain ⟨hc2,hr2,hlen2⟩ := drop_cons (d := dAtom) hL2
  have hlt:(i:Int) < (a.length:Int) := by omega
  have hG:0 ≤ (i:Int) ∧ (i:Int) < (a.length:Int) := ⟨by omega,hlt⟩
  have hG2:0 ≤ (i:Int) ∧ (i:Int) < (b.length:Int) := ⟨by omega,by omega⟩
  have e6:w64 ((i:Int) + 1) = ((i + 1:Nat):Int) := w64_eq (by omega) (by omega)
  simp only [st_base_SameValue,sg_base_SameValue_4,decide_eq_true_eq,if_pos hlt,G_pos hG,G_pos hG2,Int.toNat_natCast,hc,hc2,e6]
  have he := eqR_iff tyAtom c c2 rfl rfl
  cases hq:eqR tyAtom c c2 with
  | false =>
   have hne:¬ c = c2 := fun e=>by rw [he.2 e] at hq; cases hq
   rw [hL,hL2]
   simp [runL,hne]
  | true =>
   have heq:c = c2 := he.1 hq
   simp only [Bool.not_true,Bool.false_eq_true,if_false]
   show iter _ _ = _
   rw [vsame_loop a b ha hab d (i + 1) (by omega),hL,hL2,hr,hr2,heq]
   simp
theorem vsame_eq (a b:List tAtom) (ha:a.length < 4611686018427387904):base_SameValue a b = some (decide (a = b)) := by
 unfold base_SameValue en_base_SameValue
 by_cases h:a.length = b.length
 ·have h':(a.length:Int) = (b.length:Int) := by omega
  simp only [h',decide_true,Bool.not_true,Bool.false_eq_true,if_false]
  show iter _ _ = _
  have := vsame_loop a b ha h a.length 0 (by omega)
  simpa using this
 ·have h':¬ (a.length:Int) = (b.length:Int) := by omega
  have hne:¬ a = b := fun e=>h (by rw [e])
  simp only [h',decide_false,Bool.not_false,if_true,hne]; rfl
theorem vclone_eq (f:List tAtom) (hf:f.length * 40 ≤ 140737488355328):slices_Clone f = some f := by
 unfold slices_Clone
 rw [G_pos (by simpa using hf)]
noncomputable def wellA (a:tAtom):Bool := (value_well a).getD false
theorem vwell_eq (a:tAtom):value_well a = some (wellA a) := by
 unfold wellA value_well
 split
 ·rfl
 ·split
  ·rfl
  ·split <;> rfl
theorem wellA_pos {a:tAtom} (h:wellA a = true):0 ≤ a.2.1 := by
 unfold wellA value_well at h
 split at h
 ·simp only [Option.getD_some,Bool.and_eq_true,decide_eq_true_eq] at h; omega
 ·split at h
  ·simp only [Option.getD_some,Bool.and_eq_true,decide_eq_true_eq] at h; omega
  ·split at h
   ·simp only [Option.getD_some,Bool.and_eq_true,decide_eq_true_eq] at h; omega
   ·cases h
def dmax:List twhole → Int
 | []=>0
 | x :: r=>max x.2.1 (dmax r)
theorem dmax_nonneg:∀ l:List twhole,0 ≤ dmax l
 | []=>by simp [dmax]
 | x :: r=>by have := dmax_nonneg r; simp only [dmax]; omega
theorem dmax_le {l:List twhole} {b:Int} (hb:0 ≤ b) (h:∀ x ∈ l,x.2.1 ≤ b):dmax l ≤ b := by
 induction l with
 | nil=>exact hb
 | cons x r ih =>
  have h1 := h x (by simp)
  have h2 := ih (fun y hy=>h y (by simp [hy]))
  simp only [dmax]; omega
def headW (i:Int):List twhole → Int
 | []=>i
 | x :: _=>x.1
def topW (i:Int) (tl:List twhole):twhole := (headW i tl,dmax tl + 1,())
noncomputable def stepW (i:Int) (a:tAtom) (st:List twhole):Option (twhole × List twhole) :=
 if wellA a = true ∧ a.2.1 ≤ (st.length:Int) then
  some (topW i (st.drop (st.length - a.2.1.toNat)),st.take (st.length - a.2.1.toNat) ++ [topW i (st.drop (st.length - a.2.1.toNat))])
 else none
noncomputable def begV (lim:Int):List tAtom → Nat → List twhole → List twhole → Option (List twhole × List twhole)
 | [],_,out,st=>some (out,st)
 | a :: r,i,out,st=>match stepW i a st with
  | none=>none
  | some (w,st')=>if lim < w.2.1 then none else begV lim r (i + 1) (out ++ [w]) st'
def okSt (i:Nat) (st:List twhole):Prop := st.length ≤ i ∧ ∀ x ∈ st,0 ≤ x.2.1 ∧ x.2.1 ≤ (i:Int)
theorem topW_deep {i:Nat} {st:List twhole} (h:okSt i st) (k:Nat):0 ≤ (topW i (st.drop k)).2.1 ∧ (topW i (st.drop k)).2.1 ≤ ((i + 1:Nat):Int) := by
 have h1 := dmax_nonneg (st.drop k)
 have h2:dmax (st.drop k) ≤ (i:Int) := dmax_le (by omega) (fun x hx=>(h.2 x (List.mem_of_mem_drop hx)).2)
 show 0 ≤ dmax _ + 1 ∧ dmax _ + 1 ≤ _
 omega
theorem stepW_some {i:Int} {a:tAtom} {st:List twhole} {w:twhole} {st':List twhole} (h:stepW i a st = some (w,st')) :
  wellA a = true ∧ 0 ≤ a.2.1 ∧ a.2.1 ≤ (st.length:Int) ∧ w = topW i (st.drop (st.length - a.2.1.toNat)) ∧ st' = st.take (st.length - a.2.1.toNat) ++ [w] := by
 unfold stepW at h
 split at h
 ·rename_i hc
  simp only [Option.some.injEq,Prod.mk.injEq] at h
  obtain ⟨rfl,rfl⟩ := h
  exact ⟨hc.1,wellA_pos hc.1,hc.2,rfl,rfl⟩
 ·cases h
theorem okSt_step {i:Nat} {a:tAtom} {st:List twhole} {w:twhole} {st':List twhole} (ho:okSt i st) (h:stepW i a st = some (w,st')):okSt (i + 1) st' := by
 obtain ⟨h1,h2,h3,rfl,rfl⟩ := stepW_some h
 have := topW_deep ho (st.length - a.2.1.toNat)
 refine ⟨by have := ho.1; simp; omega,fun x hx=>?_⟩
 rcases List.mem_append.1 hx with hx | hx
 ·have := ho.2 x (List.mem_of_mem_take hx); omega
 ·rw [List.mem_singleton.1 hx]; exact this
theorem vnat_sub {a:Nat} {n:Int} (h0:0 ≤ n) (h:n ≤ (a:Int)) (ha:a < 4611686018427387904):w64 ((a:Int) - n) = ((a - n.toNat:Nat):Int) := by
 rw [w64_eq (by omega) (by omega)]; omega
theorem mxs_eq (m:Int) (hm:1 ≤ m):∀ l:List twhole,l.foldl (fun m x=>max m (x.2.1 + 1)) m = max m (dmax l + 1)
 | []=>by simp only [List.foldl_nil,dmax]; omega
 | x :: r=>by
  rw [List.foldl_cons,mxs_eq (max m (x.2.1 + 1)) (by omega) r]
  simp only [dmax]; omega
theorem wholes_inner (out st:List twhole) (i k:Int) (v:List tAtom) (x17 x18:Int) (off:Nat) (I:Nat) (hI:I ≤ 1024) (hs:okSt I st) (n:Nat) (hn:off + n = st.length) (w:Int) :
  ∀ (d j:Nat) (w':Int),j + d = n → 1 ≤ j → iter st_value_wholes (.l10 out st i k w w' v x17 x18 off n (n:Int) (j:Int)) = iter st_value_wholes (.l10 out st i k w ((st.drop (off + j)).foldl (fun m x=>max m (x.2.1 + 1)) w') v x17 x18 off n (n:Int) (n:Int))
 | 0,j,w',hj,h1=>by
  have:off + j = st.length := by omega
  rw [this,List.drop_length]
  rw [show j = n by omega]; rfl
 | d + 1,j,w',hj,h1=>by
  rw [iter_eq']
  obtain ⟨x,r,hL⟩ := drop_ex (show off + j < st.length by omega)
  obtain ⟨hc,hr,hlen⟩ := drop_cons (d := dwhole) hL
  have hx:x ∈ st := List.mem_of_mem_drop (by rw [hL]; simp)
  have hb := hs.2 x hx
  have hsl := hs.1
  have hlt:(j:Int) < (n:Int) := by omega
  have hG:0 ≤ (j:Int) ∧ (j:Int) < (n:Int) := ⟨by omega,hlt⟩
  have hne:¬ (j:Int) = 0 := by omega
  have e6:w64 ((j:Int) + 1) = ((j + 1:Nat):Int) := w64_eq (by omega) (by omega)
  have e7:w64 (x.2.1 + 1) = x.2.1 + 1 := w64_eq (by omega) (by omega)
  simp only [st_value_wholes,sg_value_wholes_10,decide_eq_true_eq,if_pos hlt,G_pos hG,if_neg hne,Int.toNat_natCast,hc,e6,e7,mxI_eq]
  show iter _ _ = _
  rw [wholes_inner out st i k v x17 x18 off I hI hs n hn w d (j + 1) _ (by omega) (by omega),hL,List.foldl_cons,show off + (j + 1) = off + j + 1 by omega,hr]
theorem wholes_all (out st:List twhole) (i:Nat) (k:Int) (v:List tAtom) (x17 x18:Int) (off:Nat) (hI:i ≤ 1024) (hs:okSt i st) (n:Nat) (hn:off + n = st.length) :
  iter st_value_wholes (.l10 out st (i:Int) k (i:Int) 1 v x17 x18 off n (n:Int) 0) = iter st_value_wholes (.l10 out st (i:Int) k (topW i (st.drop off)).1 (topW i (st.drop off)).2.1 v x17 x18 off n (n:Int) (n:Int)) := by
 cases n with
 | zero =>
  have:off = st.length := by omega
  rw [this,List.drop_length]; rfl
 | succ n =>
  rw [iter_eq']
  obtain ⟨x,r,hL⟩ := drop_ex (show off < st.length by omega)
  obtain ⟨hc,hr,hlen⟩ := drop_cons (d := dwhole) hL
  have hx:x ∈ st := List.mem_of_mem_drop (by rw [hL]; simp)
  have hb := hs.2 x hx
  have hlt:(0:Int) < ((n + 1:Nat):Int) := by omega
  have hG:0 ≤ (0:Int) ∧ (0:Int) < ((n + 1:Nat):Int) := ⟨by omega,hlt⟩
  have e6:w64 ((0:Int) + 1) = ((1:Nat):Int) := rfl
  have e7:w64 (x.2.1 + 1) = x.2.1 + 1 := w64_eq (by omega) (by omega)
  simp only [st_value_wholes,sg_value_wholes_10,decide_eq_true_eq,if_pos hlt,G_pos hG,if_true,Int.toNat_zero,Nat.add_zero,hc,e6,e7,mxI_eq]
  show iter _ _ = _
  rw [wholes_inner out st i k v x17 x18 off i hI hs (n + 1) hn _ n 1 _ (by omega) (by omega),hr,hL]
  have e:(r.foldl (fun m x=>max m (x.2.1 + 1)) (max 1 (x.2.1 + 1))) = dmax (x :: r) + 1 := by
   rw [mxs_eq _ (by omega)]
   have := dmax_nonneg r
   simp only [dmax]; omega
  rw [e]; rfl
theorem wset_app (fr:List twhole) (x y:twhole) (i:Nat) (h:fr.length = i) (r:List twhole):(fr ++ y :: r).set i x = (fr ++ [x]) ++ r := by
 subst h; simp
theorem dec_one (n:Nat):decide ((n:Int) = 1) = decide (n = 1) := by
 by_cases h:n = 1
 ·rw [decide_eq_true h,decide_eq_true (by omega)]
 ·rw [decide_eq_false h,decide_eq_false (by omega)]
theorem wholes_loop (v:List tAtom) (hv:v.length ≤ 1024):∀ (d i:Nat) (out st:List twhole),i + d = v.length → out.length = i → okSt i st →
  iter st_value_wholes (.l3 (out ++ List.replicate d dwhole) st v (v.length:Int) (i:Int)) = some (match begV 32 (v.drop i) i out st with | some (o,s)=>(o,decide (s.length = 1)) | none=>([],false))
 | 0,i,out,st,hi,h1,h2=>by
  rw [iter_eq']
  have hd:v.drop i = [] := List.drop_eq_nil_of_le (by omega)
  have:¬ (i:Int) < (v.length:Int) := by omega
  simp only [st_value_wholes,sg_value_wholes_3,this,decide_false,Bool.false_eq_true,if_false,hd,begV,runL,dec_one,List.replicate_zero,List.append_nil]
 | d + 1,i,out,st,hi,h1,h2=>by
  rw [iter_eq']
  obtain ⟨a,r,hL⟩ := drop_ex (show i < v.length by omega)
  obtain ⟨hc,hr,hlen⟩ := drop_cons (d := dAtom) hL
  have hlt:(i:Int) < (v.length:Int) := by omega
  have hG:0 ≤ (i:Int) ∧ (i:Int) < (v.length:Int) := ⟨by omega,hlt⟩
  have e6:w64 ((i:Int) + 1) = ((i + 1:Nat):Int) := w64_eq (by omega) (by omega)
  have ec:value_well (a.1,a.2.1,a.2.2.1,a.2.2.2.1,()) = some (wellA a) := vwell_eq a
  rw [hL,begV,List.replicate_succ]
  simp only [st_value_wholes,sg_value_wholes_3,decide_eq_true_eq,if_pos hlt,G_pos hG,Int.toNat_natCast,hc,ec,Option.bind_some]
  cases hs:stepW i a st with
  | none =>
   unfold stepW at hs
   split at hs
   ·cases hs
   ·rename_i hn
    have:(!wellA a || decide ((st.length:Int) < a.2.1)) = true := by
     cases hk:wellA a with
     | false=>rfl
     | true =>
      have:(st.length:Int) < a.2.1 := by
       by_cases h:a.2.1 ≤ (st.length:Int)
       ·exact absurd ⟨hk,h⟩ hn
       ·omega
      simp [this]
    rw [if_pos this]; rfl
  | some p =>
   obtain ⟨w,st'⟩ := p
   obtain ⟨k1,k2,k3,k4,k5⟩ := stepW_some hs
   have ho' := okSt_step h2 hs
   have hno:¬ (!wellA a || decide ((st.length:Int) < a.2.1)) = true := by
    rw [k1]
    have:¬ (st.length:Int) < a.2.1 := by omega
    simp [this]
   have hsl := h2.1
   have ew := vnat_sub k2 k3 (by omega)
   have hG3:0 ≤ ((st.length - a.2.1.toNat:Nat):Int) ∧ ((st.length - a.2.1.toNat:Nat):Int) ≤ (st.length:Int) := by omega
   simp only [if_neg hno,ew,G_pos hG3,Int.toNat_natCast]
   show iter _ _ = _
   have hoff:(st.length - a.2.1.toNat) + (st.length - (st.length - a.2.1.toNat)) = st.length := by omega
   rw [wholes_all _ st i _ v _ _ _ (by omega) h2 _ hoff,← k4,iter_eq']
   have hnn:¬ ((st.length - (st.length - a.2.1.toNat):Nat):Int) < ((st.length - (st.length - a.2.1.toNat):Nat):Int) := by omega
   simp only [st_value_wholes,sg_value_wholes_10,decide_eq_true_eq,if_neg hnn,G_pos hG3,Int.toNat_natCast,e6]
   by_cases hw:32 < w.2.1
   ·rw [if_pos hw,if_pos hw]; rfl
   ·rw [if_neg hw,if_neg hw]
    have hl2:(out ++ dwhole :: List.replicate d dwhole).length = v.length := by simp; omega
    rw [G_pos (by rw [hl2]; exact hG),G_pos (by simp only [List.length_singleton]; omega)]
    show iter _ _ = _
    rw [wset_app out _ dwhole i h1]
    have e8:(w.1,w.2.1,()) = w := rfl
    rw [e8,← k5,wholes_loop v hv d (i + 1) (out ++ [w]) st' (by omega) (by simp [h1]) ho',hr]
theorem okSt_nil:okSt 0 [] := ⟨Nat.le_refl _,fun x hx=>by cases hx⟩
theorem wholes_eq (v:List tAtom) (hv:v.length ≤ 1024):value_wholes v = some (match begV 32 v 0 [] [] with | some (o,s)=>(o,decide (s.length = 1)) | none=>([],false)) := by
 unfold value_wholes en_value_wholes
 rw [G_pos ⟨by omega,by omega,by omega⟩]
 show iter _ _ = _
 have := wholes_loop v hv v.length 0 [] [] (by omega) rfl okSt_nil
 simpa using this
end Go.Eng
