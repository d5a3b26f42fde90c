/- A part of the proof: So0. -/
import Derived.Test.YtnjcbogckfiamaaDoorPc1
namespace Go.Eng
set_option linter.unusedVariables false
set_option linter.unusedSimpArgs false
theorem atom_ext {a b:tAtom} (h1:a.1 = b.1) (h2:a.2.1 = b.2.1) (h3:a.2.2.1 = b.2.2.1) (h4:a.2.2.2.1 = b.2.2.2.1):a = b := by
 obtain ⟨x1,x2,x3,x4,⟨⟩⟩ := a
 obtain ⟨y1,y2,y3,y4,⟨⟩⟩ := b
 simp only at h1 h2 h3 h4
 subst h1 h2 h3 h4; rfl
mutual
theorem cmpT_zero {l1 l2:Int}:∀ (t u:Tr tAtom),okT arV (goodV l1) t → okT arV (goodV l2) u → cmpT t u = 0 → t = u
 | .node a ts,.node b us,h1,h2,h=>by
  have w1:wellA a = true := okT_well h1
  have w2:wellA b = true := okT_well h2
  have n1:a.2.1.toNat = ts.length := h1.1
  have n2:b.2.1.toNat = us.length := h2.1
  by_cases hk:a.1 = b.1
  ·rw [cmpT_e (t := .node a ts) (u := .node b us) hk] at h
   rcases wellA_kind w1 with ⟨k1,p1,q1,_⟩ | ⟨k1,p1,q1,_⟩ | ⟨k1,p1,q1,r1⟩ <;> rcases wellA_kind w2 with ⟨k2,p2,q2,_⟩ | ⟨k2,p2,q2,_⟩ | ⟨k2,p2,q2,r2⟩
   ·rw [cmpK_1 (t := .node a ts) k1] at h
    have e := cmI_zero.1 h
    have ht:ts = [] := List.eq_nil_of_length_eq_zero (by omega)
    have hu:us = [] := List.eq_nil_of_length_eq_zero (by omega)
    rw [ht,hu,atom_ext hk (p1.trans p2.symm) e (q1.trans q2.symm)]
   ·omega
   ·omega
   ·omega
   ·rw [cmpK_2 (t := .node a ts) (by show ¬ a.1 = 1; omega) k1] at h
    have e := (comp_zero _ _).1 h
    have ht:ts = [] := List.eq_nil_of_length_eq_zero (by omega)
    have hu:us = [] := List.eq_nil_of_length_eq_zero (by omega)
    rw [ht,hu,atom_ext hk (p1.trans p2.symm) (q1.trans q2.symm) e]
   ·omega
   ·omega
   ·omega
   ·rw [cmpK_3 (t := .node a ts) (by show ¬ a.1 = 1; omega) (by show ¬ a.1 = 2; omega)] at h
    have e := cmpTs_zero ts us h1.2.2 h2.2.2 h
    subst e
    rw [atom_ext hk (by omega) (q1.trans q2.symm) (r1.trans r2.symm)]
  ·rw [cmpT_k (t := .node a ts) (u := .node b us) hk] at h
   exact absurd (cmI_zero.1 h) hk
theorem cmpTs_zero {l1 l2:Int}:∀ (ts us:List (Tr tAtom)),okF arV (goodV l1) ts → okF arV (goodV l2) us → cmpTs ts us = 0 → ts = us
 | [],[],_,_,_=>rfl
 | [],u :: us,_,_,h=>by rw [cmpTs_nc] at h; exact absurd h (by decide)
 | t :: ts,[],_,_,h=>by rw [cmpTs_cn] at h; exact absurd h (by decide)
 | t :: ts,u :: us,h1,h2,h=>by
  rw [cmpTs_cc] at h
  by_cases e:cmpT t u = 0
  ·rw [if_neg (by simpa using e)] at h
   rw [cmpT_zero t u h1.1 h2.1 e,cmpTs_zero ts us h1.2 h2.2 h]
  ·rw [if_pos e] at h; exact absurd h e
end
theorem cmpT_self (t:Tr tAtom):cmpT t t = 0 := by have := cmpT_neg t t; omega
theorem cmpT_iff {t u:Tr tAtom} {a b:List tAtom} (ha:isV t a) (hb:isV u b):cmpT t u = 0 ↔ a = b := by
 constructor
 ·intro h
  have := cmpT_zero t u ha.2.1 hb.2.1 h
  rw [← ha.2.2,← hb.2.2,this]
 ·intro h
  have:t = u := flat_inj ha.2.1 hb.2.1 (by rw [ha.2.2,hb.2.2,h])
  rw [this]; exact cmpT_self u
noncomputable def cV (a b:List tAtom):Int := open Classical in if h:(∃ t,isV t a) ∧ (∃ u,isV u b) then cmpT h.1.choose h.2.choose else 0
theorem cV_of {t u:Tr tAtom} {a b:List tAtom} (ha:isV t a) (hb:isV u b):cV a b = cmpT t u := by
 have h:(∃ t,isV t a) ∧ (∃ u,isV u b) := ⟨⟨t,ha⟩,⟨u,hb⟩⟩
 unfold cV
 rw [dif_pos h,isV_inj h.1.choose_spec ha,isV_inj h.2.choose_spec hb]
def rV (a:List tAtom):Prop := ∃ t,isV t a
theorem cV_neg {a b:List tAtom} (ha:rV a) (hb:rV b):cV a b = - cV b a := by
 obtain ⟨t,ha⟩ := ha
 obtain ⟨u,hb⟩ := hb
 rw [cV_of ha hb,cV_of hb ha]; exact cmpT_neg t u
theorem cV_zero {a b:List tAtom} (ha:rV a) (hb:rV b):cV a b = 0 ↔ a = b := by
 obtain ⟨t,ha⟩ := ha
 obtain ⟨u,hb⟩ := hb
 rw [cV_of ha hb]; exact cmpT_iff ha hb
theorem cV_trans {a b c:List tAtom} (ha:rV a) (hb:rV b) (hc:rV c) (h1:cV a b ≤ 0) (h2:cV b c ≤ 0):cV a c ≤ 0 := by
 obtain ⟨t,ha⟩ := ha
 obtain ⟨u,hb⟩ := hb
 obtain ⟨v,hc⟩ := hc
 rw [cV_of ha hb] at h1
 rw [cV_of hb hc] at h2
 rw [cV_of ha hc]
 exact (cmpT_tri t u v h1 h2).1
theorem vcmp_eq {a b:List tAtom} (ha:rV a) (hb:rV b):value_compare a b = some (cV a b) := by
 obtain ⟨t,ha⟩ := ha
 obtain ⟨u,hb⟩ := hb
 rw [vcompare_eq ha hb,cV_of ha hb]
abbrev SE := Bool × List tAtom
def okE (y:SE):Prop := y.1 = true ∧ rV y.2
def okL (l:List SE):Prop := ∀ y ∈ l,okE y
def leE (y z:SE):Prop := cV y.2 z.2 ≤ 0
theorem leE_lt {y z:SE} (h:cV y.2 z.2 < 0):leE y z := by unfold leE; omega
theorem leE_nlt {y z:SE} (hy:okE y) (hz:okE z) (h:¬ cV y.2 z.2 < 0):leE z y := by have := cV_neg hy.2 hz.2; unfold leE; omega
theorem leE_trans {x y z:SE} (hx:okE x) (hy:okE y) (hz:okE z) (h1:leE x y) (h2:leE y z):leE x z := cV_trans hx.2 hy.2 hz.2 h1 h2
theorem okL_app {l m:List SE}:okL (l ++ m) ↔ okL l ∧ okL m := by
 unfold okL
 simp only [List.mem_append]
 exact ⟨fun h=>⟨fun y hy=>h y (.inl hy),fun y hy=>h y (.inr hy)⟩,fun h y hy=>hy.elim (h.1 y) (h.2 y)⟩
theorem okL_cons {y:SE} {l:List SE}:okL (y :: l) ↔ okE y ∧ okL l := by
 unfold okL; simp
theorem okL_perm {l m:List SE} (h:l.Perm m) (hl:okL l):okL m := fun y hy=>hl y (h.mem_iff.2 hy)
def srt (l:List SE):Prop := l.Pairwise leE
theorem srt_app {l m:List SE}:srt (l ++ m) ↔ srt l ∧ srt m ∧ ∀ a ∈ l,∀ b ∈ m,leE a b := List.pairwise_append
theorem srt_cons {y:SE} {l:List SE}:srt (y :: l) ↔ (∀ b ∈ l,leE y b) ∧ srt l := List.pairwise_cons
end Go.Eng
