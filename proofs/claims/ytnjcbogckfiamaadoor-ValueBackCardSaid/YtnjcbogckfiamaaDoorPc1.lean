/- A part of the proof: Pc1. -/
import Derived.Test.YtnjcbogckfiamaaDoorPv6
namespace Go.Eng
set_option linter.unusedVariables false
set_option linter.unusedSimpArgs false
def tri (x y w:Int):Prop := x ≤ 0 → y ≤ 0 → w ≤ 0 ∧ (w = 0 ↔ x = 0 ∧ y = 0)
theorem cmI_neg (x y:Int):cmI x y = - cmI y x := by
 unfold cmI
 by_cases h:x < y
 ·rw [if_pos h,if_neg (by omega),if_pos h]
 ·by_cases h2:y < x
  ·rw [if_neg h,if_pos h2,if_pos h2]; rfl
  ·rw [if_neg h,if_neg h2,if_neg h2,if_neg h]; rfl
theorem cmI_zero {x y:Int}:cmI x y = 0 ↔ x = y := by
 unfold cmI
 constructor
 ·intro h
  split at h
  ·cases h
  ·split at h
   ·cases h
   ·omega
 ·rintro rfl
  rw [if_neg (by omega),if_neg (by omega)]
theorem cmI_range (x y:Int) : -1 ≤ cmI x y ∧ cmI x y ≤ 1 := by
 unfold cmI
 split
 ·omega
 ·split <;> omega
theorem cmI_le {x y:Int}:cmI x y ≤ 0 ↔ x ≤ y := by
 unfold cmI
 split
 ·omega
 ·split <;> omega
theorem cmI_tri (x y z:Int):tri (cmI x y) (cmI y z) (cmI x z) := by
 intro h1 h2
 have h1 := cmI_le.1 h1
 have h2 := cmI_le.1 h2
 refine ⟨cmI_le.2 (by omega),fun h=>?_,fun h=>?_⟩
 ·have := cmI_zero.1 h
  exact ⟨cmI_zero.2 (by omega),cmI_zero.2 (by omega)⟩
 ·have h3 := cmI_zero.1 h.1
  have h4 := cmI_zero.1 h.2
  exact cmI_zero.2 (by omega)
theorem n1:((-1:Int) = 0 ↔ ((-1:Int) = 0 ∧ (-1:Int) = 0)) := by decide
theorem comp_neg:∀ (x y:List UInt8),Lib.compareBytes x y = - Lib.compareBytes y x
 | [],[]=>rfl
 | [],_ :: _=>rfl
 | _ :: _,[]=>rfl
 | a :: x,b :: y=>by
  simp only [Lib.compareBytes]
  by_cases h:a < b
  ·have h2:¬ b < a := fun e=>absurd (UInt8.lt_trans h e) (UInt8.lt_irrefl a)
   rw [if_pos h,if_neg h2,if_pos h]
  ·by_cases h2:b < a
   ·rw [if_neg h,if_pos h2,if_pos h2]; rfl
   ·rw [if_neg h,if_neg h2,if_neg h2,if_neg h,comp_neg x y]
theorem u8_eq {a b:UInt8} (h:¬ a < b) (h2:¬ b < a):a = b := UInt8.le_antisymm (UInt8.not_lt.1 h2) (UInt8.not_lt.1 h)
theorem comp_tri:∀ (x y z:List UInt8),tri (Lib.compareBytes x y) (Lib.compareBytes y z) (Lib.compareBytes x z)
 | [],[],[]=>by intro _ _; simp [Lib.compareBytes]
 | [],[],_ :: _=>by intro _ _; simp [Lib.compareBytes]
 | [],_ :: _,[]=>by intro _ h; simp [Lib.compareBytes] at h
 | [],_ :: _,_ :: _=>by intro _ _; simp [Lib.compareBytes]
 | _ :: _,[],_=>by intro h _; simp [Lib.compareBytes] at h
 | _ :: _,_ :: _,[]=>by intro _ h; simp [Lib.compareBytes] at h
 | a :: x,b :: y,c :: z=>by
  intro h1 h2
  simp only [Lib.compareBytes] at h1 h2 ⊢
  by_cases ab:a < b
  ·by_cases bc:b < c
   ·have ac:a < c := UInt8.lt_trans ab bc
    rw [if_pos ac,if_pos ab,if_pos bc]; decide
   ·by_cases cb:c < b
    ·rw [if_neg bc,if_pos cb] at h2; exact absurd h2 (by decide)
    ·have e := u8_eq bc cb
     subst e
     rw [if_pos ab,if_pos ab]; exact ⟨by decide,fun e=>absurd e (by decide),fun e=>absurd e.1 (by decide)⟩
  ·by_cases ba:b < a
   ·rw [if_neg ab,if_pos ba] at h1; exact absurd h1 (by decide)
   ·have e := u8_eq ab ba
    subst e
    rw [if_neg ab,if_neg ab] at h1
    by_cases bc:a < c
    ·rw [if_pos bc,if_pos bc]; exact ⟨by decide,fun e=>absurd e (by decide),fun e=>absurd e.2 (by decide)⟩
    ·by_cases cb:c < a
     ·rw [if_neg bc,if_pos cb] at h2; exact absurd h2 (by decide)
     ·rw [if_neg bc,if_neg cb] at h2 ⊢
      rw [if_neg ab,if_neg ab,if_neg bc,if_neg cb]
      exact comp_tri x y z h1 h2
theorem comp_bd (x y:List UInt8) : -1 ≤ Lib.compareBytes x y ∧ Lib.compareBytes x y ≤ 1 := by rcases comp_range x y with h | h | h <;> omega
theorem cmpTs_nc (u:Tr tAtom) (us:List (Tr tAtom)):cmpTs [] (u :: us) = -1 := by simp [cmpTs]
theorem cmpTs_nn:cmpTs [] [] = 0 := by simp [cmpTs]
theorem cmpT_k {t u:Tr tAtom} (h:t.a.1 ≠ u.a.1):cmpT t u = cmI t.a.1 u.a.1 := by
 rw [cmpT_eq]; exact if_pos h
def cmpK (t u:Tr tAtom):Int := if t.a.1 = 1 then cmI t.a.2.2.1 u.a.2.2.1 else if t.a.1 = 2 then Lib.compareBytes t.a.2.2.2.1 u.a.2.2.2.1 else cmpTs t.ts u.ts
theorem cmpT_e {t u:Tr tAtom} (h:t.a.1 = u.a.1):cmpT t u = cmpK t u := by
 rw [cmpT_eq]; exact if_neg (fun e=>e h)
theorem cmpK_1 {t u:Tr tAtom} (h:t.a.1 = 1):cmpK t u = cmI t.a.2.2.1 u.a.2.2.1 := if_pos h
theorem cmpK_2 {t u:Tr tAtom} (h1:¬ t.a.1 = 1) (h:t.a.1 = 2):cmpK t u = Lib.compareBytes t.a.2.2.2.1 u.a.2.2.2.1 := by
 unfold cmpK; rw [if_neg h1,if_pos h]
theorem cmpK_3 {t u:Tr tAtom} (h1:¬ t.a.1 = 1) (h:¬ t.a.1 = 2):cmpK t u = cmpTs t.ts u.ts := by
 unfold cmpK; rw [if_neg h1,if_neg h]
mutual
theorem cmpT_neg:∀ (t u:Tr tAtom),cmpT t u = - cmpT u t
 | .node a ts,u=>by
  by_cases h:a.1 = u.a.1
  ·rw [cmpT_e (t := .node a ts) (u := u) h,cmpT_e (t := u) (u := .node a ts) h.symm]
   by_cases c1:a.1 = 1
   ·rw [cmpK_1 (t := .node a ts) c1,cmpK_1 (h ▸ c1)]; exact cmI_neg _ _
   ·by_cases c2:a.1 = 2
    ·rw [cmpK_2 (t := .node a ts) c1 c2,cmpK_2 (h ▸ c1) (h ▸ c2)]; exact comp_neg _ _
    ·rw [cmpK_3 (t := .node a ts) c1 c2,cmpK_3 (h ▸ c1) (h ▸ c2)]; exact cmpTs_neg ts u.ts
  ·rw [cmpT_k (t := .node a ts) (u := u) h,cmpT_k (t := u) (u := .node a ts) (fun e=>h e.symm)]; exact cmI_neg _ _
theorem cmpTs_neg:∀ (ts us:List (Tr tAtom)),cmpTs ts us = - cmpTs us ts
 | [],[]=>by rw [cmpTs_nn]; rfl
 | [],u :: us=>by rw [cmpTs_nc,cmpTs_cn]
 | t :: ts,[]=>by rw [cmpTs_nc,cmpTs_cn]; rfl
 | t :: ts,u :: us=>by
  rw [cmpTs_cc,cmpTs_cc,cmpT_neg t u]
  by_cases h:cmpT u t = 0
  ·rw [h,if_neg (by simp),if_neg (by simp)]; exact cmpTs_neg ts us
  ·rw [if_pos (by omega),if_pos h]
end
mutual
theorem cmpT_bd:∀ (t u:Tr tAtom),-1 ≤ cmpT t u ∧ cmpT t u ≤ 1
 | .node a ts,u=>by
  rw [cmpT_eq]
  split
  ·exact cmI_range _ _
  ·split
   ·exact cmI_range _ _
   ·split
    ·exact comp_bd _ _
    ·exact cmpTs_bd ts u.ts
theorem cmpTs_bd:∀ (ts us:List (Tr tAtom)),-1 ≤ cmpTs ts us ∧ cmpTs ts us ≤ 1
 | [],[]=>by rw [cmpTs_nn]; omega
 | [],u :: us=>by rw [cmpTs_nc]; omega
 | t :: ts,[]=>by rw [cmpTs_cn]; omega
 | t :: ts,u :: us=>by
  rw [cmpTs_cc]
  split
  ·exact cmpT_bd t u
  ·exact cmpTs_bd ts us
end
mutual
theorem cmpT_tri:∀ (t u v:Tr tAtom),tri (cmpT t u) (cmpT u v) (cmpT t v)
 | .node a ts,u,v=>by
  intro h1 h2
  by_cases k1:a.1 = u.a.1
  ·rw [cmpT_e (t := .node a ts) (u := u) k1] at h1 ⊢
   by_cases k2:u.a.1 = v.a.1
   ·rw [cmpT_e k2] at h2 ⊢
    rw [cmpT_e (t := .node a ts) (u := v) (k1.trans k2)]
    by_cases c1:a.1 = 1
    ·rw [cmpK_1 (t := .node a ts) c1] at h1
     rw [cmpK_1 (k1 ▸ c1)] at h2
     rw [cmpK_1 (t := .node a ts) c1,cmpK_1 (t := .node a ts) c1,cmpK_1 (t := u) (k1 ▸ c1)]
     exact cmI_tri _ _ _ h1 h2
    ·by_cases c2:a.1 = 2
     ·rw [cmpK_2 (t := .node a ts) c1 c2] at h1
      rw [cmpK_2 (k1 ▸ c1) (k1 ▸ c2)] at h2
      rw [cmpK_2 (t := .node a ts) c1 c2,cmpK_2 (t := .node a ts) c1 c2,cmpK_2 (t := u) (k1 ▸ c1) (k1 ▸ c2)]
      exact comp_tri _ _ _ h1 h2
     ·rw [cmpK_3 (t := .node a ts) c1 c2] at h1
      rw [cmpK_3 (k1 ▸ c1) (k1 ▸ c2)] at h2
      rw [cmpK_3 (t := .node a ts) c1 c2,cmpK_3 (t := .node a ts) c1 c2,cmpK_3 (t := u) (k1 ▸ c1) (k1 ▸ c2)]
      exact cmpTs_tri ts u.ts v.ts h1 h2
   ·have k3:¬ a.1 = v.a.1 := fun e=>k2 (k1.symm.trans e)
    rw [cmpT_k k2] at h2 ⊢
    rw [cmpT_k (t := .node a ts) (u := v) k3]
    have h4 := cmI_le.1 h2
    refine ⟨cmI_le.2 (by show a.1 ≤ v.a.1; omega),fun e=>absurd (cmI_zero.1 e) k3,fun e=>absurd (cmI_zero.1 e.2) k2⟩
  ·rw [cmpT_k (t := .node a ts) (u := u) k1] at h1 ⊢
   have h3:a.1 ≤ u.a.1 := cmI_le.1 h1
   by_cases k2:u.a.1 = v.a.1
   ·have k3:¬ a.1 = v.a.1 := fun e=>k1 (e.trans k2.symm)
    rw [cmpT_k (t := .node a ts) (u := v) k3]
    refine ⟨cmI_le.2 (by show a.1 ≤ v.a.1; omega),fun e=>absurd (cmI_zero.1 e) k3,fun e=>absurd (cmI_zero.1 e.1) k1⟩
   ·rw [cmpT_k k2] at h2 ⊢
    have h4 := cmI_le.1 h2
    have k3:¬ a.1 = v.a.1 := by omega
    rw [cmpT_k (t := .node a ts) (u := v) k3]
    refine ⟨cmI_le.2 (by show a.1 ≤ v.a.1; omega),fun e=>absurd (cmI_zero.1 e) k3,fun e=>absurd (cmI_zero.1 e.1) k1⟩
theorem cmpTs_tri:∀ (ts us vs:List (Tr tAtom)),tri (cmpTs ts us) (cmpTs us vs) (cmpTs ts vs)
 | [],[],[]=>by intro _ _; rw [cmpTs_nn]; exact ⟨by decide,by decide⟩
 | [],[],v :: vs=>by intro _ _; rw [cmpTs_nc,cmpTs_nn]; decide
 | [],u :: us,[]=>by intro _ h; rw [cmpTs_cn] at h; exact absurd h (by decide)
 | [],u :: us,v :: vs=>by intro _ _; rw [cmpTs_nc,cmpTs_nc]; exact ⟨by decide,fun e=>absurd e (by decide),fun e=>absurd e.1 (by decide)⟩
 | t :: ts,[],vs=>by intro h _; rw [cmpTs_cn] at h; exact absurd h (by decide)
 | t :: ts,u :: us,[]=>by intro _ h; rw [cmpTs_cn] at h; exact absurd h (by decide)
 | t :: ts,u :: us,v :: vs=>by
  intro h1 h2
  rw [cmpTs_cc] at h1 h2 ⊢
  rw [cmpTs_cc u v,cmpTs_cc t u]
  have ht := cmpT_tri t u v
  by_cases e1:cmpT t u = 0
  ·rw [if_neg (by simpa using e1)] at h1
   by_cases e2:cmpT u v = 0
   ·rw [if_neg (by simpa using e2)] at h2
    have e3:cmpT t v = 0 := (ht (by omega) (by omega)).2.2 ⟨e1,e2⟩
    rw [if_neg (by simpa using e3),if_neg (by simpa using e1),if_neg (by simpa using e2)]
    exact cmpTs_tri ts us vs h1 h2
   ·rw [if_pos e2] at h2
    obtain ⟨p,q⟩ := ht (by omega) h2
    have e3:¬ cmpT t v = 0 := fun e=>e2 (q.1 e).2
    rw [if_pos e3,if_pos e2]
    exact ⟨p,fun e=>absurd e e3,fun e=>absurd e.2 e2⟩
  ·rw [if_pos e1] at h1
   have hle:cmpT u v ≤ 0 := by
    by_cases e2:cmpT u v = 0
    ·omega
    ·rw [if_pos e2] at h2; exact h2
   obtain ⟨p,q⟩ := ht h1 hle
   have e3:¬ cmpT t v = 0 := fun e=>e1 (q.1 e).1
   rw [if_pos e3,if_pos e1]
   exact ⟨p,fun e=>absurd e e3,fun e=>absurd e.1 e1⟩
end
end Go.Eng
