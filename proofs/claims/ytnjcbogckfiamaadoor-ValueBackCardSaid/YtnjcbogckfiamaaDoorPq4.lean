/- A part of the proof: Pq4. -/
import Derived.Test.YtnjcbogckfiamaaDoorPq3
namespace Go.Eng
set_option linter.unusedVariables false
set_option linter.unusedSimpArgs false
def listT (d:Nat) (r:List UInt8):Option (Tr tAtom × Nat) := match r with
 | []=>none
 | e :: r'=>if (e.toNat:Int) = 93 then some (lstA [],2) else (match valT d (e :: r') with
  | some (x,k)=>(match moreT (valT d) ((e :: r').length + 1) ((e :: r').drop k) with
   | some (xs,m)=>some (lstA (x :: xs),1 + k + m)
   | none=>none)
  | none=>none)
theorem listT_cons (d:Nat) (e:UInt8) (r':List UInt8):listT d (e :: r') = if (e.toNat:Int) = 93 then some (lstA [],2) else (match valT d (e :: r') with
  | some (x,k)=>(match moreT (valT d) ((e :: r').length + 1) ((e :: r').drop k) with
   | some (xs,m)=>some (lstA (x :: xs),1 + k + m)
   | none=>none)
  | none=>none) := rfl
theorem valT_cons (d:Nat) (c:UInt8) (r:List UInt8):valT (d + 1) (c :: r) = if (c.toNat:Int) = 34 then txtV (c :: r) else if (c.toNat:Int) = 91 then listT d r else numV (c :: r) := by
 rw [valT.eq_def]; rfl
theorem valT_list (d:Nat) (c:UInt8) (r:List UInt8) (h34:¬ (c.toNat:Int) = 34) (h91:(c.toNat:Int) = 91):valT (d + 1) (c :: r) = listT d r := by
 rw [valT_cons,if_neg h34,if_pos h91]
def moRel (s:List UInt8) (p n:Nat) (v:List tAtom) (o:Option (List (Tr tAtom) × Nat)) (res:RdS):Prop := match o with
 | some (xs,m)=>((∀ a ∈ flats xs,shortA a) ∧ v.length + (flats xs).length + 1 ≤ 1024 → res = (true,s,((p + m:Nat):Int),v ++ flats xs ++ [lastA (n + xs.length)])) ∧ (¬ ((∀ a ∈ flats xs,shortA a) ∧ v.length + (flats xs).length + 1 ≤ 1024) → res.1 = false)
 | none=>res.1 = false
section
variable {s:List UInt8} (hs:s.length ≤ 65536) {d:Nat} (hd:d < 100) {rc:(List UInt8) → Int → (List tAtom) → Int → Option RdS}
 (hrc:∀ p v,p ≤ s.length → v.length ≤ 1024 → ∃ res,rc s (p:Int) v (d:Int) = some res ∧ rdRel s p v (valT d (s.drop p)) res)
include hs hd hrc
theorem more_rel:∀ (f p n:Nat) (v:List tAtom),s.length < p + f → p ≤ s.length → 1 ≤ n → n ≤ p → v.length ≤ 1024 →
  ∃ res,iter (st_value_reader_value rc) (.l9 s (p:Int) v ((d + 1:Nat):Int) (n:Int)) = some res ∧ moRel s p n v (moreT (valT d) f (s.drop p)) res
 | 0,p,n,v,hf,hp,h1,hn,hv=>by omega
 | f + 1,p,n,v,hf,hp,h1,hn,hv=>by
  rw [iter_eq']
  simp only [st_value_reader_value]
  unfold sg_value_reader_value_9
  rw [has_eq s p v [93] hp hs (by simp),Option.bind_some]
  have bn:decide ((0:Int) < (n:Int)) = true := decide_eq_true (by omega)
  have hdm:w64 (((d + 1:Nat):Int) - 1) = (d:Int) := by rw [w64_eq (by omega) (by omega)]; omega
  cases hL:s.drop p with
  | nil =>
   have hpl:p = s.length := by
    have := congrArg List.length hL
    rw [List.length_drop,List.length_nil] at this; omega
   simp only [List.take_nil,if_neg (List.cons_ne_nil _ _).symm,Bool.not_false,if_true,bn]
   rw [has_eq s p v [44,32] hp hs (by simp),hL]
   simp only [List.take_nil,if_neg (List.cons_ne_nil _ _).symm,Option.bind_some,Bool.not_false,Bool.and_self,Bool.not_true,Bool.true_or,if_true,Bool.false_eq_true,if_false]
   exact ⟨_,rfl,rfl⟩
  | cons c r =>
   obtain ⟨hc,hr,hlen⟩ := drop_cons (d := (0:UInt8)) hL
   have ht:((c :: r).take ([93]:List UInt8).length = [93]) = ((c.toNat:Int) = 93) := by
    apply propext
    have := u8n c 93 (by omega)
    simp only [List.length_cons,List.length_nil,List.take_succ_cons,List.take_zero,List.cons.injEq,and_true]
    exact this
   simp only [ht,moreT]
   by_cases h93:(c.toNat:Int) = 93
   ·simp only [if_pos h93,Bool.not_true,Bool.false_eq_true,if_false]
    rw [put_eq _ _ _ _ hv]
    refine ⟨_,rfl,?_⟩
    have hl:lastA (n + ([]:List (Tr tAtom)).length) = ((3:Int),(n:Int),(0:Int),([]:List UInt8),()) := by simp [lastA]
    refine ⟨fun ⟨_,h2⟩=>?_,fun hx=>?_⟩
    ·simp only [flats,List.length_nil,Nat.add_zero,List.append_nil] at h2 ⊢
     rw [decide_eq_true h2]
     simp only [List.length_cons,List.length_nil,Nat.add_zero,Nat.zero_add,lastA]
    ·simp only [flats,List.length_nil,Nat.add_zero] at hx
     exact decide_eq_false fun h2=>hx ⟨fun a ha=>by simp at ha,h2⟩
   ·simp only [if_neg h93,Bool.not_false,if_true,bn]
    rw [has_eq s p v [44,32] hp hs (by simp),hL]
    cases r with
    | nil =>
     have hne:¬ ((c :: ([]:List UInt8)).take ([44,32]:List UInt8).length = [44,32]) := by simp
     simp only [if_neg hne,Option.bind_some,Bool.not_false,Bool.and_self,Bool.not_true,Bool.true_or,if_true,Bool.false_eq_true,if_false]
     refine ⟨_,rfl,?_⟩
     by_cases h44:(c.toNat:Int) = 44
     ·simp only [if_pos h44]; rfl
     ·simp only [if_neg h44]; rfl
    | cons e r' =>
     obtain ⟨he,hr2,hlen2⟩ := drop_cons (d := (0:UInt8)) hr
     have ht2:((c :: e :: r').take ([44,32]:List UInt8).length = [44,32]) = ((c.toNat:Int) = 44 ∧ (e.toNat:Int) = 32) := by
      apply propext
      have h1 := u8n c 44 (by omega)
      have h2 := u8n e 32 (by omega)
      simp only [List.length_cons,List.length_nil,List.take_succ_cons,List.take_zero,List.cons.injEq,and_true]
      exact ⟨fun ⟨a,b⟩=>⟨h1.1 a,h2.1 b⟩,fun ⟨a,b⟩=>⟨h1.2 a,h2.2 b⟩⟩
     simp only [ht2]
     by_cases h2:(c.toNat:Int) = 44 ∧ (e.toNat:Int) = 32
     ·simp only [if_pos h2,if_pos h2.1,if_pos h2.2,Option.bind_some,Bool.not_true,Bool.and_false,Bool.not_false,if_true,Bool.false_or,hdm]
      have hdr:s.drop (p + ([44,32]:List UInt8).length) = r' := hr2
      obtain ⟨res,q1,q2⟩ := hrc (p + ([44,32]:List UInt8).length) v (by simp only [List.length_cons,List.length_nil] at *; omega) hv
      rw [hdr] at q2
      rw [q1,Option.bind_some]
      cases hval:valT d r' with
      | none =>
       rw [hval] at q2
       have q3:res.1 = false := q2
       rw [q3,if_pos (by rfl)]
       exact ⟨_,rfl,rfl⟩
      | some xk =>
       obtain ⟨x,k⟩ := xk
       rw [hval] at q2
       obtain ⟨q3,q4⟩ := q2
       obtain ⟨z1,z2,z3⟩ := valT_size d _ _ _ hval
       by_cases hg:(∀ a ∈ flat x,shortA a) ∧ v.length + (flat x).length ≤ 1024
       ·have hres := q3 hg
        subst hres
        simp only [List.length_cons,List.length_nil] at *
        rw [if_neg (by simp)]
        have en:w64 ((n:Int) + 1) = ((n + 1:Nat):Int) := w64_eq (by omega) (by omega)
        rw [en]
        obtain ⟨res2,y1,y2⟩ := more_rel f (p + 2 + k) (n + 1) (v ++ flat x) (by omega) (by omega) (by omega) (by omega) (by rw [List.length_append]; exact hg.2)
        have hdk:s.drop (p + 2 + k) = r'.drop k := by rw [← hr2,List.drop_drop]
        rw [hdk] at y2
        refine ⟨res2,y1,?_⟩
        cases hm:moreT (valT d) f (r'.drop k) with
        | none=>rw [hm] at y2; exact y2
        | some xm =>
         obtain ⟨xs,m⟩ := xm
         rw [hm] at y2
         obtain ⟨y3,y4⟩ := y2
         refine ⟨fun ⟨g1,g2⟩=>?_,fun hx=>y4 fun ⟨g1,g2⟩=>hx ⟨fun a ha=>?_,?_⟩⟩
         ·simp only [flats,List.length_append] at g1 g2
          rw [y3 ⟨fun a ha=>g1 a (List.mem_append.2 (.inr ha)),by rw [List.length_append]; omega⟩]
          simp only [flats,List.append_assoc,List.length_cons]
          rw [show p + 2 + k + m = p + (2 + k + m) by omega,show n + 1 + xs.length = n + (xs.length + 1) by omega]
         ·simp only [flats,List.mem_append] at ha
          exact ha.elim (hg.1 a) (g1 a)
         ·rw [List.length_append] at g2
          simp only [flats,List.length_append]; omega
       ·have q5 := q4 hg
        rw [q5,if_pos (by rfl)]
        refine ⟨_,rfl,?_⟩
        dsimp only
        cases hm:moreT (valT d) f (r'.drop k) with
        | none=>rfl
        | some xm =>
         obtain ⟨xs,m⟩ := xm
         refine ⟨fun ⟨g1,g2⟩=>absurd ⟨fun a ha=>g1 a ?_,?_⟩ hg,fun _=>rfl⟩
         ·simp only [flats,List.mem_append]; exact .inl ha
         ·simp only [flats,List.length_append] at g2; omega
     ·simp only [if_neg h2,Option.bind_some,Bool.not_false,Bool.and_self,Bool.not_true,Bool.true_or,if_true,Bool.false_eq_true,if_false]
      refine ⟨_,rfl,?_⟩
      by_cases h44:(c.toNat:Int) = 44
      ·rw [if_pos h44,if_neg (fun h32=>h2 ⟨h44,h32⟩)]; rfl
      ·rw [if_neg h44]; rfl
theorem first_rel (p:Nat) (v:List tAtom) (hp:p ≤ s.length) (hv:v.length ≤ 1024) (c:UInt8) (r:List UInt8) (hL:s.drop p = c :: r) :
  ∃ res,iter (st_value_reader_value rc) (.l9 s ((p + 1:Nat):Int) v ((d + 1:Nat):Int) (0:Int)) = some res ∧ rdRel s p v (listT d r) res := by
 obtain ⟨hc,hr,hlen⟩ := drop_cons (d := (0:UInt8)) hL
 have hp1:p + 1 ≤ s.length := by omega
 rw [iter_eq']
 simp only [st_value_reader_value]
 unfold sg_value_reader_value_9
 have hdm:w64 (((d + 1:Nat):Int) - 1) = (d:Int) := by rw [w64_eq (by omega) (by omega)]; omega
 rw [has_eq s (p + 1) v [93] hp1 hs (by simp),Option.bind_some,hr]
 have bn:decide ((0:Int) < (0:Int)) = false := by decide
 cases r with
 | nil =>
  simp only [List.take_nil,if_neg (List.cons_ne_nil _ _).symm,Bool.not_false,if_true,bn,Bool.false_eq_true,if_false,Bool.and_true,Bool.false_or,hdm]
  obtain ⟨res,q1,q2⟩ := hrc (p + 1) v hp1 hv
  rw [hr] at q2
  rw [q1,Option.bind_some]
  have hvn:valT d [] = none := by cases d <;> rfl
  rw [hvn] at q2
  have q3:res.1 = false := q2
  rw [q3,if_pos (by rfl)]
  exact ⟨_,rfl,rfl⟩
 | cons e r' =>
  have ht:((e :: r').take ([93]:List UInt8).length = [93]) = ((e.toNat:Int) = 93) := by
   apply propext
   have := u8n e 93 (by omega)
   simp only [List.length_cons,List.length_nil,List.take_succ_cons,List.take_zero,List.cons.injEq,and_true]
   exact this
  rw [listT_cons]
  simp only [ht]
  by_cases h93:(e.toNat:Int) = 93
  ·simp only [if_pos h93,Bool.not_true,Bool.false_eq_true,if_false]
   rw [put_eq _ _ _ _ hv]
   refine ⟨_,rfl,?_⟩
   have := rel_leaf s p 2 v (lastA 0) hv (by simp [shortA,lastA])
   exact this
  ·simp only [if_neg h93,Bool.not_false,if_true,bn,Bool.false_eq_true,if_false,Bool.and_true,Bool.false_or,hdm]
   obtain ⟨res,q1,q2⟩ := hrc (p + 1) v hp1 hv
   rw [hr] at q2
   rw [q1,Option.bind_some]
   cases hval:valT d (e :: r') with
   | none =>
    rw [hval] at q2
    have q3:res.1 = false := q2
    rw [q3,if_pos (by rfl)]
    exact ⟨_,rfl,rfl⟩
   | some xk =>
    obtain ⟨x,k⟩ := xk
    rw [hval] at q2
    obtain ⟨q3,q4⟩ := q2
    obtain ⟨z1,z2,z3⟩ := valT_size d _ _ _ hval
    simp only [List.length_cons] at z2 hlen
    by_cases hg:(∀ a ∈ flat x,shortA a) ∧ v.length + (flat x).length ≤ 1024
    ·have hres := q3 hg
     subst hres
     rw [if_neg (by simp)]
     have en:w64 ((0:Int) + 1) = ((1:Nat):Int) := w64_eq (by omega) (by omega)
     rw [en]
     obtain ⟨res2,y1,y2⟩ := more_rel hs hd hrc ((e :: r').length + 1) (p + 1 + k) 1 (v ++ flat x) (by simp only [List.length_cons]; omega) (by omega) (by omega) (by omega) (by rw [List.length_append]; exact hg.2)
     have hdk:s.drop (p + 1 + k) = (e :: r').drop k := by rw [← hr,List.drop_drop]
     rw [hdk] at y2
     refine ⟨res2,y1,?_⟩
     dsimp only
     cases hm:moreT (valT d) ((e :: r').length + 1) ((e :: r').drop k) with
     | none=>rw [hm] at y2; exact y2
     | some xm =>
      obtain ⟨xs,m⟩ := xm
      rw [hm] at y2
      obtain ⟨y3,y4⟩ := y2
      have hfl:flat (lstA (x :: xs)) = flat x ++ flats xs ++ [lastA (1 + xs.length)] := by
       simp only [lstA,flat,flats,List.length_cons,Nat.add_comm]
      refine ⟨fun ⟨g1,g2⟩=>?_,fun hx=>y4 fun ⟨g1,g2⟩=>hx ⟨fun a ha=>?_,?_⟩⟩
      ·rw [hfl] at g1 g2 ⊢
       simp only [List.length_append,List.length_cons,List.length_nil] at g2
       rw [y3 ⟨fun a ha=>g1 a (by simp only [List.mem_append]; exact .inl (.inr ha)),by rw [List.length_append]; omega⟩]
       simp only [List.append_assoc]
       rw [show p + 1 + k + m = p + (1 + k + m) by omega]
      ·rw [hfl] at ha
       simp only [List.mem_append,List.mem_singleton] at ha
       rcases ha with (ha | ha) | ha
       ·exact hg.1 a ha
       ·exact g1 a ha
       ·subst ha; simp [shortA,lastA]
      ·rw [List.length_append] at g2
       rw [hfl]
       simp only [List.length_append,List.length_cons,List.length_nil]; omega
    ·have q5 := q4 hg
     rw [q5,if_pos (by rfl)]
     refine ⟨_,rfl,?_⟩
     dsimp only
     cases hm:moreT (valT d) ((e :: r').length + 1) ((e :: r').drop k) with
     | none=>rfl
     | some xm =>
      obtain ⟨xs,m⟩ := xm
      have hfl:flat (lstA (x :: xs)) = flat x ++ flats xs ++ [lastA (1 + xs.length)] := by
       simp only [lstA,flat,flats,List.length_cons,Nat.add_comm]
      refine ⟨fun ⟨g1,g2⟩=>absurd ⟨fun a ha=>g1 a ?_,?_⟩ hg,fun _=>rfl⟩
      ·rw [hfl]; simp only [List.mem_append]; exact .inl (.inl ha)
      ·rw [hfl] at g2
       simp only [List.length_append,List.length_cons,List.length_nil] at g2; omega
end
theorem value_rel {s:List UInt8} (hs:s.length ≤ 65536):∀ (fu d:Nat),d < fu → d < 100 → ∀ (p:Nat) (v:List tAtom),p ≤ s.length → v.length ≤ 1024 →
  ∃ res,value_reader_value_n fu s (p:Int) v (d:Int) = some res ∧ rdRel s p v (valT d (s.drop p)) res
 | 0,d,h,_,p,v,hp,hv=>by omega
 | fu + 1,0,h,hd,p,v,hp,hv=>by
  refine ⟨(false,s,(p:Int),v),?_,rfl⟩
  unfold value_reader_value_n en_value_reader_value
  rw [show decide (((0:Nat):Int) = 0) = true from rfl,Bool.true_or,if_pos rfl]; rfl
 | fu + 1,d + 1,h,hd,p,v,hp,hv=>by
  unfold value_reader_value_n en_value_reader_value
  have b0:decide (((d + 1:Nat):Int) = 0) = false := decide_eq_false (by omega)
  rw [b0,Bool.false_or]
  cases hL:s.drop p with
  | nil =>
   have hpl:p = s.length := by
    have := congrArg List.length hL
    rw [List.length_drop,List.length_nil] at this; omega
   rw [decide_eq_true (show (s.length:Int) ≤ (p:Int) by omega),if_pos rfl]
   exact ⟨_,rfl,rfl⟩
  | cons c r =>
   obtain ⟨hc,hr,hlen⟩ := drop_cons (d := (0:UInt8)) hL
   have e1:w64 ((p:Int) + 1) = ((p + 1:Nat):Int) := w64_eq (by omega) (by omega)
   rw [decide_eq_false (show ¬ (s.length:Int) ≤ (p:Int) by omega),if_neg Bool.false_ne_true,G_any ⟨by omega,by omega⟩,Int.toNat_natCast,hc,e1]
   by_cases h34:(c.toNat:Int) = 34
   ·rw [if_pos (decide_eq_true h34),valT_cons,if_pos h34]
    obtain ⟨res,q1,q2⟩ := text_rel s hs p (by omega) v hv
    rw [hL] at q2
    rw [q1]
    exact ⟨res,rfl,q2⟩
   ·rw [if_neg (by simpa using h34)]
    by_cases h91:(c.toNat:Int) = 91
    ·rw [if_pos (decide_eq_true h91),valT_list d c r h34 h91]
     exact first_rel hs (by omega) (fun p v hp hv=>value_rel hs fu d (by omega) (by omega) p v hp hv) p v hp hv c r hL
    ·rw [if_neg (by simpa using h91),valT_cons,if_neg h34,if_neg h91]
     obtain ⟨res,q1,q2⟩ := number_rel s hs p (by omega) v hv
     rw [hL] at q2
     rw [q1]
     exact ⟨res,rfl,q2⟩
noncomputable def parseV (s:List UInt8):List tAtom × Int := if 65536 < s.length then ([],3) else match valT 32 s with
 | some (x,k)=>if k = s.length ∧ checkV (flat x) = 0 then (flat x,0) else ([],2)
 | none=>([],2)
theorem vParse_eq (s:List UInt8):value_Parse s = some (parseV s) := by
 unfold value_Parse parseV
 by_cases hl:65536 < s.length
 ·rw [if_pos (decide_eq_true (by omega)),if_pos hl]
 ·rw [if_neg (by rw [decide_eq_true_eq]; omega),if_neg hl]
  obtain ⟨res,q1,q2⟩ := value_rel (s := s) (by omega) 40 32 (by omega) (by omega) 0 [] (by omega) (by simp)
  rw [List.drop_zero] at q2
  have q1':value_reader_value ((s,(0:Int),(Value.slice none 0 0),()).1) ((s,(0:Int),(Value.slice none 0 0),()).2.1) ([]:List tAtom) (32:Int) = some res := q1
  rw [q1',Option.bind_some]
  cases hv:valT 32 s with
  | none =>
   rw [hv] at q2
   have q3:res.1 = false := q2
   rw [q3,if_pos (by rfl)]
  | some xk =>
   obtain ⟨x,k⟩ := xk
   rw [hv] at q2
   obtain ⟨q3,q4⟩ := q2
   dsimp only
   by_cases hc:checkV (flat x) = 0
   ·have hg := (valT_check hv).1 hc
    have hres := q3 ⟨hg.2,by simpa using hg.1⟩
    subst hres
    rw [Nat.zero_add]
    by_cases hk:k = s.length
    ·subst hk
     simp only [Bool.not_true,Bool.false_or,decide_true,Bool.false_eq_true,if_false,List.nil_append,hc,and_self,if_true]
    ·have bk:decide ((k:Int) = (s.length:Int)) = false := decide_eq_false (by omega)
     simp only [Bool.not_true,Bool.false_or,bk,Bool.not_false,if_true,hk,false_and,if_false]
   ·have hg:¬ ((∀ a ∈ flat x,shortA a) ∧ ([]:List tAtom).length + (flat x).length ≤ 1024) := fun ⟨h1,h2⟩=>hc ((valT_check hv).2 ⟨by simpa using h2,h1⟩)
    rw [q4 hg,if_pos (by rfl),if_neg (fun h=>hc h.2)]
end Go.Eng
