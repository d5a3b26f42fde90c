/- A part of the proof: Pq3. -/
import Derived.Test.YtnjcbogckfiamaaDoorPq1
import Derived.Test.YtnjcbogckfiamaaDoorPq2
namespace Go.Eng
set_option linter.unusedVariables false
set_option linter.unusedSimpArgs false
theorem qcut_take {α:Type} (l:List α) (i n:Nat):cut l i (i + n) = (l.drop i).take n := by
 simp [cut,List.drop_take]
theorem u8n (c:UInt8) (n:Nat) (hn:n < 256):(c = UInt8.ofNat n) ↔ ((c.toNat:Int) = n) := by
 constructor
 ·rintro rfl
  have:(UInt8.ofNat n).toNat = n := by simp [UInt8.toNat_ofNat,Nat.mod_eq_of_lt hn]
  rw [this]
 ·intro h
  have h2:c.toNat = n := by omega
  rw [← h2]; simp
abbrev RdS := Bool × (List UInt8) × Int × (List tAtom)
theorem put_eq (s:List UInt8) (p:Int) (v:List tAtom) (a:tAtom) (hv:v.length ≤ 1024):value_reader_put s p v a = some (decide (v.length + 1 ≤ 1024),s,p,v ++ [a]) := by
 unfold value_reader_put en_value_reader_put
 rw [G_any (by simp only [List.length_cons,List.length_nil]; omega)]
 obtain ⟨a1,a2,a3,a4,u⟩ := a
 cases u
 have:(decide ((((v ++ [(a1,a2,a3,a4,())]).length:Nat):Int) ≤ (1024:Int))) = decide (v.length + 1 ≤ 1024) := by
  apply decide_eq_decide.2
  simp only [List.length_append,List.length_cons,List.length_nil]; omega
 simp only [this]
theorem pre_eq (l t:List UInt8):strings_HasPrefix l t = some (decide (l.take t.length = t)) := by
 unfold strings_HasPrefix stringslite_HasPrefix
 rw [G_any (fun h=>⟨by omega,of_decide_eq_true h⟩)]
 simp only [Option.bind_some,Int.toNat_natCast,Option.some.injEq]
 by_cases h:l.take t.length = t
 ·have:(t.length:Int) ≤ (l.length:Int) := by
   have h2 := congrArg List.length h
   rw [List.length_take] at h2; omega
  rw [decide_eq_true this,Bool.true_and]
 ·rw [decide_eq_false h,Bool.and_false]
theorem has_eq (s:List UInt8) (p:Nat) (v:List tAtom) (t:List UInt8) (hp:p ≤ s.length) (hs:s.length ≤ 65536) (ht:t.length ≤ 2) :
  value_reader_has s (p:Int) v t = some (if (s.drop p).take t.length = t then (true,s,((p + t.length:Nat):Int),v) else (false,s,(p:Int),v)) := by
 unfold value_reader_has en_value_reader_has
 rw [G_any (by omega),Int.toNat_natCast,pre_eq,Option.bind_some,w64_eq (by omega) (by omega)]
 by_cases h:(s.drop p).take t.length = t
 ·simp only [h,decide_true,if_true,if_pos trivial]; rfl
 ·simp only [h,decide_false,Bool.false_eq_true,if_false]
theorem scan_loop (s:List UInt8) (hs:s.length ≤ 65536) (a:Int) (v:List tAtom):∀ (f p:Nat),s.length < p + f → p ≤ s.length →
  (match scanQ (s.drop p) with
  | some j=>iter st_value_reader_text (.l2 s a v (p:Int)) = iter st_value_reader_text (.l2 s a v ((p + j:Nat):Int)) ∧ p + j < s.length ∧ ((s.getD (p + j) 0).toNat:Int) = 34
  | none=>iter st_value_reader_text (.l2 s a v (p:Int)) = some (false,s,a,v))
 | 0,p,hf,hp=>by omega
 | f + 1,p,hf,hp=>by
  by_cases hlt:p < s.length
  ·obtain ⟨c,r,hL⟩ := drop_ex hlt
   obtain ⟨hc,hr,hlen⟩ := drop_cons (d := (0:UInt8)) hL
   have b0:decide ((p:Int) < (s.length:Int)) = true := decide_eq_true (by omega)
   have hG:0 ≤ (p:Int) ∧ (p:Int) < (s.length:Int) := ⟨by omega,by omega⟩
   have e1:w64 ((p:Int) + 1) = ((p + 1:Nat):Int) := w64_eq (by omega) (by omega)
   have e2:w64 (((p + 1:Nat):Int) + 1) = ((p + 2:Nat):Int) := w64_eq (by omega) (by omega)
   rw [hL]
   by_cases h34:(c.toNat:Int) = 34
   ·rw [show scanQ (c :: r) = some 0 by unfold scanQ; rw [if_pos h34]]
    exact ⟨rfl,hlt,by rw [Nat.add_zero,hc]; exact h34⟩
   ·have b34:decide ((c.toNat:Int) = 34) = false := decide_eq_false h34
    have hstep:iter st_value_reader_text (.l2 s a v (p:Int)) = (if (c.toNat:Int) = 92 then iter st_value_reader_text (.l2 s a v ((p + 2:Nat):Int)) else iter st_value_reader_text (.l2 s a v ((p + 1:Nat):Int))) := by
     rw [iter_eq']
     simp only [st_value_reader_text]
     unfold sg_value_reader_text_2
     rw [G_any (fun _=>hG),Int.toNat_natCast,hc,b0,b34,if_pos (by rfl),G_any hG,e1,e2]
     by_cases h92:(c.toNat:Int) = 92
     ·rw [if_pos (decide_eq_true h92),if_pos h92]; rfl
     ·rw [if_neg (by simpa using h92),if_neg h92]; rfl
    by_cases h92:(c.toNat:Int) = 92
    ·rw [if_pos h92] at hstep
     cases r with
     | nil =>
      simp only [List.length_nil] at hlen
      rw [show scanQ [c] = none by unfold scanQ; rw [if_neg h34,if_pos h92]]
      show _ = _
      rw [hstep,iter_eq']
      simp only [st_value_reader_text]
      unfold sg_value_reader_text_2
      have b1:decide (((p + 2:Nat):Int) < (s.length:Int)) = false := decide_eq_false (by omega)
      have b2:decide ((s.length:Int) ≤ ((p + 2:Nat):Int)) = true := decide_eq_true (by omega)
      rw [b1,b2,G_any (by rintro ⟨⟩)]; rfl
     | cons e r' =>
      simp only [List.length_cons] at hlen
      have hr2:s.drop (p + 2) = r' := by
       have := (drop_cons (d := (0:UInt8)) hr).2.1
       exact this
      have ih := scan_loop s hs a v f (p + 2) (by omega) (by omega)
      rw [hr2] at ih
      rw [show scanQ (c :: e :: r') = (scanQ r').map (· + 2) by rw [scanQ,if_neg h34,if_pos h92]]
      cases hq:scanQ r' with
      | none =>
       rw [hq] at ih
       show _ = _
       rw [hstep]; exact ih
      | some j =>
       rw [hq] at ih
       obtain ⟨i1,i2,i3⟩ := ih
       rw [Option.map_some]
       dsimp only
       refine ⟨?_,by omega,?_⟩
       ·rw [hstep,i1]; congr 2; omega
       ·rw [show p + (j + 2) = p + 2 + j by omega]; exact i3
    ·rw [if_neg h92] at hstep
     rw [show scanQ (c :: r) = (scanQ r).map (· + 1) by rw [scanQ.eq_def]; simp only [if_neg h34,if_neg h92]]
     have ih := scan_loop s hs a v f (p + 1) (by omega) (by omega)
     rw [hr] at ih
     cases hq:scanQ r with
     | none =>
      rw [hq] at ih
      show _ = _
      rw [hstep]; exact ih
     | some j =>
      rw [hq] at ih
      obtain ⟨i1,i2,i3⟩ := ih
      rw [Option.map_some]
      dsimp only
      refine ⟨?_,by omega,?_⟩
      ·rw [hstep,i1]; congr 2; omega
      ·rw [show p + (j + 1) = p + 1 + j by omega]; exact i3
  ·have hd:s.drop p = [] := List.drop_eq_nil_of_le (by omega)
   rw [hd]
   show _ = _
   rw [iter_eq']
   simp only [st_value_reader_text]
   unfold sg_value_reader_text_2
   have b1:decide ((p:Int) < (s.length:Int)) = false := decide_eq_false (by omega)
   have b2:decide ((s.length:Int) ≤ (p:Int)) = true := decide_eq_true (by omega)
   rw [b1,b2,G_any (by rintro ⟨⟩)]; rfl
def rdRel (s:List UInt8) (p:Nat) (v:List tAtom) (o:Option (Tr tAtom × Nat)) (res:RdS):Prop := match o with
 | some (x,k)=>((∀ a ∈ flat x,shortA a) ∧ v.length + (flat x).length ≤ 1024 → res = (true,s,((p + k:Nat):Int),v ++ flat x)) ∧ (¬ ((∀ a ∈ flat x,shortA a) ∧ v.length + (flat x).length ≤ 1024) → res.1 = false)
 | none=>res.1 = false
theorem rel_leaf (s:List UInt8) (p k:Nat) (v:List tAtom) (a:tAtom) (hv:v.length ≤ 1024) (h:shortA a):rdRel s p v (some (.node a [],k)) (decide (v.length + 1 ≤ 1024),s,((p + k:Nat):Int),v ++ [a]) := by
 have hf:flat (Tr.node a []) = [a] := rfl
 refine ⟨fun ⟨h1,h2⟩=>?_,fun hn=>?_⟩
 ·rw [hf] at h2 ⊢
  simp only [List.length_cons,List.length_nil] at h2
  rw [decide_eq_true (by omega)]
 ·rw [hf] at hn
  refine decide_eq_false fun h2=>hn ⟨fun b hb=>?_,by simpa using h2⟩
  simp only [List.mem_singleton] at hb
  subst hb; exact h
theorem text_rel (s:List UInt8) (hs:s.length ≤ 65536) (p:Nat) (hp:p < s.length) (v:List tAtom) (hv:v.length ≤ 1024):∃ res,value_reader_text s (p:Int) v = some res ∧ rdRel s p v (txtV (s.drop p)) res := by
 unfold value_reader_text en_value_reader_text
 have e1:w64 ((p:Int) + 1) = ((p + 1:Nat):Int) := w64_eq (by omega) (by omega)
 rw [e1]
 show ∃ res,iter _ _ = some res ∧ _
 have hsc := scan_loop s hs (p:Int) v (s.length + 1) (p + 1) (by omega) (by omega)
 unfold txtV
 have ht:(s.drop p).tail = s.drop (p + 1) := by rw [List.tail_drop]
 rw [ht]
 cases hq:scanQ (s.drop (p + 1)) with
 | none =>
  rw [hq] at hsc
  exact ⟨_,hsc,rfl⟩
 | some j =>
  rw [hq] at hsc
  obtain ⟨i1,i2,i3⟩ := hsc
  have b0:decide (((p + 1 + j:Nat):Int) < (s.length:Int)) = true := decide_eq_true (by omega)
  have b1:decide ((s.length:Int) ≤ ((p + 1 + j:Nat):Int)) = false := decide_eq_false (by omega)
  have b34:decide (((s.getD (p + 1 + j) 0).toNat:Int) = 34) = true := decide_eq_true i3
  have e2:w64 (((p + 1 + j:Nat):Int) + 1) = ((p + (j + 2):Nat):Int) := by rw [w64_eq (by omega) (by omega)]; omega
  have hcut:cut s p (p + (j + 2)) = (s.drop p).take (j + 2) := qcut_take s p (j + 2)
  rw [i1,iter_eq']
  simp only [st_value_reader_text]
  unfold sg_value_reader_text_2
  rw [G_any (fun _=>⟨by omega,by omega⟩),Int.toNat_natCast,b0,b34,if_neg (by simp),b1,if_neg (by simp),e2,G_any ⟨by omega,by omega,by omega⟩,Int.toNat_natCast,Int.toNat_natCast,hcut,
   Unquote_eq _ (by rw [List.length_take]; omega),Option.bind_some]
  cases hu:unqS ((s.drop p).take (j + 2)) with
  | mk t ok =>
   dsimp only
   cases ok with
   | false=>exact ⟨_,rfl,rfl⟩
   | true =>
    by_cases hl:t.length ≤ 4096
    ·have bl:decide ((t.length:Int) ≤ (4096:Int)) = true := decide_eq_true (by omega)
     rw [bl,if_pos (by rfl),put_eq _ _ _ _ hv]
     refine ⟨_,rfl,?_⟩
     simp only [if_true,Bool.true_and]
     exact rel_leaf s p (j + 2) v (2,0,0,t,()) hv hl
    ·have bl:decide ((t.length:Int) ≤ (4096:Int)) = false := decide_eq_false (by omega)
     rw [bl,if_neg (by simp)]
     refine ⟨_,rfl,?_⟩
     simp only [if_true]
     exact ⟨fun ⟨h1,_⟩=>absurd (h1 (2,0,0,t,()) (by simp only [txtA,flat,flats,List.nil_append,List.mem_singleton])) hl,fun _=>rfl⟩
def finN (neg:Bool) (t:Int × Bool) (s:List UInt8) (q:Nat) (v:List tAtom):RdS :=
 if t.2 = true ∧ (neg = true → 0 < t.1) then (decide (v.length + 1 ≤ 1024),s,(q:Int),v ++ [(1,0,if neg = true then -t.1 else t.1,[],())]) else (false,s,(q:Int),v)
theorem isD_split (c:UInt8):(decide (48 ≤ (c.toNat:Int)) && decide ((c.toNat:Int) ≤ 57)) = isD c := rfl
theorem digs_loop (s:List UInt8) (hs:s.length ≤ 65536) (v:List tAtom) (hv:v.length ≤ 1024) (neg:Bool) (b:Nat):∀ (d p:Nat),p + d = s.length → b ≤ p →
  iter st_value_reader_number (.l3 s (p:Int) v neg (b:Int)) = some (finN neg (numS (cut s b (p + (cutD (s.drop p)).length))) s (p + (cutD (s.drop p)).length) v) := by
 have last:∀ p:Nat,p ≤ s.length → b ≤ p → cutD (s.drop p) = [] → iter st_value_reader_number (.l3 s (p:Int) v neg (b:Int)) = some (finN neg (numS (cut s b p)) s p v) := by
  intro p hp hb h0
  rw [iter_eq']
  simp only [st_value_reader_number]
  unfold sg_value_reader_number_3
  have hcl:(cut s b p).length ≤ s.length := by rw [cut]; simp; omega
  have hn := numS_bd (cut s b p)
  have hdec:((decide ((p:Int) < (s.length:Int)) && decide (48 ≤ ((s.getD p 0).toNat:Int))) && decide (((s.getD p 0).toNat:Int) ≤ 57)) = false := by
   by_cases hlt:p < s.length
   ·obtain ⟨c,r,hL⟩ := drop_ex hlt
    obtain ⟨hc,hr,hlen⟩ := drop_cons (d := (0:UInt8)) hL
    rw [hc,Bool.and_assoc,isD_split]
    rw [hL] at h0
    have:isD c = false := by
     cases hd:isD c with
     | false=>rfl
     | true=>simp [cutD,hd] at h0
    rw [this,Bool.and_false]
   ·rw [decide_eq_false (by omega)]; rfl
  rw [G_any (fun h=>⟨by omega,of_decide_eq_true h⟩),G_any (fun h=>⟨by omega,of_decide_eq_true (Bool.and_eq_true_iff.1 h).1⟩),Int.toNat_natCast,hdec,if_neg Bool.false_ne_true,G_any ⟨by omega,by omega,by omega⟩,
   Int.toNat_natCast,lex_Number_eq _ (by omega),Option.bind_some,w64_eq (by omega) (by omega),put_eq _ _ _ _ hv,put_eq _ _ _ _ hv]
  unfold finN
  generalize numS (cut s b p) = t at hn
  obtain ⟨n,ok⟩ := t
  cases neg with
  | true =>
   rw [if_pos rfl]
   cases ok with
   | false=>rfl
   | true =>
    by_cases h:0 < n
    ·have bh:decide (0 < n) = true := decide_eq_true h
     simp only [bh,Bool.true_and,if_true,Option.bind_some,h,and_true,true_implies,true_and,Int.zero_sub]
     rfl
    ·have bh:decide (0 < n) = false := decide_eq_false h
     simp only [bh,Bool.true_and,Bool.false_eq_true,if_false,h,true_implies,and_false]
     rfl
  | false =>
   rw [if_neg Bool.false_ne_true]
   cases ok with
   | false=>rfl
   | true=>rfl
 intro d
 induction d with
 | zero =>
  intro p hp hb
  have h0:cutD (s.drop p) = [] := by rw [List.drop_eq_nil_of_le (by omega)]; rfl
  rw [h0,List.length_nil,Nat.add_zero]
  exact last p (by omega) hb h0
 | succ d ih =>
  intro p hp hb
  obtain ⟨c,r,hL⟩ := drop_ex (show p < s.length by omega)
  obtain ⟨hc,hr,hlen⟩ := drop_cons (d := (0:UInt8)) hL
  cases hd:isD c with
  | false =>
   have h0:cutD (s.drop p) = [] := by rw [hL]; simp [cutD,hd]
   rw [h0,List.length_nil,Nat.add_zero]
   exact last p (by omega) hb h0
  | true =>
   have h1:cutD (s.drop p) = c :: cutD (s.drop (p + 1)) := by rw [hL,hr]; simp [cutD,hd]
   rw [iter_eq']
   simp only [st_value_reader_number]
   unfold sg_value_reader_number_3
   have b0:decide ((p:Int) < (s.length:Int)) = true := decide_eq_true (by omega)
   have e1:w64 ((p:Int) + 1) = ((p + 1:Nat):Int) := w64_eq (by omega) (by omega)
   rw [G_any (fun h=>⟨by omega,of_decide_eq_true h⟩),G_any (fun h=>⟨by omega,of_decide_eq_true (Bool.and_eq_true_iff.1 h).1⟩),Int.toNat_natCast,hc,b0,Bool.and_assoc,isD_split,hd,if_pos (by rfl),e1]
   show iter _ _ = _
   rw [ih (p + 1) (by omega) (by omega),h1,List.length_cons,show p + ((cutD (s.drop (p + 1))).length + 1) = p + 1 + (cutD (s.drop (p + 1))).length by omega]
theorem fin_rel (s:List UInt8) (p k:Nat) (neg:Bool) (t:Int × Bool) (v:List tAtom) (hv:v.length ≤ 1024) :
  rdRel s p v (if t.2 = true ∧ (neg = true → 0 < t.1) then some (numA (if neg = true then -t.1 else t.1),k) else none) (finN neg t s (p + k) v) := by
 unfold finN
 by_cases h:t.2 = true ∧ (neg = true → 0 < t.1)
 ·rw [if_pos h,if_pos h]
  exact rel_leaf s p k v _ hv (by simp [shortA])
 ·rw [if_neg h,if_neg h]; rfl
theorem number_rel (s:List UInt8) (hs:s.length ≤ 65536) (p:Nat) (hp:p < s.length) (v:List tAtom) (hv:v.length ≤ 1024):∃ res,value_reader_number s (p:Int) v = some res ∧ rdRel s p v (numV (s.drop p)) res := by
 obtain ⟨c,r,hL⟩ := drop_ex hp
 obtain ⟨hc,hr,hlen⟩ := drop_cons (d := (0:UInt8)) hL
 unfold value_reader_number en_value_reader_number
 rw [has_eq s p v [45] (by omega) hs (by simp),hL]
 have ht:((c :: r).take ([45]:List UInt8).length = [45]) = ((c.toNat:Int) = 45) := by
  apply propext
  have := u8n c 45 (by omega)
  simp only [List.length_cons,List.length_nil,List.take_succ_cons,List.take_zero,List.cons.injEq,and_true]
  exact this
 simp only [ht,numV]
 by_cases h45:(c.toNat:Int) = 45
 ·simp only [if_pos h45,Option.bind_some,List.length_cons,List.length_nil]
  show ∃ res,iter _ _ = some res ∧ _
  rw [digs_loop s hs v hv true (p + 1) (s.length - (p + 1)) (p + 1) (by omega) (by omega),hr,qcut_take,hr,← cutD_take]
  refine ⟨_,rfl,?_⟩
  have := fin_rel s p ((cutD r).length + 1) true (numS (cutD r)) v hv
  simp only [if_true,true_implies] at this
  rw [show p + 1 + (cutD r).length = p + ((cutD r).length + 1) by omega]
  exact this
 ·simp only [if_neg h45,Option.bind_some]
  show ∃ res,iter _ _ = some res ∧ _
  rw [digs_loop s hs v hv false p (s.length - p) p (by omega) (by omega),qcut_take,hL,← cutD_take]
  refine ⟨_,rfl,?_⟩
  have := fin_rel s p (cutD (c :: r)).length false (numS (cutD (c :: r))) v hv
  simp only [Bool.false_eq_true,if_false,false_implies,and_true] at this
  exact this
end Go.Eng
