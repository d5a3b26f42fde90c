/- A part of the proof: Pq0. -/
import Derived.Test.YtnjcbogckfiamaaDoorPw
namespace Go.Eng
set_option linter.unusedVariables false
set_option linter.unusedSimpArgs false
def hexD:List UInt8 := [48,49,50,51,52,53,54,55,56,57,97,98,99,100,101,102]
def hexX (a b:Int):UInt8 := (IntKind.wrap .u8 ((w64 ((BitVec.ofInt IntKind.i64.bits (w64 (a * 2 ^ (min ((4:Int)).toNat IntKind.i64.bits))) ||| BitVec.ofInt IntKind.i64.bits b).toNat)))).toNat.toUInt8
def hexS (p q:UInt8):UInt8 × Int :=
 if Lib.indexByte hexD p < 0 ∨ Lib.indexByte hexD q < 0 ∨ ((hexX (Lib.indexByte hexD p) (Lib.indexByte hexD q)).toNat:Int) = 10 ∨ (32 ≤ ((hexX (Lib.indexByte hexD p) (Lib.indexByte hexD q)).toNat:Int) ∧ ((hexX (Lib.indexByte hexD p) (Lib.indexByte hexD q)).toNat:Int) ≤ 126) then (0,0) else (hexX (Lib.indexByte hexD p) (Lib.indexByte hexD q),4)
def escX:List UInt8 → UInt8 × Int
 | p :: q :: _=>hexS p q
 | _=>(0,0)
def escS:List UInt8 → UInt8 × Int
 | []=>(0,0)
 | d :: r=>if (d.toNat:Int) = 34 ∨ (d.toNat:Int) = 92 then (d,2) else if (d.toNat:Int) = 110 then (10,2) else if (d.toNat:Int) = 120 then escX r else (0,0)
theorem hex_eq (c:UInt8):strings_IndexByte [48,49,50,51,52,53,54,55,56,57,97,98,99,100,101,102] c = some (Lib.indexByte hexD c) := rfl
theorem escaped_eq (s:List UInt8) (hs:s.length < 4611686018427387904) (i:Nat) (hi:i < s.length):lex_escaped s (i:Int) = some (escS (s.drop (i + 1))) := by
 unfold lex_escaped
 have e6:w64 ((i:Int) + 1) = ((i + 1:Nat):Int) := w64_eq (by omega) (by omega)
 have hG:0 ≤ ((i + 1:Nat):Int) ∧ ((i + 1:Nat):Int) ≤ (s.length:Int) := ⟨by omega,by omega⟩
 simp only [e6,G_pos hG,Int.toNat_natCast]
 generalize s.drop (i + 1) = t
 cases t with
 | nil=>simp [escS]
 | cons d r =>
  have hG0:0 ≤ (0:Int) ∧ (0:Int) < ((d :: r).length:Int) := ⟨by omega,by simp only [List.length_cons]; omega⟩
  have h0:((d :: r).getD (0:Int).toNat 0) = d := rfl
  simp only [G_pos hG0,h0,decide_eq_true_eq,escS,List.cons_ne_nil,if_false]
  have hx:(if ((d :: r).length:Int) < 3 then (some (0,0):Option (UInt8 × Int)) else
    G (0 ≤ (1:Int) ∧ (1:Int) < ((d :: r).length:Int)) <|
    (strings_IndexByte ([48,49,50,51,52,53,54,55,56,57,97,98,99,100,101,102]:List UInt8) ((d :: r).getD (1:Int).toNat 0)).bind fun t32 =>
    G (0 ≤ (2:Int) ∧ (2:Int) < ((d :: r).length:Int)) <|
    (strings_IndexByte ([48,49,50,51,52,53,54,55,56,57,97,98,99,100,101,102]:List UInt8) ((d :: r).getD (2:Int).toNat 0)).bind fun t35 =>
    if ((((decide (t32 < (0:Int))) || (decide (t35 < (0:Int)))) || (decide (((hexX t32 t35).toNat:Int) = 10))) || ((decide (32 ≤ ((hexX t32 t35).toNat:Int))) && (decide (((hexX t32 t35).toNat:Int) ≤ 126)))) = true then some ((0:UInt8),(0:Int)) else some (hexX t32 t35,(4:Int)))
    = some (escX r) := by
   cases r with
   | nil=>rfl
   | cons p r =>
    cases r with
    | nil=>rfl
    | cons q r =>
     have h3:¬ ((d :: p :: q :: r).length:Int) < 3 := by simp only [List.length_cons]; omega
     have hG1:0 ≤ (1:Int) ∧ (1:Int) < ((d :: p :: q :: r).length:Int) := ⟨by omega,by simp only [List.length_cons]; omega⟩
     have hG2:0 ≤ (2:Int) ∧ (2:Int) < ((d :: p :: q :: r).length:Int) := ⟨by omega,by simp only [List.length_cons]; omega⟩
     rw [if_neg h3,G_pos hG1,hex_eq,Option.bind_some,G_pos hG2,hex_eq,Option.bind_some]
     show _ = some (hexS p q)
     have e1:((d :: p :: q :: r).getD (1:Int).toNat 0) = p := rfl
     have e2:((d :: p :: q :: r).getD (2:Int).toNat 0) = q := rfl
     rw [e1,e2]
     unfold hexS
     simp only [Bool.or_eq_true,Bool.and_eq_true,decide_eq_true_eq,or_assoc]
     split <;> rfl
  by_cases h34:(d.toNat:Int) = 34
  ·rw [if_pos h34,if_pos h34,if_pos (.inl h34)]
  ·rw [if_neg h34]
   by_cases h92:(d.toNat:Int) = 92
   ·rw [if_pos h92,if_pos (.inr h92)]
   ·rw [if_neg h92,if_neg (show ¬ ((d.toNat:Int) = 34 ∨ (d.toNat:Int) = 92) from fun h=>h.elim h34 h92)]
    by_cases h110:(d.toNat:Int) = 110
    ·rw [if_pos h110,if_pos h110]
    ·rw [if_neg h110,if_neg h110]
     by_cases h120:(d.toNat:Int) = 120
     ·rw [if_pos h120,if_pos h120]
      simp only [hexX] at hx
      exact hx
     ·rw [if_neg h120,if_neg h120]
theorem escS_k:∀ (r:List UInt8),(escS r).2 = 0 ∨ ((escS r).2 = 2 ∧ 1 ≤ r.length) ∨ ((escS r).2 = 4 ∧ 3 ≤ r.length)
 | []=>.inl rfl
 | d :: r=>by
  simp only [escS]
  split
  ·exact .inr (.inl ⟨rfl,by simp⟩)
  ·split
   ·exact .inr (.inl ⟨rfl,by simp⟩)
   ·split
    ·cases r with
     | nil=>exact .inl rfl
     | cons p r =>
      cases r with
      | nil=>exact .inl rfl
      | cons q r =>
       rw [show escX (p :: q :: r) = hexS p q from rfl]
       unfold hexS
       split
       ·exact .inl rfl
       ·exact .inr (.inr ⟨rfl,by simp⟩)
    ·exact .inl rfl
def quoteF:Nat → List UInt8 → Option (List UInt8 × Nat)
 | 0,_=>none
 | _ + 1,[]=>none
 | f + 1,c :: r=>if (c.toNat:Int) = 34 then some ([],1) else if (c.toNat:Int) = 92 then (if (escS r).2 = 0 then none else (quoteF f (r.drop ((escS r).2.toNat - 1))).map fun p=>((escS r).1 :: p.1,p.2 + (escS r).2.toNat)) else if (c.toNat:Int) < 32 ∨ 126 < (c.toNat:Int) then none else (quoteF f r).map fun p=>(c :: p.1,p.2 + 1)
def quoteR (out:List UInt8) (i:Nat):Option (List UInt8 × Nat) → List UInt8 × Int × Bool
 | some (t,n)=>(out ++ t,((i + n:Nat):Int),true)
 | none=>([],0,false)
theorem quoted_loop (s:List UInt8) (hs:s.length < 100000000000):∀ (f i:Nat) (out:List UInt8),s.length < i + f → i ≤ s.length → out.length ≤ i →
  iter st_lex_quoted (.l5 s (i:Int) out) = some (quoteR out i (quoteF f (s.drop i)))
 | 0,i,out,hf,hi,ho=>by omega
 | f + 1,i,out,hf,hi,ho=>by
  rw [iter_eq']
  by_cases hlt:i < s.length
  ·obtain ⟨c,r,hL⟩ := drop_ex hlt
   obtain ⟨hc,hr,hlen⟩ := drop_cons (d := (0:UInt8)) hL
   have hlt':(i:Int) < (s.length:Int) := by omega
   have hG:0 ≤ (i:Int) ∧ (i:Int) < (s.length:Int) := ⟨by omega,hlt'⟩
   have e6:w64 ((i:Int) + 1) = ((i + 1:Nat):Int) := w64_eq (by omega) (by omega)
   simp only [st_lex_quoted,sg_lex_quoted_5,hlt',decide_true,if_true,G_pos hG,Int.toNat_natCast,hc,e6,decide_eq_true_eq,escaped_eq s (by omega) i hlt,hr,Option.bind_some]
   rw [hL]
   simp only [quoteF]
   by_cases h34:(c.toNat:Int) = 34
   ·rw [if_pos h34,if_pos h34]; simp only [quoteR,List.append_nil]; rfl
   ·rw [if_neg h34,if_neg h34]
    by_cases h92:(c.toNat:Int) = 92
    ·rw [if_pos h92,if_pos h92]
     by_cases he:(escS r).2 = 0
     ·rw [if_pos he,if_pos he]; rfl
     ·rw [if_neg he,if_neg he]
      have hk:∃ k:Nat,(escS r).2 = (k:Int) ∧ 2 ≤ k ∧ i + k ≤ s.length := by
       rcases escS_k r with h | ⟨h,h2⟩ | ⟨h,h2⟩
       ·exact absurd h he
       ·exact ⟨2,h,by omega,by omega⟩
       ·exact ⟨4,h,by omega,by omega⟩
      obtain ⟨k,hk1,hk2,hk3⟩ := hk
      rw [G_pos (show (out.length + ([(escS r).1]:List UInt8).length) * 1 ≤ 140737488355328 from by simp only [List.length_cons,List.length_nil]; omega),hk1,w64_eq (by omega) (by omega),show (i:Int) + (k:Int) = ((i + k:Nat):Int) by omega]
      show iter _ _ = _
      rw [quoted_loop s hs f (i + k) _ (by omega) (by omega) (by simp only [List.length_append,List.length_cons,List.length_nil]; omega)]
      have hdr:s.drop (i + k) = r.drop (k - 1) := by
       rw [← hr,List.drop_drop]; congr 1; omega
      rw [hdr,Int.toNat_natCast]
      cases quoteF f (r.drop (k - 1)) with
      | none=>rfl
      | some p=>simp only [quoteR,Option.map_some,List.append_assoc,List.cons_append,List.nil_append,Option.some.injEq,Prod.mk.injEq,true_and,and_true]; omega
    ·rw [if_neg h92,if_neg h92]
     by_cases hp:(c.toNat:Int) < 32 ∨ 126 < (c.toNat:Int)
     ·rw [if_pos (by simpa using hp),if_pos hp]; rfl
     ·rw [if_neg (by simpa using hp),if_neg hp,G_pos (show (out.length + ([c]:List UInt8).length) * 1 ≤ 140737488355328 from by simp only [List.length_cons,List.length_nil]; omega)]
      show iter _ _ = _
      rw [quoted_loop s hs f (i + 1) _ (by omega) (by omega) (by simp only [List.length_append,List.length_cons,List.length_nil]; omega),hr]
      cases quoteF f r with
      | none=>rfl
      | some p=>simp only [quoteR,Option.map_some,List.append_assoc,List.cons_append,List.nil_append,Option.some.injEq,Prod.mk.injEq,true_and,and_true]; omega
  ·have hd:s.drop i = [] := List.drop_eq_nil_of_le (by omega)
   have h1:¬ (i:Int) < (s.length:Int) := by omega
   simp only [st_lex_quoted,sg_lex_quoted_5,h1,decide_false,Bool.false_eq_true,if_false,hd,quoteF]; rfl
theorem quoted_eq (s:List UInt8) (hs:s.length < 100000000000) (i:Nat) (hi:i < s.length) (c:UInt8) (r:List UInt8) (hL:s.drop i = c :: r) (h34:(c.toNat:Int) = 34):lex_quoted s (i:Int) = some (quoteR [] (i + 1) (quoteF (r.length + 1) r)) := by
 obtain ⟨hc,hr,hlen⟩ := drop_cons (d := (0:UInt8)) hL
 unfold lex_quoted en_lex_quoted
 have h1:¬ (s.length:Int) ≤ (i:Int) := by omega
 have hG:0 ≤ (i:Int) ∧ (i:Int) < (s.length:Int) := ⟨by omega,by omega⟩
 have e6:w64 ((i:Int) + 1) = ((i + 1:Nat):Int) := w64_eq (by omega) (by omega)
 simp only [h1,decide_false,Bool.not_false,Int.toNat_natCast,hc,h34,decide_true,Bool.not_true,Bool.or_self,Bool.false_eq_true,if_false,e6]
 rw [G_pos (fun _=>hG)]
 show iter _ _ = _
 rw [quoted_loop s hs (r.length + 1) (i + 1) [] (by omega) (by omega) (by simp),hr]
def hexHi (c:UInt8):UInt8 := hexD.getD (((Int.fdiv (c.toNat:Int) (2 ^ (min ((4:Int)).toNat IntKind.u8.bits)))).toNat.toUInt8).toNat 0
def hexLo (c:UInt8):UInt8 := hexD.getD (((IntKind.wrap .u8 ((BitVec.ofInt IntKind.u8.bits (c.toNat:Int) &&& BitVec.ofInt IntKind.u8.bits 15).toNat))).toNat.toUInt8).toNat 0
def quoteW (c:UInt8):List UInt8 := if (c.toNat:Int) = 34 ∨ (c.toNat:Int) = 92 then [92,c] else if (c.toNat:Int) = 10 then [92,110] else if (c.toNat:Int) < 32 ∨ 126 < (c.toNat:Int) then [92,120,hexHi c,hexLo c] else [c]
theorem quoteW_len (c:UInt8):(quoteW c).length ≤ 4 := by
 unfold quoteW
 split
 ·simp
 ·split
  ·simp
  ·split <;> simp
theorem all_u8 {p:UInt8 → Prop} (h:∀ n:Fin 256,p (UInt8.ofNat n.1)) (c:UInt8):p c := by
 have := h ⟨c.toNat,c.toNat_lt⟩
 simpa using this
theorem hexHi_in (c:UInt8):0 ≤ ((((Int.fdiv (c.toNat:Int) (2 ^ (min ((4:Int)).toNat IntKind.u8.bits)))).toNat.toUInt8).toNat:Int) ∧ ((((Int.fdiv (c.toNat:Int) (2 ^ (min ((4:Int)).toNat IntKind.u8.bits)))).toNat.toUInt8).toNat:Int) < 16 :=
 all_u8 (p := fun c=>0 ≤ ((((Int.fdiv (c.toNat:Int) (2 ^ (min ((4:Int)).toNat IntKind.u8.bits)))).toNat.toUInt8).toNat:Int) ∧ ((((Int.fdiv (c.toNat:Int) (2 ^ (min ((4:Int)).toNat IntKind.u8.bits)))).toNat.toUInt8).toNat:Int) < 16) (by decide +kernel) c
theorem hexLo_in (c:UInt8):0 ≤ ((((IntKind.wrap .u8 ((BitVec.ofInt IntKind.u8.bits (c.toNat:Int) &&& BitVec.ofInt IntKind.u8.bits 15).toNat))).toNat.toUInt8).toNat:Int) ∧ ((((IntKind.wrap .u8 ((BitVec.ofInt IntKind.u8.bits (c.toNat:Int) &&& BitVec.ofInt IntKind.u8.bits 15).toNat))).toNat.toUInt8).toNat:Int) < 16 :=
 all_u8 (p := fun c=>0 ≤ ((((IntKind.wrap .u8 ((BitVec.ofInt IntKind.u8.bits (c.toNat:Int) &&& BitVec.ofInt IntKind.u8.bits 15).toNat))).toNat.toUInt8).toNat:Int) ∧ ((((IntKind.wrap .u8 ((BitVec.ofInt IntKind.u8.bits (c.toNat:Int) &&& BitVec.ofInt IntKind.u8.bits 15).toNat))).toNat.toUInt8).toNat:Int) < 16) (by decide +kernel) c
theorem Quote_loop (s:List UInt8) (hs:s.length ≤ 10000000000000):∀ (d i:Nat) (out:List UInt8),i + d = s.length → out.length ≤ 4 * i + 1 → iter st_lex_Quote (.l4 s out (s.length:Int) (i:Int)) = some (out ++ (s.drop i).flatMap quoteW ++ [34])
 | 0,i,out,hi,ho=>by
  rw [iter_eq']
  have hd:s.drop i = [] := List.drop_eq_nil_of_le (by omega)
  have:¬ (i:Int) < (s.length:Int) := by omega
  simp only [st_lex_Quote,sg_lex_Quote_4,this,decide_false,Bool.false_eq_true,if_false,hd,List.flatMap_nil,List.append_nil]
  rw [G_pos (show (out.length + ([(34:UInt8)]:List UInt8).length) * 1 ≤ 140737488355328 from by simp only [List.length_cons,List.length_nil]; omega)]; rfl
 | d + 1,i,out,hi,ho=>by
  rw [iter_eq']
  obtain ⟨c,r,hL⟩ := drop_ex (show i < s.length by omega)
  obtain ⟨hc,hr,hlen⟩ := drop_cons (d := (0:UInt8)) hL
  have hlt:(i:Int) < (s.length:Int) := by omega
  have hG:0 ≤ (i:Int) ∧ (i:Int) < (s.length:Int) := ⟨by omega,hlt⟩
  have e6:w64 ((i:Int) + 1) = ((i + 1:Nat):Int) := w64_eq (by omega) (by omega)
  have h16:(([48,49,50,51,52,53,54,55,56,57,97,98,99,100,101,102]:List UInt8).length:Int) = 16 := rfl
  simp only [st_lex_Quote,sg_lex_Quote_4,hlt,decide_true,if_true,G_pos hG,Int.toNat_natCast,hc,e6,Bool.or_eq_true,decide_eq_true_eq]
  rw [hL,List.flatMap_cons]
  have hq := quoteW_len c
  have fin:∀ w:List UInt8,w = quoteW c → iter st_lex_Quote (.l4 s (out ++ w) (s.length:Int) ((i + 1:Nat):Int)) = some (out ++ (quoteW c ++ r.flatMap quoteW) ++ [34]) := by
   intro w hw
   subst hw
   rw [Quote_loop s hs d (i + 1) _ (by omega) (by rw [List.length_append]; omega),hr]
   simp only [List.append_assoc]
  by_cases h1:(c.toNat:Int) = 34 ∨ (c.toNat:Int) = 92
  ·rw [if_pos h1,G_pos (show (out.length + ([(92:UInt8),c]:List UInt8).length) * 1 ≤ 140737488355328 from by simp only [List.length_cons,List.length_nil]; omega)]
   exact fin _ (by unfold quoteW; rw [if_pos h1])
  ·rw [if_neg h1]
   by_cases h2:(c.toNat:Int) = 10
   ·rw [if_pos h2,G_pos (show (out.length + ([(92:UInt8),(110:UInt8)]:List UInt8).length) * 1 ≤ 140737488355328 from by simp only [List.length_cons,List.length_nil]; omega)]
    exact fin _ (by unfold quoteW; rw [if_neg h1,if_pos h2])
   ·rw [if_neg h2]
    by_cases h3:(c.toNat:Int) < 32 ∨ 126 < (c.toNat:Int)
    ·rw [if_pos h3,h16,G_pos (hexHi_in c),G_pos (hexLo_in c)]
     show runL st_lex_Quote (G ((out.length + ([92,120,hexHi c,hexLo c]:List UInt8).length) * 1 ≤ 140737488355328) (some (.inl (.l4 s (out ++ [92,120,hexHi c,hexLo c]) (s.length:Int) ((i + 1:Nat):Int))))) = _
     rw [G_pos (show (out.length + ([92,120,hexHi c,hexLo c]:List UInt8).length) * 1 ≤ 140737488355328 from by simp only [List.length_cons,List.length_nil]; omega)]
     exact fin _ (by unfold quoteW; rw [if_neg h1,if_neg h2,if_pos h3])
    ·rw [if_neg h3,G_pos (show (out.length + ([c]:List UInt8).length) * 1 ≤ 140737488355328 from by simp only [List.length_cons,List.length_nil]; omega)]
     exact fin _ (by unfold quoteW; rw [if_neg h1,if_neg h2,if_neg h3])
def quoteT (s:List UInt8):List UInt8 := [34] ++ s.flatMap quoteW ++ [34]
theorem Quote_eq (s:List UInt8) (hs:s.length ≤ 10000000000000):lex_Quote s = some (quoteT s) := by
 unfold lex_Quote en_lex_Quote
 have e2:w64 ((s.length:Int) + 2) = (s.length:Int) + 2 := w64_eq (by omega) (by omega)
 rw [e2,G_pos (show 0 ≤ (0:Int) ∧ (0:Int) ≤ (s.length:Int) + 2 ∧ (1:Int) * ((s.length:Int) + 2) ≤ 281474976710656 by omega),G_pos (show ((List.replicate (0:Int).toNat (0:UInt8)).length + ([(34:UInt8)]:List UInt8).length) * 1 ≤ 140737488355328 from by decide)]
 show iter _ _ = _
 have := Quote_loop s hs s.length 0 [34] (by omega) (by simp)
 rw [List.drop_zero] at this
 exact this
def unqS:List UInt8 → List UInt8 × Bool
 | []=>([],false)
 | c :: r=>if (c.toNat:Int) = 34 then (match quoteF (r.length + 1) r with
  | some (t,n)=>if n = r.length then (t,true) else ([],false)
  | none=>([],false)) else ([],false)
theorem Unquote_eq (s:List UInt8) (hs:s.length < 100000000000):lex_Unquote s = some (unqS s) := by
 unfold lex_Unquote
 cases s with
 | nil=>rfl
 | cons c r =>
  simp only [unqS]
  by_cases h34:(c.toNat:Int) = 34
  ·have hq := quoted_eq (c :: r) hs 0 (by simp) c r rfl h34
   rw [show ((0:Nat):Int) = 0 from rfl] at hq
   rw [hq,if_pos h34]
   cases quoteF (r.length + 1) r with
   | none=>rfl
   | some p =>
    obtain ⟨t,n⟩ := p
    simp only [quoteR,Option.bind_some,Bool.not_true,Bool.false_or,List.nil_append]
    have:(((0 + 1 + n:Nat):Int) = ((c :: r).length:Int)) = (n = r.length) := by apply propext; simp only [List.length_cons]; omega
    simp only [this,Bool.not_eq_true',decide_eq_false_iff_not]
    by_cases hn:n = r.length
    ·rw [if_neg (by simpa using hn),if_pos hn]
    ·rw [if_pos hn,if_neg hn]
  ·rw [if_neg h34]
   unfold lex_quoted en_lex_quoted
   have h1:¬ ((c :: r).length:Int) ≤ 0 := by simp only [List.length_cons]; omega
   have hg:(c :: r).getD (0:Int).toNat 0 = c := rfl
   rw [G_pos (fun _=>⟨by omega,by simp only [List.length_cons]; omega⟩)]
   simp only [h1,hg,h34,decide_false,Bool.not_false,Bool.or_true,if_true]
   rfl
end Go.Eng
