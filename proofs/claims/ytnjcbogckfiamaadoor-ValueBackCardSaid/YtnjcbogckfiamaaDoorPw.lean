/- A part of the proof: Pw. -/
import Derived.Test.YtnjcbogckfiamaaDoorLvd
namespace Go.Eng
set_option linter.unusedVariables false
set_option linter.unusedSimpArgs false
def isD (c:UInt8):Bool := decide (48 ≤ (c.toNat:Int)) && decide ((c.toNat:Int) ≤ 57)
theorem digit_eq (c:UInt8):lex_digit c = some (isD c) := rfl
def numF:List UInt8 → Int → Option Int
 | [],n=>some n
 | c :: r,n=>if isD c = true then (if 9007199254740992 < 10 * n + ((c.toNat:Int) - 48) then none else numF r (10 * n + ((c.toNat:Int) - 48))) else none
def numR:Option Int → Int × Bool
 | some n=>(n,true)
 | none=>(0,false)
theorem digit_val (c:UInt8) (h:isD c = true):w64 ((IntKind.wrap .u8 ((c.toNat:Int) - 48)).toNat.toUInt8.toNat:Int) = (c.toNat:Int) - 48 ∧ 0 ≤ (c.toNat:Int) - 48 ∧ (c.toNat:Int) - 48 ≤ 9 := by
 simp only [isD,Bool.and_eq_true,decide_eq_true_eq] at h
 have e:IntKind.wrap .u8 ((c.toNat:Int) - 48) = (c.toNat:Int) - 48 := wrap8 (by omega) (by omega)
 rw [e,u8_back _ (by omega)]
 exact ⟨w64_eq (by omega) (by omega),by omega,by omega⟩
theorem num_loop (s:List UInt8) (hs:s.length < 4611686018427387904):∀ (d i:Nat) (n:Int),i + d = s.length → 0 ≤ n → n ≤ 9007199254740992 →
  iter st_lex_Number (.l5 s n (s.length:Int) (i:Int)) = some (numR (numF (s.drop i) n))
 | 0,i,n,hi,h0,h1=>by
  rw [iter_eq']
  have hd:s.drop i = [] := List.drop_eq_nil_of_le (by omega)
  have:¬ (i:Int) < (s.length:Int) := by omega
  simp [st_lex_Number,sg_lex_Number_5,hd,numF,numR,this,runL]
 | d + 1,i,n,hi,h0,h1=>by
  rw [iter_eq']
  obtain ⟨c,r,hL⟩ := drop_ex (show i < s.length by omega)
  obtain ⟨hc,hr,hlen⟩ := drop_cons (d := (0:UInt8)) hL
  have hlt:(i:Int) < (s.length:Int) := by omega
  have hG:0 ≤ (i:Int) ∧ (i:Int) < (s.length:Int) := ⟨by omega,hlt⟩
  rw [hL,numF]
  simp only [st_lex_Number,sg_lex_Number_5,decide_eq_true_eq,if_pos hlt,G,if_pos hG,Int.toNat_natCast,hc,digit_eq,Option.bind_some]
  cases hD:isD c with
  | false=>simp [runL,numR]
  | true =>
   obtain ⟨e1,e2,e3⟩ := digit_val c hD
   have e4:w64 (10 * n) = 10 * n := w64_eq (by omega) (by omega)
   have e5:w64 (10 * n + ((c.toNat:Int) - 48)) = 10 * n + ((c.toNat:Int) - 48) := w64_eq (by omega) (by omega)
   have e6:w64 ((i:Int) + 1) = ((i + 1:Nat):Int) := w64_eq (by omega) (by omega)
   simp only [Bool.not_true,Bool.false_eq_true,if_false,e1,e4,e5,e6,if_true]
   by_cases hb:9007199254740992 < 10 * n + ((c.toNat:Int) - 48)
   ·rw [if_pos hb,if_pos hb]; rfl
   ·rw [if_neg hb,if_neg hb]
    show iter _ _ = _
    rw [num_loop s hs d (i + 1) _ (by omega) (by omega) (by omega),hr]
theorem numF_le:∀ (l:List UInt8) (n m:Int),0 ≤ n → n ≤ 9007199254740992 → numF l n = some m → n * 10 ^ l.length ≤ m ∧ m ≤ 9007199254740992
 | [],n,m,h0,h1,h=>by cases h; simp; omega
 | c :: r,n,m,h0,h1,h=>by
  simp only [numF] at h
  split at h
  ·rename_i hD
   obtain ⟨e1,e2,e3⟩ := digit_val c hD
   split at h
   ·cases h
   ·obtain ⟨k1,k2⟩ := numF_le r _ m (by omega) (by omega) h
    refine ⟨?_,k2⟩
    have hp:(0:Int) ≤ 10 ^ r.length := Int.le_of_lt (Int.pow_pos (by decide))
    have:n * 10 ^ (r.length + 1) ≤ (10 * n + ((c.toNat:Int) - 48)) * 10 ^ r.length := by
     rw [Int.pow_succ,Int.add_mul]
     have h3:(0:Int) ≤ ((c.toNat:Int) - 48) * 10 ^ r.length := Int.mul_nonneg e2 hp
     have h4:n * (10 ^ r.length * 10) = 10 * n * 10 ^ r.length := by rw [Int.mul_comm (10 ^ r.length) 10,← Int.mul_assoc,Int.mul_comm n 10]
     omega
    rw [List.length_cons]
    omega
  ·cases h
def numS (s:List UInt8):Int × Bool := if s = [] ∨ (1 < s.length ∧ ((s.getD 0 0).toNat:Int) = 48) then (0,false) else numR (numF s 0)
theorem len_pos {s:List UInt8} (h:¬ s = []):0 < s.length := List.length_pos_iff.2 h
theorem lex_Number_eq (s:List UInt8) (hs:s.length < 4611686018427387904):lex_Number s = some (numS s) := by
 unfold lex_Number en_lex_Number numS
 by_cases h0:s = []
 ·subst h0; simp [G,runL]
 ·have hp := len_pos h0
  have hG:(((!(decide (s = ([]:List UInt8)))) && (decide ((1:Int) < (s.length:Int)))) = true → (0 ≤ (0:Int) ∧ (0:Int) < (s.length:Int))) := fun _=>⟨by omega,by omega⟩
  simp only [G]
  rw [if_pos hG]
  by_cases h1:1 < s.length ∧ ((s.getD 0 0).toNat:Int) = 48
  ·have h1a:(1:Int) < (s.length:Int) := by omega
   rw [if_pos (by simp only [h1a,Int.toNat_zero,h1.2,decide_true,Bool.and_self,Bool.or_true]),if_pos (.inr h1)]; rfl
  ·have h2:¬ (((decide (s = ([]:List UInt8))) || ((decide ((1:Int) < (s.length:Int))) && (decide (((s.getD (0:Int).toNat 0).toNat:Int) = 48)))) = true) := by
    simp only [Bool.or_eq_true,Bool.and_eq_true,decide_eq_true_eq,Int.toNat_zero]
    rintro (h | ⟨ha,hb⟩)
    ·exact h0 h
    ·exact h1 ⟨by omega,hb⟩
   rw [if_neg h2,if_neg (by rintro (h | h); exact h0 h; exact h1 h)]
   show iter _ _ = _
   have := num_loop s hs s.length 0 0 (by omega) (by omega) (by omega)
   simpa using this
end Go.Eng
