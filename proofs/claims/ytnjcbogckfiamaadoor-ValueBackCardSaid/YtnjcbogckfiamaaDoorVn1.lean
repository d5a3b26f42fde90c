/- A part of the proof: Vn1. -/
import Derived.Test.YtnjcbogckfiamaaDoorPq1
namespace Go.Eng
set_option linter.unusedVariables false
set_option linter.unusedSimpArgs false
theorem dig_nat (k:Nat) (hk:k < 10):(UInt8.ofNat (48 + k)).toNat = 48 + k := by
 rw [UInt8.toNat_ofNat_of_lt' (by show 48 + k < 256; omega)]
theorem dig_is (k:Nat) (hk:k < 10):isD (UInt8.ofNat (48 + k)) = true := by
 unfold isD
 rw [dig_nat k hk]
 simp; omega
theorem dec_small {n:Nat} (h:n < 10):Lib.decDigits n = [UInt8.ofNat (48 + n)] := by rw [Lib.decDigits,dif_pos h]
theorem dec_big {n:Nat} (h:¬ n < 10):Lib.decDigits n = Lib.decDigits (n / 10) ++ [UInt8.ofNat (48 + n % 10)] := by rw [Lib.decDigits,dif_neg h]
theorem dec_all (n:Nat):(Lib.decDigits n).all isD = true := by
 induction n using Nat.strongRecOn with
 | ind n ih =>
  by_cases h:n < 10
  ·rw [dec_small h,List.all_cons,dig_is n h]; rfl
  ·rw [dec_big h,List.all_append,ih (n / 10) (by omega),List.all_cons,dig_is (n % 10) (by omega)]; rfl
theorem dec_ne (n:Nat):Lib.decDigits n ≠ [] := by
 by_cases h:n < 10
 ·rw [dec_small h]; simp
 ·rw [dec_big h]; simp
theorem dec_head:∀ n:Nat,0 < n → ∃ k r,Lib.decDigits n = UInt8.ofNat (48 + k) :: r ∧ 1 ≤ k ∧ k < 10 := by
 intro n
 induction n using Nat.strongRecOn with
 | ind n ih =>
  intro h0
  by_cases h:n < 10
  ·exact ⟨n,[],dec_small h,h0,h⟩
  ·obtain ⟨k,r,h1,h2,h3⟩ := ih (n / 10) (by omega) (by omega)
   exact ⟨k,r ++ [UInt8.ofNat (48 + n % 10)],by rw [dec_big h,h1]; rfl,h2,h3⟩
theorem numF_app:∀ (a b:List UInt8) (n:Int),numF (a ++ b) n = (numF a n).bind fun m=>numF b m
 | [],b,n=>rfl
 | c :: a,b,n=>by
  rw [List.cons_append,numF,numF]
  split
  ·split
   ·rfl
   ·exact numF_app a b _
  ·rfl
theorem numF_one (k:Nat) (hk:k < 10) (m:Int) (h:10 * m + (k:Int) ≤ 9007199254740992):numF [UInt8.ofNat (48 + k)] m = some (10 * m + (k:Int)) := by
 rw [numF,if_pos (dig_is k hk),dig_nat k hk,if_neg (by omega),numF]
 congr 1; omega
theorem numF_dec:∀ n:Nat,n ≤ 9007199254740992 → numF (Lib.decDigits n) 0 = some (n:Int) := by
 intro n
 induction n using Nat.strongRecOn with
 | ind n ih =>
  intro hn
  by_cases h:n < 10
  ·rw [dec_small h,numF_one n h 0 (by omega)]; simp
  ·rw [dec_big h,numF_app,ih (n / 10) (by omega) (by omega),Option.bind_some,numF_one (n % 10) (by omega) _ (by omega)]
   congr 1; omega
theorem numS_dec (n:Nat) (hn:n ≤ 9007199254740992):numS (Lib.decDigits n) = ((n:Int),true) := by
 unfold numS
 rw [if_neg,numF_dec n hn]; · rfl
 rintro (h | ⟨h1,h2⟩)
 ·exact dec_ne n h
 ·by_cases h:n < 10
  ·rw [dec_small h] at h1; simp at h1
  ·obtain ⟨k,r,e,k1,k2⟩ := dec_head n (by omega)
   rw [e] at h2
   have:((UInt8.ofNat (48 + k)).toNat:Int) = 48 := h2
   rw [dig_nat k k2] at this
   omega
theorem u8_dig {c:UInt8} (h:isD c = true):∃ k,k < 10 ∧ c = UInt8.ofNat (48 + k) := by
 simp only [isD,Bool.and_eq_true,decide_eq_true_eq] at h
 refine ⟨c.toNat - 48,by omega,?_⟩
 apply UInt8.toNat_inj.1
 rw [dig_nat _ (by omega)]; omega
theorem num_text:∀ (len:Nat) (l:List UInt8) (m:Int),l.length = len → numF l 0 = some m → l ≠ [] → ¬ (1 < l.length ∧ ((l.getD 0 0).toNat:Int) = 48) → ∃ n:Nat,m = (n:Int) ∧ l = Lib.decDigits n ∧ (((l.getD 0 0).toNat:Int) ≠ 48 → 0 < n)
 | 0,l,m,hl,hm,hne,hz=>absurd (List.length_eq_zero_iff.1 hl) hne
 | len + 1,l1,m,hl,hm,hne,hz=>by
  obtain ⟨l,c,rfl⟩:∃ l c,l1 = l ++ [c] := by
   rcases List.eq_nil_or_concat l1 with rfl | ⟨S,y,rfl⟩
   ·exact absurd rfl hne
   ·exact ⟨S,y,by simp⟩
  have hll:l.length = len := by simpa using hl
  rw [numF_app] at hm
  obtain ⟨m',h1,h2⟩ := Option.bind_eq_some_iff.1 hm
  rw [numF] at h2
  split at h2
  ·rename_i hd
   split at h2
   ·cases h2
   ·rw [numF] at h2
    cases h2
    obtain ⟨k,hk,rfl⟩ := u8_dig hd
    rw [dig_nat k hk]
    by_cases hl0:l = []
    ·subst hl0
     rw [numF] at h1
     cases h1
     refine ⟨k,by omega,by rw [dec_small hk]; rfl,fun h=>?_⟩
     have h':((UInt8.ofNat (48 + k)).toNat:Int) ≠ 48 := h
     rw [dig_nat k hk] at h'; omega
    ·obtain ⟨c0,l0,rfl⟩:∃ c0 l0,l = c0 :: l0 := by cases l with | nil=>exact absurd rfl hl0 | cons a b=>exact ⟨a,b,rfl⟩
     have hz2:((c0.toNat:Nat):Int) ≠ 48 := fun h=>hz ⟨by simp,h⟩
     obtain ⟨n,e1,e2,e3⟩ := num_text len (c0 :: l0) m' hll h1 (by simp) (fun h=>hz2 h.2)
     have hn := e3 hz2
     subst e1
     refine ⟨10 * n + k,by omega,?_,fun _=>by omega⟩
     rw [dec_big (by omega),show (10 * n + k) / 10 = n by omega,show (10 * n + k) % 10 = k by omega,e2]
  ·cases h2
theorem numS_text {l:List UInt8} {m:Int} (h:numS l = (m,true)):∃ n:Nat,m = (n:Int) ∧ l = Lib.decDigits n ∧ n ≤ 9007199254740992 := by
 have hb := numS_bd l
 rw [h] at hb
 unfold numS at h
 split at h
 ·cases h
 ·rename_i hn
  cases hf:numF l 0 with
  | none=>rw [hf] at h; cases h
  | some x =>
   rw [hf] at h
   have hx:x = m := by cases h; rfl
   subst hx
   obtain ⟨n,e1,e2,_⟩ := num_text l.length l x rfl hf (fun e=>hn (.inl e)) (fun e=>hn (.inr e))
   exact ⟨n,e1,e2,by omega⟩
end Go.Eng
