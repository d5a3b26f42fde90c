/- A part of the proof: Pn. -/
import Derived.Test.YtnkkbcofijcpbaaDoorLad
namespace Go.Eng
set_option linter.unusedVariables false
set_option linter.unusedSimpArgs false
def isD (c : UInt8) : Bool := decide (48 ≤ (c.toNat : Int)) && decide ((c.toNat : Int) ≤ 57)
def isL (c : UInt8) : Bool := decide (97 ≤ (c.toNat : Int)) && decide ((c.toNat : Int) ≤ 122)
def isP (c : UInt8) : Bool := isL c || isD c || decide ((c.toNat : Int) = 95)
theorem digit_eq (c : UInt8) : lex_digit c = some (isD c) := rfl
theorem letter_eq (c : UInt8) : lex_letter c = some (isL c) := rfl
theorem index_loop (l : List (List UInt8)) (v : List UInt8) (hl : l.length < 4611686018427387904) : ∀ (d i : Nat), i + d = l.length → ∃ r, iter st_slices_Index (.l2 l v (l.length : Int) (i : Int)) = some r ∧ decide ((0 : Int) ≤ r) = (l.drop i).contains v
  | 0, i, hi => by
    rw [iter_eq']
    have hd : l.drop i = [] := List.drop_eq_nil_of_le (by omega)
    have : ¬ (i : Int) < (l.length : Int) := by omega
    exact ⟨-1, by simp only [st_slices_Index, sg_slices_Index_2, this, decide_false, Bool.false_eq_true, if_false]; rfl, by rw [hd]; rfl⟩
  | d + 1, i, hi => by
    rw [iter_eq']
    obtain ⟨c, r, hL⟩ := drop_ex (show i < l.length by omega)
    obtain ⟨hc, hr, hlen⟩ := drop_cons (d := ([] : List UInt8)) hL
    have hlt : (i : Int) < (l.length : Int) := by omega
    have hG : 0 ≤ (i : Int) ∧ (i : Int) < (l.length : Int) := ⟨by omega, hlt⟩
    have e6 : w64 ((i : Int) + 1) = ((i + 1 : Nat) : Int) := w64_eq (by omega) (by omega)
    simp only [st_slices_Index, sg_slices_Index_2, decide_eq_true_eq, if_pos hlt, G, if_pos hG, Int.toNat_natCast, hc, e6]
    by_cases hv : v = c
    · rw [if_pos hv]
      refine ⟨i, rfl, ?_⟩
      rw [hL, hv]; simp
    · rw [if_neg hv]
      obtain ⟨q, q1, q2⟩ := index_loop l v hl d (i + 1) (by omega)
      refine ⟨q, q1, ?_⟩
      rw [q2, hr, hL]
      simp [List.contains_cons, hv]
theorem Contains_eq (l : List (List UInt8)) (v : List UInt8) (hl : l.length < 4611686018427387904) : slices_Contains l v = some (l.contains v) := by
  obtain ⟨r, h1, h2⟩ := index_loop l v hl l.length 0 (by omega)
  unfold slices_Contains slices_Index en_slices_Index
  simp only [runL]
  rw [show iter st_slices_Index (.l2 l v (l.length : Int) 0) = some r from by simpa using h1]
  simp only [Option.bind_some]
  rw [h2]; rfl
theorem IsKey_eq (s : List UInt8) : lex_IsKey s = some (gl_onceweb_lex_keys.contains s) := by
  unfold lex_IsKey
  rw [Contains_eq gl_onceweb_lex_keys s (by decide)]; rfl
def wlen (l : List UInt8) : Nat := (l.takeWhile isP).length
theorem wlen_cons (c : UInt8) (r : List UInt8) : wlen (c :: r) = if isP c = true then wlen r + 1 else 0 := by
  unfold wlen; rw [List.takeWhile_cons]; split <;> simp
theorem wlen_le (l : List UInt8) : wlen l ≤ l.length := by unfold wlen; exact (List.takeWhile_sublist _).length_le
theorem wlen_all : ∀ l : List UInt8, wlen l = l.length ↔ l.all isP = true
  | [] => by simp [wlen]
  | c :: r => by
    have := wlen_le r
    rw [wlen_cons, List.all_cons]
    cases hc : isP c with
    | true => simp only [if_true, List.length_cons, Nat.add_right_cancel_iff, Bool.true_and]; exact wlen_all r
    | false => simp
theorem word_loop (s : List UInt8) (hs : s.length < 4611686018427387904) : ∀ (d i : Nat), i + d = s.length → iter st_lex_word (.l3 s (i : Int)) = some ((i + wlen (s.drop i) : Nat) : Int)
  | 0, i, hi => by
    rw [iter_eq']
    have hd : s.drop i = [] := List.drop_eq_nil_of_le (by omega)
    have : ¬ (i : Int) < (s.length : Int) := by omega
    simp [st_lex_word, sg_lex_word_3, this, runL, hd, G, wlen]
  | d + 1, i, hi => by
    rw [iter_eq']
    obtain ⟨c, r, hL⟩ := drop_ex (show i < s.length by omega)
    obtain ⟨hc, hr, hlen⟩ := drop_cons (d := (0 : UInt8)) hL
    have hlt : (i : Int) < (s.length : Int) := by omega
    have hG : 0 ≤ (i : Int) ∧ (i : Int) < (s.length : Int) := ⟨by omega, hlt⟩
    have e6 : w64 ((i : Int) + 1) = ((i + 1 : Nat) : Int) := w64_eq (by omega) (by omega)
    simp only [st_lex_word, sg_lex_word_3, G_imp hG]
    simp only [hlt, decide_true, if_true, Int.toNat_natCast, hc, letter_eq, digit_eq, Option.bind_some, Bool.true_and, e6]
    have hdig : (if (!isL c) = true then some (isD c) else some false).bind (fun t30 => if ((isL c || t30) || decide ((c.toNat : Int) = 95)) = true then (some (.inl (.l3 s ((i + 1 : Nat) : Int))) : Option (L_lex_word ⊕ Int)) else some (.inr (i : Int))) = if isP c = true then some (.inl (.l3 s ((i + 1 : Nat) : Int))) else some (.inr (i : Int)) := by
      unfold isP
      cases isL c <;> cases isD c <;> simp
    rw [hdig, hL, wlen_cons]
    by_cases hp : isP c = true
    · rw [if_pos hp, if_pos hp]
      show iter _ _ = _
      rw [word_loop s hs d (i + 1) (by omega), hr]
      congr 2; omega
    · rw [if_neg hp, if_neg hp]; rfl
def wordLen : List UInt8 → Nat
  | [] => 0
  | c :: r => if isL c = true then wlen (c :: r) else 0
theorem word_eq (s : List UInt8) (hs : s.length < 4611686018427387904) (i : Nat) (hi : i ≤ s.length) : lex_word s (i : Int) = some ((i + wordLen (s.drop i) : Nat) : Int) := by
  unfold lex_word en_lex_word
  by_cases hlt : i < s.length
  · obtain ⟨c, r, hL⟩ := drop_ex hlt
    obtain ⟨hc, hr, hlen⟩ := drop_cons (d := (0 : UInt8)) hL
    have h1 : ¬ (s.length : Int) ≤ (i : Int) := by omega
    have hG : 0 ≤ (i : Int) ∧ (i : Int) < (s.length : Int) := ⟨by omega, by omega⟩
    simp only [G, h1, decide_false, Bool.not_false, true_imp_iff, if_pos hG, if_true, Int.toNat_natCast, hc, letter_eq, Option.bind_some, Bool.false_or]
    rw [hL]
    simp only [wordLen]
    cases hl : isL c with
    | false => simp [runL]
    | true =>
      simp only [Bool.not_true, Bool.false_eq_true, if_false, if_true]
      show iter _ _ = _
      rw [word_loop s hs (s.length - i) i (by omega), hL]
  · have hd : s.drop i = [] := List.drop_eq_nil_of_le (by omega)
    have h1 : (s.length : Int) ≤ (i : Int) := by omega
    simp [G, h1, hd, wordLen, runL]
def isWord (s : List UInt8) : Bool := match s with
  | [] => false
  | c :: r => isL c && r.all isP
theorem isL_isP (c : UInt8) (h : isL c = true) : isP c = true := by simp [isP, h]
theorem wordLen_iff (s : List UInt8) (h : s ≠ []) : (wordLen s = s.length) ↔ isWord s = true := by
  cases s with
  | nil => exact absurd rfl h
  | cons c r =>
    simp only [wordLen, isWord]
    cases hl : isL c with
    | false => simp
    | true =>
      simp only [if_true, Bool.true_and]
      rw [wlen_all, List.all_cons, isL_isP c hl, Bool.true_and]
def nameS (s : List UInt8) : Bool := isWord s && decide (s.length ≤ 24) && !gl_onceweb_lex_keys.contains s
theorem IsName_eq (s : List UInt8) : lex_IsName s = some (nameS s) := by
  unfold lex_IsName nameS
  by_cases h0 : s = []
  · subst h0; simp [isWord]
  · by_cases h24 : s.length ≤ 24
    · have h24' : (s.length : Int) ≤ 24 := by omega
      have hw := word_eq s (by omega) 0 (by omega)
      simp only [Nat.zero_add, List.drop_zero, Int.natCast_zero] at hw
      have hw' : lex_word s 0 = some (wordLen s : Int) := hw
      simp only [h0, h24', decide_true, decide_false, Bool.not_false, Bool.and_self, if_true, hw', Option.bind_some, Bool.true_and, IsKey_eq, h24, Bool.and_true]
      by_cases hword : isWord s = true
      · have hl : (wordLen s : Int) = (s.length : Int) := by have := (wordLen_iff s h0).2 hword; omega
        simp [hl, hword]
      · have hl : ¬ (wordLen s : Int) = (s.length : Int) := fun e => hword ((wordLen_iff s h0).1 (by omega))
        simp [hl, hword]
    · have h24' : ¬ (s.length : Int) ≤ 24 := by omega
      simp [h24', h24]
end Go.Eng
