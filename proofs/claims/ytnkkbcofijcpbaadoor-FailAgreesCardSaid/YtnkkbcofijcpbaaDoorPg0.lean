/- A part of the proof: Pg0. -/
import Derived.Test.YtnkkbcofijcpbaaDoorPf7
namespace Go.Eng
set_option linter.unusedVariables false
set_option linter.unusedSimpArgs false
theorem parts_loop2 (fr : List Int) (hfr : fr.length ≤ 1024) : ∀ (n k : Nat) (out rs : List Int), n ≤ rs.length → tileR fr rs k → n ≤ out.length → out.length ≤ 1024 → k ≤ 1024 →
    iter st_fail_parts (.l4 fr out (k : Int) ((n : Int) - 1)) = some (partsS fr n k ++ out.drop n)
  | 0, k, out, rs, hn, ht, ho, ho2, hk => by
    have : ¬ (0 : Int) ≤ ((0 : Nat) : Int) - 1 := by omega
    rw [iter_eq']
    simp only [st_fail_parts, sg_fail_parts_4, this, decide_false, Bool.false_eq_true, if_false]; rfl
  | n + 1, k, out, [], hn, ht, ho, ho2, hk => by simp at hn
  | n + 1, k, out, b :: rs, hn, ht, ho, ho2, hk => by
    obtain ⟨h1, h2, h3, h4, h5, h6⟩ := ht
    have q2 := parts_loop2 fr hfr n b.toNat (out.set n ((k : Int) - 1)) rs (by simpa using hn) h6 (by rw [List.length_set]; omega) (by rw [List.length_set]; exact ho2) (by omega)
    have e0 : ((n + 1 : Nat) : Int) - 1 = (n : Int) := by omega
    have eb : ((b.toNat : Nat) : Int) = b := by omega
    rw [eb] at q2
    have g0 : (0 : Int) ≤ (n : Int) := by omega
    have g1 : 0 ≤ (n : Int) ∧ (n : Int) < (out.length : Int) := by omega
    have w1 : w64 ((k : Int) - 1) = (k : Int) - 1 := w64_eq (by omega) (by omega)
    have w2 : w64 ((n : Int) - 1) = (n : Int) - 1 := w64_eq (by omega) (by omega)
    have w3 : w64 (b - 1) = b - 1 := w64_eq (by omega) (by omega)
    have g2 : 0 ≤ (k : Int) - 1 ∧ (k : Int) - 1 < (fr.length : Int) := by omega
    have e2 : ((k : Int) - 1).toNat = k - 1 := by omega
    have ed : (out.set n ((k : Int) - 1)).drop n = ((k : Int) - 1) :: out.drop (n + 1) := by
      rw [List.drop_eq_getElem_cons (by rw [List.length_set]; omega), List.getElem_set_self, List.drop_set_of_lt (by omega)]
    have eo : partsS fr (n + 1) (k : Int) ++ out.drop (n + 1) = partsS fr n b ++ (out.set n ((k : Int) - 1)).drop n := by
      rw [ed]; simp only [partsS, e2, h3, List.append_assoc, List.singleton_append]
    rw [eo]
    rw [iter_eq']
    simp only [e0, st_fail_parts, sg_fail_parts_4, decide_eq_true_eq, if_pos g0, G_pos g1, w1, G_pos g2, Int.toNat_natCast, e2, h3, w2]
    exact q2
theorem parts_of {f : List tCrack} (h : checkS f = 0) (a : Int) (ha : place f a) : fail_parts f (begB f) a = some (partsS (begB f) (nOf f a) a) := by
  obtain ⟨v1, v2, v3, v4⟩ := valid2 h
  obtain ⟨p1, p2, p3, rs, p4, p5, p6, p7⟩ := v4 a ha
  obtain ⟨k, rfl⟩ : ∃ k : Nat, a = k := ⟨a.toNat, by have := ha.1; omega⟩
  have hk : k < f.length := by have := ha.2; omega
  rw [Int.toNat_natCast] at p1 p5 p6
  have hn : nOf f (k : Int) = (f.getD k dCrack).2.1.toNat := rfl
  have p4' : (f.getD k dCrack).2.1.toNat ≤ rs.length := p4
  have hN : ((f.getD k dCrack).2.1.toNat : Int) = (f.getD k dCrack).2.1 := by omega
  have g1 : 0 ≤ (k : Int) ∧ (k : Int) < (f.length : Int) := by omega
  have g2 : 0 ≤ (f.getD k dCrack).2.1 ∧ (f.getD k dCrack).2.1 ≤ (f.getD k dCrack).2.1 ∧ (8 : Int) * (f.getD k dCrack).2.1 ≤ 281474976710656 := by omega
  have w1 : w64 (((f.getD k dCrack).2.1.toNat : Int) - 1) = ((f.getD k dCrack).2.1.toNat : Int) - 1 := w64_eq (by omega) (by omega)
  have w2 : w64 ((f.getD k dCrack).2.1 - 1) = ((f.getD k dCrack).2.1.toNat : Int) - 1 := by rw [w64_eq (by omega) (by omega)]; omega
  have w3 : w64 ((k : Int) - 1) = (k : Int) - 1 := w64_eq (by omega) (by omega)
  have q2 := parts_loop2 (begB f) (by omega) (f.getD k dCrack).2.1.toNat k (List.replicate (f.getD k dCrack).2.1.toNat 0) rs p4' p6 (by rw [List.length_replicate]; exact Nat.le_refl _) (by rw [List.length_replicate]; omega) (by omega)
  have hd : (List.replicate (f.getD k dCrack).2.1.toNat (0 : Int)).drop (f.getD k dCrack).2.1.toNat = [] := List.drop_eq_nil_of_le (by simp)
  rw [hd, List.append_nil] at q2
  unfold fail_parts en_fail_parts
  simp only [Int.toNat_natCast, G_pos g1, G_pos g2, List.length_replicate, w1]
  rw [hn]; exact q2
theorem ahead_eq {f : List tCrack} (h : checkS f = 0) : ∀ (n : Nat) (a : Int) (out : List Int), place f a → a < (n : Int) → out.length + (pre f n a).length ≤ 100000 → fail_ahead_o_n n f (begB f) a out = some (out ++ pre f n a)
  | 0, a, out, ha, hn, ho => by have := ha.1; omega
  | n + 1, a, out, ha, hn, ho => by
    unfold fail_ahead_o_n en_fail_ahead_o
    simp only [pre, List.length_cons] at ho
    rw [G_pos (by simp only [List.length_cons, List.length_nil]; omega), parts_of h a ha]
    simp only [Option.bind_some]
    show iter _ _ = _
    have hlen : (partsS (begB f) (nOf f a) a).length ≤ 1024 := by
      rw [partsS_len]
      obtain ⟨v1, v2, v3, v4⟩ := valid2 h
      obtain ⟨p1, p2, p3, rs, p4, p5, p6, p7⟩ := v4 a ha
      have := ha.2
      omega
    have := ahead_loop (f := f) (n := n) hlen (fun p hp out' ho' => by
      obtain ⟨k1, k2⟩ := part_place h ha hp
      exact ahead_eq h n p out' k1 (by omega) ho') (partsS (begB f) (nOf f a) a).length 0 (out ++ [a]) (by omega) (by rw [List.drop_zero, List.length_append, List.length_singleton]; omega)
    rw [List.drop_zero] at this
    have e0 : ((0 : Nat) : Int) = 0 := rfl
    rw [e0] at this
    rw [this]
    simp [pre]
theorem first_eq (f : List tCrack) (kind : Int) : fail_First f kind = some (firstS f kind) := by
  unfold fail_First en_fail_First firstS
  rw [check_eq, sort_eq]
  simp only [Option.bind_some]
  by_cases h : checkS f = 0
  · simp only [h, decide_true, Bool.not_true, Bool.false_eq_true, if_false, if_true]
    by_cases hk : kind < 1 ∨ 11 < kind
    · rw [if_pos hk, if_pos (by simpa using (sort_zero kind).2 hk)]; rfl
    · rw [if_neg hk, if_neg (by simpa using fun e => hk ((sort_zero kind).1 e))]
      obtain ⟨v1, v2, v3, v4⟩ := valid2 h
      have hpl : place f ((f.length : Int) - 1) := ⟨by omega, by omega⟩
      have w1 : w64 ((f.length : Int) - 1) = (f.length : Int) - 1 := w64_eq (by omega) (by omega)
      have hsh := pre_short h 4096 _ hpl (by omega)
      have hah : fail_ahead_o f (begB f) ((f.length : Int) - 1) [] = some (pre f (1023 + 1) ((f.length : Int) - 1)) := by
        unfold fail_ahead_o
        rw [ahead_eq h 4096 _ [] hpl (by omega) (by simp only [List.length_nil]; omega), List.nil_append, pre_fuel h 4096 (1023 + 1) _ hpl (by omega) (by omega)]
      rw [failBeg_eq f (by omega)]
      simp only [Option.bind_some]
      rw [w1]
      show runL st_fail_First ((fail_ahead_o f (begB f) ((f.length : Int) - 1) []).bind _) = _
      rw [hah]
      simp only [Option.bind_some]
      show iter _ _ = _
      have hl := pre_place h (1023 + 1) _ hpl
      have hsh2 := pre_short h (1023 + 1) _ hpl (by omega)
      have := first_loop h kind (pre f (1023 + 1) ((f.length : Int) - 1)) hl (by omega) (pre f (1023 + 1) ((f.length : Int) - 1)).length 0 (by omega)
      rw [List.drop_zero] at this
      exact this
  · simp only [h, decide_false, Bool.not_false, if_true, if_false]; rfl
theorem is_loop {f : List tCrack} (h : checkS f = 0) (g : List tCrack) : ∀ (d i : Nat), i + d = f.length →
    iter st_fail_Is (.l9 f g (begB f) (f.length : Int) (i : Int)) = some (isLst f g i d, 0)
  | 0, i, hi => by
    have : ¬ (i : Int) < (f.length : Int) := by omega
    rw [iter_eq']
    simp only [st_fail_Is, sg_fail_Is_9, this, decide_false, Bool.false_eq_true, if_false]; rfl
  | d + 1, i, hi => by
    obtain ⟨v1, v2, v3, v4⟩ := valid2 h
    have q1 := is_loop h g d (i + 1) (by omega)
    have hpl : place f (i : Int) := ⟨by omega, by omega⟩
    obtain ⟨p1, p2, p3, _⟩ := v4 _ hpl
    rw [Int.toNat_natCast] at p2 p3
    have hlt : (i : Int) < (f.length : Int) := by omega
    have e6 : w64 ((i : Int) + 1) = ((i + 1 : Nat) : Int) := w64_eq (by omega) (by omega)
    have hG : 0 ≤ (i : Int) ∧ (i : Int) < ((begB f).length : Int) := by omega
    have hG2 : 0 ≤ (begB f).getD i 0 ∧ (begB f).getD i 0 ≤ ((i + 1 : Nat) : Int) ∧ ((i + 1 : Nat) : Int) ≤ (f.length : Int) := by omega
    have hcl := cut_len f ((begB f).getD i 0).toNat (i + 1)
    have hs : isLst f g i (d + 1) = (decide (cut f ((begB f).getD i 0).toNat (i + 1) = g) || isLst f g (i + 1) d) := rfl
    rw [iter_eq']
    simp only [st_fail_Is, sg_fail_Is_9, decide_eq_true_eq, if_pos hlt, G_pos hG, Int.toNat_natCast, e6, G_pos hG2, equal_eq _ g (show (cut f ((begB f).getD i 0).toNat (i + 1)).length < 4611686018427387904 by omega), Option.bind_some]
    by_cases hq : cut f ((begB f).getD i 0).toNat (i + 1) = g
    · rw [if_pos hq, hs, decide_eq_true hq]; rfl
    · rw [if_neg hq]
      show iter _ _ = _
      rw [q1, hs, decide_eq_false hq]; rfl
theorem is_eq (f g : List tCrack) : fail_Is f g = some (isS f g) := by
  unfold fail_Is en_fail_Is isS
  rw [check_eq, check_eq]
  simp only [Option.bind_some]
  by_cases h : checkS f = 0
  · simp only [h, decide_true, Bool.not_true, Bool.false_eq_true, if_false, if_true]
    by_cases hg : checkS g = 0
    · simp only [hg, decide_true, Bool.not_true, Bool.false_eq_true, if_false, if_true]
      obtain ⟨v1, v2, v3, v4⟩ := valid2 h
      rw [failBeg_eq f (by omega)]
      simp only [Option.bind_some]
      show iter st_fail_Is (.l9 f g (begB f) ((begB f).length : Int) ((0 : Nat) : Int)) = _
      rw [v1]
      exact is_loop h g f.length 0 (by omega)
    · simp only [hg, decide_false, Bool.not_false, if_true, if_false]; rfl
  · simp only [h, decide_false, Bool.not_false, if_true, if_false]; rfl
end Go.Eng
