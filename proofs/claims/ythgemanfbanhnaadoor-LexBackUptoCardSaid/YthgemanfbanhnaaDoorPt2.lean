/- A part of the proof: Pt2. -/
import Derived.Test.YthgemanfbanhnaaDoorPt1
namespace Go.Eng
set_option linter.unusedVariables false
set_option linter.unusedSimpArgs false

/-! one token -/
def cntD (l : List UInt8) : Nat := (l.takeWhile isD).length
theorem cntD_cons (c : UInt8) (r : List UInt8) : cntD (c :: r) = if isD c = true then cntD r + 1 else 0 := by
  unfold cntD; rw [List.takeWhile_cons]; split <;> simp
theorem cntD_le (l : List UInt8) : cntD l ≤ l.length := by unfold cntD; exact (List.takeWhile_sublist _).length_le
abbrev TkS := Int × Int × List UInt8
def marksS : List UInt8 := [40, 41, 91, 93, 44, 59, 61, 43, 45, 42, 38, 60, 46]
def bad (e : Int) : Int × TkS × Nat := (e, (0, 0, []), 0)
/-- The token that begins a text: the error; kind, number, text; how many bytes it takes. -/
def oneS : List UInt8 → Int × TkS × Nat
  | [] => bad 10
  | c :: r =>
    if isL c = true then (if gl_onceweb_lex_keys.contains ((c :: r).take (wlen (c :: r))) = true then (0, (2, 0, (c :: r).take (wlen (c :: r))), wlen (c :: r)) else if 24 < wlen (c :: r) then bad 3 else (0, (1, 0, (c :: r).take (wlen (c :: r))), wlen (c :: r)))
    else if (c.toNat : Int) = 36 then (if wordLen r = 0 then bad 10 else if 24 < wordLen r then bad 3 else (0, (3, 0, r.take (wordLen r)), wordLen r + 1))
    else if isD c = true then (if (numS ((c :: r).take (cntD (c :: r)))).2 = true then (0, (4, (numS ((c :: r).take (cntD (c :: r)))).1, []), cntD (c :: r)) else bad 12)
    else if (c.toNat : Int) = 34 then (match quoteF (r.length + 1) r with
      | none => bad 11
      | some (x, n) => if 4096 < x.length then bad 3 else (0, (5, 0, x), n + 1))
    else if (c :: r).take 2 = [61, 61] then (0, (6, 0, [61, 61]), 2)
    else if Lib.indexByte marksS c < 0 then bad 10 else (0, (6, 0, [c]), 1)
def oneR (i : Nat) (x : Int × TkS × Nat) (r : tToken × Int × Int) : Prop :=
  if x.1 = 0 then r = ((x.2.1.1, (i : Int), x.2.1.2.1, x.2.1.2.2, ()), ((i + x.2.2 : Nat) : Int), 0) else r.2.2 = x.1
theorem cut_take {α : Type} (l : List α) (i n : Nat) : cut l i (i + n) = (l.drop i).take n := by
  unfold cut; rw [List.drop_take]; congr 1; omega
theorem digits_loop (s : List UInt8) (hs : s.length < 100000000000) (a : Nat) (x1 x2 x3 : Int) (x4 : List UInt8) : ∀ (d i : Nat), i + d = s.length →
    iter st_lex_one (.l15 s (a : Int) x1 x2 x3 x4 (i : Int)) = (G (0 ≤ (a : Int) ∧ (a : Int) ≤ ((i + cntD (s.drop i) : Nat) : Int) ∧ ((i + cntD (s.drop i) : Nat) : Int) ≤ (s.length : Int)) <| some (if (numS (cut s a (i + cntD (s.drop i)))).2 = true then ((4, (a : Int), (numS (cut s a (i + cntD (s.drop i)))).1, [], ()), ((i + cntD (s.drop i) : Nat) : Int), 0) else ((0, 0, 0, [], ()), 0, 12)))
  | 0, i, hi => by
    rw [iter_eq']
    have hd : s.drop i = [] := List.drop_eq_nil_of_le (by omega)
    have h1 : ¬ (i : Int) < (s.length : Int) := by omega
    have hz : cntD [] = 0 := rfl
    have hcl : (cut s a i).length < 4611686018427387904 := by unfold cut; simp; omega
    simp only [st_lex_one, sg_lex_one_15, h1, decide_false, G_no (b := false) rfl, Bool.false_eq_true, if_false, Option.bind_some, Bool.false_and, hd, hz, Nat.add_zero, Int.toNat_natCast, lex_Number_eq _ hcl]
    by_cases hg : 0 ≤ (a : Int) ∧ (a : Int) ≤ (i : Int) ∧ (i : Int) ≤ (s.length : Int)
    · rw [G_pos hg, G_pos hg]
      cases (numS (cut s a i)).2 <;> rfl
    · unfold G; rw [if_neg hg, if_neg hg]; rfl
  | d + 1, i, hi => by
    rw [iter_eq']
    obtain ⟨c, r, hL⟩ := drop_ex (show i < s.length by omega)
    obtain ⟨hc, hr, hlen⟩ := drop_cons (d := (0 : UInt8)) hL
    have hlt : (i : Int) < (s.length : Int) := by omega
    have hG : 0 ≤ (i : Int) ∧ (i : Int) < (s.length : Int) := ⟨by omega, hlt⟩
    have e6 : w64 ((i : Int) + 1) = ((i + 1 : Nat) : Int) := w64_eq (by omega) (by omega)
    simp only [st_lex_one, sg_lex_one_15, hlt, decide_true, G_imp hG, if_true, Int.toNat_natCast, hc, digit_eq, Option.bind_some, Bool.true_and, e6]
    rw [hL, cntD_cons]
    by_cases hp : isD c = true
    · rw [if_pos hp, if_pos hp]
      show iter _ _ = _
      rw [digits_loop s hs a x1 x2 x3 x4 d (i + 1) (by omega), hr, show i + 1 + cntD r = i + (cntD r + 1) by omega]
    · rw [if_neg hp, if_neg hp, Nat.add_zero]
      have hcl : (cut s a i).length < 4611686018427387904 := by unfold cut; simp; omega
      simp only [lex_Number_eq _ hcl, Option.bind_some]
      by_cases hg : 0 ≤ (a : Int) ∧ (a : Int) ≤ (i : Int) ∧ (i : Int) ≤ (s.length : Int)
      · rw [G_pos hg, G_pos hg]
        cases (numS (cut s a i)).2 <;> rfl
      · unfold G; rw [if_neg hg, if_neg hg]; rfl
theorem quoteF_n : ∀ (f : Nat) (l t : List UInt8) (n : Nat), quoteF f l = some (t, n) → 1 ≤ n ∧ n ≤ l.length
  | 0, _, _, _, h => by cases h
  | _ + 1, [], _, _, h => by cases h
  | f + 1, c :: r, t, n, h => by
    simp only [quoteF] at h
    split at h
    · cases h; simp
    · split at h
      · split at h
        · cases h
        · rename_i he
          obtain ⟨⟨t', n'⟩, h1, h2⟩ := Option.map_eq_some_iff.1 h
          cases h2
          obtain ⟨q1, q2⟩ := quoteF_n f _ _ _ h1
          rw [List.length_drop] at q2
          have := escS_k r
          simp only [List.length_cons]
          omega
      · split at h
        · cases h
        · obtain ⟨⟨t', n'⟩, h1, h2⟩ := Option.map_eq_some_iff.1 h
          cases h2
          obtain ⟨q1, q2⟩ := quoteF_n f _ _ _ h1
          simp only [List.length_cons]
          omega
theorem wordLen_le (l : List UInt8) : wordLen l ≤ l.length := by
  cases l with
  | nil => simp [wordLen]
  | cons c r => simp only [wordLen]; split
                · exact wlen_le _
                · simp
theorem oneS_n (t : List UInt8) (h : (oneS t).1 = 0) : 1 ≤ (oneS t).2.2 ∧ (oneS t).2.2 ≤ t.length := by
  cases t with
  | nil => cases h
  | cons c r =>
    have hw := wlen_le (c :: r); have hwl := wordLen_le r; have hcd := cntD_le (c :: r)
    simp only [oneS, bad] at h ⊢
    split at h
    · rename_i hl
      have h1 : 1 ≤ wlen (c :: r) := by rw [wlen_cons, if_pos (isL_isP c hl)]; omega
      rw [if_pos hl]
      split at h
      · rename_i hk; rw [if_pos hk]; exact ⟨h1, hw⟩
      · rename_i hk
        rw [if_neg hk]
        split at h
        · cases h
        · rename_i hk; rw [if_neg hk]; exact ⟨h1, hw⟩
    · rename_i hl
      rw [if_neg hl]
      split at h
      · rename_i h36
        rw [if_pos h36]
        split at h
        · cases h
        · rename_i h0
          rw [if_neg h0]
          split at h
          · cases h
          · rename_i hk; rw [if_neg hk]; simp only [List.length_cons]; omega
      · rename_i h36
        rw [if_neg h36]
        split at h
        · rename_i hd
          rw [if_pos hd]
          split at h
          · rename_i hn; rw [if_pos hn]
            refine ⟨?_, hcd⟩
            show 1 ≤ cntD (c :: r)
            rw [cntD_cons, if_pos hd]; omega
          · cases h
        · rename_i hd
          rw [if_neg hd]
          split at h
          · rename_i h34
            rw [if_pos h34]
            split at h
            · cases h
            · rename_i x n hq
              split at h
              · cases h
              · rename_i hk
                rw [if_neg hk]
                have := quoteF_n _ _ _ _ hq
                simp only [List.length_cons]; omega
          · rename_i h34
            rw [if_neg h34]
            split at h
            · rename_i h2
              rw [if_pos h2]
              have : ((c :: r).take 2).length = 2 := by rw [h2]; rfl
              rw [List.length_take] at this
              simp only; omega
            · rename_i h2
              rw [if_neg h2]
              split at h
              · cases h
              · rename_i hk; rw [if_neg hk]; simp
theorem mark_loop (s : List UInt8) (hs : s.length < 100000000000) (i n : Nat) (x1 x2 x3 : Int) (x4 : List UInt8) (h : i + n ≤ s.length) : iter st_lex_one (.l33 s (i : Int) x1 x2 x3 x4 (n : Int)) = some ((6, (i : Int), 0, (s.drop i).take n, ()), ((i + n : Nat) : Int), 0) := by
  rw [iter_eq']
  have e6 : w64 ((i : Int) + (n : Int)) = ((i + n : Nat) : Int) := w64_eq (by omega) (by omega)
  simp only [st_lex_one, sg_lex_one_33, e6, Int.toNat_natCast, cut_take]
  rw [G_pos ⟨by omega, by omega, by omega⟩]; rfl
theorem one_eq (s : List UInt8) (hs : s.length < 100000000000) (i : Nat) (hi : i < s.length) : ∃ r, lex_one s (i : Int) = some r ∧ oneR i (oneS (s.drop i)) r := by
  obtain ⟨c, r, hL⟩ := drop_ex hi
  obtain ⟨hc, hr, hlen⟩ := drop_cons (d := (0 : UInt8)) hL
  have hG : 0 ≤ (i : Int) ∧ (i : Int) < (s.length : Int) := ⟨by omega, by omega⟩
  have e6 : w64 ((i : Int) + 1) = ((i + 1 : Nat) : Int) := w64_eq (by omega) (by omega)
  have hw := wlen_le (c :: r); have hwl := wordLen_le r; have hcd := cntD_le (c :: r)
  simp only [List.length_cons] at hw hcd
  unfold lex_one en_lex_one
  simp only [G_pos hG, Int.toNat_natCast, hc, letter_eq, digit_eq, Option.bind_some, word_eq s (by omega) i (by omega), e6, word_eq s (by omega) (i + 1) (by omega), decide_eq_true_eq]
  rw [hL, hr]
  simp only [oneS]
  by_cases hl : isL c = true
  · have hwd : wordLen (c :: r) = wlen (c :: r) := by simp only [wordLen, if_pos hl]
    rw [if_pos hl, if_pos hl, hwd, G_pos ⟨by omega, by omega, by omega⟩]
    simp only [cut_take, hL, lex_named, IsKey_eq, Option.bind_some]
    cases hk : gl_onceweb_lex_keys.contains ((c :: r).take (wlen (c :: r))) with
    | true => exact ⟨_, rfl, by simp only [if_true, oneR]⟩
    | false =>
      simp only [Bool.false_eq_true, if_false]
      have hlt : (List.take (wlen (c :: r)) (c :: r)).length = wlen (c :: r) := by rw [List.length_take]; simp only [List.length_cons]; omega
      have h24 : ((24 : Int) < ((List.take (wlen (c :: r)) (c :: r)).length : Int)) = (24 < wlen (c :: r)) := by apply propext; rw [hlt]; omega
      simp only [decide_eq_true_eq, h24]
      by_cases h : 24 < wlen (c :: r)
      · rw [if_pos h, if_pos h]; exact ⟨_, rfl, by simp [oneR, bad]⟩
      · rw [if_neg h, if_neg h]; exact ⟨_, rfl, by simp [oneR]⟩
  · rw [if_neg hl, if_neg hl]
    by_cases h36 : (c.toNat : Int) = 36
    · rw [if_pos h36, if_pos h36]
      have h0 : (((i + 1 + wordLen r : Nat) : Int) = ((i + 1 : Nat) : Int)) = (wordLen r = 0) := by apply propext; omega
      have e7 : w64 (w64 (((i + 1 + wordLen r : Nat) : Int) - (i : Int)) - 1) = (wordLen r : Int) := by
        have e71 : w64 (((i + 1 + wordLen r : Nat) : Int) - (i : Int)) = ((wordLen r + 1 : Nat) : Int) := by rw [w64_eq (by omega) (by omega)]; omega
        rw [e71, w64_eq (by omega) (by omega)]; omega
      have h24 : ((24 : Int) < (wordLen r : Int)) = (24 < wordLen r) := by apply propext; omega
      simp only [decide_eq_true_eq, h0, e7, h24]
      by_cases hz : wordLen r = 0
      · rw [if_pos hz, if_pos hz]; exact ⟨_, rfl, by simp [oneR, bad]⟩
      · rw [if_neg hz, if_neg hz]
        by_cases h : 24 < wordLen r
        · rw [if_pos h, if_pos h]; exact ⟨_, rfl, by simp [oneR, bad]⟩
        · rw [if_neg h, if_neg h, G_pos ⟨by omega, by omega, by omega⟩]
          refine ⟨_, rfl, ?_⟩
          simp only [oneR, if_true, Int.toNat_natCast, cut_take, hr, Prod.mk.injEq, true_and, and_true]
          omega
    · rw [if_neg h36, if_neg h36]
      by_cases hd : isD c = true
      · rw [if_pos hd, if_pos hd]
        show ∃ x, iter st_lex_one _ = some x ∧ _
        rw [digits_loop s hs i _ _ _ _ (s.length - i) i (by omega), hL, G_pos ⟨by omega, by omega, by omega⟩, cut_take, hL]
        cases hn : (numS ((c :: r).take (cntD (c :: r)))).2 with
        | true => exact ⟨_, rfl, by simp only [if_true, oneR]⟩
        | false => exact ⟨_, rfl, by simp [oneR, bad]⟩
      · rw [if_neg hd, if_neg hd]
        by_cases h34 : (c.toNat : Int) = 34
        · rw [if_pos h34, if_pos h34, quoted_eq s hs i hi c r hL h34]
          simp only [Option.bind_some]
          cases hq : quoteF (r.length + 1) r with
          | none => exact ⟨_, rfl, by simp [oneR, bad]⟩
          | some p =>
            obtain ⟨x, n⟩ := p
            have hx : ((4096 : Int) < (x.length : Int)) = (4096 < x.length) := by apply propext; omega
            simp only [quoteR, Bool.not_true, Bool.false_eq_true, if_false, List.nil_append, decide_eq_true_eq, hx]
            by_cases h : 4096 < x.length
            · rw [if_pos h, if_pos h]; exact ⟨_, rfl, by simp [oneR, bad]⟩
            · rw [if_neg h, if_neg h]
              refine ⟨_, rfl, ?_⟩
              simp only [oneR, if_true, Prod.mk.injEq, true_and, and_true]; omega
        · rw [if_neg h34, if_neg h34, G_pos ⟨by omega, by omega⟩]
          have hpre : strings_HasPrefix (c :: r) [61, 61] = some (decide ((c :: r).take 2 = [61, 61])) := by
            unfold strings_HasPrefix stringslite_HasPrefix
            by_cases h2 : ((([61, 61] : List UInt8).length : Int)) ≤ ((c :: r).length : Int)
            · rw [G_imp ⟨by omega, h2⟩]; simp only [h2, decide_true, Bool.true_and, Option.bind_some]; rfl
            · rw [G_no (by simp only [h2, decide_false])]
              have : ¬ (c :: r).take 2 = [61, 61] := fun e => by
                have := congrArg List.length e
                rw [List.length_take] at this
                simp only [List.length_cons, List.length_nil] at this h2
                omega
              simp only [h2, decide_false, Bool.false_and, Option.bind_some, this]
          rw [hpre]
          simp only [Option.bind_some, decide_eq_true_eq]
          by_cases h2 : (c :: r).take 2 = [61, 61]
          · rw [if_pos h2, if_pos h2]
            have hl2 : 2 ≤ (c :: r).length := by
              have := congrArg List.length h2
              rw [List.length_take] at this
              simp only [List.length_cons, List.length_nil] at this ⊢; omega
            simp only [List.length_cons] at hl2
            refine ⟨_, (mark_loop s hs i 2 _ _ _ _ (by omega)), ?_⟩
            simp only [oneR, if_true, hL, h2]
          · rw [if_neg h2, if_neg h2]
            have hm : strings_IndexByte [40, 41, 91, 93, 44, 59, 61, 43, 45, 42, 38, 60, 46] c = some (Lib.indexByte marksS c) := rfl
            rw [hm]
            simp only [Option.bind_some, decide_eq_true_eq]
            by_cases h : Lib.indexByte marksS c < 0
            · rw [if_pos h, if_pos h]; exact ⟨_, rfl, by simp [oneR, bad]⟩
            · rw [if_neg h, if_neg h]
              refine ⟨_, (mark_loop s hs i 1 _ _ _ _ (by omega)), ?_⟩
              simp only [oneR, if_true, hL, List.take_succ_cons, List.take_zero]
end Go.Eng
