/- A part of the proof: Pt8. -/
import Derived.Test.YthgemanfbanhnaaDoorPt7
namespace Go.Eng
set_option linter.unusedVariables false
set_option linter.unusedSimpArgs false

theorem tw_stop {p : UInt8 → Bool} (hp : ∀ b, isB b = true → p b = false) {q2 : List UInt8} (hs : stop q2) : q2.takeWhile p = [] := by
  rcases hs with rfl | ⟨b, r, rfl, hb⟩
  · rfl
  · rw [List.takeWhile_cons, hp b hb]; rfl
theorem tw_all {p : UInt8 → Bool} (hp : ∀ b, isB b = true → p b = false) {q2 : List UInt8} (hs : stop q2) {s : List UInt8} (h : s.all p = true) : ((s ++ q2).takeWhile p).length = s.length := by
  rw [List.takeWhile_append_of_pos (List.all_eq_true.1 h), tw_stop hp hs, List.append_nil]
theorem take_app {s q2 : List UInt8} : (s ++ q2).take s.length = s := List.take_left
theorem isWord_all {s : List UInt8} (h : isWord s = true) : s.all isP = true ∧ ∃ c r, s = c :: r ∧ isL c = true := by
  cases s with
  | nil => cases h
  | cons c r =>
    simp only [isWord, Bool.and_eq_true] at h
    exact ⟨by rw [List.all_cons, isL_isP c h.1, h.2]; rfl, c, r, rfl, h.1⟩
theorem one_word {s q2 : List UInt8} (hw : isWord s = true) (hs : stop q2) : oneS (s ++ q2) = if gl_onceweb_lex_keys.contains s = true then (0, (2, 0, s), s.length) else if 24 < s.length then bad 3 else (0, (1, 0, s), s.length) := by
  obtain ⟨h1, c, r, rfl, hl⟩ := isWord_all hw
  have hwl : wlen (c :: (r ++ q2)) = (c :: r).length := tw_all (fun b hb => isB_P hb) hs h1
  have htk : (c :: (r ++ q2)).take (c :: r).length = c :: r := take_app (s := c :: r)
  show oneS (c :: (r ++ q2)) = _
  simp only [oneS, if_pos hl, hwl, htk]
theorem key_word {s : List UInt8} (h : gl_onceweb_lex_keys.contains s = true) : isWord s = true := by
  have hall : gl_onceweb_lex_keys.all isWord = true := by decide +kernel
  exact List.all_eq_true.1 hall s (by simpa using h)
theorem dig_val : ∀ k, k < 10 → isD (dig k) = true ∧ (dig k).toNat = 48 + k := by decide +kernel
theorem decU_all : ∀ (f n : Nat), (decU f n).all isD = true
  | 0, _ => rfl
  | f + 1, n => by
    simp only [decU]; split
    · rfl
    · rw [List.all_append, decU_all f (n / 10)]
      simp [(dig_val (n % 10) (Nat.mod_lt _ (by omega))).1]
theorem decU_head : ∀ (f u : Nat), u ≠ 0 → u < 10 ^ f → ∃ k r, decU f u = dig k :: r ∧ 1 ≤ k ∧ k < 10
  | 0, u, h0, h => by simp at h; omega
  | f + 1, u, h0, h => by
    simp only [decU, if_neg h0]
    by_cases hz : u / 10 = 0
    · rw [hz, decU_zero]
      exact ⟨u % 10, [], rfl, by omega, by omega⟩
    · obtain ⟨k, r, h1, h2, h3⟩ := decU_head f (u / 10) hz (by rw [Nat.pow_succ] at h; omega)
      exact ⟨k, r ++ [dig (u % 10)], by rw [h1]; rfl, h2, h3⟩
theorem numF_dec : ∀ (f u : Nat) (r : List UInt8), u < 10 ^ f → u ≤ 9007199254740992 → numF (decU f u ++ r) 0 = numF r (u : Int)
  | 0, u, r, h, _ => by
    have : u = 0 := by simpa using h
    subst this; rfl
  | f + 1, u, r, h, hu => by
    simp only [decU]
    split
    · rename_i h0; subst h0; rfl
    · obtain ⟨v1, v2⟩ := dig_val (u % 10) (Nat.mod_lt _ (by omega))
      rw [List.append_assoc, numF_dec f (u / 10) _ (by rw [Nat.pow_succ] at h; omega) (by omega)]
      simp only [List.cons_append, List.nil_append, numF, if_pos v1]
      have e : 10 * ((u / 10 : Nat) : Int) + (((dig (u % 10)).toNat : Int) - 48) = (u : Int) := by rw [v2]; omega
      rw [e, if_neg (by omega)]
theorem numS_dec (m : Nat) (hm : m ≤ 9007199254740992) : numS (decS m) = ((m : Int), true) := by
  unfold decS
  by_cases h0 : m = 0
  · subst h0; rfl
  · rw [if_neg h0]
    have hlt : m < 10 ^ 20 := by omega
    obtain ⟨k, r, h1, h2, h3⟩ := decU_head 20 m h0 hlt
    have hn := numF_dec 20 m [] hlt hm
    rw [List.append_nil] at hn
    unfold numS
    rw [if_neg, hn]
    · rfl
    · rw [h1]
      rintro (h | ⟨_, h⟩)
      · cases h
      · have := (dig_val k h3).2
        simp only [List.getD_cons_zero] at h
        omega
theorem decS_all (m : Nat) : (decS m).all isD = true := by
  unfold decS; split
  · decide
  · exact decU_all 20 m
theorem decS_ne (m : Nat) (hm : m ≤ 9007199254740992) : ∃ c r, decS m = c :: r := by
  unfold decS
  split
  · exact ⟨_, _, rfl⟩
  · rename_i h0
    obtain ⟨k, r, h1, _⟩ := decU_head 20 m h0 (by omega)
    exact ⟨_, _, h1⟩
theorem isD_not {c : UInt8} (h : isD c = true) : isL c = false ∧ ¬ (c.toNat : Int) = 36 := by
  simp only [isD, Bool.and_eq_true, decide_eq_true_eq] at h
  refine ⟨?_, by omega⟩
  simp only [isL, Bool.and_eq_false_iff, decide_eq_false_iff_not]; left; omega
theorem hex_back (c : UInt8) (h1 : (c.toNat : Int) < 32 ∨ 126 < (c.toNat : Int)) (h2 : ¬ (c.toNat : Int) = 10) : hexS (hexHi c) (hexLo c) = (c, 4) :=
  all_u8 (p := fun c => ((c.toNat : Int) < 32 ∨ 126 < (c.toNat : Int)) → ¬ (c.toNat : Int) = 10 → hexS (hexHi c) (hexLo c) = (c, 4)) (by decide +kernel) c h1 h2
theorem quote_back (q : List UInt8) : ∀ (s : List UInt8) (f : Nat), (s.flatMap quoteW).length < f → quoteF f (s.flatMap quoteW ++ 34 :: q) = some (s, (s.flatMap quoteW).length + 1)
  | [], f, h => by
    obtain ⟨g, rfl⟩ : ∃ g, f = g + 1 := ⟨f - 1, by simp at h; omega⟩
    rfl
  | c :: s, f, h => by
    obtain ⟨g, rfl⟩ : ∃ g, f = g + 1 := ⟨f - 1, by omega⟩
    rw [List.flatMap_cons, List.length_append] at h
    have e92 : ((92 : UInt8).toNat : Int) = 92 := rfl
    rw [List.flatMap_cons, List.append_assoc]
    by_cases h1 : (c.toNat : Int) = 34 ∨ (c.toNat : Int) = 92
    · have hq : quoteW c = [92, c] := by unfold quoteW; rw [if_pos h1]
      rw [hq] at h ⊢
      simp only [List.length_cons, List.length_nil] at h
      have he : escS (c :: (s.flatMap quoteW ++ 34 :: q)) = (c, 2) := by simp only [escS, if_pos h1]
      simp only [List.cons_append, List.nil_append, quoteF, he]
      rw [if_neg (by decide), if_pos (by decide), if_neg (by decide)]
      show (quoteF g ((c :: (s.flatMap quoteW ++ 34 :: q)).drop 1)).map _ = _
      rw [List.drop_succ_cons, List.drop_zero, quote_back q s g (by omega)]
      simp only [Option.map_some, List.length_cons, List.length_append, List.length_nil, Option.some.injEq, Prod.mk.injEq, true_and]
      show (s.flatMap quoteW).length + 1 + 2 = _
      omega
    · by_cases h2 : (c.toNat : Int) = 10
      · have hq : quoteW c = [92, 110] := by unfold quoteW; rw [if_neg h1, if_pos h2]
        have hc : c = 10 := UInt8.toNat_inj.1 (by have : ((10 : UInt8).toNat : Int) = 10 := rfl; omega)
        rw [hq] at h ⊢
        simp only [List.length_cons, List.length_nil] at h
        have he : escS (110 :: (s.flatMap quoteW ++ 34 :: q)) = (10, 2) := by
          simp only [escS]; rw [if_neg (by decide), if_pos (by decide)]
        simp only [List.cons_append, List.nil_append, quoteF, he]
        rw [if_neg (by decide), if_pos (by decide), if_neg (by decide)]
        show (quoteF g ((110 :: (s.flatMap quoteW ++ 34 :: q)).drop 1)).map _ = _
        rw [List.drop_succ_cons, List.drop_zero, quote_back q s g (by omega), hc]
        simp only [Option.map_some, List.length_cons, List.length_append, List.length_nil, Option.some.injEq, Prod.mk.injEq, true_and]
        show (s.flatMap quoteW).length + 1 + 2 = _
        omega
      · by_cases h3 : (c.toNat : Int) < 32 ∨ 126 < (c.toNat : Int)
        · have hq : quoteW c = [92, 120, hexHi c, hexLo c] := by unfold quoteW; rw [if_neg h1, if_neg h2, if_pos h3]
          rw [hq] at h ⊢
          simp only [List.length_cons, List.length_nil] at h
          have he : escS (120 :: hexHi c :: hexLo c :: (s.flatMap quoteW ++ 34 :: q)) = (c, 4) := by
            simp only [escS]; rw [if_neg (by decide), if_neg (by decide), if_pos (by decide)]
            exact hex_back c h3 h2
          simp only [List.cons_append, List.nil_append, quoteF, he]
          rw [if_neg (by decide), if_pos (by decide), if_neg (by decide)]
          show (quoteF g ((120 :: hexHi c :: hexLo c :: (s.flatMap quoteW ++ 34 :: q)).drop 3)).map _ = _
          rw [List.drop_succ_cons, List.drop_succ_cons, List.drop_succ_cons, List.drop_zero, quote_back q s g (by omega)]
          simp only [Option.map_some, List.length_cons, List.length_append, List.length_nil, Option.some.injEq, Prod.mk.injEq, true_and]
          show (s.flatMap quoteW).length + 1 + 4 = _
          omega
        · have hq : quoteW c = [c] := by unfold quoteW; rw [if_neg h1, if_neg h2, if_neg h3]
          rw [hq] at h ⊢
          simp only [List.length_cons, List.length_nil] at h
          simp only [List.cons_append, List.nil_append, quoteF]
          rw [if_neg (fun e => h1 (.inl e)), if_neg (fun e => h1 (.inr e)), if_neg h3, quote_back q s g (by omega)]
          simp only [Option.map_some, List.length_cons, List.length_append, List.length_nil, Option.some.injEq, Prod.mk.injEq, true_and]
          first | done | omega
theorem mark_not (c : UInt8) (h : 0 ≤ Lib.indexByte marksS c) : isL c = false ∧ ¬ (c.toNat : Int) = 36 ∧ isD c = false ∧ ¬ (c.toNat : Int) = 34 :=
  all_u8 (p := fun c => 0 ≤ Lib.indexByte marksS c → isL c = false ∧ ¬ (c.toNat : Int) = 36 ∧ isD c = false ∧ ¬ (c.toNat : Int) = 34) (by decide +kernel) c h
def tkOf (t : tToken) : TkS := (t.1, t.2.2.1, t.2.2.2.1)
theorem ite_f {α : Type} {b : Bool} (h : b = false) {x y : α} : (if b = true then x else y) = y := by rw [h]; rfl
/-- What is written is told. -/
theorem one_written {t : tToken} (hr : rightS t = true) {q2 : List UInt8} (hs : stop q2) : oneS (wText t ++ q2) = (0, tkOf t, (wText t).length) := by
  obtain ⟨k, at_, n, s, ⟨⟩⟩ := t
  unfold rightS at hr
  simp only at hr
  unfold wText tkOf
  simp only
  by_cases h1 : k = 1
  · rw [if_pos h1] at hr
    simp only [nameS, Bool.and_eq_true, decide_eq_true_eq, Bool.not_eq_true'] at hr
    obtain ⟨⟨⟨a1, a2⟩, a3⟩, a4⟩ := hr
    rw [if_neg (by omega), if_neg (by omega), if_neg (by omega), one_word a1 hs, ite_f a3, if_neg (by omega), h1, a4]
  · rw [if_neg h1] at hr
    by_cases h2 : k = 2
    · rw [if_pos h2] at hr
      simp only [Bool.and_eq_true, decide_eq_true_eq] at hr
      rw [if_neg (by omega), if_neg (by omega), if_neg (by omega), one_word (key_word hr.1) hs, if_pos hr.1, h2, hr.2]
    · rw [if_neg h2] at hr
      by_cases h3 : k = 3
      · rw [if_pos h3] at hr
        simp only [Bool.and_eq_true, decide_eq_true_eq] at hr
        obtain ⟨⟨a1, a2⟩, a3⟩ := hr
        rw [if_pos h3]
        obtain ⟨b1, c, r, rfl, hl⟩ := isWord_all a2
        have hwl : wlen (c :: (r ++ q2)) = (c :: r).length := tw_all (fun b hb => isB_P hb) hs b1
        have hwd : wordLen ((c :: r) ++ q2) = (c :: r).length := by
          show wordLen (c :: (r ++ q2)) = _
          simp only [wordLen, if_pos hl, hwl]
        have htk : ((c :: r) ++ q2).take (c :: r).length = c :: r := take_app
        show oneS (36 :: ((c :: r) ++ q2)) = _
        simp only [oneS, hwd, htk]
        rw [if_neg (by decide), if_pos (by decide), if_neg (by simp), if_neg (by omega), h3, a3]
        simp
      · rw [if_neg h3] at hr
        rw [if_neg h3]
        by_cases h4 : k = 4
        · rw [if_pos h4] at hr
          simp only [Bool.and_eq_true, decide_eq_true_eq] at hr
          obtain ⟨⟨a1, a2⟩, a3⟩ := hr
          rw [if_pos h4]
          obtain ⟨m, hm⟩ : ∃ m : Nat, n = (m : Int) := ⟨n.toNat, by omega⟩
          subst hm
          rw [Int.toNat_natCast]
          have hmm : m ≤ 9007199254740992 := by omega
          obtain ⟨c, r, hcr⟩ := decS_ne m hmm
          have hall := decS_all m
          have hnum := numS_dec m hmm
          rw [hcr] at hall hnum ⊢
          have hcd : cntD (c :: (r ++ q2)) = (c :: r).length := tw_all (fun b hb => isB_D hb) hs hall
          have htk : (c :: (r ++ q2)).take (c :: r).length = c :: r := take_app (s := c :: r)
          have hc : isD c = true := by rw [List.all_cons, Bool.and_eq_true] at hall; exact hall.1
          obtain ⟨d1, d2⟩ := isD_not hc
          show oneS (c :: (r ++ q2)) = _
          simp only [oneS, hcd, htk, hnum]
          rw [ite_f d1, if_neg d2, if_pos hc, if_pos trivial, h4, a1]
        · rw [if_neg h4] at hr
          rw [if_neg h4]
          by_cases h5 : k = 5
          · rw [if_pos h5] at hr
            simp only [Bool.and_eq_true, decide_eq_true_eq] at hr
            rw [if_pos h5]
            have hq := quote_back q2 s (((s.flatMap quoteW) ++ 34 :: q2).length + 1) (by rw [List.length_append]; omega)
            have e : quoteT s ++ q2 = 34 :: ((s.flatMap quoteW) ++ 34 :: q2) := by unfold quoteT; simp
            rw [e]
            simp only [oneS, hq]
            rw [if_neg (by decide), if_neg (by decide), if_neg (by decide), if_pos (by decide), if_neg (by omega), h5, hr.2]
            simp [quoteT]
          · rw [if_neg h5] at hr
            rw [if_neg h5]
            by_cases h6 : k = 6
            · rw [if_pos h6] at hr
              simp only [Bool.and_eq_true, decide_eq_true_eq] at hr
              obtain ⟨a1, a2⟩ := hr
              rw [h6, a2]
              unfold markS at a1
              by_cases he : s = [61, 61]
              · subst he
                show oneS (61 :: 61 :: q2) = _
                simp only [oneS]
                rw [if_neg (by decide), if_neg (by decide), if_neg (by decide), if_neg (by decide), if_pos (by rfl)]
                rfl
              · simp only [he, decide_false, Bool.false_or] at a1
                split at a1
                · rename_i c
                  simp only [decide_eq_true_eq] at a1
                  obtain ⟨m1, m2, m3, m4⟩ := mark_not c a1
                  have hne : ¬ (c :: q2).take 2 = [61, 61] := by
                    rcases hs with rfl | ⟨b, r, rfl, hb⟩
                    · simp
                    · intro h
                      simp only [List.take_succ_cons, List.take_zero, List.cons.injEq, and_true] at h
                      rcases isB_vals hb with rfl | rfl | rfl | rfl <;> cases h.2
                  show oneS (c :: q2) = _
                  simp only [oneS]
                  rw [ite_f m1, if_neg m2, ite_f m3, if_neg m4, if_neg hne, if_neg (by omega)]
                  rfl
                · cases a1
            · rw [if_neg h6] at hr; cases hr
theorem joinTail_cons (x : List UInt8) (xs : List (List UInt8)) : Lib.joinTail [32] (x :: xs) = 32 :: Lib.join (x :: xs) [32] := by
  rw [Lib.join_cons]; unfold Lib.joinTail; simp
theorem toks_lay : ∀ (l : List tToken), l.all rightS = true → (skipF false (Lib.join (l.map wText) [32]) = Lib.join (l.map wText) [32]) ∧ ∃ g l2, toksR g (Lib.join (l.map wText) [32]) = some l2 ∧ l2.map (·.1) = l.map tkOf
  | [], _ => ⟨rfl, 1, [], rfl, rfl⟩
  | t :: r, h => by
    rw [List.all_cons, Bool.and_eq_true] at h
    obtain ⟨i0, g, l2, i1, i2⟩ := toks_lay r h.2
    obtain ⟨q2, hq2, hstop, hskip⟩ : ∃ q2, Lib.join ((t :: r).map wText) [32] = wText t ++ q2 ∧ stop q2 ∧ skipF false q2 = Lib.join (r.map wText) [32] := by
      cases r with
      | nil => exact ⟨[], by rw [List.map_cons, Lib.join_cons]; rfl, .inl rfl, rfl⟩
      | cons t2 r2 =>
        refine ⟨32 :: Lib.join ((t2 :: r2).map wText) [32], ?_, .inr ⟨32, _, rfl, by decide⟩, ?_⟩
        · rw [List.map_cons, Lib.join_cons, List.map_cons, joinTail_cons]
        · exact (skip_blank (Lib.join ((t2 :: r2).map wText) [32]) [32] (by decide)).trans i0
    have hone := one_written h.1 hstop
    rw [hq2]
    have hn := oneS_n (wText t ++ q2) (by rw [hone])
    rw [hone] at hn
    cases hw : wText t with
    | nil => rw [hw] at hn; simp at hn
    | cons c w =>
      rw [hw] at hone hn
      have hone' : oneS (c :: (w ++ q2)) = (0, tkOf t, (c :: w).length) := hone
      refine ⟨skip_head (by show (oneS (c :: (w ++ q2))).1 = 0; rw [hone']), g + 1, ((tkOf t), (c :: (w ++ q2)).length) :: l2, ?_, by rw [List.map_cons, i2]; rfl⟩
      show toksR (g + 1) (c :: (w ++ q2)) = _
      simp only [toksR]
      rw [hone', if_pos rfl]
      have hdr : (c :: (w ++ q2)).drop (c :: w).length = q2 := List.drop_left (l₁ := c :: w)
      simp only [hdr, hskip, i1, Option.map_some]

/-! quotes, there and back -/
theorem idx_hex (p : UInt8) (h : 0 ≤ Lib.indexByte hexD p) : ∃ k : Fin 16, hexD.getD k.1 0 = p :=
  all_u8 (p := fun p => 0 ≤ Lib.indexByte hexD p → ∃ k : Fin 16, hexD.getD k.1 0 = p) (by decide +kernel) p h
theorem hex_inv {p q x : UInt8} (h : hexS p q = (x, 4)) : quoteW x = [92, 120, p, q] := by
  have h0 := h
  unfold hexS at h
  split at h
  · cases h
  · rename_i hc
    obtain ⟨a, rfl⟩ := idx_hex p (by omega)
    obtain ⟨b, rfl⟩ := idx_hex q (by omega)
    have key : ∀ a b : Fin 16, (hexS (hexD.getD a.1 0) (hexD.getD b.1 0)).2 = 4 → quoteW (hexS (hexD.getD a.1 0) (hexD.getD b.1 0)).1 = [92, 120, hexD.getD a.1 0, hexD.getD b.1 0] := by decide +kernel
    have := key a b (by rw [h0])
    rw [h0] at this; exact this
theorem quote_inv : ∀ (f : Nat) (r t : List UInt8) (n : Nat), quoteF f r = some (t, n) → r.take n = t.flatMap quoteW ++ [34]
  | 0, _, _, _, h => by cases h
  | _ + 1, [], _, _, h => by cases h
  | f + 1, c :: r, t, n, h => by
    simp only [quoteF] at h
    split at h
    · rename_i h1
      cases h
      have : c = 34 := UInt8.toNat_inj.1 (by have : ((34 : UInt8).toNat : Int) = 34 := rfl; omega)
      subst this; rfl
    · rename_i h1
      split at h
      · rename_i h2
        have hc : c = 92 := UInt8.toNat_inj.1 (by have : ((92 : UInt8).toNat : Int) = 92 := rfl; omega)
        subst hc
        split at h
        · cases h
        · rename_i he
          obtain ⟨⟨t', n'⟩, h3, h4⟩ := Option.map_eq_some_iff.1 h
          cases h4
          cases r with
          | nil => exact absurd rfl he
          | cons d r =>
            simp only [escS] at he h3 ⊢
            by_cases g1 : (d.toNat : Int) = 34 ∨ (d.toNat : Int) = 92
            · simp only [if_pos g1] at he h3 ⊢
              have ih := quote_inv f _ _ _ (show quoteF f r = some (t', n') from h3)
              show (92 :: d :: r).take (n' + 2) = _
              rw [List.take_succ_cons, List.take_succ_cons, ih, List.flatMap_cons]
              have : quoteW d = [92, d] := by unfold quoteW; rw [if_pos g1]
              rw [this]; rfl
            · simp only [if_neg g1] at he h3 ⊢
              by_cases g2 : (d.toNat : Int) = 110
              · simp only [if_pos g2] at he h3 ⊢
                have hd : d = 110 := UInt8.toNat_inj.1 (by have : ((110 : UInt8).toNat : Int) = 110 := rfl; omega)
                subst hd
                have ih := quote_inv f _ _ _ (show quoteF f r = some (t', n') from h3)
                show (92 :: 110 :: r).take (n' + 2) = _
                rw [List.take_succ_cons, List.take_succ_cons, ih, List.flatMap_cons]; rfl
              · simp only [if_neg g2] at he h3 ⊢
                by_cases g3 : (d.toNat : Int) = 120
                · simp only [if_pos g3] at he h3 ⊢
                  have hd : d = 120 := UInt8.toNat_inj.1 (by have : ((120 : UInt8).toNat : Int) = 120 := rfl; omega)
                  subst hd
                  cases r with
                  | nil => exact absurd rfl he
                  | cons p r =>
                    cases r with
                    | nil => exact absurd rfl he
                    | cons q r =>
                      have hx : escX (p :: q :: r) = hexS p q := rfl
                      rw [hx] at he h3 ⊢
                      have h4 : (hexS p q).2 = 4 := by
                        unfold hexS at he ⊢
                        split
                        · rename_i hh; rw [if_pos hh] at he; exact absurd rfl he
                        · rfl
                      rw [h4] at h3 ⊢
                      have ih := quote_inv f _ _ _ (show quoteF f r = some (t', n') from h3)
                      show (92 :: 120 :: p :: q :: r).take (n' + 4) = _
                      rw [List.take_succ_cons, List.take_succ_cons, List.take_succ_cons, List.take_succ_cons, ih, List.flatMap_cons, hex_inv (x := (hexS p q).1) (by rw [← h4])]; rfl
                · simp only [if_neg g3] at he
                  exact absurd trivial he
      · rename_i h2
        split at h
        · cases h
        · rename_i h3
          obtain ⟨⟨t', n'⟩, h4, h5⟩ := Option.map_eq_some_iff.1 h
          cases h5
          have ih := quote_inv f _ _ _ h4
          have : quoteW c = [c] := by unfold quoteW; rw [if_neg (by omega), if_neg (by omega), if_neg h3]
          rw [List.take_succ_cons, ih, List.flatMap_cons, this]; rfl
def unqS : List UInt8 → List UInt8 × Bool
  | [] => ([], false)
  | c :: r => if (c.toNat : Int) = 34 then (match quoteF (r.length + 1) r with
    | some (t, n) => if n = r.length then (t, true) else ([], false)
    | none => ([], false)) else ([], false)
theorem Unquote_eq (s : List UInt8) (hs : s.length < 100000000000) : lex_Unquote s = some (unqS s) := by
  unfold lex_Unquote
  cases s with
  | nil => rfl
  | cons c r =>
    simp only [unqS]
    by_cases h34 : (c.toNat : Int) = 34
    · have hq := quoted_eq (c :: r) hs 0 (by simp) c r rfl h34
      rw [show ((0 : Nat) : Int) = 0 from rfl] at hq
      rw [hq, if_pos h34]
      cases quoteF (r.length + 1) r with
      | none => rfl
      | some p =>
        obtain ⟨t, n⟩ := p
        simp only [quoteR, Option.bind_some, Bool.not_true, Bool.false_or, List.nil_append]
        have : (((0 + 1 + n : Nat) : Int) = ((c :: r).length : Int)) = (n = r.length) := by apply propext; simp only [List.length_cons]; omega
        simp only [this, Bool.not_eq_true', decide_eq_false_iff_not]
        by_cases hn : n = r.length
        · rw [if_neg (by simpa using hn), if_pos hn]
        · rw [if_pos hn, if_neg hn]
    · rw [if_neg h34]
      unfold lex_quoted en_lex_quoted
      have h1 : ¬ ((c :: r).length : Int) ≤ 0 := by simp only [List.length_cons]; omega
      have hg : (c :: r).getD (0 : Int).toNat 0 = c := rfl
      rw [G_pos (fun _ => ⟨by omega, by simp only [List.length_cons]; omega⟩)]
      simp only [h1, hg, h34, decide_false, Bool.not_false, Bool.or_true, if_true]
      rfl
theorem unq_quote (s : List UInt8) : unqS (quoteT s) = (s, true) := by
  have e : quoteT s = 34 :: ((s.flatMap quoteW) ++ 34 :: []) := by unfold quoteT; simp
  rw [e]
  simp only [unqS]
  rw [if_pos (by decide), quote_back [] s _ (by rw [List.length_append]; omega)]
  simp
theorem quote_unq {s t : List UInt8} (h : unqS s = (t, true)) : quoteT t = s := by
  cases s with
  | nil => cases h
  | cons c r =>
    simp only [unqS] at h
    split at h
    · rename_i h34
      have hc : c = 34 := UInt8.toNat_inj.1 (by have : ((34 : UInt8).toNat : Int) = 34 := rfl; omega)
      split at h
      · rename_i t' n hq
        split at h
        · rename_i hn
          cases h
          have := quote_inv _ _ _ _ hq
          rw [hn, List.take_length] at this
          unfold quoteT
          rw [hc, this]; simp
        · cases h
      · cases h
    · cases h
theorem back8 (s : List UInt8) (hs : s.length ≤ 1048576) : iter st_law01_LexBack (.l8 s) = some true := by
  rw [iter_eq']
  have hq := quoteT_len s
  simp only [st_law01_LexBack, sg_law01_LexBack_8, Quote_eq s (by omega), Option.bind_some, Unquote_eq (quoteT s) (by omega), unq_quote, decide_true, Bool.not_true, Bool.or_self, Bool.false_eq_true, if_false, Unquote_eq s (by omega)]
  cases hu : unqS s with
  | mk t b =>
    cases b with
    | false => rfl
    | true =>
      have h1 := quote_unq hu
      have h2 : t.length ≤ 10000000000000 := by
        have : ∀ x : List UInt8, x.length ≤ (x.flatMap quoteW).length := by
          intro x
          induction x with
          | nil => simp
          | cons c x ih =>
            have : 1 ≤ (quoteW c).length := by
              unfold quoteW
              split
              · simp
              · split
                · simp
                · split <;> simp
            rw [List.flatMap_cons, List.length_append, List.length_cons]; omega
        have h3 := this t
        have h4 := congrArg List.length h1
        unfold quoteT at h4
        simp only [List.length_append, List.length_cons, List.length_nil] at h4
        omega
      simp only [Bool.not_true, Bool.not_false, if_true, Quote_eq t h2, Option.bind_some, h1, decide_true, Bool.or_true]; rfl
theorem LexBack_pure (l : List tToken) (s : List UInt8) (hl : l.length ≤ 1048576) (ho : ∀ t ∈ l, okTok t) (hs : s.length ≤ 1048576) : law01_LexBack l s = some true := by
  unfold law01_LexBack en_law01_LexBack
  rw [works_eq]
  simp only [Option.bind_some, Bool.not_true, Bool.false_eq_true, if_false, Lay_eq l ho]
  by_cases h0 : ((decide ((layS l).2 = 0)) && (decide (((layS l).1.length : Int) ≤ 65536))) = true
  · rw [if_pos h0]
    simp only [Bool.and_eq_true, decide_eq_true_eq] at h0
    unfold layS at h0 ⊢
    by_cases h8 : 8192 < l.length
    · rw [if_pos h8] at h0; exact absurd h0.1 (by decide)
    · rw [if_neg h8] at h0 ⊢
      by_cases hall : l.all rightS = true
      · rw [if_pos hall] at h0 ⊢
        obtain ⟨k0, g, l2, k1, k2⟩ := toks_lay l hall
        have hl2 : l2.length = l.length := by have := congrArg List.length k2; simpa using this
        have h02 : (Lib.join (l.map wText) [32]).length ≤ 65536 := by
          have h3 : (((Lib.join (l.map wText) [32]).length : Nat) : Int) ≤ 65536 := h0.2
          omega
        have hfin := tokS_of (s := Lib.join (l.map wText) [32]) h02 (by rw [k0]; exact k1) (by omega)
        have hz0 : eqR tyFault ((0 : Int), (0 : Int), ()) ((0 : Int), (0 : Int), ()) = true := by kernel_rfl
        simp only [tokens_eq, hfin, Option.bind_some]
        rw [hz0]
        simp only [Bool.not_true, Bool.not_false, if_true]
        rw [nowhere_eq _ (by rw [List.length_map]; omega), nowhere_eq l (by omega)]
        simp only [Option.bind_some]
        have hmap : (l2.map (tokAt (Lib.join (l.map wText) [32]).length)).map noAt = l.map noAt := by
          rw [noAt_map, k2, List.map_map]; rfl
        rw [hmap, toksame_eq _ _ (by rw [List.length_map]; omega)]
        simp only [Option.bind_some, decide_true, Bool.not_true, Bool.or_self, Bool.false_eq_true, if_false]
        show iter _ _ = _
        exact back8 s hs
      · rw [if_neg hall] at h0; exact absurd h0.1 (by decide)
  · rw [if_neg h0]
    show iter _ _ = _
    exact back8 s hs
end Go.Eng
