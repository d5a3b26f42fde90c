/- A part of the proof: Pt6. -/
import Derived.Test.YthgemanfbanhnaaDoorPt5
namespace Go.Eng
set_option linter.unusedVariables false
set_option linter.unusedSimpArgs false

/-! digits -/
def dig (k : Nat) : UInt8 := (48 + k).toUInt8
def decU : Nat → Nat → List UInt8
  | 0, _ => []
  | f + 1, u => if u = 0 then [] else decU f (u / 10) ++ [dig (u % 10)]
def decS (n : Nat) : List UInt8 := if n = 0 then [48] else decU 20 n
theorem u8_add (k : Nat) (hk : k < 10) : (IntKind.wrap .u8 ((48 : Int) + (k : Int))).toNat.toUInt8 = dig k := by
  have : IntKind.wrap .u8 ((48 : Int) + (k : Int)) = ((48 + k : Nat) : Int) := by
    simp only [IntKind.wrap, IntKind.bits, IntKind.signed]; simp; omega
  rw [this]; rfl
theorem tmod10 (n : Nat) : Int.tmod (n : Int) 10 = ((n % 10 : Nat) : Int) := by
  rw [Int.tmod_eq_emod_of_nonneg (by omega)]; omega
theorem tdiv10 (n : Nat) : Int.tdiv (n : Int) 10 = ((n / 10 : Nat) : Int) := by
  rw [Int.tdiv_eq_ediv_of_nonneg (by omega)]; omega
theorem decU_zero : ∀ f, decU f 0 = []
  | 0 => rfl
  | f + 1 => by simp [decU]
theorem digits_loop2 : ∀ (f n : Nat) (out : List UInt8), n < 10 ^ f → 1 ≤ f → n < 9223372036854775808 → out.length + f ≤ 100 → iter st_lex_digits (.l4 (n : Int) out) = some ((if n = 0 then [48] else decU f n) ++ out.reverse)
  | 0, n, out, hn, hf, _, _ => by omega
  | f + 1, n, out, hn, hf, hb, ho => by
    rw [iter_eq']
    have e1 : w64 ((48 : Int) + Int.tmod (n : Int) 10) = (48 : Int) + ((n % 10 : Nat) : Int) := by rw [tmod10, w64_eq (by omega) (by omega)]
    have e2 : w64 (Int.tdiv (n : Int) 10) = ((n / 10 : Nat) : Int) := by rw [tdiv10, w64_eq (by omega) (by omega)]
    have h0 : (((n / 10 : Nat) : Int) = 0) = (n / 10 = 0) := by apply propext; omega
    simp only [st_lex_digits, sg_lex_digits_4, e1, e2, u8_add _ (Nat.mod_lt n (by omega : 0 < 10)), decide_eq_true_eq, h0]
    rw [G_pos (show (out.length + ([dig (n % 10)] : List UInt8).length) * 1 ≤ 140737488355328 from by simp only [List.length_cons, List.length_nil]; omega)]
    by_cases hz : n / 10 = 0
    · rw [if_pos hz]
      simp only [slices_Reverse, Option.bind_some, List.reverse_append, List.reverse_cons, List.reverse_nil, List.nil_append]
      show some _ = some _
      by_cases hn0 : n = 0
      · subst hn0; rfl
      · rw [if_neg hn0]
        simp only [decU, if_neg hn0, hz, decU_zero, List.nil_append]
    · rw [if_neg hz]
      show iter _ _ = _
      have hf1 : 1 ≤ f := by
        cases f with
        | zero => simp only [Nat.zero_add, Nat.pow_one] at hn; omega
        | succ f => omega
      rw [digits_loop2 f (n / 10) _ (by rw [Nat.pow_succ] at hn; omega) hf1 (by omega) (by simp only [List.length_append, List.length_cons, List.length_nil]; omega), if_neg hz, if_neg (by omega)]
      simp only [decU, if_neg (show ¬ n = 0 by omega), List.reverse_append, List.reverse_cons, List.reverse_nil, List.nil_append, List.append_assoc]
theorem digits_eq (n : Nat) (hn : n < 9223372036854775808) : lex_digits (n : Int) = some (decS n) := by
  unfold lex_digits en_lex_digits decS
  have : ¬ (n : Int) < 0 := by omega
  simp only [this, decide_false, Bool.false_eq_true, if_false]
  show iter _ _ = _
  rw [digits_loop2 20 n [] (by omega) (by omega) hn (by simp)]
  simp
theorem digits_neg (n : Int) (hn : n < 0) : lex_digits n = some [] := by
  unfold lex_digits en_lex_digits
  simp only [hn, decide_true, if_true]; rfl
theorem itoa_loop (m : Int) (hm : ¬ m < 0) : ∀ (f u : Nat) (s : List UInt8), u < 10 ^ f → u < 9223372036854775808 → s.length + f ≤ 100 → iter st_base_Itoa (.l7 m (u : Int) s) = some (decU f u ++ s)
  | 0, u, s, hu, hb, hs => by
    have : u = 0 := by simpa using hu
    subst this
    rw [iter_eq']
    simp only [st_base_Itoa, sg_base_Itoa_7, hm, decide_false, Bool.false_eq_true, if_false, decU, List.nil_append]
    rfl
  | f + 1, u, s, hu, hb, hs => by
    rw [iter_eq']
    have h0 : ((0 : Int) < (u : Int)) = (0 < u) := by apply propext; omega
    simp only [st_base_Itoa, sg_base_Itoa_7, decide_eq_true_eq, h0, hm, if_false]
    by_cases hz : 0 < u
    · rw [if_pos hz]
      have e1 : IntKind.wrap .u64 ((48 : Int) + Int.tmod (u : Int) 10) = (48 : Int) + ((u % 10 : Nat) : Int) := by
        rw [tmod10]; simp only [IntKind.wrap, IntKind.bits, IntKind.signed]; simp; omega
      have e2 : IntKind.wrap .u64 (Int.tdiv (u : Int) 10) = ((u / 10 : Nat) : Int) := by
        rw [tdiv10]; simp only [IntKind.wrap, IntKind.bits, IntKind.signed]; simp; omega
      rw [e1, e2, u8_add _ (Nat.mod_lt u (by omega : 0 < 10)), G_pos (show ([dig (u % 10)] : List UInt8).length + s.length ≤ 9223372036854775807 from by simp only [List.length_cons, List.length_nil]; omega)]
      show iter _ _ = _
      rw [itoa_loop m hm f (u / 10) _ (by rw [Nat.pow_succ] at hu; omega) (by omega) (by simp only [List.length_append, List.length_cons, List.length_nil]; omega)]
      simp only [decU, if_neg (show ¬ u = 0 by omega), List.append_assoc]
    · have : u = 0 := by omega
      subst this
      rw [if_neg hz, decU_zero]; rfl
theorem itoa_eq (n : Nat) (hn : n < 9223372036854775808) : base_Itoa (n : Int) = some (decS n) := by
  unfold base_Itoa en_base_Itoa decS
  have h0 : ((n : Int) = 0) = (n = 0) := by apply propext; omega
  have h1 : ¬ (n : Int) < 0 := by omega
  have e : IntKind.wrap .u64 (n : Int) = (n : Int) := by simp only [IntKind.wrap, IntKind.bits, IntKind.signed]; simp; omega
  simp only [decide_eq_true_eq, h0, h1, if_false, e]
  by_cases hz : n = 0
  · rw [if_pos hz, if_pos hz]; rfl
  · rw [if_neg hz, if_neg hz]
    show iter _ _ = _
    rw [iter_eq']
    show iter _ _ = _
    rw [itoa_loop n h1 20 n [] (by omega) hn (by simp), List.append_nil]
theorem decU_len : ∀ (f n : Nat), (decU f n).length ≤ f
  | 0, _ => by simp [decU]
  | f + 1, n => by
    simp only [decU]; split
    · simp
    · have := decU_len f (n / 10); simp only [List.length_append, List.length_cons, List.length_nil]; omega
theorem decS_len (n : Nat) : (decS n).length ≤ 20 := by
  unfold decS; split
  · simp
  · exact decU_len 20 n

/-! the reference's quotes -/
theorem refQuote_loop (s : List UInt8) (hs : s.length ≤ 10000000000000) : ∀ (d i : Nat) (out : List UInt8), i + d = s.length → out.length ≤ 4 * i + 1 → iter st_ref01_Quote (.l4 s [48, 49, 50, 51, 52, 53, 54, 55, 56, 57, 97, 98, 99, 100, 101, 102] out (i : Int)) = some (out ++ (s.drop i).flatMap quoteW ++ [34])
  | 0, i, out, hi, ho => by
    rw [iter_eq']
    have hd : s.drop i = [] := List.drop_eq_nil_of_le (by omega)
    have : ¬ (i : Int) < (s.length : Int) := by omega
    simp only [st_ref01_Quote, sg_ref01_Quote_4, this, decide_false, Bool.false_eq_true, if_false, hd, List.flatMap_nil, List.append_nil]
    rw [G_pos (show (out.length + ([(34 : UInt8)] : List UInt8).length) * 1 ≤ 140737488355328 from by simp only [List.length_cons, List.length_nil]; omega)]; rfl
  | d + 1, i, out, hi, ho => by
    rw [iter_eq']
    obtain ⟨c, r, hL⟩ := drop_ex (show i < s.length by omega)
    obtain ⟨hc, hr, hlen⟩ := drop_cons (d := (0 : UInt8)) hL
    have hlt : (i : Int) < (s.length : Int) := by omega
    have hG : 0 ≤ (i : Int) ∧ (i : Int) < (s.length : Int) := ⟨by omega, hlt⟩
    have e6 : w64 ((i : Int) + 1) = ((i + 1 : Nat) : Int) := w64_eq (by omega) (by omega)
    have h16 : (([48, 49, 50, 51, 52, 53, 54, 55, 56, 57, 97, 98, 99, 100, 101, 102] : List UInt8).length : Int) = 16 := rfl
    simp only [st_ref01_Quote, sg_ref01_Quote_4, decide_eq_true_eq, if_pos hlt, G_pos hG, Int.toNat_natCast, hc, e6, Bool.or_eq_true]
    rw [hL, List.flatMap_cons]
    have hq := quoteW_len c
    have fin : ∀ w : List UInt8, w = quoteW c → iter st_ref01_Quote (.l4 s [48, 49, 50, 51, 52, 53, 54, 55, 56, 57, 97, 98, 99, 100, 101, 102] (out ++ w) ((i + 1 : Nat) : Int)) = some (out ++ (quoteW c ++ r.flatMap quoteW) ++ [34]) := by
      intro w hw
      subst hw
      rw [refQuote_loop s hs d (i + 1) _ (by omega) (by rw [List.length_append]; omega), hr]
      simp only [List.append_assoc]
    by_cases h1 : (c.toNat : Int) = 34 ∨ (c.toNat : Int) = 92
    · rw [if_pos h1, G_pos (show (out.length + ([(92 : UInt8), c] : List UInt8).length) * 1 ≤ 140737488355328 from by simp only [List.length_cons, List.length_nil]; omega)]
      exact fin _ (by unfold quoteW; rw [if_pos h1])
    · rw [if_neg h1]
      by_cases h2 : (c.toNat : Int) = 10
      · rw [if_pos h2, G_pos (show (out.length + ([(92 : UInt8), (110 : UInt8)] : List UInt8).length) * 1 ≤ 140737488355328 from by simp only [List.length_cons, List.length_nil]; omega)]
        exact fin _ (by unfold quoteW; rw [if_neg h1, if_pos h2])
      · rw [if_neg h2]
        by_cases h3 : (c.toNat : Int) < 32 ∨ 126 < (c.toNat : Int)
        · have hx := all_u8 (p := fun c => (0 ≤ ((((IntKind.wrap .u8 (Int.tdiv (c.toNat : Int) 16))).toNat.toUInt8).toNat : Int) ∧ ((((IntKind.wrap .u8 (Int.tdiv (c.toNat : Int) 16))).toNat.toUInt8).toNat : Int) < 16) ∧ (0 ≤ ((((Int.tmod (c.toNat : Int) 16)).toNat.toUInt8).toNat : Int) ∧ ((((Int.tmod (c.toNat : Int) 16)).toNat.toUInt8).toNat : Int) < 16) ∧ hexD.getD (((IntKind.wrap .u8 (Int.tdiv (c.toNat : Int) 16))).toNat.toUInt8).toNat 0 = hexHi c ∧ hexD.getD (((Int.tmod (c.toNat : Int) 16)).toNat.toUInt8).toNat 0 = hexLo c) (by decide +kernel) c
          obtain ⟨x1, x2, x3, x4⟩ := hx
          rw [if_pos h3, h16, G_pos x1, G_pos x2]
          show runL st_ref01_Quote (G ((out.length + ([92, 120, hexD.getD (((IntKind.wrap .u8 (Int.tdiv (c.toNat : Int) 16))).toNat.toUInt8).toNat 0, hexD.getD (((Int.tmod (c.toNat : Int) 16)).toNat.toUInt8).toNat 0] : List UInt8).length) * 1 ≤ 140737488355328) (some (.inl (.l4 s [48, 49, 50, 51, 52, 53, 54, 55, 56, 57, 97, 98, 99, 100, 101, 102] (out ++ [92, 120, hexD.getD (((IntKind.wrap .u8 (Int.tdiv (c.toNat : Int) 16))).toNat.toUInt8).toNat 0, hexD.getD (((Int.tmod (c.toNat : Int) 16)).toNat.toUInt8).toNat 0]) ((i + 1 : Nat) : Int))))) = _
          rw [x3, x4, G_pos (show (out.length + ([92, 120, hexHi c, hexLo c] : List UInt8).length) * 1 ≤ 140737488355328 from by simp only [List.length_cons, List.length_nil]; omega)]
          exact fin _ (by unfold quoteW; rw [if_neg h1, if_neg h2, if_pos h3])
        · rw [if_neg h3, G_pos (show (out.length + ([c] : List UInt8).length) * 1 ≤ 140737488355328 from by simp only [List.length_cons, List.length_nil]; omega)]
          exact fin _ (by unfold quoteW; rw [if_neg h1, if_neg h2, if_neg h3])
theorem refQuote_eq (s : List UInt8) (hs : s.length ≤ 10000000000000) : ref01_Quote s = some (quoteT s) := by
  unfold ref01_Quote en_ref01_Quote
  show iter _ _ = _
  have := refQuote_loop s hs s.length 0 [34] (by omega) (by simp)
  rw [List.drop_zero] at this
  exact this
theorem flatW_len : ∀ s : List UInt8, (s.flatMap quoteW).length ≤ 4 * s.length
  | [] => by simp
  | c :: s => by
    have := quoteW_len c; have := flatW_len s
    rw [List.flatMap_cons, List.length_append, List.length_cons]; omega
theorem quoteT_len (s : List UInt8) : (quoteT s).length ≤ 4 * s.length + 2 := by
  have := flatW_len s
  unfold quoteT; simp only [List.length_append, List.length_cons, List.length_nil]; omega

/-! what is written -/
def markS (s : List UInt8) : Bool := decide (s = [61, 61]) || (match s with
  | [c] => decide (0 ≤ Lib.indexByte marksS c)
  | _ => false)
def rightS (t : tToken) : Bool :=
  if t.1 = 1 then nameS t.2.2.2.1 && decide (t.2.2.1 = 0) else if t.1 = 2 then gl_onceweb_lex_keys.contains t.2.2.2.1 && decide (t.2.2.1 = 0) else if t.1 = 3 then decide (t.2.2.2.1.length ≤ 24) && isWord t.2.2.2.1 && decide (t.2.2.1 = 0)
  else if t.1 = 4 then decide (t.2.2.2.1 = []) && decide (0 ≤ t.2.2.1) && decide (t.2.2.1 ≤ 9007199254740992) else if t.1 = 5 then decide (t.2.2.2.1.length ≤ 4096) && decide (t.2.2.1 = 0) else if t.1 = 6 then markS t.2.2.2.1 && decide (t.2.2.1 = 0) else false
def wText (t : tToken) : List UInt8 := if t.1 = 3 then 36 :: t.2.2.2.1 else if t.1 = 4 then decS t.2.2.1.toNat else if t.1 = 5 then quoteT t.2.2.2.1 else t.2.2.2.1
def okTok (t : tToken) : Prop := t.2.2.2.1.length ≤ 1048576 ∧ -9223372036854775808 ≤ t.2.2.1 ∧ t.2.2.1 ≤ 9223372036854775807
theorem contains_mark (s : List UInt8) (h1 : ¬ s = [61, 61]) (h2 : s.length = 1) : strings_Contains [40, 41, 91, 93, 44, 59, 61, 43, 45, 42, 38, 60, 46] s = some (markS s) := by
  cases s with
  | nil => simp at h2
  | cons c r =>
    cases r with
    | cons d r => simp at h2
    | nil =>
      unfold strings_Contains strings_Index stringslite_Index
      have e1 : ¬ ((decide ((([c] : List UInt8).length : Int) = 0)) || (decide ([c] = [40, 41, 91, 93, 44, 59, 61, 43, 45, 42, 38, 60, 46]))) = true := by simp
      rw [if_neg e1, if_pos (by simp)]
      rw [G_pos (show 0 ≤ (0 : Int) ∧ (0 : Int) < (([c] : List UInt8).length : Int) by simp)]
      show some (decide (0 ≤ Lib.indexByte marksS c)) = _
      simp [markS]
theorem written_eq (t : tToken) (ht : okTok t) : ∃ x, lex_written t = some (x, rightS t) ∧ (rightS t = true → x = wText t) := by
  obtain ⟨t1, t2, t3⟩ := ht
  unfold lex_written rightS wText
  by_cases h0 : ¬ t.1 = 4 ∧ ¬ t.2.2.1 = 0
  · rw [if_pos (by simp [h0.1, h0.2])]
    refine ⟨[], ?_, ?_⟩
    · simp only [h0.2, decide_false, Bool.and_false, h0.1, if_false, ite_self]
    · simp only [h0.2, decide_false, Bool.and_false, h0.1, if_false, ite_self]; intro h; cases h
  · rw [if_neg (by simpa using h0)]
    have hz : ¬ t.1 = 4 → t.2.2.1 = 0 := fun h => by
      by_cases e : t.2.2.1 = 0
      · exact e
      · exact absurd ⟨h, e⟩ h0
    simp only [decide_eq_true_eq]
    by_cases h1 : t.1 = 1
    · rw [if_pos h1, if_pos h1, hz (by omega), IsName_eq]
      exact ⟨_, by simp only [decide_true, Bool.and_true]; rfl, fun _ => by rw [if_neg (by omega), if_neg (by omega), if_neg (by omega)]⟩
    · rw [if_neg h1, if_neg h1]
      by_cases h2 : t.1 = 2
      · rw [if_pos h2, if_pos h2, hz (by omega), IsKey_eq]
        exact ⟨_, by simp only [decide_true, Bool.and_true]; rfl, fun _ => by rw [if_neg (by omega), if_neg (by omega), if_neg (by omega)]⟩
      · rw [if_neg h2, if_neg h2]
        by_cases h3 : t.1 = 3
        · rw [if_pos h3, if_pos h3, if_pos h3, hz (by omega), G_pos (show ([36] : List UInt8).length + t.2.2.2.1.length ≤ 9223372036854775807 from by simp only [List.length_cons, List.length_nil]; omega)]
          refine ⟨36 :: t.2.2.2.1, ?_, fun _ => rfl⟩
          have h24 : ((t.2.2.2.1.length : Int) ≤ 24) = (t.2.2.2.1.length ≤ 24) := by apply propext; omega
          simp only [decide_true, Bool.and_true, h24]
          generalize t.2.2.2.1 = s at *
          by_cases he : s = []
          · subst he; rfl
          · by_cases hl : s.length ≤ 24
            · simp only [he, hl, decide_false, Bool.not_false, decide_true, Bool.and_self, if_true, Bool.true_and]
              rw [show (0 : Int) = ((0 : Nat) : Int) from rfl, word_eq s (by omega) 0 (by omega), List.drop_zero, Nat.zero_add]
              have hw := wordLen_iff s he
              have : (((wordLen s : Nat) : Int) = (s.length : Int)) = (wordLen s = s.length) := by apply propext; omega
              simp only [Option.bind_some, this, hw]
              cases isWord s <;> rfl
            · simp only [he, hl, decide_false, Bool.not_false, Bool.and_false, Bool.false_eq_true, if_false, Option.bind_some, Bool.false_and]
              rfl
        · rw [if_neg h3, if_neg h3, if_neg h3]
          by_cases h4 : t.1 = 4
          · rw [if_pos h4, if_pos h4, if_pos h4]
            by_cases hn : t.2.2.1 < 0
            · rw [digits_neg _ hn]
              have : ¬ 0 ≤ t.2.2.1 := by omega
              exact ⟨_, rfl, fun h => by simp [this] at h⟩
            · obtain ⟨m, hm⟩ : ∃ m : Nat, t.2.2.1 = (m : Int) := ⟨t.2.2.1.toNat, by omega⟩
              rw [hm, digits_eq m (by omega)]
              exact ⟨_, rfl, fun _ => by rw [Int.toNat_natCast]⟩
          · rw [if_neg h4, if_neg h4, if_neg h4]
            by_cases h5 : t.1 = 5
            · rw [if_pos h5, if_pos h5, if_pos h5, hz (by omega), Quote_eq _ (by omega)]
              have h40 : ((t.2.2.2.1.length : Int) ≤ 4096) = (t.2.2.2.1.length ≤ 4096) := by apply propext; omega
              exact ⟨_, by simp only [decide_true, Bool.and_true, Option.bind_some, h40], fun _ => rfl⟩
            · rw [if_neg h5, if_neg h5, if_neg h5]
              by_cases h6 : t.1 = 6
              · rw [if_pos h6, if_pos h6, hz (by omega)]
                refine ⟨t.2.2.2.1, ?_, fun _ => rfl⟩
                generalize t.2.2.2.1 = s at *
                simp only [decide_true, Bool.and_true]
                by_cases he : s = [61, 61]
                · subst he; rfl
                · have hl1 : ((s.length : Int) = 1) = (s.length = 1) := by apply propext; omega
                  simp only [he, decide_false, Bool.not_false, Bool.true_and, Bool.false_or, hl1]
                  by_cases hl : s.length = 1
                  · simp only [hl, decide_true, if_true, Bool.true_and, contains_mark s he hl, Option.bind_some]
                  · simp only [hl, decide_false, Bool.false_eq_true, if_false, Option.bind_some, Bool.false_and, Option.some.injEq, Prod.mk.injEq, true_and]
                    unfold markS
                    simp only [he, decide_false, Bool.false_or]
                    split
                    · simp at hl
                    · rfl
              · rw [if_neg h6, if_neg h6]
                exact ⟨[], rfl, fun h => by cases h⟩
theorem refMark_eq (s : List UInt8) : ref01_Mark s = some (markS s) := by
  unfold ref01_Mark
  rw [In_eq _ s (by decide), Option.bind_some]
  congr 1
  unfold markS
  cases s with
  | nil => rfl
  | cons c r =>
    cases r with
    | nil => exact all_u8 (p := fun c => (([([61, 61] : List UInt8), [40], [41], [91], [93], [44], [59], [46], [61], [43], [45], [42], [38], [60]] : List (List UInt8)).contains [c]) = (decide (([c] : List UInt8) = [61, 61]) || decide (0 ≤ Lib.indexByte marksS c))) (by decide +kernel) c
    | cons d r =>
      cases r with
      | nil => simp [List.contains_cons]
      | cons e r => simp [List.contains_cons]
theorem refRight_eq (t : tToken) (ht : okTok t) : ref01_right t = some (rightS t) := by
  obtain ⟨t1, t2, t3⟩ := ht
  unfold ref01_right rightS
  simp only [decide_eq_true_eq]
  split
  · have hn : ref01_IsName t.2.2.2.1 = some (nameS t.2.2.2.1) := by
      unfold ref01_IsName; rw [Name_eq]; rfl
    rw [hn]; rfl
  · split
    · rw [refIsKey_eq]; rfl
    · split
      · have h24 : ((t.2.2.2.1.length : Int) ≤ 24) = (t.2.2.2.1.length ≤ 24) := by apply propext; omega
        simp only [h24]
        by_cases hl : t.2.2.2.1.length ≤ 24
        · simp only [hl, decide_true, if_true, Word_eq _ (show t.2.2.2.1.length < 4611686018427387904 by omega), Option.bind_some]
        · simp only [hl, decide_false, Bool.false_eq_true, if_false, Option.bind_some, Bool.false_and]
      · split
        · rfl
        · split
          · have h40 : ((t.2.2.2.1.length : Int) ≤ 4096) = (t.2.2.2.1.length ≤ 4096) := by apply propext; omega
            simp only [h40]
          · split
            · rw [refMark_eq]; rfl
            · rfl
end Go.Eng
