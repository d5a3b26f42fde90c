/- A part of the proof: Ft2. -/
import Derived.Test.YtnkkbcofijcpbaaDoorFt1
namespace Go.Eng
set_option linter.unusedVariables false
set_option linter.unusedSimpArgs false
theorem refQuote_loop (s : List UInt8) (hs : s.length ≤ 10000000000000) : ∀ (d i : Nat) (out : List UInt8), i + d = s.length → out.length ≤ 4 * i + 1 → iter st_ref01_Quote (.l4 s [48, 49, 50, 51, 52, 53, 54, 55, 56, 57, 97, 98, 99, 100, 101, 102] out (i : Int)) = some (out ++ (s.drop i).flatMap quoteW ++ [34])
  | 0, i, out, hi, ho => by
    rw [iter_eq']
    have hd : s.drop i = [] := List.drop_eq_nil_of_le (by omega)
    have : ¬ (i : Int) < (s.length : Int) := by omega
    simp only [st_ref01_Quote, sg_ref01_Quote_4, this, decide_false, Bool.false_eq_true, if_false, hd, List.flatMap_nil, List.append_nil]
    rw [G_pos (show (out.length + ([(34 : UInt8)] : List UInt8).length) * 1 ≤ 140737488355328 from by simp only [List.length_cons, List.length_nil]; omega)]; rfl
  | d + 1, i, out, hi, ho => by
    rw [iter_eq']
    obtain ⟨c, r, hL⟩ := drop_ex (show i < s.length by omega)
    obtain ⟨hc, hr, hlen⟩ := drop_cons (d := (0 : UInt8)) hL
    have hlt : (i : Int) < (s.length : Int) := by omega
    have hG : 0 ≤ (i : Int) ∧ (i : Int) < (s.length : Int) := ⟨by omega, hlt⟩
    have e6 : w64 ((i : Int) + 1) = ((i + 1 : Nat) : Int) := w64_eq (by omega) (by omega)
    have h16 : (([48, 49, 50, 51, 52, 53, 54, 55, 56, 57, 97, 98, 99, 100, 101, 102] : List UInt8).length : Int) = 16 := rfl
    simp only [st_ref01_Quote, sg_ref01_Quote_4, decide_eq_true_eq, if_pos hlt, G_pos hG, Int.toNat_natCast, hc, e6, Bool.or_eq_true]
    rw [hL, List.flatMap_cons]
    have hq := quoteW_len c
    have fin : ∀ w : List UInt8, w = quoteW c → iter st_ref01_Quote (.l4 s [48, 49, 50, 51, 52, 53, 54, 55, 56, 57, 97, 98, 99, 100, 101, 102] (out ++ w) ((i + 1 : Nat) : Int)) = some (out ++ (quoteW c ++ r.flatMap quoteW) ++ [34]) := by
      intro w hw
      subst hw
      rw [refQuote_loop s hs d (i + 1) _ (by omega) (by rw [List.length_append]; omega), hr]
      simp only [List.append_assoc]
    by_cases h1 : (c.toNat : Int) = 34 ∨ (c.toNat : Int) = 92
    · rw [if_pos h1, G_pos (show (out.length + ([(92 : UInt8), c] : List UInt8).length) * 1 ≤ 140737488355328 from by simp only [List.length_cons, List.length_nil]; omega)]
      exact fin _ (by unfold quoteW; rw [if_pos h1])
    · rw [if_neg h1]
      by_cases h2 : (c.toNat : Int) = 10
      · rw [if_pos h2, G_pos (show (out.length + ([(92 : UInt8), (110 : UInt8)] : List UInt8).length) * 1 ≤ 140737488355328 from by simp only [List.length_cons, List.length_nil]; omega)]
        exact fin _ (by unfold quoteW; rw [if_neg h1, if_pos h2])
      · rw [if_neg h2]
        by_cases h3 : (c.toNat : Int) < 32 ∨ 126 < (c.toNat : Int)
        · have hx := all_u8 (p := fun c => (0 ≤ ((((IntKind.wrap .u8 (Int.tdiv (c.toNat : Int) 16))).toNat.toUInt8).toNat : Int) ∧ ((((IntKind.wrap .u8 (Int.tdiv (c.toNat : Int) 16))).toNat.toUInt8).toNat : Int) < 16) ∧ (0 ≤ ((((Int.tmod (c.toNat : Int) 16)).toNat.toUInt8).toNat : Int) ∧ ((((Int.tmod (c.toNat : Int) 16)).toNat.toUInt8).toNat : Int) < 16) ∧ hexD.getD (((IntKind.wrap .u8 (Int.tdiv (c.toNat : Int) 16))).toNat.toUInt8).toNat 0 = hexHi c ∧ hexD.getD (((Int.tmod (c.toNat : Int) 16)).toNat.toUInt8).toNat 0 = hexLo c) (by decide +kernel) c
          obtain ⟨x1, x2, x3, x4⟩ := hx
          rw [if_pos h3, h16, G_pos x1, G_pos x2]
          show runL st_ref01_Quote (G ((out.length + ([92, 120, hexD.getD (((IntKind.wrap .u8 (Int.tdiv (c.toNat : Int) 16))).toNat.toUInt8).toNat 0, hexD.getD (((Int.tmod (c.toNat : Int) 16)).toNat.toUInt8).toNat 0] : List UInt8).length) * 1 ≤ 140737488355328) (some (.inl (.l4 s [48, 49, 50, 51, 52, 53, 54, 55, 56, 57, 97, 98, 99, 100, 101, 102] (out ++ [92, 120, hexD.getD (((IntKind.wrap .u8 (Int.tdiv (c.toNat : Int) 16))).toNat.toUInt8).toNat 0, hexD.getD (((Int.tmod (c.toNat : Int) 16)).toNat.toUInt8).toNat 0]) ((i + 1 : Nat) : Int))))) = _
          rw [x3, x4, G_pos (show (out.length + ([92, 120, hexHi c, hexLo c] : List UInt8).length) * 1 ≤ 140737488355328 from by simp only [List.length_cons, List.length_nil]; omega)]
          exact fin _ (by unfold quoteW; rw [if_neg h1, if_neg h2, if_pos h3])
        · rw [if_neg h3, G_pos (show (out.length + ([c] : List UInt8).length) * 1 ≤ 140737488355328 from by simp only [List.length_cons, List.length_nil]; omega)]
          exact fin _ (by unfold quoteW; rw [if_neg h1, if_neg h2, if_neg h3])
theorem refQuote_eq (s : List UInt8) (hs : s.length ≤ 10000000000000) : ref01_Quote s = some (quoteT s) := by
  unfold ref01_Quote en_ref01_Quote
  show iter _ _ = _
  have := refQuote_loop s hs s.length 0 [34] (by omega) (by simp)
  rw [List.drop_zero] at this
  exact this
theorem join_snoc (l : List (List UInt8)) (hl : l ≠ []) (sep x : List UInt8) : Lib.join (l ++ [x]) sep = Lib.join l sep ++ sep ++ x := by
  cases l with
  | nil => exact absurd rfl hl
  | cons y r =>
    rw [List.cons_append, Lib.join_cons, Lib.join_cons]
    simp [Lib.joinTail]
theorem join_take_le (l : List (List UInt8)) (sep : List UInt8) (k : Nat) : (Lib.join (l.take k) sep).length ≤ (Lib.join l sep).length := by
  cases l with
  | nil => simp
  | cons y r =>
    cases k with
    | zero => simp [Lib.join_nil]
    | succ k =>
      rw [List.take_succ_cons, Lib.join_cons, Lib.join_cons, List.length_append, List.length_append]
      have := Lib.joinTail_take_le sep r k
      omega
theorem rinner_loop (f : List tCrack) (A B : List (List UInt8)) (i c c' : Int) (c'' : List UInt8) (hl : (A ++ B).length ≤ 1024) (hc : c' = (B.length : Int)) (hj : (Lib.join B [59, 32]).length ≤ 1000000000) : ∀ (d j : Nat), j + d = B.length →
    iter st_ref03_Print (.l13 f (A ++ B) i c c' c'' [] (Lib.join (B.take j) [59, 32]) ((A.length + j : Nat) : Int)) = iter st_ref03_Print (.l19 f A i c c' c'' [] (Lib.join B [59, 32]))
  | 0, j, h => by
    rw [iter_eq']
    simp only [st_ref03_Print, sg_ref03_Print_13]
    have e1 : ((A ++ B).length : Int) = ((A.length + B.length : Nat) : Int) := by rw [List.length_append]
    rw [List.length_append] at hl
    have ew : w64 (((A ++ B).length : Int) - c') = (A.length : Int) := by rw [e1, hc, w64_eq (by omega) (by omega)]; omega
    rw [e1, if_neg (by rw [decide_eq_true_eq]; omega), ← e1, ew, G_any (by rw [e1]; omega), Int.toNat_natCast, List.take_left' rfl, List.take_of_length_le (by omega)]
    rfl
  | d + 1, j, h => by
    rw [iter_eq']
    simp only [st_ref03_Print, sg_ref03_Print_13]
    have e1 : ((A ++ B).length : Int) = ((A.length + B.length : Nat) : Int) := by rw [List.length_append]
    rw [List.length_append] at hl
    have ew : w64 (((A ++ B).length : Int) - c') = (A.length : Int) := by rw [e1, hc, w64_eq (by omega) (by omega)]; omega
    have hlt : j < B.length := by omega
    have hg : (A ++ B).getD (A.length + j) [] = B[j] := by
      rw [List.getD_eq_getElem?_getD, List.getElem?_append_right (by omega), Nat.add_sub_cancel_left, List.getElem?_eq_getElem hlt]; rfl
    have ek : w64 (((A.length + j : Nat) : Int) + 1) = ((A.length + (j + 1) : Nat) : Int) := by rw [w64_eq (by omega) (by omega)]; omega
    have ht : B.take (j + 1) = B.take j ++ [B[j]] := by rw [List.take_add_one, List.getElem?_eq_getElem hlt]; rfl
    have ih := rinner_loop f A B i c c' c'' (by rw [List.length_append]; omega) hc hj d (j + 1) (by omega)
    have h1 := join_take_le B [59, 32] (j + 1)
    rw [ew, ek, Int.toNat_natCast, hg]
    rw [if_pos (by rw [decide_eq_true_eq, e1]; omega)]
    by_cases h0 : j = 0
    · subst h0
      rw [if_neg (by rw [decide_eq_true_eq]; omega), G_any (by rw [e1]; omega)]
      rw [ht] at ih h1
      simp only [List.take_zero, List.nil_append, Lib.join_one] at ih h1
      rw [G_any (by simp only [List.take_zero, Lib.join_nil, List.length_nil]; omega)]
      simp only [List.take_zero, Lib.join_nil, List.nil_append]
      exact ih
    · rw [if_pos (by rw [decide_eq_true_eq]; omega)]
      have hjs := join_snoc (B.take j) (by intro e; have := congrArg List.length e; rw [List.length_take, List.length_nil] at this; omega) [59, 32] B[j]
      rw [ht, hjs] at ih
      rw [ht, hjs] at h1
      simp only [List.length_append, List.length_cons, List.length_nil] at h1
      rw [G_any (by simp only [List.length_cons, List.length_nil]; omega), G_any (by rw [e1]; omega), G_any (by simp only [List.length_append, List.length_cons, List.length_nil]; omega)]
      exact ih
theorem rprint_19 (f : List tCrack) (st : List (List UInt8)) (hs : st.length ≤ 1024) (i : Nat) (hi : i < 1024) {c : tCrack} (hw : crackS c = true) (l : List (List UInt8)) (hj : (Lib.join l [59, 32]).length ≤ 1000000000) (h1 : ¬ c.1 = 10 → c.2.1 = 1 → Lib.join l [59, 32] = l.headD []) :
    sg_ref03_Print_19 f st (i : Int) c.1 c.2.1 c.2.2.1 [] (Lib.join l [59, 32]) = some (.inl (.l6 f (st ++ [crackX c l]) ((i + 1 : Nat) : Int))) := by
  obtain ⟨k1, k2, k3, k4⟩ := crack_kind hw
  have hq := quoteT_len c.2.2.1
  have ei : w64 ((i : Int) + 1) = ((i + 1 : Nat) : Int) := w64_eq (by omega) (by omega)
  have hQ := refQuote_eq c.2.2.1 (by omega)
  have hp : partS c.1 c.2.1 = true := by
    simp only [crackS, Bool.and_eq_true] at hw; exact hw.1.1
  unfold sg_ref03_Print_19 crackX preK innerK wordK
  generalize Lib.join l [59, 32] = J at *
  generalize l.headD [] = H at *
  rw [ei]
  rcases kinds c.1 with h | h | h | h | h | h | h | h | h | h | h | h
  · omega
  all_goals
    rw [h] at hp h1
    simp (config := { decide := true }) only [h, if_true, if_false, hQ, Option.bind_some, decide_true, decide_false, Bool.false_eq_true, or_true, true_or, or_self, false_or, or_false, ne_eq, not_true_eq_false, not_false_eq_true, true_and, false_and]
    try simp (config := { decide := true }) only [partS, if_false, if_true, Bool.and_eq_true, Bool.or_eq_true, decide_eq_true_eq, decide_true, true_and, Bool.true_and, and_self] at hp
    try simp only [List.length_append, List.length_cons, List.length_nil] at ⊢
    try repeat rw [G_any (by omega)]
  all_goals first
    | rfl
    | (rw [if_neg (by rw [hp]; decide)]; first | rfl | (rw [List.append_nil]; rfl))
    | (rcases hp with hp | hp
       · rw [if_neg (by rw [hp]; decide), if_neg (by rw [hp]; decide)]; rfl
       · rw [if_pos (by rw [hp]; decide), if_pos hp, h1 (by decide) hp]; rfl)
    | (rw [if_pos hp, h1 (by decide) hp]
       have e9 : gl_onceweb_fail_words.getD (Int.toNat 9) [] = [99, 101, 108, 108] := rfl
       rw [e9]; simp only [List.append_assoc, List.cons_append, List.nil_append])
theorem rprint_step (stack : List (List UInt8)) (f : List tCrack) (hf : f.length ≤ 1024) (i : Nat) (hi : i < f.length) {c : tCrack} (hget : f.getD i dCrack = c) (hw : crackS c = true) (hk : arC c ≤ stack.length) (hs : stack.length ≤ 1024)
    (hj : (Lib.join (stack.drop (stack.length - arC c)) [59, 32]).length ≤ 1000000000) :
    iter st_ref03_Print (.l6 f stack (i : Int)) = iter st_ref03_Print (.l6 f (stack.take (stack.length - arC c) ++ [crackX c (stack.drop (stack.length - arC c))]) ((i + 1 : Nat) : Int)) := by
  obtain ⟨k1, k2, k3, k4⟩ := crack_kind hw
  have ha := arC_eq hw
  have hlen : (stack.drop (stack.length - arC c)).length = arC c := by rw [List.length_drop]; omega
  have one : ¬ c.1 = 10 → c.2.1 = 1 → Lib.join (stack.drop (stack.length - arC c)) [59, 32] = (stack.drop (stack.length - arC c)).headD [] := by
    intro _ h1
    have : (stack.drop (stack.length - arC c)).length = 1 := by omega
    match stack.drop (stack.length - arC c), this with
    | [x], _ => rw [Lib.join_one]; rfl
  have fin : ∀ (st : List (List UInt8)) (l : List (List UInt8)), st = stack.take (stack.length - arC c) → l = stack.drop (stack.length - arC c) → iter st_ref03_Print (.l19 f st (i : Int) c.1 c.2.1 c.2.2.1 [] (Lib.join l [59, 32])) = iter st_ref03_Print (.l6 f (stack.take (stack.length - arC c) ++ [crackX c (stack.drop (stack.length - arC c))]) ((i + 1 : Nat) : Int)) := by
    rintro st l rfl rfl
    rw [iter_eq']
    simp only [st_ref03_Print]
    rw [rprint_19 f _ (by rw [List.length_take]; omega) i (by omega) hw _ hj one]
    rfl
  rw [iter_eq']
  simp only [st_ref03_Print, sg_ref03_Print_6]
  rw [if_pos (decide_eq_true (by omega)), G_any (by omega), Int.toNat_natCast, hget]
  by_cases h0 : 0 < c.2.1
  · rw [if_pos (decide_eq_true h0)]
    show iter _ _ = _
    have ek : w64 ((stack.length : Int) - c.2.1) = (((stack.take (stack.length - arC c)).length + 0 : Nat) : Int) := by
      rw [List.length_take, w64_eq (by omega) (by omega)]; omega
    have := rinner_loop f (stack.take (stack.length - arC c)) (stack.drop (stack.length - arC c)) (i : Int) c.1 c.2.1 c.2.2.1 (by rw [List.take_append_drop]; exact hs) (by rw [hlen]; exact ha.symm) hj (stack.drop (stack.length - arC c)).length 0 (by omega)
    rw [List.take_append_drop, List.take_zero, Lib.join_nil, ← ek] at this
    rw [this]
    exact fin _ _ rfl rfl
  · rw [if_neg (by simpa using h0)]
    show iter _ _ = _
    have h00 : arC c = 0 := by omega
    have := fin stack [] (by rw [h00, Nat.sub_zero, List.take_of_length_le (Nat.le_refl _)]) (by rw [h00, Nat.sub_zero, List.drop_of_length_le (Nat.le_refl _)])
    rw [Lib.join_nil] at this
    exact this
theorem rprint_loop (f : List tCrack) (hf : f.length ≤ 1024) (t : Tr tCrack) : ∀ (l : List tCrack) (F : List (Tr tCrack)), okF arC goodC F → flats F ++ l = f → parseT arC goodC l F = some [t] →
    iter st_ref03_Print (.l6 f (F.map printF) ((flats F).length : Int)) = some (printF t, 0)
  | [], F, hF, hl, hp => by
    cases hp
    rw [iter_eq']
    simp only [st_ref03_Print, sg_ref03_Print_6]
    have : (flats [t]).length = f.length := by rw [← hl, List.append_nil]
    rw [this, if_neg (by simp), G_any (by simp)]; rfl
  | a :: l, F, hF, hl, hp => by
    have hlen : (flats F).length + (l.length + 1) = f.length := by rw [← hl]; simp
    have hFl := len_flats F
    rw [parseT] at hp
    cases hq : pushT arC goodC a F with
    | none => rw [hq] at hp; cases hp
    | some F' =>
      rw [hq] at hp
      obtain ⟨o1, o2⟩ := push_spec hq hF
      have ih := rprint_loop f hf t l F' o1 (by rw [o2, List.append_assoc]; exact hl) hp
      unfold pushT at hq
      split at hq
      · rename_i hc
        cases hq
        have hget : f.getD (flats F).length dCrack = a := by rw [← hl]; simp [List.getD_eq_getElem?_getD]
        have hlen2 : (flats (F.take (F.length - arC a) ++ [Tr.node a (F.drop (F.length - arC a))])).length = (flats F).length + 1 := by rw [o2]; simp
        rw [hlen2, List.map_append] at ih
        simp only [List.map_cons, List.map_nil] at ih
        have hokd : okF arC goodC (F.drop (F.length - arC a)) := by
          have : okF arC goodC (F.take (F.length - arC a) ++ F.drop (F.length - arC a)) := by rw [List.take_append_drop]; exact hF
          exact (okF_app.1 this).2
        have hfd : (flats (F.drop (F.length - arC a))).length ≤ (flats F).length := by
          conv => rhs; rw [← List.take_append_drop (F.length - arC a) F]
          rw [flats_app, List.length_append]; omega
        have hj := join_len _ hokd
        rw [printFs_map] at hj
        have hst := rprint_step (F.map printF) f hf (flats F).length (by omega) hget hc.2 (by rw [List.length_map]; exact hc.1) (by rw [List.length_map]; omega) (by rw [List.length_map, ← List.map_drop]; omega)
        rw [hst, List.length_map, ← List.map_take, ← List.map_drop]
        rw [printF, printFs_map] at ih
        exact ih
      · cases hq
theorem rPrint_eq (f : List tCrack) : ref03_Print f = some (printC f) := by
  unfold ref03_Print en_ref03_Print
  rw [refCheck_eq, Option.bind_some]
  by_cases hc : checkS f = 0
  · obtain ⟨t, ht⟩ := check_ex hc
    rw [hc, if_neg (by decide), printC_of ht]
    exact rprint_loop f ht.2.2 t f [] trivial rfl (parse_one.2 ⟨ht.1, ht.2.1⟩)
  · rw [if_pos (by simpa using hc), printC_no hc]; rfl
end Go.Eng
