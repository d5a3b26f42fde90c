/- A part of the proof: Ft1. -/
import Derived.Test.YtnkkbcofijcpbaaDoorTc
import Derived.Test.YtnkkbcofijcpbaaDoorQt2
namespace Go.Eng
set_option linter.unusedVariables false
set_option linter.unusedSimpArgs false
def wordK (k : Int) : List UInt8 := gl_onceweb_fail_words.getD k.toNat []
def innerK (c : tCrack) : List UInt8 := if c.1 = 1 ∨ c.1 = 2 ∨ c.1 = 8 then [32] ++ quoteT c.2.2.1 else if c.1 = 3 ∨ c.1 = 4 ∨ c.1 = 5 ∨ c.1 = 9 then [32] ++ c.2.2.1 else []
def preK (c : tCrack) (l : List (List UInt8)) : List UInt8 := if c.1 = 10 then wordK c.1 ++ ([40] ++ Lib.join l [59, 32] ++ [41]) else wordK c.1 ++ innerK c
def crackX (c : tCrack) (l : List (List UInt8)) : List UInt8 := if c.1 ≠ 10 ∧ c.2.1 = 1 then preK c l ++ ([58, 32] ++ l.headD []) else preK c l
mutual
def printF : Tr tCrack → List UInt8
  | .node c ts => crackX c (printFs ts)
def printFs : List (Tr tCrack) → List (List UInt8)
  | [] => []
  | t :: ts => printF t :: printFs ts
end
theorem printFs_map : ∀ ts : List (Tr tCrack), printFs ts = ts.map printF
  | [] => by rw [printFs]; rfl
  | t :: ts => by rw [printFs, printFs_map ts]; rfl
theorem joinTail_cons (sep x : List UInt8) (r : List (List UInt8)) : Lib.joinTail sep (x :: r) = sep ++ x ++ Lib.joinTail sep r := by
  simp [Lib.joinTail]
theorem quoteT_len (s : List UInt8) : (quoteT s).length ≤ 4 * s.length + 2 := by
  have : (s.flatMap quoteW).length ≤ 4 * s.length := by
    induction s with
    | nil => simp
    | cons c r ih =>
      have := quoteW_len c
      simp only [List.flatMap_cons, List.length_append, List.length_cons]; omega
  simp only [quoteT, List.length_append, List.length_cons, List.length_nil]; omega
theorem crack_kind {c : tCrack} (h : crackS c = true) : 1 ≤ c.1 ∧ c.1 ≤ 11 ∧ c.2.2.1.length ≤ 4096 ∧ (c.1 = 10 ∧ 1 ≤ c.2.1 ∨ ¬ c.1 = 10 ∧ (c.2.1 = 0 ∨ c.2.1 = 1)) := by
  simp only [crackS, Bool.and_eq_true, decide_eq_true_eq] at h
  obtain ⟨⟨h1, h2⟩, _⟩ := h
  unfold partS at h1
  split at h1
  · simp only [decide_eq_true_eq] at h1; omega
  · split at h1
    · simp only [decide_eq_true_eq] at h1; omega
    · split at h1 <;> simp only [Bool.and_eq_true, Bool.or_eq_true, decide_eq_true_eq] at h1 <;> omega
theorem word_len (k : Int) : (wordK k).length ≤ 6 := by
  unfold wordK
  rw [List.getD_eq_getElem?_getD]
  cases h : gl_onceweb_fail_words[k.toNat]? with
  | none => simp
  | some w =>
    have : ∀ x ∈ gl_onceweb_fail_words, x.length ≤ 6 := by decide
    exact this w (List.mem_of_getElem? h)
theorem inner_len {c : tCrack} (h : c.2.2.1.length ≤ 4096) : (innerK c).length ≤ 16400 := by
  have := quoteT_len c.2.2.1
  unfold innerK
  split
  · simp only [List.length_append, List.length_cons, List.length_nil]; omega
  · split <;> simp only [List.length_append, List.length_cons, List.length_nil] <;> omega
theorem pre_len {c : tCrack} (h : c.2.2.1.length ≤ 4096) (l : List (List UInt8)) : (preK c l).length ≤ 16410 + (Lib.join l [59, 32]).length := by
  have h1 := word_len c.1
  have h2 := inner_len h
  unfold preK
  split <;> simp only [List.length_append, List.length_cons, List.length_nil] <;> omega
theorem join_head (l : List (List UInt8)) : (l.headD []).length ≤ (Lib.join l [59, 32]).length := by
  cases l with
  | nil => exact Nat.zero_le _
  | cons x r => rw [Lib.join_cons, List.length_append]; exact Nat.le_add_right _ _
theorem crackX_len {c : tCrack} (h : c.2.2.1.length ≤ 4096) (l : List (List UInt8)) : (crackX c l).length ≤ 16420 + (Lib.join l [59, 32]).length := by
  have h1 := pre_len h l
  have h2 := join_head l
  have h3 := word_len c.1
  have h4 := inner_len h
  unfold crackX
  split
  · rename_i hc
    unfold preK
    rw [if_neg hc.1]
    simp only [List.length_append, List.length_cons, List.length_nil]; omega
  · omega
mutual
theorem printF_len : ∀ t : Tr tCrack, okT arC goodC t → (printF t).length + 2 ≤ 20000 * (flat t).length
  | .node c ts, h => by
    have hf : (flat (Tr.node c ts)).length = (flats ts).length + 1 := by simp [flat]
    rw [hf, printF]
    have hc := crack_kind (show crackS c = true from h.2.1)
    have hj : (Lib.join (printFs ts) [59, 32]).length ≤ 20000 * (flats ts).length := by
      have := printFs_len ts h.2.2
      cases ts with
      | nil => rw [printFs]; simp [Lib.join_nil]
      | cons x r =>
        rw [printFs, Lib.join_cons, List.length_append]
        rw [printFs, joinTail_cons] at this
        simp only [List.length_append, List.length_cons, List.length_nil] at this
        omega
    have := crackX_len hc.2.2.1 (printFs ts)
    omega
theorem printFs_len : ∀ ts : List (Tr tCrack), okF arC goodC ts → (Lib.joinTail [59, 32] (printFs ts)).length ≤ 20000 * (flats ts).length
  | [], _ => by rw [printFs]; simp [Lib.joinTail]
  | t :: ts, h => by
    have h1 := printF_len t h.1
    have h2 := printFs_len ts h.2
    rw [printFs, joinTail_cons, flats]
    simp only [List.length_append, List.length_cons, List.length_nil]; omega
end
theorem join_len (ts : List (Tr tCrack)) (h : okF arC goodC ts) : (Lib.join (printFs ts) [59, 32]).length ≤ 20000 * (flats ts).length := by
  have := printFs_len ts h
  cases ts with
  | nil => rw [printFs]; simp [Lib.join_nil]
  | cons x r =>
    rw [printFs, Lib.join_cons, List.length_append]
    rw [printFs, joinTail_cons] at this
    simp only [List.length_append, List.length_cons, List.length_nil] at this
    omega
theorem print_pre (stack : List (List UInt8)) (f : List tCrack) (hf : f.length ≤ 1024) (i : Nat) (hi : i < f.length) {c : tCrack} (hget : f.getD i dCrack = c) (hw : crackS c = true) (hk : arC c ≤ stack.length) (hs : stack.length ≤ 1024)
    (hj : (Lib.join (stack.drop (stack.length - arC c)) [59, 32]).length ≤ 1000000000) :
    sg_fail_Print_6 stack f (f.length : Int) (i : Int) = some (.inl (.l22 stack c.1 c.2.1 c.2.2.1 ((stack.length - arC c : Nat) : Int) (preK c (stack.drop (stack.length - arC c))) f (f.length : Int) (i : Int))) := by
  obtain ⟨k1, k2, k3, k4⟩ := crack_kind hw
  have hq := quoteT_len c.2.2.1
  have ek : w64 ((stack.length : Int) - c.2.1) = ((stack.length - arC c : Nat) : Int) := by
    have : (arC c : Int) = c.2.1 := by have := crackS_pos hw; simp only [arC]; omega
    rw [w64_eq (by omega) (by omega)]; omega
  have hl : (gl_onceweb_fail_words.length : Int) = 12 := rfl
  unfold sg_fail_Print_6
  rw [if_pos (decide_eq_true (by omega)), G_any (by omega), Int.toNat_natCast, hget, G_any (by rw [hl]; omega)]
  have hQ := Quote_eq c.2.2.1 (by omega)
  have hwl := word_len c.1
  unfold wordK at hwl
  have hd : (stack.drop (stack.length - arC c)).length ≤ 1024 := by rw [List.length_drop]; omega
  have hJ : strings_Join (stack.drop (stack.length - arC c)) [59, 32] = some (Lib.join (stack.drop (stack.length - arC c)) [59, 32]) := by
    unfold strings_Join
    rw [G_any ⟨by omega, by omega⟩]
  unfold preK innerK wordK
  simp only [ax_fail_Print_6_1, ax_fail_Print_6_2, ax_fail_Print_6_3, ax_fail_Print_6_4, ax_fail_Print_6_5, ax_fail_Print_6_6, Int.toNat_natCast, hget, ek]
  have n1 : ∀ {a b : Int}, a = b → decide (a = b) = true := fun h => decide_eq_true h
  rcases kinds c.1 with h | h | h | h | h | h | h | h | h | h | h | h
  · omega
  all_goals
    simp (config := { decide := true }) only [h, if_true, if_false, hQ, hJ, Option.bind_some, Int.toNat_natCast, decide_true, decide_false, Bool.false_eq_true, or_true, true_or, or_self, false_or, or_false]
    try rw [h] at hwl
    try simp only [List.length_append, List.length_cons, List.length_nil] at hwl ⊢
    try repeat rw [G_any (by omega)]
  all_goals rw [List.append_nil]
theorem arC_eq {c : tCrack} (hw : crackS c = true) : (arC c : Int) = c.2.1 := by have := crackS_pos hw; simp only [arC]; omega
theorem head_drop (l : List (List UInt8)) (k : Nat) : (l.drop k).headD [] = l.getD k [] := by
  rw [List.getD_eq_getElem?_getD, ← List.head?_drop]
  cases l.drop k <;> rfl
theorem print_step (stack : List (List UInt8)) (f : List tCrack) (hf : f.length ≤ 1024) (i : Nat) (hi : i < f.length) {c : tCrack} (hget : f.getD i dCrack = c) (hw : crackS c = true) (hk : arC c ≤ stack.length) (hs : stack.length ≤ 1024)
    (hj : (Lib.join (stack.drop (stack.length - arC c)) [59, 32]).length ≤ 1000000000) :
    iter st_fail_Print (.l6 stack f (f.length : Int) (i : Int)) = iter st_fail_Print (.l6 (stack.take (stack.length - arC c) ++ [crackX c (stack.drop (stack.length - arC c))]) f (f.length : Int) ((i + 1 : Nat) : Int)) := by
  rw [iter_eq']
  simp only [st_fail_Print]
  rw [print_pre stack f hf i hi hget hw hk hs hj]
  show iter _ _ = _
  rw [iter_eq']
  simp only [st_fail_Print]
  have ei : w64 ((i : Int) + 1) = ((i + 1 : Nat) : Int) := w64_eq (by omega) (by omega)
  obtain ⟨k1, k2, k3, k4⟩ := crack_kind hw
  have ha := arC_eq hw
  have hp := pre_len k3 (stack.drop (stack.length - arC c))
  have hh := join_head (stack.drop (stack.length - arC c))
  rw [head_drop] at hh
  unfold sg_fail_Print_22 crackX
  by_cases hc : c.2.1 = 1 ∧ ¬ c.1 = 10
  · rw [if_pos (by simp [hc.1, hc.2]), if_pos ⟨hc.2, hc.1⟩, ei, head_drop, Int.toNat_natCast, G_any (by omega), G_any (by simp only [List.length_cons, List.length_nil]; omega), G_any (by simp only [List.length_append, List.length_cons, List.length_nil]; omega), G_any (by omega), G_any (by simp only [List.length_append, List.length_cons, List.length_nil]; omega)]
    rfl
  · rw [if_neg (by simp; exact fun h => Decidable.byContradiction fun h2 => hc ⟨h, h2⟩), if_neg (fun h => hc ⟨h.2, h.1⟩), ei, Int.toNat_natCast, G_any (by omega), G_any (by simp only [List.length_cons, List.length_nil]; omega)]
    rfl
theorem len_flats : ∀ F : List (Tr tCrack), F.length ≤ (flats F).length
  | [] => by simp
  | t :: F => by
    have := len_flats F
    have := flat_pos t
    simp only [List.length_cons, flats, List.length_append]; omega
theorem print_loop (f : List tCrack) (hf : f.length ≤ 1024) (t : Tr tCrack) : ∀ (l : List tCrack) (F : List (Tr tCrack)), okF arC goodC F → flats F ++ l = f → parseT arC goodC l F = some [t] →
    iter st_fail_Print (.l6 (F.map printF) f (f.length : Int) ((flats F).length : Int)) = some (printF t, 0)
  | [], F, hF, hl, hp => by
    cases hp
    rw [iter_eq']
    simp only [st_fail_Print, sg_fail_Print_6]
    have : (flats [t]).length = f.length := by rw [← hl, List.append_nil]
    rw [this, if_neg (by simp), G_any (by simp)]; rfl
  | a :: l, F, hF, hl, hp => by
    have hlen : (flats F).length + (l.length + 1) = f.length := by rw [← hl]; simp
    have hFl := len_flats F
    rw [parseT] at hp
    cases hq : pushT arC goodC a F with
    | none => rw [hq] at hp; cases hp
    | some F' =>
      rw [hq] at hp
      obtain ⟨o1, o2⟩ := push_spec hq hF
      have ih := print_loop f hf t l F' o1 (by rw [o2, List.append_assoc]; exact hl) hp
      unfold pushT at hq
      split at hq
      · rename_i hc
        cases hq
        have hget : f.getD (flats F).length dCrack = a := by rw [← hl]; simp [List.getD_eq_getElem?_getD]
        have hlen2 : (flats (F.take (F.length - arC a) ++ [Tr.node a (F.drop (F.length - arC a))])).length = (flats F).length + 1 := by rw [o2]; simp
        rw [hlen2, List.map_append] at ih
        simp only [List.map_cons, List.map_nil] at ih
        have hokd : okF arC goodC (F.drop (F.length - arC a)) := by
          have : okF arC goodC (F.take (F.length - arC a) ++ F.drop (F.length - arC a)) := by rw [List.take_append_drop]; exact hF
          exact (okF_app.1 this).2
        have hfd : (flats (F.drop (F.length - arC a))).length ≤ (flats F).length := by
          conv => rhs; rw [← List.take_append_drop (F.length - arC a) F]
          rw [flats_app, List.length_append]; omega
        have hj := join_len _ hokd
        rw [printFs_map] at hj
        have hst := print_step (F.map printF) f hf (flats F).length (by omega) hget hc.2 (by rw [List.length_map]; exact hc.1) (by rw [List.length_map]; omega) (by rw [List.length_map, ← List.map_drop]; omega)
        rw [hst, List.length_map, ← List.map_take, ← List.map_drop]
        rw [printF, printFs_map] at ih
        exact ih
      · cases hq
open Classical in
noncomputable def printC (f : List tCrack) : List UInt8 × Int := if h : ∃ t, isF t f then (printF h.choose, 0) else ([], checkS f)
theorem printC_of {t : Tr tCrack} {f : List tCrack} (h : isF t f) : printC f = (printF t, 0) := by
  have he : ∃ t, isF t f := ⟨t, h⟩
  unfold printC
  rw [dif_pos he, isF_inj he.choose_spec h]
theorem printC_no {f : List tCrack} (h : ¬ checkS f = 0) : printC f = ([], checkS f) := by
  unfold printC
  rw [dif_neg fun ⟨t, ht⟩ => h (check_of ht)]
theorem Print_eq (f : List tCrack) : fail_Print f = some (printC f) := by
  unfold fail_Print en_fail_Print
  rw [check_eq, Option.bind_some]
  by_cases hc : checkS f = 0
  · obtain ⟨t, ht⟩ := check_ex hc
    rw [hc, if_neg (by decide), printC_of ht]
    exact print_loop f ht.2.2 t f [] trivial rfl (parse_one.2 ⟨ht.1, ht.2.1⟩)
  · rw [if_pos (by simpa using hc), printC_no hc]; rfl
end Go.Eng
