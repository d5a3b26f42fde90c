/- A part of the proof: Fb2. -/
import Derived.Test.YtnkkbcofijcpbaaDoorFb1
namespace Go.Eng
set_option linter.unusedVariables false
set_option linter.unusedSimpArgs false
theorem drop_q (q z : List UInt8) : (32 :: (q ++ z)).drop (1 + q.length) = z := by
  rw [Nat.add_comm, List.drop_succ_cons, List.drop_left' rfl]
theorem drop_q2 (q z : List UInt8) : (32 :: (q ++ (58 :: 32 :: z))).drop (1 + q.length + 2) = z := by
  rw [← List.drop_drop, drop_q]; rfl
theorem np32 (z : List UInt8) : (32 :: z : List UInt8) = [] ∨ ∃ c r, (32 :: z : List UInt8) = c :: r ∧ isP c = false := .inr ⟨32, z, rfl, by decide⟩
theorem np40 (z : List UInt8) : (40 :: z : List UInt8) = [] ∨ ∃ c r, (40 :: z : List UInt8) = c :: r ∧ isP c = false := .inr ⟨40, z, rfl, by decide⟩
theorem np58 (z : List UInt8) : (58 :: z : List UInt8) = [] ∨ ∃ c r, (58 :: z : List UInt8) = c :: r ∧ isP c = false := .inr ⟨58, z, rfl, by decide⟩
theorem endR_tail (l : List (List UInt8)) (r : List UInt8) : endR (Lib.joinTail [59, 32] l ++ 41 :: r) := by
  cases l with
  | nil => exact .inr ⟨r, .inl rfl⟩
  | cons x l => exact .inr ⟨32 :: (x ++ Lib.joinTail [59, 32] l) ++ 41 :: r, .inr (by rw [joinTail_cons]; simp)⟩
theorem leaf_back (val : List UInt8 → Option (TF × Nat)) (c : tCrack) (h0 : c.2.1 = 0) (h : crackS c = true) (r : List UInt8) (hr : endR r) :
    stepF val (crackX c [] ++ r) = some (.node c [], (crackX c []).length) := by
  obtain ⟨k1, k2, _, hc⟩ := crack_facts h
  obtain ⟨k, p, t, ⟨⟩⟩ := c
  simp only at h0 k1 k2 hc ⊢
  subst h0
  have hx : crackX (k, 0, t, ()) [] = preK (k, 0, t, ()) [] := by unfold crackX; rw [if_neg]; simp
  rw [hx]
  rcases hc with ⟨_, e, _⟩ | ⟨_, e, _⟩ | ⟨e, _⟩ | ⟨e, _⟩ | ⟨e, _, ha⟩ | ⟨e, _, rfl⟩
  · omega
  · cases e
  · subst e
    have hp : preK ((8 : Int), (0 : Int), t, ()) [] = wordK 8 ++ (32 :: quoteT t) := rfl
    rw [hp, List.append_assoc, List.cons_append, step_head val k1 k2 _ (np32 _), txt_back]
    simp (config := { decide := true }) only [if_true, if_false, moreK, drop_q, endR_58 hr]
    simp [leafT]; omega
  · have hp : preK (k, (0 : Int), t, ()) [] = wordK k ++ (32 :: quoteT t) := by rcases e with rfl | rfl <;> rfl
    rw [hp, List.append_assoc, List.cons_append, step_head val k1 k2 _ (np32 _), txt_back, if_neg (by omega), if_neg (by omega), if_pos (by omega)]
    simp only [moreK]
    rw [if_neg (by omega)]
    simp [leafT]; omega
  · have hp : preK (k, (0 : Int), t, ()) [] = wordK k ++ (32 :: t) := by rcases e with rfl | rfl | rfl <;> rfl
    rw [hp, List.append_assoc, List.cons_append, step_head val k1 k2 _ (np32 _), wrd_back _ _ ha (endR_np hr), if_neg (by omega), if_neg (by omega), if_neg (by omega), if_pos (by omega)]
    simp only [moreK]
    rw [if_neg (by omega)]
    simp [leafT]; omega
  · have hp : preK (k, (0 : Int), [], ()) [] = wordK k ++ [] := by rcases e with rfl | rfl | rfl <;> rfl
    rw [hp, List.append_nil, step_head val k1 k2 _ (endR_np hr), if_pos (by omega)]; rfl
theorem one_back (val : List UInt8 → Option (TF × Nat)) (c : tCrack) (y : TF) (h1 : c.2.1 = 1) (hn : ¬ c.1 = 10) (h : crackS c = true) (z r : List UInt8) (hz : val (z ++ r) = some (y, z.length)) :
    stepF val (crackX c [z] ++ r) = some (.node c [y], (crackX c [z]).length) := by
  obtain ⟨k1, k2, _, hc⟩ := crack_facts h
  obtain ⟨k, p, t, ⟨⟩⟩ := c
  simp only at h1 hn k1 k2 hc ⊢
  subst h1
  have hx : crackX (k, 1, t, ()) [z] = preK (k, 1, t, ()) [z] ++ (58 :: 32 :: z) := by unfold crackX; rw [if_pos ⟨hn, rfl⟩]; rfl
  rw [hx]
  rcases hc with ⟨e, _⟩ | ⟨e, _, ha⟩ | ⟨e, _⟩ | ⟨_, e⟩ | ⟨_, e, _⟩ | ⟨_, e, _⟩
  · exact absurd e hn
  · subst e
    have hp : preK ((9 : Int), (1 : Int), t, ()) [z] = wordK 9 ++ (32 :: t) := rfl
    rw [hp]
    have ea : wordK 9 ++ (32 :: t) ++ (58 :: 32 :: z) ++ r = wordK 9 ++ (32 :: (t ++ (58 :: 32 :: (z ++ r)))) := by simp
    rw [ea, step_head val k1 k2 _ (np32 _), wrd_back _ _ ha (np58 _), if_neg (by omega), if_neg (by omega), if_neg (by omega), if_pos (by omega)]
    rw [moreK, if_pos (by omega), drop_q, if_pos (by rfl), ← Nat.add_assoc, drop_q2, hz]
    simp [oneF]; omega
  · subst e
    have hp : preK ((8 : Int), (1 : Int), t, ()) [z] = wordK 8 ++ (32 :: quoteT t) := rfl
    rw [hp]
    have ea : wordK 8 ++ (32 :: quoteT t) ++ (58 :: 32 :: z) ++ r = wordK 8 ++ (32 :: (quoteT t ++ (58 :: 32 :: (z ++ r)))) := by simp
    rw [ea, step_head val k1 k2 _ (np32 _), txt_back, if_neg (by omega), if_neg (by omega), if_pos (by omega)]
    rw [moreK, if_pos (by omega), drop_q, if_pos (by rfl), ← Nat.add_assoc, drop_q2, hz]
    simp [oneF]; omega
  · cases e
  · cases e
  · cases e
theorem join_back (val : List UInt8 → Option (TF × Nat)) (c : tCrack) (y : TF) (ys : List TF) (hn : c.1 = 10) (h1 : arC c = ys.length + 1) (h : crackS c = true) (z r : List UInt8) (l : List (List UInt8)) (hl : l.length = ys.length)
    (hz : val (z ++ (Lib.joinTail [59, 32] l ++ 41 :: r)) = some (y, z.length))
    (ht : ∀ f, ys.length < f → tailF val f (Lib.joinTail [59, 32] l ++ 41 :: r) = some (ys, (Lib.joinTail [59, 32] l).length + 1)) :
    stepF val (crackX c (z :: l) ++ r) = some (.node c (y :: ys), (crackX c (z :: l)).length) := by
  obtain ⟨k1, k2, k3, hc⟩ := crack_facts h
  obtain ⟨k, p, t, ⟨⟩⟩ := c
  simp only [arC] at h1 hn k1 k2 k3 hc ⊢
  subst hn
  have ht' : t = [] := by
    rcases hc with ⟨_, _, e⟩ | ⟨e, _⟩ | ⟨e, _⟩ | ⟨e, _⟩ | ⟨e, _⟩ | ⟨e, _⟩
    · exact e
    all_goals omega
  subst ht'
  have hp : p = ((ys.length + 1 : Nat) : Int) := by omega
  subst hp
  have hx : crackX ((10 : Int), ((ys.length + 1 : Nat) : Int), [], ()) (z :: l) = wordK 10 ++ (40 :: (z ++ (Lib.joinTail [59, 32] l ++ [41]))) := by
    unfold crackX
    rw [if_neg (fun e => e.1 rfl)]
    unfold preK
    rw [if_pos rfl, Lib.join_cons]; simp
  rw [hx]
  have ea : wordK 10 ++ (40 :: (z ++ (Lib.joinTail [59, 32] l ++ [41]))) ++ r = wordK 10 ++ (40 :: (z ++ (Lib.joinTail [59, 32] l ++ 41 :: r))) := by simp
  rw [ea, step_head val k1 k2 _ (np40 _), if_neg (by omega), if_pos rfl]
  unfold joinF
  rw [if_pos (by rfl)]
  have hd : (40 :: (z ++ (Lib.joinTail [59, 32] l ++ 41 :: r))).drop 1 = z ++ (Lib.joinTail [59, 32] l ++ 41 :: r) := rfl
  have hd2 : (40 :: (z ++ (Lib.joinTail [59, 32] l ++ 41 :: r))).drop (1 + z.length) = Lib.joinTail [59, 32] l ++ 41 :: r := by
    rw [Nat.add_comm, List.drop_succ_cons, List.drop_left' rfl]
  rw [hd, hz]
  dsimp only
  have hjl : ∀ l : List (List UInt8), l.length ≤ (Lib.joinTail [59, 32] l).length := by
    intro l
    induction l with
    | nil => simp
    | cons x l ih => rw [joinTail_cons]; simp only [List.length_append, List.length_cons, List.length_nil]; omega
  have := hjl l
  rw [hd2, ht _ (by simp only [List.length_append, List.length_cons]; omega)]
  simp [joinE]; omega
mutual
theorem print_back : ∀ (x : TF), okT arC goodC x → ∀ (d : Nat), tdeep x ≤ d → ∀ r : List UInt8, endR r → failT d (printF x ++ r) = some (x, (printF x).length)
  | .node c ts, h, d, hd, r, hr => by
    have h2 : crackS c = true := h.2.1
    have h3 := h.2.2
    have h1 : arC c = ts.length := h.1
    match d, hd with
    | 0, hd => simp [tdeep] at hd
    | d + 1, hd =>
      have hd' : tdeeps ts ≤ d := by simp only [tdeep] at hd; omega
      rw [failT, printF]
      obtain ⟨_, _, k3, _⟩ := crack_facts h2
      obtain ⟨_, _, _, kk⟩ := crack_kind h2
      match ts, h1, h3, hd' with
      | [], h1, h3, hd' =>
        simp only [arC, List.length_nil] at h1
        rw [printFs]
        exact leaf_back _ c (by omega) h2 r hr
      | y :: ys, h1, h3, hd' =>
        simp only [tdeeps] at hd'
        rw [printFs]
        by_cases hn : c.1 = 10
        · exact join_back _ c y ys hn h1 h2 _ r _ (by rw [printFs_map, List.length_map])
            (print_back y h3.1 d (by omega) _ (endR_tail _ _)) fun f hf => tail_back ys h3.2 d (by omega) r f hf
        · simp only [arC, List.length_cons] at h1
          have hy : ys = [] := List.eq_nil_of_length_eq_zero (by omega)
          subst hy
          rw [printFs]
          exact one_back _ c y (by omega) hn h2 _ r (print_back y h3.1 d (by omega) r hr)
theorem tail_back : ∀ (xs : List TF), okF arC goodC xs → ∀ (d : Nat), tdeeps xs ≤ d → ∀ (r : List UInt8) (f : Nat), xs.length < f → tailF (failT d) f (Lib.joinTail [59, 32] (printFs xs) ++ 41 :: r) = some (xs, (Lib.joinTail [59, 32] (printFs xs)).length + 1)
  | [], _, d, _, r, f, hf => by
    match f, hf with
    | f + 1, _ =>
      rw [printFs, tailF]
      rw [if_neg (by rw [show Lib.joinTail [59, 32] ([] : List (List UInt8)) = [] from rfl, List.nil_append, List.take_succ_cons]; intro e; cases e), if_pos (by rfl)]; rfl
  | y :: ys, h, d, hd, r, f, hf => by
    simp only [tdeeps] at hd
    match f, hf with
    | f + 1, hf =>
      have e : Lib.joinTail [59, 32] (printFs (y :: ys)) ++ 41 :: r = 59 :: 32 :: (printF y ++ (Lib.joinTail [59, 32] (printFs ys) ++ 41 :: r)) := by
        rw [printFs, joinTail_cons]; simp
      rw [e, tailF, if_pos (by rfl)]
      have hd1 : (59 :: 32 :: (printF y ++ (Lib.joinTail [59, 32] (printFs ys) ++ 41 :: r))).drop 2 = printF y ++ (Lib.joinTail [59, 32] (printFs ys) ++ 41 :: r) := rfl
      rw [hd1, print_back y h.1 d (by omega) _ (endR_tail _ _)]
      dsimp only
      have hd2 : (59 :: 32 :: (printF y ++ (Lib.joinTail [59, 32] (printFs ys) ++ 41 :: r))).drop (2 + (printF y).length) = Lib.joinTail [59, 32] (printFs ys) ++ 41 :: r := by
        rw [← List.drop_drop, hd1, List.drop_left' rfl]
      rw [hd2, tail_back ys h.2 d (by omega) r f (by simp only [List.length_cons] at hf; omega)]
      rw [printFs, joinTail_cons]
      simp; omega
end
end Go.Eng
