/- A part of the proof: Fb1. -/
import Derived.Test.YtnkkbcofijcpbaaDoorQb
namespace Go.Eng
set_option linter.unusedVariables false
set_option linter.unusedSimpArgs false
def endR (r : List UInt8) : Prop := r = [] ∨ ∃ r', r = 41 :: r' ∨ r = 59 :: r'
theorem wlen_app : ∀ (w m : List UInt8), w.all isP = true → (m = [] ∨ ∃ c r, m = c :: r ∧ isP c = false) → wlen (w ++ m) = w.length
  | [], m, _, hm => by
    rcases hm with rfl | ⟨c, r, rfl, h⟩
    · rfl
    · rw [List.nil_append, wlen_cons, h]; rfl
  | c :: w, m, hw, hm => by
    simp only [List.all_cons, Bool.and_eq_true] at hw
    rw [List.cons_append, wlen_cons, if_pos hw.1, wlen_app w m hw.2 hm]; rfl
theorem endR_np {r : List UInt8} (h : endR r) : r = [] ∨ ∃ c r', r = c :: r' ∧ isP c = false := by
  rcases h with h | ⟨r', h | h⟩
  · exact .inl h
  · exact .inr ⟨41, r', h, by decide⟩
  · exact .inr ⟨59, r', h, by decide⟩
theorem endR_58 {r : List UInt8} (h : endR r) : ¬ r.take 2 = [58, 32] := by
  rcases h with rfl | ⟨r', rfl | rfl⟩
  · decide
  · rw [List.take_succ_cons]; intro e; cases e
  · rw [List.take_succ_cons]; intro e; cases e
theorem scan_quote (q : List UInt8) : ∀ s : List UInt8, scanQ (s.flatMap quoteW ++ 34 :: q) = some (s.flatMap quoteW).length
  | [] => by
    simp only [List.flatMap_nil, List.nil_append, List.length_nil]
    rw [scanQ.eq_def]; rfl
  | c :: s => by
    have ih := scan_quote q s
    rw [List.flatMap_cons, List.append_assoc, List.length_append]
    have e92 : ((92 : UInt8).toNat : Int) = 92 := rfl
    have two : ∀ (x : UInt8) (l : List UInt8), scanQ (92 :: x :: l) = (scanQ l).map (· + 2) := fun x l => by
      rw [scanQ.eq_def]
      simp only
      rw [if_neg (by decide), if_pos (by decide)]
    have one : ∀ (x : UInt8) (l : List UInt8), ¬ (x.toNat : Int) = 34 → ¬ (x.toNat : Int) = 92 → scanQ (x :: l) = (scanQ l).map (· + 1) := fun x l h1 h2 => by
      rw [scanQ.eq_def]
      simp only
      rw [if_neg h1, if_neg h2]
    generalize s.flatMap quoteW = z at *
    unfold quoteW
    split
    · simp only [List.cons_append, List.nil_append, List.length_cons, List.length_nil]
      rw [two, ih, Option.map_some]; congr 1; omega
    · rename_i h1
      split
      · simp only [List.cons_append, List.nil_append, List.length_cons, List.length_nil]
        rw [two, ih, Option.map_some]; congr 1; omega
      · split
        · have hh : ∀ c : UInt8, (¬ ((hexHi c).toNat : Int) = 34 ∧ ¬ ((hexHi c).toNat : Int) = 92) ∧ (¬ ((hexLo c).toNat : Int) = 34 ∧ ¬ ((hexLo c).toNat : Int) = 92) :=
            fun c => all_u8 (p := fun c => (¬ ((hexHi c).toNat : Int) = 34 ∧ ¬ ((hexHi c).toNat : Int) = 92) ∧ (¬ ((hexLo c).toNat : Int) = 34 ∧ ¬ ((hexLo c).toNat : Int) = 92)) (by decide +kernel) c
          obtain ⟨⟨a1, a2⟩, a3, a4⟩ := hh c
          simp only [List.cons_append, List.nil_append, List.length_cons, List.length_nil]
          rw [two, one _ _ a1 a2, one _ _ a3 a4, ih]
          simp only [Option.map_some]
          congr 1; omega
        · simp only [List.cons_append, List.nil_append, List.length_cons, List.length_nil]
          rw [one _ _ (fun e => h1 (.inl e)) (fun e => h1 (.inr e)), ih, Option.map_some]; congr 1; omega
theorem qt_quote (t r : List UInt8) : qtS (quoteT t ++ r) = some (t, (quoteT t).length) := by
  have e : quoteT t ++ r = 34 :: (t.flatMap quoteW ++ 34 :: r) := by unfold quoteT; simp
  have hl : (quoteT t).length = (t.flatMap quoteW).length + 2 := by unfold quoteT; simp
  unfold qtS
  have ht : (quoteT t ++ r).tail = t.flatMap quoteW ++ 34 :: r := by rw [e]; rfl
  rw [ht, scan_quote]
  dsimp only
  rw [← hl, List.take_left' rfl, unq_quote]
theorem txt_back (t r : List UInt8) : txtS (32 :: (quoteT t ++ r)) = some (t, 1 + (quoteT t).length) := by
  unfold txtS
  rw [if_pos (by rfl)]
  show (qtS (quoteT t ++ r)).map _ = _
  rw [qt_quote]; rfl
theorem wrd_back (t r : List UInt8) (ht : t.all isP = true) (hr : r = [] ∨ ∃ c r', r = c :: r' ∧ isP c = false) : wrdS (32 :: (t ++ r)) = some (t, 1 + t.length) := by
  unfold wrdS
  rw [if_pos (by rfl)]
  show some ((t ++ r).take (wlen (t ++ r)), 1 + wlen (t ++ r)) = _
  rw [wlen_app t r ht hr, List.take_left' rfl]
theorem name_all {t : List UInt8} (h : nameS t = true) : t.all isP = true := by
  simp only [nameS, Bool.and_eq_true] at h
  have h := h.1.1
  cases t with
  | nil => rfl
  | cons c r =>
    have hl := (wordLen_iff (c :: r) (by simp)).2 h
    unfold wordLen at hl
    simp only [isWord, Bool.and_eq_true] at h
    rw [List.all_cons, isL_isP c h.1, Bool.true_and]
    exact h.2
theorem values_all {t : List UInt8} (h : gl_onceweb_fail_values.contains t = true) : t.all isP = true := by
  have : ∀ x ∈ gl_onceweb_fail_values, x.all isP = true := by decide
  exact this t (by simpa using h)
theorem head_back {k : Int} (h1 : 1 ≤ k) (h2 : k ≤ 11) (m : List UInt8) (hm : m = [] ∨ ∃ c r, m = c :: r ∧ isP c = false) : wlen (wordK k ++ m) = (wordK k).length ∧ kindS ((wordK k ++ m).take (wordK k).length) = k := by
  have hw : (wordK k).all isP = true ∧ kindS (wordK k) = k := by
    rcases kinds k with h | rfl | rfl | rfl | rfl | rfl | rfl | rfl | rfl | rfl | rfl | rfl
    · omega
    all_goals exact ⟨by decide, by decide⟩
  exact ⟨wlen_app _ _ hw.1 hm, by rw [List.take_left' rfl]; exact hw.2⟩
theorem step_head (val : List UInt8 → Option (TF × Nat)) {k : Int} (h1 : 1 ≤ k) (h2 : k ≤ 11) (m : List UInt8) (hm : m = [] ∨ ∃ c r, m = c :: r ∧ isP c = false) :
    stepF val (wordK k ++ m) = if k = 6 ∨ k = 7 ∨ k = 11 then some (leafT k [], (wordK k).length) else if k = 10 then joinF val (wordK k).length m else if k = 1 ∨ k = 2 ∨ k = 8 then moreK val k (wordK k).length m (txtS m) else if k = 3 ∨ k = 4 ∨ k = 5 ∨ k = 9 then moreK val k (wordK k).length m (wrdS m) else none := by
  obtain ⟨a, b⟩ := head_back h1 h2 m hm
  unfold stepF
  dsimp only
  rw [a, b, List.drop_left' rfl]
theorem crack_facts {c : tCrack} (h : crackS c = true) : 1 ≤ c.1 ∧ c.1 ≤ 11 ∧ 0 ≤ c.2.1 ∧ ((c.1 = 10 ∧ 1 ≤ c.2.1 ∧ c.2.2.1 = []) ∨ (c.1 = 9 ∧ c.2.1 = 1 ∧ c.2.2.1.all isP = true) ∨ (c.1 = 8 ∧ (c.2.1 = 0 ∨ c.2.1 = 1)) ∨ ((c.1 = 1 ∨ c.1 = 2) ∧ c.2.1 = 0) ∨ ((c.1 = 3 ∨ c.1 = 4 ∨ c.1 = 5) ∧ c.2.1 = 0 ∧ c.2.2.1.all isP = true) ∨ ((c.1 = 6 ∨ c.1 = 7 ∨ c.1 = 11) ∧ c.2.1 = 0 ∧ c.2.2.1 = [])) := by
  have h0 := crackS_pos h
  obtain ⟨k1, k2, _, k4⟩ := crack_kind h
  simp only [crackS, Bool.and_eq_true, decide_eq_true_eq] at h
  obtain ⟨⟨hp, _⟩, hf⟩ := h
  refine ⟨k1, k2, h0, ?_⟩
  rcases kinds c.1 with e | e | e | e | e | e | e | e | e | e | e | e
  · omega
  all_goals
    rw [e] at hp hf k4
    simp (config := { decide := true }) only [partS, fitS, if_true, if_false, Bool.and_eq_true, Bool.or_eq_true, decide_eq_true_eq, true_and] at hp hf
  · exact .inr (.inr (.inr (.inl ⟨.inl e, by omega⟩)))
  · exact .inr (.inr (.inr (.inl ⟨.inr e, by omega⟩)))
  · exact .inr (.inr (.inr (.inr (.inl ⟨.inl e, by omega, values_all hf⟩))))
  · exact .inr (.inr (.inr (.inr (.inl ⟨.inr (.inl e), by omega, name_all hf⟩))))
  · exact .inr (.inr (.inr (.inr (.inl ⟨.inr (.inr e), by omega, name_all hf⟩))))
  · exact .inr (.inr (.inr (.inr (.inr ⟨.inl e, by omega, hf⟩))))
  · exact .inr (.inr (.inr (.inr (.inr ⟨.inr (.inl e), by omega, hf⟩))))
  · exact .inr (.inr (.inl ⟨e, by omega⟩))
  · exact .inr (.inl ⟨e, by omega, name_all hf⟩)
  · exact .inl ⟨e, by omega, hf⟩
  · exact .inr (.inr (.inr (.inr (.inr ⟨.inr (.inr e), by omega, hf⟩))))
end Go.Eng
