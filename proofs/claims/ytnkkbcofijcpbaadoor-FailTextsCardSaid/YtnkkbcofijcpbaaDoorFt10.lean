/- A part of the proof: Ft10. -/
import Derived.Test.YtnkkbcofijcpbaaDoorFt9
namespace Go.Eng
set_option linter.unusedVariables false
set_option linter.unusedSimpArgs false
theorem allF_size {val : List UInt8 → Option (TF × Nat)} {d : Nat} (hval : ∀ s x k, val s = some (x, k) → sizeF d s x k) (f : Nat) (l : List UInt8) (xs : List TF) (m : Nat) (h : allF val f l = some (xs, m)) : m ≤ l.length ∧ (flats xs).length + 1 ≤ m := by
  unfold allF at h
  split at h
  · cases h
  · rename_i x k hx
    obtain ⟨a1, a2, a3, a4, a5⟩ := hval _ _ _ hx
    obtain ⟨q, hq, he⟩ := Option.map_eq_some_iff.1 h
    obtain ⟨ys, j⟩ := q
    obtain ⟨b1, b2, b3⟩ := tailF_size hval _ _ _ _ hq
    rw [List.length_drop] at b1
    cases he
    refine ⟨by dsimp only; omega, ?_⟩
    simp only [flats, List.length_append]; omega
section
variable {s : List UInt8} (hs : s.length ≤ 65536) {rc : RcT} {val : List UInt8 → Option (TF × Nat)} {deep : Nat} (hdp : deep ≤ 1024) {p d : Nat} (hp : p ≤ s.length)
  (hrc : ∀ (p' : Nat), p < p' → p' ≤ s.length → ∃ res, rc s (p' : Int) (w64 ((deep : Int) + 1)) = some res ∧ rfRel s p' (val (s.drop p')) res)
  (hval : ∀ s x k, val s = some (x, k) → sizeF d s x k)
include hs hdp hp hrc hval
theorem parse_step : ∃ res, runL (st_ref03_parse rc) (en_ref03_parse rc s (p : Int) (deep : Int)) = some res ∧ rfRel s p (stepF val (s.drop p)) res := by
  have hd : ¬ (1024 : Int) < (deep : Int) := by omega
  have hwd := rword_eq s hs p hp
  unfold stepF
  dsimp only
  have hn := wlen_le (s.drop p)
  rw [List.length_drop] at hn
  rw [List.drop_drop]
  have h4 : ¬ kindS ((s.drop p).take (wlen (s.drop p))) = 0 → 4 ≤ wlen (s.drop p) := kind_wlen
  generalize wlen (s.drop p) = n at *
  generalize (s.drop p).take n = w at *
  have hq : p + n ≤ s.length := by omega
  have e1 : w64 (((p + n : Nat) : Int) + 1) = ((p + n + 1 : Nat) : Int) := w64_eq (by omega) (by omega)
  rcases kindS_vals w with h | h | h | h | h | h | h
  · -- no word
    rw [h, if_neg (by decide), if_neg (by decide), if_neg (by decide), if_neg (by decide), pen_0 hd hwd h, spC_eq]
    split <;> exact ⟨_, rfl, rf_no⟩
  · -- fail, panic
    have h4' := h4 (by omega)
    rw [pen_text hd hwd h, spC_eq, e1, if_neg (show ¬ (kindS w = 6 ∨ kindS w = 7 ∨ kindS w = 11) by omega), if_neg (show ¬ kindS w = 10 by omega), if_pos (show kindS w = 1 ∨ kindS w = 2 ∨ kindS w = 8 by omega)]
    unfold txtS
    by_cases h1 : (s.drop (p + n)).take 1 = [32]
    · have hl := take_len1 h1
      rw [List.length_drop] at hl
      rw [if_pos h1, if_pos h1, List.drop_drop]
      obtain ⟨t, k, ok, g1, g2⟩ := rtext_eq s hs (p + n + 1) (by omega)
      rw [g1, Option.bind_some]
      refine ⟨_, rfl, ?_⟩
      cases hqt : qtS (s.drop (p + n + 1)) with
      | none =>
        rw [hqt] at g2
        exact ⟨by simp only [List.length_cons, List.length_nil]; omega, g2⟩
      | some q =>
        obtain ⟨t', m⟩ := q
        rw [hqt] at g2
        obtain ⟨q1, q2, q3⟩ := g2
        subst q1 q2 q3
        rw [Option.map_some]
        unfold moreK
        dsimp only
        rw [if_neg (show ¬ (kindS w = 8 ∨ kindS w = 9) by omega), show p + n + 1 + m = p + (n + (1 + m)) by omega]
        exact rf_leaf (s := s) (p := p) (n := n + (1 + m)) (kindS w) t (by omega)
    · rw [if_neg h1, if_neg h1]
      exact ⟨_, rfl, rf_no⟩
  · -- value, none, cycle
    have h4' := h4 (by omega)
    obtain ⟨k', g1, g2⟩ := pen_word (rc := rc) hd hwd h
    rw [g1, spC_eq, e1, if_neg (show ¬ (kindS w = 6 ∨ kindS w = 7 ∨ kindS w = 11) by omega), if_neg (show ¬ kindS w = 10 by omega), if_neg (show ¬ (kindS w = 1 ∨ kindS w = 2 ∨ kindS w = 8) by omega), if_pos (show kindS w = 3 ∨ kindS w = 4 ∨ kindS w = 5 ∨ kindS w = 9 by omega)]
    unfold wrdS
    by_cases h1 : (s.drop (p + n)).take 1 = [32]
    · have hl := take_len1 h1
      rw [List.length_drop] at hl
      rw [if_pos h1, if_pos h1, List.drop_drop, rword_eq s hs (p + n + 1) (by omega), Option.bind_some]
      show ∃ res, iter _ _ = some res ∧ _
      rw [iter_eq']
      simp only [st_ref03_parse]
      rw [g2]
      refine ⟨_, rfl, ?_⟩
      unfold moreK
      dsimp only
      rw [if_neg (show ¬ (kindS w = 8 ∨ kindS w = 9) by omega), show p + n + 1 + wlen (s.drop (p + n + 1)) = p + (n + (1 + wlen (s.drop (p + n + 1)))) by omega]
      exact rf_leaf (kindS w) _ (by omega)
    · rw [if_neg h1, if_neg h1]
      exact ⟨_, rfl, rf_no⟩
  · -- depth, closed, long
    have h4' := h4 (by omega)
    rw [pen_leaf hd hwd h, if_pos h]
    exact ⟨_, rfl, rf_leaf _ _ (by omega)⟩
  · -- token
    have h4' := h4 (by omega)
    rw [h, if_neg (by decide), if_neg (by decide), if_pos (by decide), pen_8 hd hwd h, spC_eq, e1]
    unfold txtS
    by_cases h1 : (s.drop (p + n)).take 1 = [32]
    · have hl := take_len1 h1
      rw [List.length_drop] at hl
      rw [if_pos h1, if_pos h1, List.drop_drop]
      obtain ⟨t, k, ok, g1, g2⟩ := rtext_eq s hs (p + n + 1) (by omega)
      rw [g1, Option.bind_some]
      cases hqt : qtS (s.drop (p + n + 1)) with
      | none =>
        rw [hqt] at g2
        dsimp only at g2 ⊢
        subst g2
        exact ⟨_, rfl, by simp only [List.length_cons, List.length_nil]; omega, rfl⟩
      | some q =>
        obtain ⟨t', m⟩ := q
        rw [hqt] at g2
        obtain ⟨q1, q2, q3⟩ := g2
        subst q1 q2 q3
        have hml := (txtS_len (r := s.drop (p + n)) (t := t) (m := 1 + m) (by unfold txtS; rw [if_pos h1, List.drop_drop, hqt]; rfl)).2
        rw [List.length_drop] at hml
        have hb : ref03_begin s ((p + n + 1 + m : Nat) : Int) [58, 32] = some (decide ((s.drop (p + n + 1 + m)).take 2 = [58, 32])) := rbegin_eq s hs (p + n + 1 + m) (by omega) [58, 32] (by decide)
        rw [Option.map_some]
        unfold moreK
        dsimp only
        rw [if_pos (by rfl), hb, Option.bind_some, List.drop_drop, List.drop_drop, if_pos (show (8 : Int) = 8 ∨ (8 : Int) = 9 from .inl rfl), show p + n + (1 + m) = p + n + 1 + m by omega, show p + n + (1 + m + 2) = p + n + 1 + m + 2 by omega]
        by_cases h2 : (s.drop (p + n + 1 + m)).take 2 = [58, 32]
        · have hl2 := take_len2 h2
          rw [List.length_drop] at hl2
          have e2 : w64 (((p + n + 1 + m : Nat) : Int) + 2) = ((p + n + 1 + m + 2 : Nat) : Int) := w64_eq (by omega) (by omega)
          obtain ⟨res, f1, f2⟩ := hrc (p + n + 1 + m + 2) (by omega) (by omega)
          rw [decide_eq_true h2, if_pos h2, if_neg (by simp), e2, f1, Option.bind_some, G_any (by have := f2.1; simp only [List.length_cons, List.length_nil]; omega)]
          exact ⟨_, rfl, rf_one (by omega) (by omega) (by omega) 8 t f2⟩
        · rw [decide_eq_false h2, if_neg h2, if_pos (by rfl), if_pos (show (8 : Int) = 8 from rfl)]
          refine ⟨_, rfl, ?_⟩
          rw [show p + n + 1 + m = p + (n + (1 + m)) by omega]
          exact rf_leaf 8 t (by omega)
    · rw [if_neg h1, if_neg h1]
      exact ⟨_, rfl, rf_no⟩
  · -- cell
    have h4' := h4 (by omega)
    rw [h, if_neg (by decide), if_neg (by decide), if_neg (by decide), if_pos (by decide), pen_9 hd hwd h, spC_eq, e1]
    unfold wrdS
    by_cases h1 : (s.drop (p + n)).take 1 = [32]
    · have hl := take_len1 h1
      rw [List.length_drop] at hl
      rw [if_pos h1, if_pos h1, List.drop_drop, rword_eq s hs (p + n + 1) (by omega), Option.bind_some]
      have hml := wlen_le (s.drop (p + n + 1))
      rw [List.length_drop] at hml
      generalize wlen (s.drop (p + n + 1)) = m at *
      have hb : ref03_begin s ((p + n + 1 + m : Nat) : Int) [58, 32] = some (decide ((s.drop (p + n + 1 + m)).take 2 = [58, 32])) := rbegin_eq s hs (p + n + 1 + m) (by omega) [58, 32] (by decide)
      unfold moreK
      dsimp only
      rw [hb, Option.bind_some, List.drop_drop, List.drop_drop, if_pos (show (9 : Int) = 8 ∨ (9 : Int) = 9 from .inr rfl), show p + n + (1 + m) = p + n + 1 + m by omega, show p + n + (1 + m + 2) = p + n + 1 + m + 2 by omega]
      by_cases h2 : (s.drop (p + n + 1 + m)).take 2 = [58, 32]
      · have hl2 := take_len2 h2
        rw [List.length_drop] at hl2
        have e2 : w64 (((p + n + 1 + m : Nat) : Int) + 2) = ((p + n + 1 + m + 2 : Nat) : Int) := w64_eq (by omega) (by omega)
        obtain ⟨res, f1, f2⟩ := hrc (p + n + 1 + m + 2) (by omega) (by omega)
        rw [decide_eq_true h2, if_pos h2, if_neg (by simp), e2, f1, Option.bind_some, G_any (by have := f2.1; simp only [List.length_cons, List.length_nil]; omega)]
        exact ⟨_, rfl, rf_one (by omega) (by omega) (by omega) 9 _ f2⟩
      · rw [decide_eq_false h2, if_neg h2, if_pos (by rfl), if_neg (show ¬ (9 : Int) = 8 by decide)]
        exact ⟨_, rfl, rf_no⟩
    · rw [if_neg h1, if_neg h1]
      exact ⟨_, rfl, rf_no⟩
  · -- join
    have h4' := h4 (by omega)
    rw [pen_10 hd hwd h, h, if_neg (by decide), if_pos rfl, joinF_all]
    unfold ref03_joined en_ref03_joined
    have hb : ref03_begin s ((p + n : Nat) : Int) [40] = some (decide ((s.drop (p + n)).take 1 = [40])) := rbegin_eq s hs (p + n) (by omega) [40] (by decide)
    rw [hb, Option.bind_some]
    by_cases h1 : (s.drop (p + n)).take 1 = [40]
    · have hl := take_len1 h1
      rw [List.length_drop] at hl
      rw [decide_eq_true h1, if_neg (by simp), if_pos h1, e1, List.drop_drop, List.length_drop]
      obtain ⟨res, i1, i2⟩ := joined_rel hs hrc hval (s.length - (p + n) + 1) (p + n + 1) 0 [] (by omega) (by omega) (by omega) (by simp) (by omega)
      have i1' : runL (st_ref03_joined rc) (some (.inl (.l6 s ((p + n + 1 : Nat) : Int) (deep : Int) [] 0))) = some res := i1
      rw [i1', Option.bind_some]
      refine ⟨_, rfl, ?_⟩
      cases ha : allF val (s.length - (p + n) + 1) (s.drop (p + n + 1)) with
      | none =>
        rw [ha] at i2
        rw [show res = ([], 0, false) from i2]
        exact rf_no
      | some q =>
        obtain ⟨xs, m⟩ := q
        rw [ha] at i2
        rw [Option.map_some]
        dsimp only
        obtain ⟨hx1, hx2⟩ := allF_size hval _ _ _ _ ha
        rw [List.length_drop] at hx1
        rcases i2 with i2 | ⟨i2, i3⟩
        · rw [i2]
          refine ⟨?_, .inl ⟨rfl, ?_, ?_⟩⟩
          · simp only [List.length_append, List.nil_append, List.length_cons, List.length_nil]
            omega
          · rw [flat_node, Nat.zero_add]; rfl
          · show ((p + n + 1 + m : Nat) : Int) = _
            congr 1; omega
        · rw [i2]
          refine ⟨Nat.zero_le _, .inr ⟨rfl, ?_⟩⟩
          rw [flat_node]
          simp only [List.length_append, List.length_cons, List.length_nil] at i3 ⊢; omega
    · rw [decide_eq_false h1, if_pos (by rfl), if_neg h1]
      exact ⟨_, rfl, rf_no⟩
end
theorem parse_rel {s : List UInt8} (hs : s.length ≤ 65536) : ∀ (fu d : Nat), d < fu → d ≤ 1025 → ∀ (p : Nat), p ≤ s.length → ∃ res, ref03_parse_n fu s (p : Int) ((1025 - d : Nat) : Int) = some res ∧ rfRel s p (failT d (s.drop p)) res
  | 0, d, h, _, _, _ => by omega
  | fu + 1, 0, h, hd, p, hp => by
    unfold ref03_parse_n en_ref03_parse
    rw [if_pos (by rw [decide_eq_true_eq]; omega)]
    exact ⟨_, rfl, rf_no⟩
  | fu + 1, d + 1, h, hd, p, hp => by
    unfold ref03_parse_n
    refine parse_step hs (by omega) hp (fun p' h1 h2 => ?_) (failT_size d)
    obtain ⟨res, r1, r2⟩ := parse_rel hs fu d (by omega) (by omega) p' h2
    have e : w64 (((1025 - (d + 1) : Nat) : Int) + 1) = ((1025 - d : Nat) : Int) := by rw [w64_eq (by omega) (by omega)]; omega
    rw [e]
    exact ⟨res, r1, r2⟩
mutual
theorem okT_both : ∀ (x : TF), okT arC (fun _ => true) x → wellT x → okT arC goodC x
  | .node c ts, h, hw => ⟨h.1, hw c (by rw [flat_node]; simp), okF_both ts h.2.2 fun c' hc => hw c' (by rw [flat_node]; simp [hc])⟩
theorem okF_both : ∀ (xs : List TF), okF arC (fun _ => true) xs → wellTs xs → okF arC goodC xs
  | [], _, _ => trivial
  | x :: xs, h, hw => ⟨okT_both x h.1 fun c hc => hw c (by simp [flats, hc]), okF_both xs h.2 fun c hc => hw c (by simp [flats, hc])⟩
end
mutual
theorem wellT_of : ∀ (x : TF), okT arC goodC x → wellT x
  | .node c ts, h => by
    intro c' hc
    rw [flat_node] at hc
    rcases List.mem_append.1 hc with hc | hc
    · exact wellF_of ts h.2.2 c' hc
    · rw [List.mem_singleton.1 hc]; exact h.2.1
theorem wellF_of : ∀ (xs : List TF), okF arC goodC xs → wellTs xs
  | [], _ => fun c hc => by cases hc
  | x :: xs, h => by
    intro c hc
    simp only [flats, List.mem_append] at hc
    rcases hc with hc | hc
    · exact wellT_of x h.1 c hc
    · exact wellF_of xs h.2 c hc
end
theorem check_flat {x : TF} (h : okT arC (fun _ => true) x) : checkS (flat x) = 0 ↔ wellT x ∧ (flat x).length ≤ 1024 := by
  constructor
  · intro hc
    obtain ⟨t, h1, h2, h3⟩ := check_ex hc
    refine ⟨fun c hm => ?_, h3⟩
    rw [← h2] at hm
    exact wellT_of t h1 c hm
  · rintro ⟨h1, h2⟩
    exact check_of (t := x) ⟨okT_both x h h1, rfl, h2⟩
theorem rcParse_eq (s : List UInt8) : ref03_Parse s = some (parseC s) := by
  unfold ref03_Parse parseC
  by_cases hl : 65536 < s.length
  · rw [if_pos (decide_eq_true (by omega)), if_pos hl]
  · rw [if_neg (by rw [decide_eq_true_eq]; omega), if_neg hl]
    obtain ⟨res, e1, e2⟩ := parse_rel (s := s) (by omega) 1100 1025 (by omega) (by omega) 0 (by omega)
    unfold ref03_parse
    have e1' : ref03_parse_n 1100 s 0 0 = some res := e1
    rw [e1', Option.bind_some]
    rw [List.drop_zero] at e2
    obtain ⟨_, e2⟩ := e2
    have no : res.2.2 = false → ((if (!((!res.2.2) || (!decide (res.2.1 = (s.length : Int))))) = true then ref03_Check res.1 else some (0 : Int)).bind fun t26 => if (((!res.2.2) || (!decide (res.2.1 = (s.length : Int)))) || (!decide (t26 = (0 : Int)))) = true then some (([] : List tCrack), (2 : Int)) else some (res.1, (0 : Int))) = some (([] : List tCrack), (2 : Int)) := by
      intro h
      rw [h]; rfl
    cases ho : failT 1025 s with
    | none =>
      rw [ho] at e2
      exact no e2
    | some q =>
      obtain ⟨x, k⟩ := q
      rw [ho] at e2
      have hz := failT_size _ _ _ _ ho
      dsimp only
      rcases e2 with ⟨r1, r2, r3⟩ | ⟨r1, r2⟩
      · have ek : decide (res.2.1 = (s.length : Int)) = decide (k = s.length) := by
          apply decide_eq_decide.2; rw [r3]; omega
        rw [ek, r1, r2]
        by_cases hk : k = s.length
        · rw [decide_eq_true hk, if_pos (by rfl), refCheck_eq, Option.bind_some]
          by_cases hc : checkS (flat x) = 0
          · rw [hc, if_neg (by decide), if_pos ⟨hk, (check_flat hz.2.2.2.2).1 hc⟩]
          · rw [if_pos (by simpa using hc), if_neg fun h => hc ((check_flat hz.2.2.2.2).2 h.2)]
        · have hn : ¬ (k = s.length ∧ wellT x ∧ (flat x).length ≤ 1024) := fun h => hk h.1
          rw [decide_eq_false hk, if_neg hn]; rfl
      · rw [no r1, if_neg fun h => by have := h.2.2; omega]
theorem parseC_len (s : List UInt8) : (parseC s).1.length ≤ 1024 := by
  unfold parseC
  split
  · simp
  · split
    · split
      · rename_i h; exact h.2.2
      · simp
    · simp
theorem FailTexts_pure (f : List tCrack) (s : List UInt8) (hf : f.length * 32 ≤ 140737488351232) : law03_FailTexts f s = some true := by
  unfold law03_FailTexts
  have hp := parseC_len s
  rw [copy_eq f hf, Option.bind_some, Print_eq, Option.bind_some, rPrint_eq, Option.bind_some]
  simp only [decide_true, Bool.not_true, Bool.or_self, Bool.not_false, if_true]
  rw [same_eq f f (by omega), Option.bind_some]
  simp only [decide_true, Bool.not_true, Bool.false_eq_true, if_false]
  rw [cParse_eq, Option.bind_some, rcParse_eq, Option.bind_some]
  simp only [decide_true, if_true]
  rw [same_eq _ _ (by omega)]
  simp only [decide_true, Option.bind_some, Bool.and_self]; rfl
end Go.Eng
