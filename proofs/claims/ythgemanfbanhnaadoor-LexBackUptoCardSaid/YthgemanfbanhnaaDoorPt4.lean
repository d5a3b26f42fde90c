/- A part of the proof: Pt4. -/
import Derived.Test.YthgemanfbanhnaaDoorPt3
namespace Go.Eng
set_option linter.unusedVariables false
set_option linter.unusedSimpArgs false

/-- No token goes on here. -/
def stop (q : List UInt8) : Prop := q = [] ∨ ∃ b r, q = b :: r ∧ isB b = true
theorem isB_vals {c : UInt8} (h : isB c = true) : c = 9 ∨ c = 10 ∨ c = 13 ∨ c = 32 := by
  have hc : ∀ n : UInt8, (c.toNat : Int) = (n.toNat : Int) → c = n := fun n e => UInt8.toNat_inj.1 (by omega)
  simp only [isB, Bool.or_eq_true, decide_eq_true_eq] at h
  rcases h with h | h | h | h
  · exact .inl (hc 9 h)
  · exact .inr (.inl (hc 10 h))
  · exact .inr (.inr (.inl (hc 13 h)))
  · exact .inr (.inr (.inr (hc 32 h)))
theorem isB_P {c : UInt8} (h : isB c = true) : isP c = false := by
  rcases isB_vals h with rfl | rfl | rfl | rfl <;> rfl
theorem isB_D {c : UInt8} (h : isB c = true) : isD c = false := by
  rcases isB_vals h with rfl | rfl | rfl | rfl <;> rfl
theorem tw_stable {p : UInt8 → Bool} (hp : ∀ b, isB b = true → p b = false) {q q2 : List UInt8} (hs : stop q2) : ∀ (y : List UInt8), ((y ++ q).takeWhile p).length ≤ y.length → (y ++ q2).takeWhile p = (y ++ q).takeWhile p
  | [], h => by
    have h1 : q.takeWhile p = [] := List.length_eq_zero_iff.1 (by simpa using h)
    have h2 : q2.takeWhile p = [] := by
      rcases hs with rfl | ⟨b, r, rfl, hb⟩
      · rfl
      · rw [List.takeWhile_cons, hp b hb]; rfl
    rw [List.nil_append, List.nil_append, h1, h2]
  | c :: y, h => by
    simp only [List.cons_append, List.takeWhile_cons] at h ⊢
    split
    · rename_i hc
      rw [if_pos hc] at h
      simp only [List.length_cons] at h
      rw [tw_stable (q := q) hp hs y (by omega)]
    · rfl
theorem take_same {x q q2 : List UInt8} {n : Nat} (h : n ≤ x.length) : (x ++ q2).take n = (x ++ q).take n := by
  rw [List.take_append_of_le_length h, List.take_append_of_le_length h]
theorem wlen_stable {x q q2 : List UInt8} (hs : stop q2) (h : wlen (x ++ q) ≤ x.length) : wlen (x ++ q2) = wlen (x ++ q) := by
  unfold wlen at h ⊢; rw [tw_stable (fun b hb => isB_P hb) hs x h]
theorem cntD_stable {x q q2 : List UInt8} (hs : stop q2) (h : cntD (x ++ q) ≤ x.length) : cntD (x ++ q2) = cntD (x ++ q) := by
  unfold cntD at h ⊢; rw [tw_stable (fun b hb => isB_D hb) hs x h]
theorem wordLen_stable {x q q2 : List UInt8} (hs : stop q2) (h : wordLen (x ++ q) ≤ x.length) (h0 : wordLen (x ++ q) ≠ 0) : wordLen (x ++ q2) = wordLen (x ++ q) := by
  cases x with
  | nil => simp only [List.length_nil] at h; omega
  | cons c y =>
    simp only [List.cons_append, wordLen] at h ⊢
    split
    · rename_i hl
      rw [if_pos hl] at h
      exact wlen_stable (x := c :: y) hs h
    · rfl
theorem escS_stable {x q q2 : List UInt8} {k : Nat} (hk : (escS (x ++ q)).2 = (k : Int)) (h0 : k ≠ 0) (h : k ≤ x.length + 1) : escS (x ++ q2) = escS (x ++ q) := by
  cases x with
  | nil =>
    have := escS_k ([] ++ q)
    simp only [List.length_nil] at h
    omega
  | cons d y =>
    simp only [List.cons_append, escS] at hk ⊢
    split
    · rfl
    · split
      · rfl
      · split
        · rename_i h1 h2 h3
          rw [if_neg h1, if_neg h2, if_pos h3] at hk
          cases y with
          | nil =>
            exfalso
            simp only [List.nil_append, List.length_cons, List.length_nil] at hk h
            revert hk
            unfold escX
            split
            · unfold hexS; split
              · simp only; omega
              · simp only; omega
            · simp only; omega
          | cons p y =>
            cases y with
            | nil =>
              exfalso
              simp only [List.nil_append, List.cons_append, List.length_cons, List.length_nil] at hk h
              revert hk
              unfold escX
              split
              · unfold hexS; split
                · simp only; omega
                · simp only; omega
              · simp only; omega
            | cons q' y => rfl
        · rfl
theorem quoteF_stable {q q2 : List UInt8} : ∀ (f : Nat) (x t : List UInt8) (n : Nat), quoteF f (x ++ q) = some (t, n) → n ≤ x.length → ∀ g, x.length ≤ g → quoteF g (x ++ q2) = some (t, n)
  | 0, _, _, _, h, _, _, _ => by cases h
  | f + 1, [], t, n, h, hn, g, hg => by
    have := quoteF_n _ _ _ _ h
    simp only [List.length_nil] at hn; omega
  | f + 1, c :: y, t, n, h, hn, g, hg => by
    obtain ⟨g, rfl⟩ : ∃ m, g = m + 1 := ⟨g - 1, by simp only [List.length_cons] at hg; omega⟩
    simp only [List.length_cons] at hn hg
    simp only [List.cons_append, quoteF] at h ⊢
    split
    · rename_i h1; rw [if_pos h1] at h; exact h
    · rename_i h1
      rw [if_neg h1] at h
      split
      · rename_i h2
        rw [if_pos h2] at h
        split at h
        · cases h
        · rename_i he
          obtain ⟨⟨t', n'⟩, h3, h4⟩ := Option.map_eq_some_iff.1 h
          cases h4
          obtain ⟨k, hk⟩ : ∃ k : Nat, (escS (y ++ q)).2 = (k : Int) := by
            rcases escS_k (y ++ q) with h | ⟨h, _⟩ | ⟨h, _⟩
            · exact ⟨0, h⟩
            · exact ⟨2, h⟩
            · exact ⟨4, h⟩
          have hn' := quoteF_n _ _ _ _ h3
          simp only [hk, Int.toNat_natCast] at hn h3 hn' ⊢
          have hk2 : k = 0 ∨ k = 2 ∨ k = 4 := by
            rcases escS_k (y ++ q) with h | ⟨h, _⟩ | ⟨h, _⟩ <;> omega
          have hst := escS_stable (x := y) (q := q) (q2 := q2) hk (by omega) (by omega)
          rw [hst, if_neg he]
          rw [List.drop_append_of_le_length (by omega)] at h3
          simp only [hk, Int.toNat_natCast]
          rw [List.drop_append_of_le_length (by omega), quoteF_stable f _ _ _ h3 (by rw [List.length_drop]; omega) g (by rw [List.length_drop]; omega)]
          rfl
      · rename_i h2
        rw [if_neg h2] at h
        split
        · rename_i h3; rw [if_pos h3] at h; cases h
        · rename_i h3
          rw [if_neg h3] at h
          obtain ⟨⟨t', n'⟩, h4, h5⟩ := Option.map_eq_some_iff.1 h
          cases h5
          rw [quoteF_stable f _ _ _ h4 (by omega) g (by omega)]; rfl
/-- A token that ends here is the same whatever blank comes behind it. -/
theorem oneS_stable {x q q2 : List UInt8} (hs : stop q2) (h : (oneS (x ++ q)).1 = 0) (hn : (oneS (x ++ q)).2.2 ≤ x.length) : oneS (x ++ q2) = oneS (x ++ q) := by
  cases x with
  | nil =>
    have := oneS_n _ h
    simp only [List.length_nil] at hn; omega
  | cons c y =>
    have e1 : ∀ z, (c :: y) ++ z = c :: (y ++ z) := fun _ => rfl
    rw [e1] at h hn
    rw [e1, e1]
    simp only [oneS, bad] at h hn ⊢
    by_cases hl : isL c = true
    · rw [if_pos hl] at h hn
      rw [if_pos hl, if_pos hl]
      have hle : wlen (c :: (y ++ q)) ≤ (c :: y).length := by
        split at h
        · rename_i hk; rw [if_pos hk] at hn; exact hn
        · rename_i hk
          rw [if_neg hk] at hn
          split at h
          · cases h
          · rename_i hk2; rw [if_neg hk2] at hn; exact hn
      have hst := wlen_stable (x := c :: y) (q := q) (q2 := q2) hs hle
      rw [e1, e1] at hst
      have htk := take_same (x := c :: y) (q := q) (q2 := q2) hle
      rw [e1, e1] at htk
      rw [hst, htk]
    · rw [if_neg hl] at h hn
      rw [if_neg hl, if_neg hl]
      by_cases h36 : (c.toNat : Int) = 36
      · rw [if_pos h36] at h hn
        rw [if_pos h36, if_pos h36]
        have hle : wordLen (y ++ q) ≤ y.length ∧ wordLen (y ++ q) ≠ 0 := by
          split at h
          · cases h
          · rename_i hk
            rw [if_neg hk] at hn
            split at h
            · cases h
            · rename_i hk2
              rw [if_neg hk2] at hn
              simp only [List.length_cons] at hn
              exact ⟨by omega, hk⟩
        rw [wordLen_stable hs hle.1 hle.2, take_same (q := q) (q2 := q2) hle.1]
      · rw [if_neg h36] at h hn
        rw [if_neg h36, if_neg h36]
        by_cases hd : isD c = true
        · rw [if_pos hd] at h hn
          rw [if_pos hd, if_pos hd]
          have hle : cntD (c :: (y ++ q)) ≤ (c :: y).length := by
            split at h
            · rename_i hk; rw [if_pos hk] at hn; exact hn
            · cases h
          have hst := cntD_stable (x := c :: y) (q := q) (q2 := q2) hs hle
          rw [e1, e1] at hst
          have htk := take_same (x := c :: y) (q := q) (q2 := q2) hle
          rw [e1, e1] at htk
          rw [hst, htk]
        · rw [if_neg hd] at h hn
          rw [if_neg hd, if_neg hd]
          by_cases h34 : (c.toNat : Int) = 34
          · rw [if_pos h34] at h hn
            rw [if_pos h34, if_pos h34]
            cases hq : quoteF ((y ++ q).length + 1) (y ++ q) with
            | none => rw [hq] at h; cases h
            | some p =>
              obtain ⟨t, n⟩ := p
              rw [hq] at h hn
              simp only at h hn
              split at h
              · cases h
              · rename_i hk
                rw [if_neg hk] at hn
                simp only [List.length_cons] at hn
                rw [quoteF_stable (q2 := q2) _ _ _ _ hq (by omega) ((y ++ q2).length + 1) (by rw [List.length_append]; omega)]
          · rw [if_neg h34] at h hn
            rw [if_neg h34, if_neg h34]
            by_cases h2 : (c :: (y ++ q)).take 2 = [61, 61]
            · rw [if_pos h2] at h hn
              have htk := take_same (x := c :: y) (q := q) (q2 := q2) hn
              rw [e1, e1] at htk
              rw [if_pos h2, if_pos (htk.trans h2)]
            · rw [if_neg h2] at h hn
              rw [if_neg h2, if_neg]
              intro h2'
              cases y with
              | cons d y => exact h2 h2'
              | nil =>
                rcases hs with rfl | ⟨b, r, rfl, hb⟩
                · cases h2'
                · simp only [List.nil_append, List.take_succ_cons, List.take_zero, List.cons.injEq, and_true] at h2'
                  rcases isB_vals hb with rfl | rfl | rfl | rfl <;> cases h2'.2

/-! blank -/
theorem skip_pre : ∀ (y q : List UInt8) (b : Bool), q ≠ [] → q.length ≤ (skipF b (y ++ q)).length → skipF b (y ++ q) = skipF b y ++ q
  | [], q, b, hq, h => by
    rw [List.nil_append] at h ⊢
    have hz : skipF b [] = [] := by cases b <;> rfl
    rw [hz, List.nil_append]
    cases q with
    | nil => exact absurd rfl hq
    | cons c r =>
      simp only [List.length_cons] at h
      cases b with
      | true =>
        simp only [skipF] at h
        split at h
        · have := skipF_le r false; omega
        · have := skipF_le r true; omega
      | false =>
        simp only [skipF] at h ⊢
        split at h
        · have := skipF_le r true; omega
        · split at h
          · have := skipF_le r false; omega
          · rename_i h1 h2; rw [if_neg h1, if_neg h2]
  | c :: y, q, true, hq, h => by
    simp only [List.cons_append, skipF] at h ⊢
    split
    · rename_i h1; rw [if_pos h1] at h; exact skip_pre y q false hq h
    · rename_i h1; rw [if_neg h1] at h; exact skip_pre y q true hq h
  | c :: y, q, false, hq, h => by
    simp only [List.cons_append, skipF] at h ⊢
    split
    · rename_i h1; rw [if_pos h1] at h; exact skip_pre y q true hq h
    · rename_i h1
      rw [if_neg h1] at h
      split
      · rename_i h2; rw [if_pos h2] at h; exact skip_pre y q false hq h
      · rfl
theorem skip_blank (u : List UInt8) : ∀ (bl : List UInt8), (∀ c ∈ bl, isB c = true) → skipF false (bl ++ u) = skipF false u
  | [], _ => rfl
  | c :: bl, h => by
    have hc := h c (by simp)
    have h35 : ¬ (c.toNat : Int) = 35 := by rcases isB_vals hc with rfl | rfl | rfl | rfl <;> decide
    simp only [List.cons_append, skipF, if_neg h35, hc, if_true]
    exact skip_blank u bl (fun d hd => h d (by simp [hd]))
theorem skip_ins {bl u : List UInt8} (hbl : ∀ c ∈ bl, isB c = true) : ∀ (y q : List UInt8) (b : Bool), q ≠ [] → skipF b (y ++ q) = q → skipF b (y ++ (bl ++ u)) = skipF false u
  | [], q, b, hq, h => by
    rw [List.nil_append] at h ⊢
    cases b with
    | true =>
      exfalso
      cases q with
      | nil => exact hq rfl
      | cons c r =>
        have := congrArg List.length h
        simp only [skipF, List.length_cons] at this
        split at this
        · have := skipF_le r false; omega
        · have := skipF_le r true; omega
    | false => exact skip_blank u bl hbl
  | c :: y, q, true, hq, h => by
    simp only [List.cons_append, skipF] at h ⊢
    split
    · rename_i h1; rw [if_pos h1] at h; exact skip_ins hbl y q false hq h
    · rename_i h1; rw [if_neg h1] at h; exact skip_ins hbl y q true hq h
  | c :: y, q, false, hq, h => by
    simp only [List.cons_append, skipF] at h ⊢
    split
    · rename_i h1; rw [if_pos h1] at h; exact skip_ins hbl y q true hq h
    · rename_i h1
      rw [if_neg h1] at h
      split
      · rename_i h2; rw [if_pos h2] at h; exact skip_ins hbl y q false hq h
      · rename_i h2
        rw [if_neg h2] at h
        have := congrArg List.length h
        simp only [List.length_cons, List.length_append] at this
        omega

/-! the places fall -/
def desc : Nat → List (TkS × Nat) → Prop
  | _, [] => True
  | m, p :: l => 1 ≤ p.2 ∧ p.2 ≤ m ∧ desc p.2 l
theorem desc_le : ∀ {m n : Nat} {l : List (TkS × Nat)}, desc m l → m ≤ n → desc n l
  | _, _, [], _, _ => trivial
  | _, _, p :: l, h, hmn => ⟨h.1, by have := h.2.1; omega, h.2.2⟩
theorem desc_all : ∀ {l : List (TkS × Nat)} {m : Nat}, desc m l → ∀ p ∈ l, 1 ≤ p.2 ∧ p.2 ≤ m
  | [], _, _, p, hp => by cases hp
  | q :: l, m, h, p, hp => by
    rcases List.mem_cons.1 hp with rfl | hp
    · exact ⟨h.1, h.2.1⟩
    · have := desc_all h.2.2 p hp
      have := h.2.1
      omega
theorem toksR_desc : ∀ {f : Nat} {t : List UInt8} {l : List (TkS × Nat)}, toksR f t = some l → desc t.length l
  | 0, _, _, h => by cases h
  | _ + 1, [], _, h => by cases h; trivial
  | f + 1, c :: r, l, h => by
    simp only [toksR] at h
    split at h
    · rename_i he
      obtain ⟨l', h1, h2⟩ := Option.map_eq_some_iff.1 h
      subst h2
      obtain ⟨n1, n2⟩ := oneS_n (c :: r) he
      have hle := skipF_le ((c :: r).drop (oneS (c :: r)).2.2) false
      rw [List.length_drop] at hle
      exact ⟨by simp, Nat.le_refl _, desc_le (toksR_desc h1) (by omega)⟩
    · cases h

/-- A beginning that ends where a token begins. -/
theorem toks_begin : ∀ (n f : Nat) (t : List UInt8) (l : List (TkS × Nat)), toksR f t = some l → n < l.length → ∀ x q, t = x ++ q → q.length = (l.getD n ((0, 0, []), 0)).2 →
    toksR f x = some ((l.take n).map fun p => (p.1, p.2 - q.length)) ∧ ∀ p ∈ l.take n, q.length ≤ p.2
  | _, 0, _, _, h, _, _, _, _, _ => by cases h
  | _, _ + 1, [], l, h, hn, _, _, _, _ => by cases h; simp at hn
  | n, f + 1, c :: r, l, h, hn, x, q, ht, hq => by
    have hd := toksR_desc h
    simp only [toksR] at h
    split at h
    · rename_i he
      obtain ⟨l', h1, h2⟩ := Option.map_eq_some_iff.1 h
      subst h2
      have htl : x.length + q.length = r.length + 1 := by
        have := congrArg List.length ht
        simp only [List.length_append, List.length_cons] at this; omega
      cases n with
      | zero =>
        simp only [List.getD_cons_zero, List.length_cons] at hq
        have hx : x = [] := List.length_eq_zero_iff.1 (by omega)
        subst hx
        exact ⟨rfl, by simp⟩
      | succ n =>
        simp only [List.length_cons] at hn
        rw [List.getD_cons_succ] at hq
        have hmem : l'.getD n ((0, 0, []), 0) ∈ l' := by
          rw [List.getD_eq_getElem?_getD, List.getElem?_eq_getElem (by omega)]; exact List.getElem_mem _
        have hd1 := toksR_desc h1
        have hm := desc_all hd1 _ hmem
        obtain ⟨n1, n2⟩ := oneS_n (c :: r) he
        have hle := skipF_le ((c :: r).drop (oneS (c :: r)).2.2) false
        rw [List.length_drop] at hle
        simp only [List.length_cons] at hle n2
        have hqne : q ≠ [] := fun e => by subst e; simp only [List.length_nil] at hq; omega
        have hk : (oneS (c :: r)).2.2 ≤ x.length := by omega
        have hdr : (c :: r).drop (oneS (c :: r)).2.2 = x.drop (oneS (c :: r)).2.2 ++ q := by
          rw [ht, List.drop_append_of_le_length (by rw [← ht]; exact hk)]
        have hsp := skip_pre (x.drop (oneS (c :: r)).2.2) q false hqne (by rw [← hdr]; omega)
        rw [← hdr] at hsp
        obtain ⟨i1, i2⟩ := toks_begin n f _ l' h1 (by omega) _ q hsp hq
        have hst : oneS (x ++ []) = oneS (c :: r) := by
          have := oneS_stable (x := x) (q := q) (q2 := []) (.inl rfl) (by rw [← ht]; exact he) (by rw [← ht]; exact hk)
          rw [this, ← ht]
        rw [List.append_nil] at hst
        refine ⟨?_, fun p hp => ?_⟩
        · cases x with
          | nil => simp only [List.length_nil] at hk; omega
          | cons c' y =>
            simp only [toksR]
            rw [hst, if_pos he, i1, Option.map_some, List.take_succ_cons, List.map_cons]
            simp only [List.length_cons] at htl ⊢
            rw [show r.length + 1 - q.length = y.length + 1 by omega]
        · rw [List.take_succ_cons] at hp
          rcases List.mem_cons.1 hp with rfl | hp
          · simp only [List.length_cons]; omega
          · exact i2 p hp
    · cases h

theorem fault_iff (a : tFault) : (eqR tyFault (a.1, a.2.1, ()) ((0 : Int), (0 : Int), ())) = decide (a = (0, 0, ())) := by
  have h := eqR_iff tyFault (a.1, a.2.1, ()) ((0 : Int), (0 : Int), ()) rfl rfl
  obtain ⟨x, y, ⟨⟩⟩ := a
  cases hq : eqR tyFault (x, y, ()) ((0 : Int), (0 : Int), ()) with
  | true => exact (decide_eq_true (h.1 hq)).symm
  | false => exact (decide_eq_false (fun e => by rw [h.2 e] at hq; cases hq)).symm
theorem tokAt_map {L m : Nat} {l : List (TkS × Nat)} (h : ∀ p ∈ l, m ≤ p.2 ∧ p.2 ≤ L) : (l.map fun p => (p.1, p.2 - m)).map (tokAt (L - m)) = l.map (tokAt L) := by
  rw [List.map_map]
  refine List.map_congr_left fun p hp => ?_
  obtain ⟨h1, h2⟩ := h p hp
  simp only [Function.comp, tokAt]
  rw [show L - m - (p.2 - m) = L - p.2 by omega]
theorem LexBegins_pure (s : List UInt8) (n : Int) : law01_LexBegins s n = some true := by
  unfold law01_LexBegins
  rw [works_eq, Option.bind_some]
  simp only [Bool.not_true, Bool.false_eq_true, if_false, tokens_eq, Option.bind_some]
  rw [fault_iff (tokS s).2]
  by_cases hok : (tokS s).2 = (0, 0, ())
  · obtain ⟨h6, l, hl, hl8, hmap⟩ := tokS_ok hok
    rw [hmap]
    by_cases hz : l = []
    · subst hz; simp
    · have hpos : 0 < l.length := List.length_pos_iff.2 hz
      have hlen : ((l.map (tokAt s.length)).length : Int) = (l.length : Int) := by rw [List.length_map]
      have hne : ¬ (l.length : Int) = 0 := by omega
      simp only [hlen, hok, decide_true, Bool.not_true, hne, decide_false, Bool.or_self, Bool.false_eq_true, if_false]
      have hw : IntKind.wrap .u64 (l.length : Int) = (l.length : Int) := by
        simp only [IntKind.wrap, IntKind.bits, IntKind.signed]; simp; omega
      have hn0 : 0 ≤ IntKind.wrap .u64 n := by
        simp only [IntKind.wrap, IntKind.bits, IntKind.signed]; simp; omega
      rw [hw]
      obtain ⟨j, hj, hjl⟩ : ∃ j : Nat, w64 (Int.tmod (IntKind.wrap .u64 n) (l.length : Int)) = (j : Int) ∧ j < l.length := by
        refine ⟨(Int.tmod (IntKind.wrap .u64 n) (l.length : Int)).toNat, ?_, ?_⟩
        · rw [Int.tmod_eq_emod_of_nonneg hn0]
          have h1 := Int.emod_nonneg (IntKind.wrap .u64 n) hne
          have h2 := Int.emod_lt_of_pos (IntKind.wrap .u64 n) (show 0 < (l.length : Int) by omega)
          rw [w64_eq (by omega) (by omega)]; omega
        · rw [Int.tmod_eq_emod_of_nonneg hn0]
          have h1 := Int.emod_nonneg (IntKind.wrap .u64 n) hne
          have h2 := Int.emod_lt_of_pos (IntKind.wrap .u64 n) (show 0 < (l.length : Int) by omega)
          omega
      have hd := toksR_desc hl
      have hsl := skipF_le s false
      have hmem : l.getD j ((0, 0, []), 0) ∈ l := by
        rw [List.getD_eq_getElem?_getD, List.getElem?_eq_getElem hjl]; exact List.getElem_mem _
      obtain ⟨m1, m2⟩ := desc_all hd _ hmem
      have hget : ((l.map (tokAt s.length)).getD j dToken) = tokAt s.length (l.getD j ((0, 0, []), 0)) := by
        rw [List.getD_eq_getElem?_getD, List.getElem?_map, List.getD_eq_getElem?_getD, List.getElem?_eq_getElem hjl]; rfl
      generalize hmdef : (l.getD j ((0, 0, []), 0)) = pm at *
      have hat : (tokAt s.length pm).2.1 = ((s.length - pm.2 : Nat) : Int) := rfl
      rw [hj, G_pos hne, G_pos (show 0 ≤ (j : Int) ∧ (j : Int) < (l.length : Int) by omega), G_pos (fun _ => show 0 ≤ (j : Int) ∧ (j : Int) < (l.length : Int) by omega)]
      simp only [Int.toNat_natCast, hget, hat]
      have c1 : ¬ ((s.length - pm.2 : Nat) : Int) < 0 := by omega
      have c2 : ¬ (s.length : Int) < ((s.length - pm.2 : Nat) : Int) := by omega
      simp only [c1, c2, decide_false, Bool.or_self, Bool.false_eq_true, if_false]
      rw [G_pos (show 0 ≤ (j : Int) ∧ (j : Int) < (l.length : Int) by omega), G_pos (show 0 ≤ ((s.length - pm.2 : Nat) : Int) ∧ ((s.length - pm.2 : Nat) : Int) ≤ (s.length : Int) by omega)]
      -- the beginning's tokens
      have hpq : s.take (s.length - pm.2) ++ s.drop (s.length - pm.2) = s := List.take_append_drop _ _
      have hql : (s.drop (s.length - pm.2)).length = pm.2 := by rw [List.length_drop]; omega
      have hqne : s.drop (s.length - pm.2) ≠ [] := fun e => by rw [e] at hql; simp only [List.length_nil] at hql; omega
      have hsp := skip_pre (s.take (s.length - pm.2)) (s.drop (s.length - pm.2)) false hqne (by rw [hpq, hql]; exact m2)
      rw [hpq] at hsp
      obtain ⟨b1, b2⟩ := toks_begin j _ _ l hl hjl _ _ hsp (by rw [hql, hmdef])
      rw [hql] at b1 b2
      have htake : (s.take (s.length - pm.2)).length = s.length - pm.2 := by rw [List.length_take]; omega
      have hfin := tokS_of (s := s.take (s.length - pm.2)) (by omega) b1 (by simp only [List.length_map, List.length_take]; omega)
      rw [htake, tokAt_map (fun p hp => ⟨b2 p hp, by have := desc_all hd p (List.mem_of_mem_take hp); omega⟩)] at hfin
      rw [hfin]
      have hz0 : eqR tyFault ((0 : Int), (0 : Int), ()) ((0 : Int), (0 : Int), ()) = true := by kernel_rfl
      rw [hz0]
      simp only [if_true, Option.bind_some]
      rw [G_pos (fun _ => show 0 ≤ (j : Int) ∧ (j : Int) ≤ (l.length : Int) by omega), ← List.map_take, toksame_eq _ _ (by simp only [List.length_map, List.length_take]; omega)]
      simp
  · simp [hok]
end Go.Eng
