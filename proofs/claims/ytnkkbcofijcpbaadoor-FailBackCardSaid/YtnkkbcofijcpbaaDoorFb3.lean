/- A part of the proof: Fb3. -/
import Derived.Test.YtnkkbcofijcpbaaDoorFb2
import Derived.Test.YtnkkbcofijcpbaaDoorWk
namespace Go.Eng
set_option linter.unusedVariables false
set_option linter.unusedSimpArgs false
theorem take_two (s : List UInt8) (n m : Nat) : s.take (n + m) = s.take n ++ (s.drop n).take m := List.take_add
theorem txtS_take {r t : List UInt8} {m : Nat} (h : txtS r = some (t, m)) : r.take m = [32] ++ quoteT t := by
  unfold txtS at h
  split at h
  · rename_i h1
    obtain ⟨⟨t', j⟩, h2, h3⟩ := Option.map_eq_some_iff.1 h
    simp only [Option.some.injEq, Prod.mk.injEq] at h3
    obtain ⟨rfl, rfl⟩ := h3
    rw [take_two, h1]
    unfold qtS at h2
    split at h2
    · cases h2
    · split at h2
      · rename_i hq
        simp only [Option.some.injEq, Prod.mk.injEq] at h2
        obtain ⟨rfl, rfl⟩ := h2
        rw [quote_unq hq]
      · cases h2
  · cases h
theorem wrdS_take {r t : List UInt8} {m : Nat} (h : wrdS r = some (t, m)) : r.take m = [32] ++ t := by
  unfold wrdS at h
  split at h
  · rename_i h1
    simp only [Option.some.injEq, Prod.mk.injEq] at h
    obtain ⟨rfl, rfl⟩ := h
    rw [take_two, h1]
  · cases h
theorem print_leaf (k : Int) (t : List UInt8) (hk : ¬ k = 10) : printF (leafT k t) = wordK k ++ innerK (k, 0, t, ()) := by
  unfold leafT
  rw [printF]
  unfold crackX preK
  rw [if_neg (by simp), if_neg hk]
theorem print_one (k : Int) (t : List UInt8) (hk : ¬ k = 10) (y : TF) : printF (.node (k, 1, t, ()) [y]) = wordK k ++ innerK (k, 0, t, ()) ++ ([58, 32] ++ printF y) := by
  rw [printF]
  unfold crackX preK
  rw [if_pos ⟨hk, rfl⟩, if_neg hk, printFs]; rfl
theorem more_read {val : List UInt8 → Option (TF × Nat)} (hv : ∀ s x k, val s = some (x, k) → s.take k = printF x) {s t : List UInt8} {n m : Nat} {k : Int} (hk : ¬ k = 10) (hw : s.take n = wordK k)
    (ht : (s.drop n).take m = innerK (k, 0, t, ())) {x : TF} {a : Nat} (h : moreK val k n (s.drop n) (some (t, m)) = some (x, a)) : s.take a = printF x := by
  have leaf : ∀ {x a}, some (leafT k t, n + m) = some (x, a) → s.take a = printF x := by
    intro x a h
    simp only [Option.some.injEq, Prod.mk.injEq] at h
    obtain ⟨rfl, rfl⟩ := h
    rw [take_two, hw, ht, print_leaf k t hk]
  rw [moreK] at h
  split at h
  · split at h
    · rename_i h2
      cases hy : val ((s.drop n).drop (m + 2)) with
      | none => rw [hy] at h; cases h
      | some q =>
        obtain ⟨y, b⟩ := q
        rw [hy] at h
        simp only [oneF, Option.some.injEq, Prod.mk.injEq] at h
        obtain ⟨rfl, rfl⟩ := h
        rw [Nat.add_assoc, Nat.add_assoc, take_two, hw, take_two, ht, take_two, h2, List.drop_drop, hv _ _ _ hy, print_one k t hk]
        simp
    · split at h
      · exact leaf h
      · cases h
  · exact leaf h
theorem tail_read {val : List UInt8 → Option (TF × Nat)} (hv : ∀ s x k, val s = some (x, k) → s.take k = printF x) : ∀ (f : Nat) (l : List UInt8) (xs : List TF) (m : Nat), tailF val f l = some (xs, m) → l.take m = Lib.joinTail [59, 32] (printFs xs) ++ [41]
  | 0, l, xs, m, h => by cases h
  | f + 1, l, xs, m, h => by
    rw [tailF] at h
    split at h
    · rename_i h1
      split at h
      · cases h
      · rename_i y b hy
        obtain ⟨⟨ys, c⟩, h2, h3⟩ := Option.map_eq_some_iff.1 h
        simp only [Option.some.injEq, Prod.mk.injEq] at h3
        obtain ⟨rfl, rfl⟩ := h3
        have := tail_read hv f _ _ _ h2
        rw [take_two, this, take_two, h1, hv _ _ _ hy, printFs, joinTail_cons]
        simp
    · split at h
      · rename_i h1
        simp only [Option.some.injEq, Prod.mk.injEq] at h
        obtain ⟨rfl, rfl⟩ := h
        rw [h1, printFs]; rfl
      · cases h
theorem step_read {val : List UInt8 → Option (TF × Nat)} (hv : ∀ s x k, val s = some (x, k) → s.take k = printF x) (s : List UInt8) (x : TF) (a : Nat) (h : stepF val s = some (x, a)) : s.take a = printF x := by
  unfold stepF at h
  dsimp only at h
  by_cases h0 : kindS (s.take (wlen s)) = 0
  · rw [h0, if_neg (by decide), if_neg (by decide), if_neg (by decide), if_neg (by decide)] at h; cases h
  have hw := (kindS_word _ h0).1
  generalize kindS (s.take (wlen s)) = k at *
  generalize wlen s = n at *
  split at h
  · rename_i hk
    simp only [Option.some.injEq, Prod.mk.injEq] at h
    obtain ⟨rfl, rfl⟩ := h
    rw [hw, print_leaf k [] (by omega)]
    have : innerK (k, 0, [], ()) = [] := by unfold innerK; rw [if_neg (by dsimp only; omega), if_neg (by dsimp only; omega)]
    rw [this, List.append_nil]
  · split at h
    · rename_i hk
      subst hk
      unfold joinF at h
      split at h
      · rename_i h1
        split at h
        · cases h
        · rename_i y b hy
          cases ht : tailF val ((s.drop n).length + 1) ((s.drop n).drop (1 + b)) with
          | none => rw [ht] at h; cases h
          | some q =>
            obtain ⟨ys, m⟩ := q
            rw [ht] at h
            simp only [joinE, Option.some.injEq, Prod.mk.injEq] at h
            obtain ⟨rfl, rfl⟩ := h
            have e := tail_read hv _ _ _ _ ht
            rw [show n + 1 + b + m = n + (1 + b + m) by omega, take_two, hw, take_two, e, take_two, h1, hv _ _ _ hy, printF]
            unfold crackX
            rw [if_neg (fun e => e.1 rfl)]
            unfold preK
            rw [if_pos rfl, printFs, Lib.join_cons]; simp
      · cases h
    · split at h
      · rename_i hk
        cases ht : txtS (s.drop n) with
        | none => rw [ht] at h; cases h
        | some q =>
          obtain ⟨t, m⟩ := q
          rw [ht] at h
          exact more_read hv (by omega) hw (by rw [txtS_take ht]; unfold innerK; rw [if_pos hk]) h
      · split at h
        · rename_i h3 hk
          cases ht : wrdS (s.drop n) with
          | none => rw [ht] at h; cases h
          | some q =>
            obtain ⟨t, m⟩ := q
            rw [ht] at h
            exact more_read hv (by omega) hw (by rw [wrdS_take ht]; unfold innerK; rw [if_neg h3, if_pos hk]) h
        · cases h
theorem read_back : ∀ (d : Nat) (s : List UInt8) (x : TF) (k : Nat), failT d s = some (x, k) → s.take k = printF x
  | 0, s, x, k, h => by cases h
  | d + 1, s, x, k, h => step_read (read_back d) s x k h
mutual
theorem okT_both : ∀ (x : TF), okT arC (fun _ => true) x → wellT x → okT arC goodC x
  | .node c ts, h, hw => ⟨h.1, hw c (by rw [flat_node]; simp), okF_both ts h.2.2 fun c' hc => hw c' (by rw [flat_node]; simp [hc])⟩
theorem okF_both : ∀ (xs : List TF), okF arC (fun _ => true) xs → wellTs xs → okF arC goodC xs
  | [], _, _ => trivial
  | x :: xs, h, hw => ⟨okT_both x h.1 fun c hc => hw c (by simp [flats, hc]), okF_both xs h.2 fun c hc => hw c (by simp [flats, hc])⟩
end
mutual
theorem wellT_of : ∀ (x : TF), okT arC goodC x → wellT x
  | .node c ts, h => by
    intro c' hc
    rw [flat_node] at hc
    rcases List.mem_append.1 hc with hc | hc
    · exact wellF_of ts h.2.2 c' hc
    · rw [List.mem_singleton.1 hc]; exact h.2.1
theorem wellF_of : ∀ (xs : List TF), okF arC goodC xs → wellTs xs
  | [], _ => fun c hc => by cases hc
  | x :: xs, h => by
    intro c hc
    simp only [flats, List.mem_append] at hc
    rcases hc with hc | hc
    · exact wellT_of x h.1 c hc
    · exact wellF_of xs h.2 c hc
end
theorem back_one {t : TF} {f : List tCrack} (h : isF t f) (hl : (printF t).length ≤ 65536) : parseC (printF t) = (f, 0) := by
  have hd := tdeep_le t
  rw [h.2.1] at hd
  have := print_back t h.1 1025 (by have := h.2.2; omega) [] (.inl rfl)
  rw [List.append_nil] at this
  unfold parseC
  rw [if_neg (by omega), this]
  dsimp only
  rw [if_pos ⟨rfl, wellT_of t h.1, by rw [h.2.1]; exact h.2.2⟩, h.2.1]
theorem back_two (s : List UInt8) : (¬ (parseC s).2 = 0 ∧ (parseC s).1 = []) ∨ ((parseC s).2 = 0 ∧ printC (parseC s).1 = (s, 0)) := by
  unfold parseC
  split
  · exact .inl ⟨by simp, rfl⟩
  · split
    · rename_i x k hx
      split
      · rename_i hk
        right
        refine ⟨rfl, ?_⟩
        have hz := failT_size _ _ _ _ hx
        have := read_back _ _ _ _ hx
        rw [hk.1, List.take_length] at this
        rw [printC_of (t := x) ⟨okT_both x hz.2.2.2.2 hk.2.1, rfl, hk.2.2⟩, ← this]
      · exact .inl ⟨by simp, rfl⟩
    · exact .inl ⟨by simp, rfl⟩
theorem FailBack_pure (f : List tCrack) (s : List UInt8) (hf : f.length * 32 ≤ 140737488351232) : law03_FailBack f s = some true := by
  have hlast : runL st_law03_FailBack (some (.inl (.l8 s))) = some true := by
    have : iter st_law03_FailBack (.l8 s) = some true := by
      rw [iter_eq']
      simp only [st_law03_FailBack]
      unfold sg_law03_FailBack_8
      rw [cParse_eq, Option.bind_some]
      rcases back_two s with ⟨h1, h2⟩ | ⟨h1, h2⟩
      · rw [if_pos (by simpa using h1), h2]; rfl
      · rw [if_neg (by simpa using h1), Print_eq, Option.bind_some, h2]; simp; rfl
    exact this
  unfold law03_FailBack en_law03_FailBack
  rw [works_eq, Option.bind_some, if_neg (by decide), Print_eq, Option.bind_some]
  split
  · rename_i h
    simp only [Bool.and_eq_true, decide_eq_true_eq] at h
    have hc : checkS f = 0 := by
      by_cases h0 : checkS f = 0
      · exact h0
      · have := h.1; rw [printC_no h0] at this; exact absurd this h0
    obtain ⟨t, ht⟩ := check_ex hc
    rw [printC_of ht] at h ⊢
    dsimp only at h ⊢
    rw [cParse_eq, Option.bind_some, back_one ht (by omega)]
    simp only [decide_true, Bool.not_true, Bool.not_false, if_true]
    rw [same_eq f f (by omega)]
    simp only [decide_true, Option.bind_some, Bool.not_true, Bool.or_self, Bool.false_eq_true, if_false]
    exact hlast
  · exact hlast
end Go.Eng
