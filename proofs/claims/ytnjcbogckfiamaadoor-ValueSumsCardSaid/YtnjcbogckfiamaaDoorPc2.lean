/- A part of the proof: Pc2. -/
import Derived.Test.YtnjcbogckfiamaaDoorPv7
import Derived.Test.YtnjcbogckfiamaaDoorPc1
namespace Go.Eng
set_option linter.unusedVariables false
set_option linter.unusedSimpArgs false

/-- Arithmetic, joining, a part: of two wholes. -/
noncomputable def arO (k : Int) (t u : Tr tAtom) : List tAtom × Bool := if t.a.1 = 1 ∧ u.a.1 = 1 then arV2 k t.a.2.2.1 u.a.2.2.1 else ([], false)
noncomputable def joO (t u : Tr tAtom) : List tAtom × Bool := if t.a.1 ≠ u.a.1 ∨ t.a.1 = 1 then ([], false) else if t.a.1 = 2 then (if 4096 < t.a.2.2.2.1.length + u.a.2.2.2.1.length then ([], false) else ([(2, 0, 0, t.a.2.2.2.1 ++ u.a.2.2.2.1, ())], true)) else madeV (t.ts.map flat ++ u.ts.map flat)
noncomputable def itO (t u : Tr tAtom) : List tAtom × Bool := if t.a.1 ≠ 3 ∨ u.a.1 ≠ 1 ∨ u.a.2.2.1 < 0 ∨ t.a.2.1 ≤ u.a.2.2.1 then ([], false) else ((t.ts.map flat).getD u.a.2.2.1.toNat [], true)
theorem if_some {α : Type} {c : Prop} [Decidable c] {x : Option α} {p : α} {q : α} (hx : c → x = some p) : (if c then x else some q) = some (if c then p else q) := by
  by_cases h : c
  · rw [if_pos h, if_pos h]; exact hx h
  · rw [if_neg h, if_neg h]
section
variable {t u : Tr tAtom} {a b : List tAtom}
theorem add_v (ha : isV t a) (hb : isV u b) : value_args_add [a, b] = some (arO 6 t u) := by
  rw [ar_pre ha hb (fun x y => some (numV (w64 (x + y)))) (value_args_add [a, b]) (by unfold value_args_add; simp only [g20, g21, len2, num_eq, Option.bind_some])]
  unfold arO
  exact if_some (fun _ => by simp only [arV2, if_true])
theorem sub_v (ha : isV t a) (hb : isV u b) : value_args_sub [a, b] = some (arO 7 t u) := by
  rw [ar_pre ha hb (fun x y => some (numV (w64 (x - y)))) (value_args_sub [a, b]) (by unfold value_args_sub; simp only [g20, g21, len2, num_eq, Option.bind_some])]
  unfold arO
  exact if_some (fun _ => by simp only [arV2, Int.reduceEq, if_false, if_true])
theorem mul_v (ha : isV t a) (hb : isV u b) : value_args_mul [a, b] = some (arO 8 t u) := by
  have w1 := wellA_kind (okT_well ha.2.1)
  have w2 := wellA_kind (okT_well hb.2.1)
  rw [ar_pre ha hb (fun x y =>
    (if (!decide (x = (0 : Int))) = true then value_size y else some (0 : Int)).bind fun t25 =>
    (if (!decide (x = (0 : Int))) = true then value_size x else some (0 : Int)).bind fun t27 =>
    G ((!decide (x = (0 : Int))) = true → (t27 ≠ 0)) <|
    if ((!decide (x = (0 : Int))) && (decide ((w64 (Int.tdiv (9007199254740992 : Int) t27)) < t25))) = true then some (([] : List tAtom), false) else some (numV (w64 (x * y)))) (value_args_mul [a, b]) (by unfold value_args_mul; simp only [g20, g21, len2, num_eq, Option.bind_some]; rfl)]
  unfold arO
  refine if_some (fun hc => ?_)
  obtain ⟨h1, h2⟩ := hc
  have x1 : -9007199254740992 ≤ t.a.2.2.1 ∧ t.a.2.2.1 ≤ 9007199254740992 := by rcases w1 with w | w | w <;> omega
  have y1 : -9007199254740992 ≤ u.a.2.2.1 ∧ u.a.2.2.1 ≤ 9007199254740992 := by rcases w2 with w | w | w <;> omega
  generalize t.a.2.2.1 = x at x1 ⊢
  generalize u.a.2.2.1 = y at y1 ⊢
  simp only [arV2, Int.reduceEq, if_false, value_size]
  by_cases hx : x = 0
  · subst hx
    simp only [decide_true, Bool.not_true, Bool.false_and, Bool.false_eq_true, if_false, Option.bind_some, Int.natAbs_zero, Nat.zero_mul]
    rw [G_pos (fun e => by cases e), if_neg (by omega)]
  · simp only [hx, decide_false, Bool.not_false, if_true, Option.bind_some, Bool.true_and, decide_eq_true_eq, mx_abs x1.1 x1.2, mx_abs y1.1 y1.2]
    have ex : ¬ (if x < 0 then w64 (0 - x) else x) = 0 := by rw [abs_eq x1.1 x1.2]; omega
    rw [G_pos (fun _ => ex)]
    by_cases hy : y = 0
    · subst hy
      have hd : ¬ w64 (Int.tdiv 9007199254740992 (if x < 0 then w64 (0 - x) else x)) < 0 := by
        rw [abs_eq x1.1 x1.2]
        have e1 : Int.tdiv 9007199254740992 (x.natAbs : Int) = ((9007199254740992 / x.natAbs : Nat) : Int) := rfl
        have hle : 9007199254740992 / x.natAbs ≤ 9007199254740992 := Nat.div_le_self _ _
        rw [e1]
        generalize 9007199254740992 / x.natAbs = q at hle
        rw [w64_eq (by omega) (by omega)]; omega
      have h0 : (if (0 : Int) < 0 then w64 (0 - 0) else (0 : Int)) = 0 := rfl
      rw [h0, if_neg hd, Int.natAbs_zero, Nat.mul_zero, if_neg (by omega)]
    · have hm := mulle hx hy x1.1 x1.2 y1.1 y1.2
      by_cases hbig : 9007199254740992 < x.natAbs * y.natAbs
      · rw [if_pos hbig, if_pos (hm.2 hbig)]
      · rw [if_neg hbig, if_neg (fun e => hbig (hm.1 e))]
theorem join_v (ha : isV t a) (hb : isV u b) : value_args_join [a, b] = some (joO t u) := by
  have w1 := wellA_kind (okT_well ha.2.1)
  have w2 := wellA_kind (okT_well hb.2.1)
  obtain ⟨m1, m2⟩ := members_len ha
  obtain ⟨m3, m4⟩ := members_len hb
  have hmade : value_made (t.ts.map flat ++ u.ts.map flat) = some (madeV (t.ts.map flat ++ u.ts.map flat)) := vmade_eq _ (by rw [List.length_append]; omega) (fun y hy => by
    rcases List.mem_append.1 hy with hy | hy
    · have := m2 y hy; omega
    · have := m4 y hy; omega)
  unfold value_args_join joO
  simp only [vtop_eq ha, vtop_eq hb, vmembers_eq ha, vmembers_eq hb, hmade, Option.bind_some, g20, g21, len2]
  simp only [G_pos (show (0 : Int) ≤ 0 ∧ (0 : Int) < 2 by decide), G_pos (show (0 : Int) ≤ 1 ∧ (1 : Int) < 2 by decide), G_pos (show ((t.ts.map flat).length + (u.ts.map flat).length) * 24 ≤ 140737488355328 by omega)]
  rcases w1 with ⟨k1, _⟩ | ⟨k1, _, _, l1⟩ | ⟨k1, _⟩ <;> rcases w2 with ⟨k2, _⟩ | ⟨k2, _, _, l2⟩ | ⟨k2, _⟩
  all_goals simp only [k1, k2, ne_eq, not_true, not_false_eq_true, or_self, or_true, true_or, false_or, or_false, Int.reduceEq, decide_false, decide_true, Bool.false_eq_true, if_false, if_true, Bool.not_true, Bool.not_false, Bool.or_self, Bool.or_true, Bool.true_or, Bool.and_self, Bool.and_false, Bool.false_and, Bool.and_true]
  rw [G_pos (by omega), w64_eq (by omega) (by omega)]
  by_cases hbig : 4096 < t.a.2.2.2.1.length + u.a.2.2.2.1.length
  · rw [if_pos hbig, if_pos (by simp only [decide_eq_true_eq]; omega)]
  · rw [if_neg hbig, if_neg (by simp only [decide_eq_true_eq]; omega)]
theorem item_v (ha : isV t a) (hb : isV u b) : value_args_item [a, b] = some (itO t u) := by
  have w1 := wellA_kind (okT_well ha.2.1)
  have w2 := wellA_kind (okT_well hb.2.1)
  have hN := isV_ar ha
  obtain ⟨m1, m2⟩ := members_len ha
  unfold value_args_item itO
  simp only [vtop_eq ha, vtop_eq hb, vmembers_eq ha, Option.bind_some, g20, g21, len2]
  simp only [G_pos (show (0 : Int) ≤ 0 ∧ (0 : Int) < 2 by decide), G_pos (show (0 : Int) ≤ 1 ∧ (1 : Int) < 2 by decide)]
  by_cases hc : t.a.1 ≠ 3 ∨ u.a.1 ≠ 1 ∨ u.a.2.2.1 < 0 ∨ t.a.2.1 ≤ u.a.2.2.1
  · rw [if_pos hc, if_pos (by simpa [or_assoc] using hc)]
  · rw [if_neg hc, if_neg (by simpa [or_assoc, and_assoc] using hc)]
    simp only [not_or, Decidable.not_not] at hc
    obtain ⟨_, _, h3, h4⟩ := hc
    have hG : 0 ≤ u.a.2.2.1 ∧ u.a.2.2.1 < ((t.ts.map flat).length : Int) := by rw [List.length_map]; omega
    have hmem : (t.ts.map flat).getD u.a.2.2.1.toNat ([] : List tAtom) ∈ t.ts.map flat := by
      rw [List.getD_eq_getElem?_getD, List.getElem?_eq_getElem (by omega)]
      exact List.getElem_mem _
    have hl := m2 _ hmem
    rw [G_pos hG, vclone_eq _ (by omega)]; rfl
/-- How many parts. -/
def sizeV (t : Tr tAtom) : Int := if t.a.1 = 2 then (t.a.2.2.2.1.length : Int) else t.a.2.1
theorem size_v (ha : isV t a) : value_args_size [a] = some (if t.a.1 = 1 then ([], false) else ([(1, 0, sizeV t, [], ())], true)) := by
  have w1 := wellA_kind (okT_well ha.2.1)
  have hN := isV_ar ha
  have hts := isV_ts_len ha
  have l1 : (([a] : List (List tAtom)).length : Int) = 1 := rfl
  have g1 : (([a] : List (List tAtom)).getD (0 : Int).toNat ([] : List tAtom)) = a := rfl
  unfold value_args_size sizeV
  simp only [vtop_eq ha, Option.bind_some, g1, l1, num_eq]
  simp only [G_pos (show (0 : Int) ≤ 0 ∧ (0 : Int) < 1 by decide)]
  rcases w1 with ⟨k1, _⟩ | ⟨k1, n1, _, x1⟩ | ⟨k1, n1, _, x1⟩
  · simp only [k1, Int.reduceEq, decide_false, decide_true, Bool.false_eq_true, if_false, if_true]
  · simp only [k1, Int.reduceEq, decide_false, decide_true, Bool.false_eq_true, if_false, if_true, numV]
    rw [if_neg (by omega)]
  · simp only [k1, Int.reduceEq, decide_false, decide_true, Bool.false_eq_true, if_false, if_true, numV]
    rw [if_neg (by omega)]
end
end Go.Eng
