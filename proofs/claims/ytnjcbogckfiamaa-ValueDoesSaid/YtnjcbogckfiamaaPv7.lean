/- A part of the proof: Pv7. -/
import Derived.Test.YtnjcbogckfiamaaPv6
namespace Go.Eng
set_option linter.unusedVariables false
set_option linter.unusedSimpArgs false

theorem fnIs_fnv (f g : FuncId) : fnIs (fnv f) g = Nat.beq f g := by simp [fnIs, fnv]
def agree (x y : Option (List tAtom × Bool)) : Prop := ∃ p q, x = some p ∧ y = some q ∧ p.2 = q.2 ∧ (p.2 = true → p.1 = q.1) ∧ p.1.length ≤ 1024
theorem agree_same {x y : Option (List tAtom × Bool)} {p : List tAtom × Bool} (hx : x = some p) (hy : y = some p) (hl : p.1.length ≤ 1024) : agree x y := ⟨p, p, hx, hy, rfl, fun _ => rfl, hl⟩

def numV (n : Int) : List tAtom × Bool := if n < -9007199254740992 ∨ 9007199254740992 < n then ([], false) else ([(1, 0, n, [], ())], true)
theorem num_eq (n : Int) : value_number n = some (numV n) := by
  unfold value_number value_Int numV
  by_cases h : n < -9007199254740992 ∨ 9007199254740992 < n
  · rw [if_pos h, if_pos (by simpa using h)]; rfl
  · rw [if_neg h, if_neg (by simpa using h)]; rfl
theorem rnum_eq (n : Int) : ref07_number n = some (numV n) := num_eq n
theorem numV_len (n : Int) : (numV n).1.length ≤ 1024 := by unfold numV; split <;> simp

theorem isV_one {t : Tr tAtom} {v : List tAtom} (h : isV t v) (hk : t.a.1 = 1 ∨ t.a.1 = 2) : v = [t.a] ∧ t.ts = [] := by
  have hw := wellA_kind (okT_well h.2.1)
  have ha := isV_ar h
  have hz : t.ts.length = 0 := by rcases hw with w | w | w <;> rcases hk with k | k <;> omega
  have hz2 : t.ts = [] := List.length_eq_zero_iff.1 hz
  obtain ⟨h1, _⟩ := isV_top h
  rw [hz2] at h1
  exact ⟨by simpa [flats] using h1, hz2⟩
theorem isV_kind {t : Tr tAtom} {v : List tAtom} (h : isV t v) : t.a.1 = 1 ∨ t.a.1 = 2 ∨ t.a.1 = 3 := by
  rcases wellA_kind (okT_well h.2.1) with w | w | w
  · exact .inl w.1
  · exact .inr (.inl w.1)
  · exact .inr (.inr w.1)

theorem ints1_eq {t : Tr tAtom} {v : List tAtom} (h : isV t v) : value_args_ints_1 v = some (!decide (t.a.1 = 1)) := by
  unfold value_args_ints_1
  rw [vtop_eq h]; rfl
theorem index_two (dyn : Value → List tAtom → Option Bool) (c : Value) (a b : List tAtom) (p q : Bool) (h1 : dyn c a = some p) (h2 : dyn c b = some q) : slices_IndexFunc dyn [a, b] c = some (if p = true then 0 else if q = true then 1 else -1) := by
  unfold slices_IndexFunc en_slices_IndexFunc
  show iter _ _ = _
  rw [iter_eq']
  have e0 : (0 : Int) < (([a, b] : List (List tAtom)).length : Int) := by simp
  have e1 : w64 ((0 : Int) + 1) = 1 := rfl
  have e3 : w64 ((1 : Int) + 1) = 2 := rfl
  have e2 : (1 : Int) < (([a, b] : List (List tAtom)).length : Int) := by simp
  have e4 : ¬ (2 : Int) < (([a, b] : List (List tAtom)).length : Int) := by simp
  have g0 : (([a, b] : List (List tAtom)).getD (0 : Int).toNat ([] : List tAtom)) = a := rfl
  have g1 : (([a, b] : List (List tAtom)).getD (1 : Int).toNat ([] : List tAtom)) = b := rfl
  simp only [st_slices_IndexFunc, sg_slices_IndexFunc_2, decide_eq_true_eq, if_pos e0, g0, h1, Option.bind_some, e1]
  rw [G_pos (by simp)]
  cases p with
  | true => rfl
  | false =>
    simp only [Bool.false_eq_true, if_false]
    show iter _ _ = _
    rw [iter_eq']
    simp only [st_slices_IndexFunc, sg_slices_IndexFunc_2, decide_eq_true_eq, if_pos e2, g1, h2, Option.bind_some, e3]
    rw [G_pos (by simp)]
    cases q with
    | true => rfl
    | false =>
      simp only [Bool.false_eq_true, if_false]
      show iter _ _ = _
      rw [iter_eq']
      simp only [st_slices_IndexFunc, sg_slices_IndexFunc_2, decide_eq_true_eq, if_neg e4]; rfl
theorem ints_eq {t u : Tr tAtom} {a b : List tAtom} (ha : isV t a) (hb : isV u b) : value_args_ints [a, b] = some (decide (t.a.1 = 1) && decide (u.a.1 = 1)) := by
  unfold value_args_ints en_value_args_ints slices_ContainsFunc en_slices_ContainsFunc
  rw [index_two _ _ a b (!decide (t.a.1 = 1)) (!decide (u.a.1 = 1)) (by simp only [fnIs_self, if_true]; exact ints1_eq ha) (by simp only [fnIs_self, if_true]; exact ints1_eq hb)]
  cases decide (t.a.1 = 1) <;> cases decide (u.a.1 = 1) <;> rfl

section
variable {t u : Tr tAtom} {a b : List tAtom}
theorem len2 (a b : List tAtom) : (([a, b] : List (List tAtom)).length : Int) = 2 := rfl
theorem g20 (a b : List tAtom) : (([a, b] : List (List tAtom)).getD (0 : Int).toNat ([] : List tAtom)) = a := rfl
theorem g21 (a b : List tAtom) : (([a, b] : List (List tAtom)).getD (1 : Int).toNat ([] : List tAtom)) = b := rfl
theorem mulle {x y : Int} (hx : x ≠ 0) (hy : y ≠ 0) (hx1 : -9007199254740992 ≤ x) (hx2 : x ≤ 9007199254740992) (hy1 : -9007199254740992 ≤ y) (hy2 : y ≤ 9007199254740992) :
    (w64 (Int.tdiv 9007199254740992 (if x < 0 then w64 (0 - x) else x)) < (if y < 0 then w64 (0 - y) else y)) ↔ (9007199254740992 < x.natAbs * y.natAbs) := by
  have ex : (if x < 0 then w64 (0 - x) else x) = (x.natAbs : Int) := by
    split
    · rw [w64_eq (by omega) (by omega)]; omega
    · omega
  have ey : (if y < 0 then w64 (0 - y) else y) = (y.natAbs : Int) := by
    split
    · rw [w64_eq (by omega) (by omega)]; omega
    · omega
  rw [ex, ey]
  have e1 : Int.tdiv 9007199254740992 (x.natAbs : Int) = ((9007199254740992 / x.natAbs : Nat) : Int) := rfl
  have hle : 9007199254740992 / x.natAbs ≤ 9007199254740992 := Nat.div_le_self _ _
  rw [e1]
  generalize hq : 9007199254740992 / x.natAbs = q at hle
  rw [w64_eq (by omega) (by omega), Int.ofNat_lt, ← hq, Nat.div_lt_iff_lt_mul (by omega), Nat.mul_comm]
theorem mx_abs {x : Int} (h1 : -9007199254740992 ≤ x) (h2 : x ≤ 9007199254740992) : mxI x (w64 (0 - x)) = (if x < 0 then w64 (0 - x) else x) := by
  rw [w64_eq (by omega) (by omega)]
  unfold mxI
  split <;> split <;> omega

/-- What the reference does to two numbers. -/
noncomputable def arV2 (k x y : Int) : List tAtom × Bool := if k = 6 then numV (w64 (x + y)) else if k = 7 then numV (w64 (x - y)) else if 9007199254740992 < x.natAbs * y.natAbs then ([], false) else numV (w64 (x * y))
theorem rsize_eq (x : Int) : ref07_size x = some (if x < 0 then w64 (0 - x) else x) := by
  unfold ref07_size
  simp only [decide_eq_true_eq]
  split <;> rfl
theorem abs_eq {x : Int} (h1 : -9007199254740992 ≤ x) (h2 : x ≤ 9007199254740992) : (if x < 0 then w64 (0 - x) else x) = (x.natAbs : Int) := by
  split
  · rw [w64_eq (by omega) (by omega)]; omega
  · omega
theorem r28 (ha : isV t a) (hb : isV u b) (k : Int) : iter st_ref07_do (.l28 k t.a.1 t.a.2.1 t.a.2.2.1 t.a.2.2.2.1 u.a.1 u.a.2.1 u.a.2.2.1 u.a.2.2.2.1) = some (if t.a.1 = 1 ∧ u.a.1 = 1 then arV2 k t.a.2.2.1 u.a.2.2.1 else ([], false)) := by
  rw [iter_eq']
  simp only [st_ref07_do, sg_ref07_do_28]
  by_cases h : t.a.1 = 1 ∧ u.a.1 = 1
  · obtain ⟨h1, h2⟩ := h
    have w1 := wellA_kind (okT_well ha.2.1)
    have w2 := wellA_kind (okT_well hb.2.1)
    have x1 : -9007199254740992 ≤ t.a.2.2.1 ∧ t.a.2.2.1 ≤ 9007199254740992 := by rcases w1 with w | w | w <;> omega
    have y1 : -9007199254740992 ≤ u.a.2.2.1 ∧ u.a.2.2.1 ≤ 9007199254740992 := by rcases w2 with w | w | w <;> omega
    generalize t.a.2.2.1 = x at x1 ⊢
    generalize u.a.2.2.1 = y at y1 ⊢
    simp only [h1, h2, decide_true, Bool.not_true, Bool.or_self, Bool.false_eq_true, if_false, and_self, if_true, decide_eq_true_eq, rnum_eq, Option.bind_some, arV2, rsize_eq]
    by_cases k6 : k = 6
    · rw [if_pos k6, if_pos k6]; rfl
    · rw [if_neg k6, if_neg k6]
      by_cases k7 : k = 7
      · rw [if_pos k7, if_pos k7]; rfl
      · rw [if_neg k7, if_neg k7]
        by_cases hx : x = 0
        · subst hx
          simp only [decide_true, Bool.not_true, Bool.false_and, Bool.false_eq_true, if_false, Option.bind_some, Int.natAbs_zero, Nat.zero_mul]
          rw [G_pos (fun e => by cases e), if_neg (by omega)]; rfl
        · by_cases hy : y = 0
          · subst hy
            simp only [decide_true, Bool.not_true, Bool.and_false, Bool.false_and, Bool.false_eq_true, if_false, Option.bind_some, Int.natAbs_zero, Nat.mul_zero]
            rw [G_pos (fun e => by cases e), if_neg (by omega)]; rfl
          · have ey : ¬ (if y < 0 then w64 (0 - y) else y) = 0 := by rw [abs_eq y1.1 y1.2]; omega
            have hm := mulle (x := y) (y := x) hy hx y1.1 y1.2 x1.1 x1.2
            simp only [hx, hy, decide_false, Bool.not_false, Bool.and_self, if_true, Option.bind_some, Bool.true_and, decide_eq_true_eq]
            rw [G_pos (fun _ => ey)]
            by_cases hbig : 9007199254740992 < x.natAbs * y.natAbs
            · rw [if_pos hbig, if_pos (hm.2 (by rw [Nat.mul_comm]; exact hbig))]; rfl
            · rw [if_neg hbig, if_neg (fun e => hbig (by rw [Nat.mul_comm]; exact hm.1 e))]; rfl
  · have : (!decide (t.a.1 = 1) || !decide (u.a.1 = 1)) = true := by
      by_cases h1 : t.a.1 = 1
      · have h2 : ¬ u.a.1 = 1 := fun e => h ⟨h1, e⟩
        simp [h2]
      · simp [h1]
    rw [if_pos this, if_neg h]; rfl
theorem arV2_len (k x y : Int) : (arV2 k x y).1.length ≤ 1024 := by
  unfold arV2
  split
  · exact numV_len _
  · split
    · exact numV_len _
    · split
      · simp
      · exact numV_len _
theorem rdo_ar (ha : isV t a) (hb : isV u b) {k : Int} (hk : k = 6 ∨ k = 7 ∨ k = 8) : ref07_do k [a, b] = some (if t.a.1 = 1 ∧ u.a.1 = 1 then arV2 k t.a.2.2.1 u.a.2.2.1 else ([], false)) := by
  unfold ref07_do en_ref07_do
  have n5 : ¬ k = 5 := by omega
  have n11 : ¬ k = 11 := by omega
  have n12 : ¬ k = 12 := by omega
  have n13 : ¬ k = 13 := by omega
  have n10 : ¬ k = 10 := by omega
  have n9 : ¬ k = 9 := by omega
  simp only [rwhole_eq ha, rwhole_eq hb, Option.bind_some, g20, g21, len2, n5, n11, n12, n13, n10, n9, decide_false, Bool.false_eq_true, if_false]
  rw [G_pos (by decide), G_pos (by decide)]
  exact r28 ha hb k
theorem ar_pre (ha : isV t a) (hb : isV u b) (f : Int → Int → Option (List tAtom × Bool)) (v : Option (List tAtom × Bool)) (hv : v = (value_args_ints [a, b]).bind fun t5 => if (!t5) = true then some (([] : List tAtom), false) else
      G (0 ≤ (0 : Int) ∧ (0 : Int) < 2) <| G (0 ≤ (0 : Int) ∧ (0 : Int) < (a.length : Int)) <| G (0 ≤ (1 : Int) ∧ (1 : Int) < 2) <| G (0 ≤ (0 : Int) ∧ (0 : Int) < (b.length : Int)) <| f (a.getD (0 : Int).toNat dAtom).2.2.1 (b.getD (0 : Int).toNat dAtom).2.2.1) :
    v = if t.a.1 = 1 ∧ u.a.1 = 1 then f t.a.2.2.1 u.a.2.2.1 else some ([], false) := by
  rw [hv, ints_eq ha hb]
  by_cases h1 : t.a.1 = 1
  · by_cases h2 : u.a.1 = 1
    · obtain ⟨e1, _⟩ := isV_one ha (.inl h1)
      obtain ⟨e2, _⟩ := isV_one hb (.inl h2)
      have ga : a.getD (0 : Int).toNat dAtom = t.a := by rw [e1]; rfl
      have gb : b.getD (0 : Int).toNat dAtom = u.a := by rw [e2]; rfl
      have la : (a.length : Int) = 1 := by rw [e1]; rfl
      have lb : (b.length : Int) = 1 := by rw [e2]; rfl
      simp only [h1, h2, decide_true, Bool.and_self, Bool.not_true, Bool.false_eq_true, if_false, ga, gb, la, lb, Option.bind_some, and_self, if_true]
      rw [G_pos (by decide), G_pos (by decide), G_pos (by decide), G_pos (by decide)]
    · simp only [h1, h2, decide_true, decide_false, Bool.and_false, Bool.not_false, if_true, and_false, if_false, Option.bind_some]
  · simp only [h1, decide_false, Bool.false_and, Bool.not_false, if_true, false_and, if_false, Option.bind_some]
theorem agree_if {c : Prop} [Decidable c] {x : Option (List tAtom × Bool)} {p : List tAtom × Bool} (hx : c → x = some p) (hl : p.1.length ≤ 1024) : agree (if c then x else some ([], false)) (some (if c then p else ([], false))) := by
  by_cases h : c
  · rw [if_pos h, if_pos h]; exact agree_same (hx h) rfl hl
  · rw [if_neg h, if_neg h]; exact agree_same rfl rfl (by simp)
theorem add_agree (ha : isV t a) (hb : isV u b) : agree (value_args_add [a, b]) (ref07_do 6 [a, b]) := by
  rw [rdo_ar ha hb (.inl rfl), ar_pre ha hb (fun x y => some (numV (w64 (x + y)))) (value_args_add [a, b]) (by unfold value_args_add; simp only [g20, g21, len2, num_eq, Option.bind_some])]
  exact agree_if (fun _ => by simp only [arV2, if_true]) (arV2_len _ _ _)
theorem sub_agree (ha : isV t a) (hb : isV u b) : agree (value_args_sub [a, b]) (ref07_do 7 [a, b]) := by
  rw [rdo_ar ha hb (.inr (.inl rfl)), ar_pre ha hb (fun x y => some (numV (w64 (x - y)))) (value_args_sub [a, b]) (by unfold value_args_sub; simp only [g20, g21, len2, num_eq, Option.bind_some])]
  exact agree_if (fun _ => by simp only [arV2, Int.reduceEq, if_false, if_true]) (arV2_len _ _ _)
theorem mul_agree (ha : isV t a) (hb : isV u b) : agree (value_args_mul [a, b]) (ref07_do 8 [a, b]) := by
  have w1 := wellA_kind (okT_well ha.2.1)
  have w2 := wellA_kind (okT_well hb.2.1)
  rw [rdo_ar ha hb (.inr (.inr rfl)), ar_pre ha hb (fun x y =>
    (if (!decide (x = (0 : Int))) = true then value_size y else some (0 : Int)).bind fun t25 =>
    (if (!decide (x = (0 : Int))) = true then value_size x else some (0 : Int)).bind fun t27 =>
    G ((!decide (x = (0 : Int))) = true → (t27 ≠ 0)) <|
    if ((!decide (x = (0 : Int))) && (decide ((w64 (Int.tdiv (9007199254740992 : Int) t27)) < t25))) = true then some (([] : List tAtom), false) else some (numV (w64 (x * y)))) (value_args_mul [a, b]) (by unfold value_args_mul; simp only [g20, g21, len2, num_eq, Option.bind_some]; rfl)]
  refine agree_if (fun hc => ?_) (arV2_len _ _ _)
  obtain ⟨h1, h2⟩ := hc
  have x1 : -9007199254740992 ≤ t.a.2.2.1 ∧ t.a.2.2.1 ≤ 9007199254740992 := by rcases w1 with w | w | w <;> omega
  have y1 : -9007199254740992 ≤ u.a.2.2.1 ∧ u.a.2.2.1 ≤ 9007199254740992 := by rcases w2 with w | w | w <;> omega
  generalize t.a.2.2.1 = x at x1 ⊢
  generalize u.a.2.2.1 = y at y1 ⊢
  simp only [arV2, Int.reduceEq, if_false, value_size]
  by_cases hx : x = 0
  · subst hx
    simp only [decide_true, Bool.not_true, Bool.false_and, Bool.false_eq_true, if_false, Option.bind_some, Int.natAbs_zero, Nat.zero_mul]
    rw [G_pos (fun e => by cases e), if_neg (by omega)]
  · simp only [hx, decide_false, Bool.not_false, if_true, Option.bind_some, Bool.true_and, decide_eq_true_eq, mx_abs x1.1 x1.2, mx_abs y1.1 y1.2]
    have ex : ¬ (if x < 0 then w64 (0 - x) else x) = 0 := by rw [abs_eq x1.1 x1.2]; omega
    rw [G_pos (fun _ => ex)]
    by_cases hy : y = 0
    · subst hy
      have hd : ¬ w64 (Int.tdiv 9007199254740992 (if x < 0 then w64 (0 - x) else x)) < 0 := by
        rw [abs_eq x1.1 x1.2]
        have e1 : Int.tdiv 9007199254740992 (x.natAbs : Int) = ((9007199254740992 / x.natAbs : Nat) : Int) := rfl
        have hle : 9007199254740992 / x.natAbs ≤ 9007199254740992 := Nat.div_le_self _ _
        rw [e1]
        generalize 9007199254740992 / x.natAbs = q at hle
        rw [w64_eq (by omega) (by omega)]; omega
      have h0 : (if (0 : Int) < 0 then w64 (0 - 0) else (0 : Int)) = 0 := rfl
      rw [h0, if_neg hd, Int.natAbs_zero, Nat.mul_zero, if_neg (by omega)]
    · have hm := mulle hx hy x1.1 x1.2 y1.1 y1.2
      by_cases hbig : 9007199254740992 < x.natAbs * y.natAbs
      · rw [if_pos hbig, if_pos (hm.2 hbig)]
      · rw [if_neg hbig, if_neg (fun e => hbig (hm.1 e))]

/-! texts and lists -/
theorem members_len {t : Tr tAtom} {v : List tAtom} (h : isV t v) : (t.ts.map flat).length ≤ 1024 ∧ ∀ y ∈ t.ts.map flat, y.length ≤ 1024 := by
  refine ⟨by rw [List.length_map]; exact isV_ts_len h, fun y hy => ?_⟩
  obtain ⟨x, hx, rfl⟩ := List.mem_map.1 hy
  exact (isV_child h hx).1
theorem join_agree (ha : isV t a) (hb : isV u b) : agree (value_args_join [a, b]) (ref07_do 9 [a, b]) := by
  have w1 := wellA_kind (okT_well ha.2.1)
  have w2 := wellA_kind (okT_well hb.2.1)
  obtain ⟨m1, m2⟩ := members_len ha
  obtain ⟨m3, m4⟩ := members_len hb
  have hmade : value_made (t.ts.map flat ++ u.ts.map flat) = some (madeV (t.ts.map flat ++ u.ts.map flat)) := vmade_eq _ (by rw [List.length_append]; omega) (fun y hy => by
    rcases List.mem_append.1 hy with hy | hy
    · have := m2 y hy; omega
    · have := m4 y hy; omega)
  have hrmade : ref07_made (t.ts.map flat ++ u.ts.map flat) = some (madeV (t.ts.map flat ++ u.ts.map flat)) := rmade_eq _ (by rw [List.length_append]; omega) (fun y hy => by
    rcases List.mem_append.1 hy with hy | hy
    · have := m2 y hy; omega
    · have := m4 y hy; omega)
  unfold value_args_join ref07_do en_ref07_do
  simp only [vtop_eq ha, vtop_eq hb, rwhole_eq ha, rwhole_eq hb, vmembers_eq ha, vmembers_eq hb, rmembers_eq ha, rmembers_eq hb, hmade, hrmade, Option.bind_some, g20, g21, len2, Int.reduceEq, decide_false, decide_true, Bool.false_eq_true, if_false, if_true]
  simp only [G_pos (show (0 : Int) ≤ 0 ∧ (0 : Int) < 2 by decide), G_pos (show (0 : Int) ≤ 1 ∧ (1 : Int) < 2 by decide), G_pos (show ((t.ts.map flat).length + (u.ts.map flat).length) * 24 ≤ 140737488355328 by omega)]
  rcases w1 with ⟨k1, _⟩ | ⟨k1, _, _, l1⟩ | ⟨k1, _⟩ <;> rcases w2 with ⟨k2, _⟩ | ⟨k2, _, _, l2⟩ | ⟨k2, _⟩
  all_goals simp only [k1, k2, Int.reduceEq, decide_false, decide_true, Bool.false_eq_true, if_false, if_true, Bool.not_true, Bool.not_false, Bool.or_self, Bool.or_true, Bool.true_or, Bool.and_self, Bool.and_false, Bool.false_and, Bool.and_true]
  case inr.inl.inr.inl =>
    rw [G_pos (by omega), G_pos (by omega), w64_eq (by omega) (by omega)]
    unfold ref07_Text
    simp only [decide_eq_true_eq, List.length_append]
    by_cases hbig : 4096 < t.a.2.2.2.1.length + u.a.2.2.2.1.length
    · rw [if_pos (by omega), if_pos (by omega)]
      exact agree_same rfl rfl (by simp)
    · rw [if_neg (by omega), if_neg (by omega)]
      exact agree_same rfl rfl (by simp)
  case inr.inr.inr.inr => exact agree_same rfl rfl (madeV_len _)
  all_goals exact agree_same rfl rfl (by simp)
theorem item_agree (ha : isV t a) (hb : isV u b) : agree (value_args_item [a, b]) (ref07_do 10 [a, b]) := by
  have w1 := wellA_kind (okT_well ha.2.1)
  have w2 := wellA_kind (okT_well hb.2.1)
  have hN := isV_ar ha
  obtain ⟨m1, m2⟩ := members_len ha
  unfold value_args_item ref07_do en_ref07_do
  simp only [vtop_eq ha, vtop_eq hb, rwhole_eq ha, rwhole_eq hb, vmembers_eq ha, rmembers_eq ha, Option.bind_some, g20, g21, len2, Int.reduceEq, decide_false, decide_true, Bool.false_eq_true, if_false, if_true]
  simp only [G_pos (show (0 : Int) ≤ 0 ∧ (0 : Int) < 2 by decide), G_pos (show (0 : Int) ≤ 1 ∧ (1 : Int) < 2 by decide)]
  by_cases hc : (!decide (t.a.1 = 3) || !decide (u.a.1 = 1) || decide (u.a.2.2.1 < 0) || decide (t.a.2.1 ≤ u.a.2.2.1)) = true
  · rw [if_pos hc, if_pos hc]
    exact agree_same rfl rfl (by simp)
  · rw [if_neg hc, if_neg hc]
    simp only [Bool.or_eq_true, decide_eq_true_eq, not_or, Bool.not_eq_true', decide_eq_false_iff_not, Decidable.not_not] at hc
    obtain ⟨⟨⟨_, _⟩, h3⟩, h4⟩ := hc
    have hG : 0 ≤ u.a.2.2.1 ∧ u.a.2.2.1 < ((t.ts.map flat).length : Int) := by rw [List.length_map]; omega
    have hmem : (t.ts.map flat).getD u.a.2.2.1.toNat ([] : List tAtom) ∈ t.ts.map flat := by
      rw [List.getD_eq_getElem?_getD, List.getElem?_eq_getElem (by omega)]
      exact List.getElem_mem _
    have hl := m2 _ hmem
    rw [G_pos hG, G_pos hG, vclone_eq _ (by omega)]
    exact agree_same rfl rfl hl
theorem size_agree (ha : isV t a) : agree (value_args_size [a]) (ref07_do 11 [a]) := by
  have w1 := wellA_kind (okT_well ha.2.1)
  have hN := isV_ar ha
  have hts := isV_ts_len ha
  have l1 : (([a] : List (List tAtom)).length : Int) = 1 := rfl
  have g1 : (([a] : List (List tAtom)).getD (0 : Int).toNat ([] : List tAtom)) = a := rfl
  unfold value_args_size ref07_do en_ref07_do
  simp only [vtop_eq ha, rwhole_eq ha, Option.bind_some, g1, l1, Int.reduceEq, decide_false, decide_true, Bool.false_eq_true, if_false, if_true, num_eq, rnum_eq]
  simp only [G_pos (show (0 : Int) ≤ 0 ∧ (0 : Int) < 1 by decide)]
  rcases w1 with ⟨k1, _⟩ | ⟨k1, n1, _, x1⟩ | ⟨k1, n1, _, x1⟩
  · simp only [k1, Int.reduceEq, decide_false, decide_true, Bool.false_eq_true, if_false, if_true]
    exact agree_same rfl rfl (by simp)
  · simp only [k1, Int.reduceEq, decide_false, decide_true, Bool.false_eq_true, if_false, if_true, n1, Int.add_zero]
    rw [w64_eq (by omega) (by omega)]
    exact agree_same rfl rfl (numV_len _)
  · simp only [k1, Int.reduceEq, decide_false, decide_true, Bool.false_eq_true, if_false, if_true, x1, List.length_nil]
    rw [w64_eq (by omega) (by omega)]
    have e : ((0 : Nat) : Int) + t.a.2.1 = t.a.2.1 := by omega
    rw [e]
    exact agree_same rfl rfl (numV_len _)
theorem truth_eq (b : Bool) : value_truth b = some (if b = true then numV 1 else numV 0) := by
  unfold value_truth
  simp only [num_eq, Option.bind_some]
  cases b <;> rfl
theorem truth_len (c : Prop) [Decidable c] : (if c then numV 1 else numV 0).1.length ≤ 1024 := by split <;> exact numV_len _
theorem less_agree (ha : isV t a) (hb : isV u b) : agree (value_args_less [a, b]) (ref07_do 12 [a, b]) := by
  unfold value_args_less ref07_do en_ref07_do
  simp only [vcompare_eq ha hb, rcompare_eq ha hb, rwhole_eq ha, rwhole_eq hb, Option.bind_some, g20, g21, len2, Int.reduceEq, decide_false, decide_true, Bool.false_eq_true, if_false, if_true, truth_eq, rnum_eq, Bool.true_and, Bool.false_and, Bool.or_false]
  simp only [G_pos (show (0 : Int) ≤ 0 ∧ (0 : Int) < 2 by decide), G_pos (show (0 : Int) ≤ 1 ∧ (1 : Int) < 2 by decide)]
  refine agree_same (p := if decide (cmpT t u < 0) = true then numV 1 else numV 0) rfl ?_ (truth_len _)
  split <;> rfl
theorem same_agree (ha : isV t a) (hb : isV u b) : agree (value_args_same [a, b]) (ref07_do 13 [a, b]) := by
  unfold value_args_same ref07_do en_ref07_do
  simp only [vcompare_eq ha hb, rcompare_eq ha hb, rwhole_eq ha, rwhole_eq hb, Option.bind_some, g20, g21, len2, Int.reduceEq, decide_false, decide_true, Bool.false_eq_true, if_false, if_true, truth_eq, rnum_eq, Bool.true_and, Bool.false_and, Bool.false_or]
  simp only [G_pos (show (0 : Int) ≤ 0 ∧ (0 : Int) < 2 by decide), G_pos (show (0 : Int) ≤ 1 ∧ (1 : Int) < 2 by decide)]
  refine agree_same (p := if decide (cmpT t u = 0) = true then numV 1 else numV 0) rfl ?_ (truth_len _)
  split <;> rfl
theorem list_agree (l : List (List tAtom)) (hl : vsizes l) : agree (value_args_list l) (ref07_do 5 l) := by
  obtain ⟨h1, h2⟩ := sizes_lt hl
  unfold value_args_list ref07_do en_ref07_do
  simp only [vmade_eq l h1 h2, rmade_eq l h1 h2, Option.bind_some, decide_true, if_true]
  exact agree_same rfl rfl (madeV_len l)
end

/-! what an operation comes to -/
theorem first_two {a b : List tAtom} (h : firstV [a, b] = 0) : ∃ t u, isV t a ∧ isV u b := by
  obtain ⟨t, ht⟩ := checkV_ok (firstV_ok h a (by simp))
  obtain ⟨u, hu⟩ := checkV_ok (firstV_ok h b (by simp))
  exact ⟨t, u, ht, hu⟩
theorem two_of {l : List (List tAtom)} (h : (l.length : Int) = 2) : ∃ a b, l = [a, b] := by
  match l, h with
  | [a, b], _ => exact ⟨a, b, rfl⟩
  | [], h => simp at h
  | [_], h => simp at h
  | _ :: _ :: _ :: _, h => simp at h; omega
theorem one_of {l : List (List tAtom)} (h : (l.length : Int) = 1) : ∃ a, l = [a] := by
  match l, h with
  | [a], _ => exact ⟨a, rfl⟩
  | [], h => simp at h
  | _ :: _ :: _, h => simp at h; omega
def agree3 (x y : Option (List tAtom × Bool × Int)) : Prop := ∃ p, x = some p ∧ y = some p ∧ p.1.length ≤ 1024
/-- Both behind the same tests. -/
theorem do_end {l : List (List tAtom)} (hl : vsizes l) {m : Int} {d r : Option (List tAtom × Bool)} (h : (0 ≤ m → (l.length : Int) = m) → firstV l = 0 → agree d r) {v w : Option (List tAtom × Bool × Int)}
    (hv : v = (if (decide ((4096 : Int) < (l.length : Int))) = true then some ([], false, 3) else if ((decide ((0 : Int) ≤ m)) && (!decide ((l.length : Int) = m))) = true then some ([], false, 5) else
      (value_first l).bind fun t34 => if (!decide (t34 = (0 : Int))) = true then some ([], false, t34) else d.bind fun t41 => if (!t41.2) = true then some ([], false, 0) else some (t41.1, true, 0)))
    (hw : w = (if (decide ((4096 : Int) < (l.length : Int))) = true then some ([], false, 3) else if ((decide ((0 : Int) ≤ m)) && (!decide ((l.length : Int) = m))) = true then some ([], false, 5) else
      (ref07_first l).bind fun t34 => if (!decide (t34 = (0 : Int))) = true then some ([], false, t34) else r.bind fun t41 => if (!t41.2) = true then some ([], false, 0) else some (t41.1, true, 0))) : agree3 v w := by
  obtain ⟨h1, h2⟩ := sizes_lt hl
  rw [hv, hw, vfirst_eq l h1, rfirst_eq l h1]
  split
  · exact ⟨_, rfl, rfl, by simp⟩
  · split
    · exact ⟨_, rfl, rfl, by simp⟩
    · rename_i hm
      simp only [Option.bind_some]
      by_cases hf : firstV l = 0
      · obtain ⟨p, q, e1, e2, e3, e4, e5⟩ := h (fun h0 => by
          simp only [Bool.and_eq_true, decide_eq_true_eq, Bool.not_eq_true', decide_eq_false_iff_not, not_and, Decidable.not_not] at hm
          exact hm h0) hf
        rw [e1, e2]
        simp only [hf, decide_true, Bool.not_true, Bool.false_eq_true, if_false, Option.bind_some]
        cases hp : p.2 with
        | true =>
          rw [← e3, hp, ← e4 hp]
          exact ⟨_, rfl, rfl, e5⟩
        | false =>
          rw [← e3, hp]
          exact ⟨_, rfl, rfl, by simp⟩
      · simp only [hf, decide_false, Bool.not_false, if_true]
        exact ⟨_, rfl, rfl, by simp⟩
theorem kinds_do (k : Int) : (k < 5 ∨ 13 < k) ∨ k = 5 ∨ k = 6 ∨ k = 7 ∨ k = 8 ∨ k = 9 ∨ k = 10 ∨ k = 11 ∨ k = 12 ∨ k = 13 := by omega
theorem nil_fnv (f : FuncId) : isNilF (fnv f) = false := rfl
theorem isFn_fnv (f : FuncId) : isFnV (fnv f) = true := rfl
theorem Do_agree (k : Int) (l : List (List tAtom)) (hl : vsizes l) : agree3 (value_Do k l) (ref07_Do k l) := by
  rcases kinds_do k with h | rfl | rfl | rfl | rfl | rfl | rfl | rfl | rfl | rfl
  · have n : ∀ m : Int, 5 ≤ m → m ≤ 13 → ¬ k = m := fun m h1 h2 => by omega
    unfold value_Do en_value_Do value_way ref07_Do
    simp only [n 5 (by omega) (by omega), n 6 (by omega) (by omega), n 7 (by omega) (by omega), n 8 (by omega) (by omega), n 9 (by omega) (by omega), n 10 (by omega) (by omega), n 11 (by omega) (by omega), n 12 (by omega) (by omega), n 13 (by omega) (by omega), decide_false, Bool.false_eq_true, if_false, Option.bind_some, Bool.not_false, Bool.true_and]
    rw [G_pos (show isFnV Value.nilFunc = true from rfl), if_pos (show isNilF Value.nilFunc = true from rfl), if_pos (by rcases h with h | h <;> simp <;> omega)]
    exact ⟨_, rfl, rfl, by simp⟩
  all_goals
    unfold value_Do en_value_Do value_way ref07_Do
    simp only [Int.reduceEq, Int.reduceLT, decide_false, decide_true, Bool.false_eq_true, if_false, if_true, Option.bind_some, Bool.not_false, Bool.not_true, Bool.true_and, Bool.false_and, Bool.or_self, Bool.or_false, Bool.false_or, isFn_fnv, nil_fnv, dyn_value_Do, fnIs_fnv, Nat.beq_eq_true_eq, Nat.reduceEqDiff]
    rw [G_pos trivial]
  · exact do_end hl (m := -1) (fun _ _ => list_agree l hl) rfl rfl
  · exact do_end hl (m := 2) (fun h hf => by obtain ⟨a, b, rfl⟩ := two_of (h (by omega)); obtain ⟨t, u, ht, hu⟩ := first_two hf; exact add_agree ht hu) rfl rfl
  · exact do_end hl (m := 2) (fun h hf => by obtain ⟨a, b, rfl⟩ := two_of (h (by omega)); obtain ⟨t, u, ht, hu⟩ := first_two hf; exact sub_agree ht hu) rfl rfl
  · exact do_end hl (m := 2) (fun h hf => by obtain ⟨a, b, rfl⟩ := two_of (h (by omega)); obtain ⟨t, u, ht, hu⟩ := first_two hf; exact mul_agree ht hu) rfl rfl
  · exact do_end hl (m := 2) (fun h hf => by obtain ⟨a, b, rfl⟩ := two_of (h (by omega)); obtain ⟨t, u, ht, hu⟩ := first_two hf; exact join_agree ht hu) rfl rfl
  · exact do_end hl (m := 2) (fun h hf => by obtain ⟨a, b, rfl⟩ := two_of (h (by omega)); obtain ⟨t, u, ht, hu⟩ := first_two hf; exact item_agree ht hu) rfl rfl
  · exact do_end hl (m := 1) (fun h hf => by obtain ⟨a, rfl⟩ := one_of (h (by omega)); obtain ⟨t, ht⟩ := checkV_ok (firstV_ok hf a (by simp)); exact size_agree ht) rfl rfl
  · exact do_end hl (m := 2) (fun h hf => by obtain ⟨a, b, rfl⟩ := two_of (h (by omega)); obtain ⟨t, u, ht, hu⟩ := first_two hf; exact less_agree ht hu) rfl rfl
  · exact do_end hl (m := 2) (fun h hf => by obtain ⟨a, b, rfl⟩ := two_of (h (by omega)); obtain ⟨t, u, ht, hu⟩ := first_two hf; exact same_agree ht hu) rfl rfl
theorem word_eq (k : Int) : value_Word k = ref07_Word k := rfl
theorem ite_some {α : Type} {c : Prop} [Decidable c] {x y : Option α} (hx : x.isSome = true) (hy : y.isSome = true) : (if c then x else y).isSome = true := by
  by_cases h : c
  · rw [if_pos h]; exact hx
  · rw [if_neg h]; exact hy
theorem word_some (k : Int) : ∃ s, value_Word k = some s := by
  rw [← Option.isSome_iff_exists]
  unfold value_Word
  repeat refine ite_some rfl ?_
  rfl
theorem ValueDoes_pure (k : Int) (l : List (List tAtom)) (hl : vsizes l) : law07_ValueDoes k l = some true := by
  obtain ⟨h1, h2⟩ := sizes_lt hl
  obtain ⟨p, e1, e2, e3⟩ := Do_agree k l hl
  obtain ⟨s, hs⟩ := word_some k
  have hs2 : ref07_Word k = some s := by rw [← word_eq]; exact hs
  unfold law07_ValueDoes
  simp only [copied_eq l hl, e1, e2, hs, hs2, Option.bind_some, decide_true, Bool.not_true, Bool.not_false, BEq.rfl, Bool.or_self, Bool.false_or, if_true, vsame_eq p.1 p.1 (by omega), Bool.false_eq_true, if_false, values_eq l h1 h2]
end Go.Eng
