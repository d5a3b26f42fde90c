/- A part of the proof: Pv7. -/
import Derived.Test.YtnjcbogckfiamaaDoorPv6
namespace Go.Eng
set_option linter.unusedVariables false
set_option linter.unusedSimpArgs false

theorem fnIs_fnv (f g : FuncId) : fnIs (fnv f) g = Nat.beq f g := by simp [fnIs, fnv]
def agree (x y : Option (List tAtom × Bool)) : Prop := ∃ p q, x = some p ∧ y = some q ∧ p.2 = q.2 ∧ (p.2 = true → p.1 = q.1) ∧ p.1.length ≤ 1024
theorem agree_same {x y : Option (List tAtom × Bool)} {p : List tAtom × Bool} (hx : x = some p) (hy : y = some p) (hl : p.1.length ≤ 1024) : agree x y := ⟨p, p, hx, hy, rfl, fun _ => rfl, hl⟩

def numV (n : Int) : List tAtom × Bool := if n < -9007199254740992 ∨ 9007199254740992 < n then ([], false) else ([(1, 0, n, [], ())], true)
theorem num_eq (n : Int) : value_number n = some (numV n) := by
  unfold value_number value_Int numV
  by_cases h : n < -9007199254740992 ∨ 9007199254740992 < n
  · rw [if_pos h, if_pos (by simpa using h)]; rfl
  · rw [if_neg h, if_neg (by simpa using h)]; rfl
theorem numV_len (n : Int) : (numV n).1.length ≤ 1024 := by unfold numV; split <;> simp

theorem isV_one {t : Tr tAtom} {v : List tAtom} (h : isV t v) (hk : t.a.1 = 1 ∨ t.a.1 = 2) : v = [t.a] ∧ t.ts = [] := by
  have hw := wellA_kind (okT_well h.2.1)
  have ha := isV_ar h
  have hz : t.ts.length = 0 := by rcases hw with w | w | w <;> rcases hk with k | k <;> omega
  have hz2 : t.ts = [] := List.length_eq_zero_iff.1 hz
  obtain ⟨h1, _⟩ := isV_top h
  rw [hz2] at h1
  exact ⟨by simpa [flats] using h1, hz2⟩
theorem isV_kind {t : Tr tAtom} {v : List tAtom} (h : isV t v) : t.a.1 = 1 ∨ t.a.1 = 2 ∨ t.a.1 = 3 := by
  rcases wellA_kind (okT_well h.2.1) with w | w | w
  · exact .inl w.1
  · exact .inr (.inl w.1)
  · exact .inr (.inr w.1)

theorem ints1_eq {t : Tr tAtom} {v : List tAtom} (h : isV t v) : value_args_ints_1 v = some (!decide (t.a.1 = 1)) := by
  unfold value_args_ints_1
  rw [vtop_eq h]; rfl
theorem index_two (dyn : Value → List tAtom → Option Bool) (c : Value) (a b : List tAtom) (p q : Bool) (h1 : dyn c a = some p) (h2 : dyn c b = some q) : slices_IndexFunc dyn [a, b] c = some (if p = true then 0 else if q = true then 1 else -1) := by
  unfold slices_IndexFunc en_slices_IndexFunc
  show iter _ _ = _
  rw [iter_eq']
  have e0 : (0 : Int) < (([a, b] : List (List tAtom)).length : Int) := by simp
  have e1 : w64 ((0 : Int) + 1) = 1 := rfl
  have e3 : w64 ((1 : Int) + 1) = 2 := rfl
  have e2 : (1 : Int) < (([a, b] : List (List tAtom)).length : Int) := by simp
  have e4 : ¬ (2 : Int) < (([a, b] : List (List tAtom)).length : Int) := by simp
  have g0 : (([a, b] : List (List tAtom)).getD (0 : Int).toNat ([] : List tAtom)) = a := rfl
  have g1 : (([a, b] : List (List tAtom)).getD (1 : Int).toNat ([] : List tAtom)) = b := rfl
  simp only [st_slices_IndexFunc, sg_slices_IndexFunc_2, decide_eq_true_eq, if_pos e0, g0, h1, Option.bind_some, e1]
  rw [G_pos (by simp)]
  cases p with
  | true => rfl
  | false =>
    simp only [Bool.false_eq_true, if_false]
    show iter _ _ = _
    rw [iter_eq']
    simp only [st_slices_IndexFunc, sg_slices_IndexFunc_2, decide_eq_true_eq, if_pos e2, g1, h2, Option.bind_some, e3]
    rw [G_pos (by simp)]
    cases q with
    | true => rfl
    | false =>
      simp only [Bool.false_eq_true, if_false]
      show iter _ _ = _
      rw [iter_eq']
      simp only [st_slices_IndexFunc, sg_slices_IndexFunc_2, decide_eq_true_eq, if_neg e4]; rfl
theorem ints_eq {t u : Tr tAtom} {a b : List tAtom} (ha : isV t a) (hb : isV u b) : value_args_ints [a, b] = some (decide (t.a.1 = 1) && decide (u.a.1 = 1)) := by
  unfold value_args_ints en_value_args_ints slices_ContainsFunc en_slices_ContainsFunc
  rw [index_two _ _ a b (!decide (t.a.1 = 1)) (!decide (u.a.1 = 1)) (by simp only [fnIs_self, if_true]; exact ints1_eq ha) (by simp only [fnIs_self, if_true]; exact ints1_eq hb)]
  cases decide (t.a.1 = 1) <;> cases decide (u.a.1 = 1) <;> rfl

section
variable {t u : Tr tAtom} {a b : List tAtom}
theorem len2 (a b : List tAtom) : (([a, b] : List (List tAtom)).length : Int) = 2 := rfl
theorem g20 (a b : List tAtom) : (([a, b] : List (List tAtom)).getD (0 : Int).toNat ([] : List tAtom)) = a := rfl
theorem g21 (a b : List tAtom) : (([a, b] : List (List tAtom)).getD (1 : Int).toNat ([] : List tAtom)) = b := rfl
theorem mulle {x y : Int} (hx : x ≠ 0) (hy : y ≠ 0) (hx1 : -9007199254740992 ≤ x) (hx2 : x ≤ 9007199254740992) (hy1 : -9007199254740992 ≤ y) (hy2 : y ≤ 9007199254740992) :
    (w64 (Int.tdiv 9007199254740992 (if x < 0 then w64 (0 - x) else x)) < (if y < 0 then w64 (0 - y) else y)) ↔ (9007199254740992 < x.natAbs * y.natAbs) := by
  have ex : (if x < 0 then w64 (0 - x) else x) = (x.natAbs : Int) := by
    split
    · rw [w64_eq (by omega) (by omega)]; omega
    · omega
  have ey : (if y < 0 then w64 (0 - y) else y) = (y.natAbs : Int) := by
    split
    · rw [w64_eq (by omega) (by omega)]; omega
    · omega
  rw [ex, ey]
  have e1 : Int.tdiv 9007199254740992 (x.natAbs : Int) = ((9007199254740992 / x.natAbs : Nat) : Int) := rfl
  have hle : 9007199254740992 / x.natAbs ≤ 9007199254740992 := Nat.div_le_self _ _
  rw [e1]
  generalize hq : 9007199254740992 / x.natAbs = q at hle
  rw [w64_eq (by omega) (by omega), Int.ofNat_lt, ← hq, Nat.div_lt_iff_lt_mul (by omega), Nat.mul_comm]
theorem mx_abs {x : Int} (h1 : -9007199254740992 ≤ x) (h2 : x ≤ 9007199254740992) : mxI x (w64 (0 - x)) = (if x < 0 then w64 (0 - x) else x) := by
  rw [w64_eq (by omega) (by omega)]
  unfold mxI
  split <;> split <;> omega

/-- What the reference does to two numbers. -/
noncomputable def arV2 (k x y : Int) : List tAtom × Bool := if k = 6 then numV (w64 (x + y)) else if k = 7 then numV (w64 (x - y)) else if 9007199254740992 < x.natAbs * y.natAbs then ([], false) else numV (w64 (x * y))
theorem abs_eq {x : Int} (h1 : -9007199254740992 ≤ x) (h2 : x ≤ 9007199254740992) : (if x < 0 then w64 (0 - x) else x) = (x.natAbs : Int) := by
  split
  · rw [w64_eq (by omega) (by omega)]; omega
  · omega
theorem arV2_len (k x y : Int) : (arV2 k x y).1.length ≤ 1024 := by
  unfold arV2
  split
  · exact numV_len _
  · split
    · exact numV_len _
    · split
      · simp
      · exact numV_len _
theorem ar_pre (ha : isV t a) (hb : isV u b) (f : Int → Int → Option (List tAtom × Bool)) (v : Option (List tAtom × Bool)) (hv : v = (value_args_ints [a, b]).bind fun t5 => if (!t5) = true then some (([] : List tAtom), false) else
      G (0 ≤ (0 : Int) ∧ (0 : Int) < 2) <| G (0 ≤ (0 : Int) ∧ (0 : Int) < (a.length : Int)) <| G (0 ≤ (1 : Int) ∧ (1 : Int) < 2) <| G (0 ≤ (0 : Int) ∧ (0 : Int) < (b.length : Int)) <| f (a.getD (0 : Int).toNat dAtom).2.2.1 (b.getD (0 : Int).toNat dAtom).2.2.1) :
    v = if t.a.1 = 1 ∧ u.a.1 = 1 then f t.a.2.2.1 u.a.2.2.1 else some ([], false) := by
  rw [hv, ints_eq ha hb]
  by_cases h1 : t.a.1 = 1
  · by_cases h2 : u.a.1 = 1
    · obtain ⟨e1, _⟩ := isV_one ha (.inl h1)
      obtain ⟨e2, _⟩ := isV_one hb (.inl h2)
      have ga : a.getD (0 : Int).toNat dAtom = t.a := by rw [e1]; rfl
      have gb : b.getD (0 : Int).toNat dAtom = u.a := by rw [e2]; rfl
      have la : (a.length : Int) = 1 := by rw [e1]; rfl
      have lb : (b.length : Int) = 1 := by rw [e2]; rfl
      simp only [h1, h2, decide_true, Bool.and_self, Bool.not_true, Bool.false_eq_true, if_false, ga, gb, la, lb, Option.bind_some, and_self, if_true]
      rw [G_pos (by decide), G_pos (by decide), G_pos (by decide), G_pos (by decide)]
    · simp only [h1, h2, decide_true, decide_false, Bool.and_false, Bool.not_false, if_true, and_false, if_false, Option.bind_some]
  · simp only [h1, decide_false, Bool.false_and, Bool.not_false, if_true, false_and, if_false, Option.bind_some]
theorem agree_if {c : Prop} [Decidable c] {x : Option (List tAtom × Bool)} {p : List tAtom × Bool} (hx : c → x = some p) (hl : p.1.length ≤ 1024) : agree (if c then x else some ([], false)) (some (if c then p else ([], false))) := by
  by_cases h : c
  · rw [if_pos h, if_pos h]; exact agree_same (hx h) rfl hl
  · rw [if_neg h, if_neg h]; exact agree_same rfl rfl (by simp)
/-! texts and lists -/
theorem members_len {t : Tr tAtom} {v : List tAtom} (h : isV t v) : (t.ts.map flat).length ≤ 1024 ∧ ∀ y ∈ t.ts.map flat, y.length ≤ 1024 := by
  refine ⟨by rw [List.length_map]; exact isV_ts_len h, fun y hy => ?_⟩
  obtain ⟨x, hx, rfl⟩ := List.mem_map.1 hy
  exact (isV_child h hx).1
theorem truth_eq (b : Bool) : value_truth b = some (if b = true then numV 1 else numV 0) := by
  unfold value_truth
  simp only [num_eq, Option.bind_some]
  cases b <;> rfl
theorem truth_len (c : Prop) [Decidable c] : (if c then numV 1 else numV 0).1.length ≤ 1024 := by split <;> exact numV_len _
end

/-! what an operation comes to -/
theorem first_two {a b : List tAtom} (h : firstV [a, b] = 0) : ∃ t u, isV t a ∧ isV u b := by
  obtain ⟨t, ht⟩ := checkV_ok (firstV_ok h a (by simp))
  obtain ⟨u, hu⟩ := checkV_ok (firstV_ok h b (by simp))
  exact ⟨t, u, ht, hu⟩
theorem two_of {l : List (List tAtom)} (h : (l.length : Int) = 2) : ∃ a b, l = [a, b] := by
  match l, h with
  | [a, b], _ => exact ⟨a, b, rfl⟩
  | [], h => simp at h
  | [_], h => simp at h
  | _ :: _ :: _ :: _, h => simp at h; omega
theorem one_of {l : List (List tAtom)} (h : (l.length : Int) = 1) : ∃ a, l = [a] := by
  match l, h with
  | [a], _ => exact ⟨a, rfl⟩
  | [], h => simp at h
  | _ :: _ :: _, h => simp at h; omega
def agree3 (x y : Option (List tAtom × Bool × Int)) : Prop := ∃ p, x = some p ∧ y = some p ∧ p.1.length ≤ 1024
theorem kinds_do (k : Int) : (k < 5 ∨ 13 < k) ∨ k = 5 ∨ k = 6 ∨ k = 7 ∨ k = 8 ∨ k = 9 ∨ k = 10 ∨ k = 11 ∨ k = 12 ∨ k = 13 := by omega
theorem nil_fnv (f : FuncId) : isNilF (fnv f) = false := rfl
theorem isFn_fnv (f : FuncId) : isFnV (fnv f) = true := rfl
end Go.Eng
