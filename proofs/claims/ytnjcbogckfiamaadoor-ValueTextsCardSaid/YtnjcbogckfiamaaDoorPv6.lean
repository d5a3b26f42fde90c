/- A part of the proof: Pv6. -/
import Derived.Test.YtnjcbogckfiamaaDoorPv4
namespace Go.Eng
set_option linter.unusedVariables false
set_option linter.unusedSimpArgs false

theorem wellA_kind {a : tAtom} (h : wellA a = true) : (a.1 = 1 ∧ a.2.1 = 0 ∧ a.2.2.2.1 = [] ∧ -9007199254740992 ≤ a.2.2.1 ∧ a.2.2.1 ≤ 9007199254740992) ∨ (a.1 = 2 ∧ a.2.1 = 0 ∧ a.2.2.1 = 0 ∧ a.2.2.2.1.length ≤ 4096) ∨ (a.1 = 3 ∧ 0 ≤ a.2.1 ∧ a.2.2.1 = 0 ∧ a.2.2.2.1 = []) := by
  unfold wellA value_well at h
  split at h
  · rename_i h1
    simp only [Option.getD_some, Bool.and_eq_true, decide_eq_true_eq] at h h1
    exact .inl ⟨h1, h.1.1.1, h.1.1.2, h.1.2, h.2⟩
  · split at h
    · rename_i h1
      simp only [Option.getD_some, Bool.and_eq_true, decide_eq_true_eq] at h h1
      exact .inr (.inl ⟨h1, h.1.1, h.1.2, by omega⟩)
    · split at h
      · rename_i h1
        simp only [Option.getD_some, Bool.and_eq_true, decide_eq_true_eq] at h h1
        exact .inr (.inr ⟨h1, h.1.1, h.1.2, h.2⟩)
      · cases h
theorem okT_well {lim : Int} {t : Tr tAtom} (h : okT arV (goodV lim) t) : wellA t.a = true := by
  cases t with
  | node a ts =>
    have h2 := h.2.1
    simp only [goodV, Bool.and_eq_true] at h2
    exact h2.1
theorem isV_child {t x : Tr tAtom} {v : List tAtom} (h : isV t v) (hx : x ∈ t.ts) : isV x (flat x) := by
  obtain ⟨h1, h2⟩ := isV_top h
  have h3 := h.1
  have h4 := flat_le x hx
  refine ⟨by omega, ?_, rfl⟩
  cases t with
  | node a ts => exact okF_mem.1 h.2.1.2.2 x hx
theorem deep_child {t x : Tr tAtom} (hx : x ∈ t.ts) : tdeep x < tdeep t := by
  cases t with
  | node a ts => have := tdeeps_le (f := ts) x hx; simp only [tdeep]; omega

def cmI (x y : Int) : Int := if x < y then -1 else if y < x then 1 else 0
mutual
def cmpT : Tr tAtom → Tr tAtom → Int
  | .node a ts, u => if a.1 ≠ u.a.1 then cmI a.1 u.a.1 else if a.1 = 1 then cmI a.2.2.1 u.a.2.2.1 else if a.1 = 2 then Lib.compareBytes a.2.2.2.1 u.a.2.2.2.1 else cmpTs ts u.ts
def cmpTs : List (Tr tAtom) → List (Tr tAtom) → Int
  | [], us => if us.isEmpty then 0 else -1
  | t :: ts, us => match us with
    | [] => 1
    | u :: us => if cmpT t u ≠ 0 then cmpT t u else cmpTs ts us
end
theorem cmpTs_cn (t : Tr tAtom) (ts : List (Tr tAtom)) : cmpTs (t :: ts) [] = 1 := by simp [cmpTs]
theorem cmpTs_cc (t u : Tr tAtom) (ts us : List (Tr tAtom)) : cmpTs (t :: ts) (u :: us) = if cmpT t u ≠ 0 then cmpT t u else cmpTs ts us := by simp [cmpTs]
theorem cmpT_eq (t u : Tr tAtom) : cmpT t u = if t.a.1 ≠ u.a.1 then cmI t.a.1 u.a.1 else if t.a.1 = 1 then cmI t.a.2.2.1 u.a.2.2.1 else if t.a.1 = 2 then Lib.compareBytes t.a.2.2.2.1 u.a.2.2.2.1 else cmpTs t.ts u.ts := by
  cases t with
  | node a ts => rw [cmpT]; rfl
theorem cmpI_sub {x y : Int} (h : -9223372036854775808 ≤ x - y) (h2 : x - y ≤ 9223372036854775807) : cmI (w64 (x - y)) 0 = cmI x y := by
  rw [w64_eq h h2]
  unfold cmI
  by_cases h1 : x < y
  · rw [if_pos h1, if_pos (by omega)]
  · rw [if_neg h1, if_neg (by omega)]
    by_cases h3 : y < x
    · rw [if_pos h3, if_pos (by omega)]
    · rw [if_neg h3, if_neg (by omega)]

/-! texts -/
theorem less_eq : ∀ (x y : List UInt8), Op.bytesLess x y = decide (Lib.compareBytes x y = -1)
  | [], [] => rfl
  | [], _ :: _ => rfl
  | _ :: _, [] => rfl
  | a :: x, b :: y => by
    simp only [Op.bytesLess, Lib.compareBytes, less_eq x y]
    by_cases h : a < b
    · simp [h]
    · by_cases h2 : b < a
      · have hne : (a == b) = false := by
          rw [beq_eq_false_iff_ne]; rintro rfl; exact h h2
        simp [h, h2, hne]
      · have he : a = b := UInt8.le_antisymm (UInt8.not_lt.1 h2) (UInt8.not_lt.1 h)
        subst he
        simp [h]
theorem comp_zero : ∀ (x y : List UInt8), Lib.compareBytes x y = 0 ↔ x = y
  | [], [] => by simp [Lib.compareBytes]
  | [], _ :: _ => by simp [Lib.compareBytes]
  | _ :: _, [] => by simp [Lib.compareBytes]
  | a :: x, b :: y => by
    simp only [Lib.compareBytes]
    by_cases h : a < b
    · have : a ≠ b := fun e => by subst e; exact absurd h (UInt8.lt_irrefl a)
      simp [h, this]
    · by_cases h2 : b < a
      · have : a ≠ b := fun e => by subst e; exact absurd h2 (UInt8.lt_irrefl a)
        simp [h, h2, this]
      · have he : a = b := UInt8.le_antisymm (UInt8.not_lt.1 h2) (UInt8.not_lt.1 h)
        subst he
        simp [h, comp_zero x y]
theorem comp_range : ∀ (x y : List UInt8), Lib.compareBytes x y = -1 ∨ Lib.compareBytes x y = 0 ∨ Lib.compareBytes x y = 1
  | [], [] => by simp [Lib.compareBytes]
  | [], _ :: _ => by simp [Lib.compareBytes]
  | _ :: _, [] => by simp [Lib.compareBytes]
  | a :: x, b :: y => by
    simp only [Lib.compareBytes]
    split
    · simp
    · split
      · simp
      · exact comp_range x y
/-! the program -/
theorem get_map {F : List (Tr tAtom)} {i : Nat} {x : Tr tAtom} (h : F[i]? = some x) : (F.map flat).getD i ([] : List tAtom) = flat x := by
  rw [List.getD_eq_getElem?_getD, List.getElem?_map, h]; rfl
theorem isV_ts_len {t : Tr tAtom} {v : List tAtom} (h : isV t v) : t.ts.length ≤ 1024 := by
  have h1 := len_flats t.ts
  obtain ⟨_, h2⟩ := isV_top h
  have := h.1
  omega
theorem fnIs_self (f : FuncId) : fnIs (fnv f) f = true := by simp [fnIs, fnv]
theorem isV_deep {t : Tr tAtom} {v : List tAtom} (h : isV t v) : tdeep t ≤ 32 := by have := okT_deep h.2.1; omega
/-! the reference -/
end Go.Eng
