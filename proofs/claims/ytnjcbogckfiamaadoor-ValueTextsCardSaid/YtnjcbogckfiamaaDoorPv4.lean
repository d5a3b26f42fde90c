/- A part of the proof: Pv4. -/
import Derived.Test.YtnjcbogckfiamaaDoorPv3
namespace Go.Eng
set_option linter.unusedVariables false
set_option linter.unusedSimpArgs false

def vsizes (l : List (List tAtom)) : Prop := l.length * 24 ≤ 140737488351232 ∧ ∀ v ∈ l, v.length * 40 ≤ 140737488351232

/-! the first error -/
noncomputable def firstV : List (List tAtom) → Int
  | [] => 0
  | v :: r => if checkV v = 0 then firstV r else checkV v
theorem firstV_ok : ∀ {l : List (List tAtom)}, firstV l = 0 → ∀ v ∈ l, checkV v = 0
  | [], _, v, hv => by cases hv
  | x :: r, h, v, hv => by
    rw [firstV] at h
    split at h
    · rename_i hx
      rcases List.mem_cons.1 hv with rfl | hv
      · exact hx
      · exact firstV_ok h v hv
    · rename_i hx; exact absurd h hx
theorem checkV_len {v : List tAtom} (h : checkV v = 0) : v.length ≤ 1024 := by
  unfold checkV at h
  split at h
  · cases h
  · omega

/-! a list is made -/
def madeL : List (List tAtom) → List tAtom → Option (List tAtom)
  | [], out => some out
  | v :: r, out => if 1024 ≤ out.length + v.length then none else madeL r (out ++ v)
def lastA (n : Nat) : tAtom := (3, (n : Int), 0, ([] : List UInt8), ())
noncomputable def madeV (l : List (List tAtom)) : List tAtom × Bool := match madeL l [] with
  | none => ([], false)
  | some out => (out ++ [lastA l.length], decide (checkV (out ++ [lastA l.length]) = 0))
theorem madeL_len : ∀ {l : List (List tAtom)} {out o : List tAtom}, madeL l out = some o → out.length < 1024 → o.length < 1024
  | [], out, o, h, ho => by cases h; exact ho
  | v :: r, out, o, h, ho => by
    rw [madeL] at h
    split at h
    · cases h
    · exact madeL_len h (by rw [List.length_append]; omega)
theorem madeV_len (l : List (List tAtom)) : (madeV l).1.length ≤ 1024 := by
  unfold madeV
  split
  · simp
  · rename_i o h
    have := madeL_len h (by decide)
    simp; omega

/-! lists -/
noncomputable def listV (l : List (List tAtom)) : List tAtom × Int :=
  if 4096 < l.length then ([], 3) else if firstV l ≠ 0 then ([], firstV l) else if (madeV l).2 = true then ((madeV l).1, 0) else ([], 3)
theorem sizes_lt {l : List (List tAtom)} (h : vsizes l) : l.length < 4611686018427387904 ∧ ∀ v ∈ l, v.length < 4611686018427387904 := by
  refine ⟨by have := h.1; omega, fun v hv => ?_⟩
  have := h.2 v hv; omega
theorem listV_len (l : List (List tAtom)) : (listV l).1.length ≤ 1024 := by
  unfold listV
  have := madeV_len l
  split
  · simp
  · split
    · simp
    · split
      · exact this
      · simp

/-! members handed out -/
open Classical in
noncomputable def membersV (v : List tAtom) : List (List tAtom) × Int :=
  if h : ∃ t, isV t v then (if h.choose.a.1 = 3 then (h.choose.ts.map flat, 0) else ([], 7)) else ([], checkV v)
theorem membersV_of {t : Tr tAtom} {v : List tAtom} (h : isV t v) : membersV v = if t.a.1 = 3 then (t.ts.map flat, 0) else ([], 7) := by
  unfold membersV
  have hex : ∃ t, isV t v := ⟨t, h⟩
  rw [dif_pos hex, isV_inj hex.choose_spec h]
theorem membersV_no {v : List tAtom} (h : checkV v ≠ 0) : membersV v = ([], checkV v) := by
  unfold membersV
  rw [dif_neg (fun ⟨t, ht⟩ => h (checkV_of ht))]
theorem membersV_len (v : List tAtom) : (membersV v).1.length ≤ 1024 ∧ ∀ y ∈ (membersV v).1, y.length ≤ 1024 := by
  by_cases h : checkV v = 0
  · obtain ⟨t, ht⟩ := checkV_ok h
    rw [membersV_of ht]
    have hlen := len_flats t.ts
    obtain ⟨_, h2⟩ := isV_top ht
    have := ht.1
    split
    · refine ⟨by simp; omega, fun y hy => ?_⟩
      obtain ⟨u, hu, rfl⟩ := List.mem_map.1 hy
      have := flat_le u hu
      omega
    · simp
  · rw [membersV_no h]; simp

end Go.Eng
