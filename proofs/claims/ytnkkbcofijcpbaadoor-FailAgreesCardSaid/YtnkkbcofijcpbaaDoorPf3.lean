/- A part of the proof: Pf3. -/
import Derived.Test.YtnkkbcofijcpbaaDoorPf2
namespace Go.Eng
set_option linter.unusedVariables false
set_option linter.unusedSimpArgs false
def mxL : List Int → Int
  | [] => 0
  | x :: r => max x (mxL r)
theorem mxL_nn : ∀ l : List Int, 0 ≤ mxL l
  | [] => by simp [mxL]
  | x :: r => by have := mxL_nn r; simp only [mxL]; omega
theorem mxL_le {m : Int} (hm : 0 ≤ m) : ∀ {l : List Int}, (∀ x ∈ l, x ≤ m) → mxL l ≤ m
  | [], _ => by simpa [mxL] using hm
  | x :: r, h => by
    have h1 := h x (by simp)
    have h2 := mxL_le hm (l := r) (fun y hy => h y (by simp [hy]))
    simp only [mxL]; omega
def depF : List tCrack → List Int → List Int
  | [], st => st
  | c :: r, st => depF r (st.take (st.length - c.2.1.toNat) ++ [mxL (st.drop (st.length - c.2.1.toNat)) + 1])
def okF : List tCrack → Nat → Prop
  | [], n => n = 1
  | c :: r, n => crackS c = true ∧ c.2.1 ≤ (n : Int) ∧ okF r (n - c.2.1.toNat + 1)
theorem okF_of : ∀ (r : List tCrack) (i : Nat) (fr st : List Int), (begF r i fr st).2 = true → okF r st.length
  | [], i, fr, st, h => by simpa [begF, okF] using h
  | c :: r, i, fr, st, h => by
    simp only [begF] at h
    cases hs : stepB i c st with
    | none => rw [hs] at h; cases h
    | some p =>
      obtain ⟨b, st'⟩ := p
      rw [hs] at h
      have h2 := okF_of r (i + 1) _ st' h
      unfold stepB at hs
      split at hs
      · rename_i hc
        have hp := crackS_pos hc.1
        refine ⟨hc.1, hc.2, ?_⟩
        split at hs
        · simp only [Option.some.injEq, Prod.mk.injEq] at hs
          obtain ⟨_, rfl⟩ := hs
          rw [List.length_append, List.length_take, List.length_singleton, Nat.min_eq_left (by omega)] at h2
          exact h2
        · simp only [Option.some.injEq, Prod.mk.injEq] at hs
          obtain ⟨_, rfl⟩ := hs
          have : c.2.1.toNat = 0 := by omega
          rw [this, Nat.sub_zero]
          simpa using h2
      · cases hs
theorem okF_check {f : List tCrack} (h : checkS f = 0) : okF f 0 ∧ f.length ≤ 1024 := by
  unfold checkS at h
  split at h
  · cases h
  · split at h
    · rename_i h1 h2; exact ⟨okF_of f 0 [] [] h2, by omega⟩
    · cases h
def within (m : Int) (st : List Int) : Prop := ∀ x ∈ st, 0 ≤ x ∧ x ≤ m
theorem within_step {m : Int} {st : List Int} (h : within m st) (hm : 0 ≤ m) (k : Nat) : within (m + 1) (st.take k ++ [mxL (st.drop k) + 1]) := by
  intro x hx
  rcases List.mem_append.1 hx with hx | hx
  · have := h x (List.mem_of_mem_take hx); omega
  · have h1 := mxL_nn (st.drop k)
    have h2 := mxL_le hm (l := st.drop k) (fun y hy => (h y (List.mem_of_mem_drop hy)).2)
    simp only [List.mem_singleton] at hx
    omega
theorem deep_loop (f : List tCrack) (hf : f.length ≤ 1024) : ∀ (d i : Nat) (st : List Int), i + d = f.length → okF (f.drop i) st.length → st.length ≤ i → within i st →
    iter st_fail_Deep (.l6 st f (f.length : Int) (i : Int)) = some ((depF (f.drop i) st).getD 0 0, 0)
  | 0, i, st, hi, hok, hl, hw => by
    rw [iter_eq']
    have hd : f.drop i = [] := List.drop_eq_nil_of_le (by omega)
    have : ¬ (i : Int) < (f.length : Int) := by omega
    rw [hd] at hok ⊢
    have hok : st.length = 1 := hok
    have hG : 0 ≤ (0 : Int) ∧ (0 : Int) < (st.length : Int) := ⟨by omega, by omega⟩
    simp only [st_fail_Deep, sg_fail_Deep_6, this, decide_false, Bool.false_eq_true, if_false, G_pos hG]
    rfl
  | d + 1, i, st, hi, hok, hl, hw => by
    rw [iter_eq']
    obtain ⟨c, r, hL⟩ := drop_ex (show i < f.length by omega)
    obtain ⟨hc, hr, hlen⟩ := drop_cons (d := dCrack) hL
    have hlt : (i : Int) < (f.length : Int) := by omega
    have hG : 0 ≤ (i : Int) ∧ (i : Int) < (f.length : Int) := ⟨by omega, hlt⟩
    have e6 : w64 ((i : Int) + 1) = ((i + 1 : Nat) : Int) := w64_eq (by omega) (by omega)
    rw [hL] at hok ⊢
    obtain ⟨o1, o2, o3⟩ := hok
    have hp := crackS_pos o1
    have ew := nat_sub hp o2 (by omega)
    have hG3 : 0 ≤ ((st.length - c.2.1.toNat : Nat) : Int) ∧ ((st.length - c.2.1.toNat : Nat) : Int) ≤ (st.length : Int) := by omega
    simp only [st_fail_Deep, sg_fail_Deep_6, decide_eq_true_eq, if_pos hlt, G_pos hG, Int.toNat_natCast, hc, ew, G_pos hG3]
    obtain ⟨k, hk⟩ : ∃ k, k = st.length - c.2.1.toNat := ⟨_, rfl⟩
    obtain ⟨N, hN⟩ : ∃ N, N = st.length - k := ⟨_, rfl⟩
    rw [depF, ← hk]
    have hin : ∀ (m j : Nat) (n : Int), j + m = N → 0 ≤ n → n ≤ i →
        iter st_fail_Deep (.l10 st (k : Int) n f (f.length : Int) (i : Int) k N (N : Int) (j : Int)) = iter st_fail_Deep (.l6 (st.take k ++ [max n (mxL (st.drop (k + j))) + 1]) f (f.length : Int) ((i + 1 : Nat) : Int)) := by
      intro m
      induction m with
      | zero =>
        intro j n hj hn0 hn1
        rw [iter_eq']
        have h1 : ¬ (j : Int) < (N : Int) := by omega
        have h2 : st.drop (k + j) = [] := List.drop_eq_nil_of_le (by omega)
        have h3 : w64 (n + 1) = max n (mxL (st.drop (k + j))) + 1 := by
          rw [h2]; simp only [mxL]
          rw [w64_eq (by omega) (by omega)]; omega
        have hG4 : 0 ≤ (k : Int) ∧ (k : Int) ≤ (st.length : Int) := by omega
        simp only [st_fail_Deep, sg_fail_Deep_10, h1, decide_false, Bool.false_eq_true, if_false, G_pos hG4, Int.toNat_natCast, h3, e6]
        rw [G_pos (by simp only [List.length_singleton]; omega)]
        rfl
      | succ m ih =>
        intro j n hj hn0 hn1
        rw [iter_eq']
        have h1 : (j : Int) < (N : Int) := by omega
        have hG4 : 0 ≤ (j : Int) ∧ (j : Int) < (N : Int) := by omega
        obtain ⟨x, rest, hL2⟩ := drop_ex (show k + j < st.length by omega)
        obtain ⟨hx, hr2, _⟩ := drop_cons (d := (0 : Int)) hL2
        have hxm : x ∈ st := List.mem_of_mem_drop (by rw [hL2]; simp)
        have hxw := hw x hxm
        have e7 : w64 ((j : Int) + 1) = ((j + 1 : Nat) : Int) := w64_eq (by omega) (by omega)
        simp only [st_fail_Deep, sg_fail_Deep_10, decide_eq_true_eq, if_pos h1, G_pos hG4, Int.toNat_natCast, hx, e7]
        show iter _ _ = _
        rw [ih (j + 1) _ (by omega) (by unfold mxI; split <;> omega) (by unfold mxI; split <;> omega), hL2, show k + (j + 1) = k + j + 1 by omega, hr2, mxI_eq]
        simp only [mxL]
        rw [show max (max n x) (mxL rest) = max n (max x (mxL rest)) by omega]
    have h0 := hin N 0 0 (by omega) (by omega) (by omega)
    have hNc : ((st.length - k : Nat) : Int) = (N : Int) := by rw [hN]
    show iter _ _ = _
    rw [← hN]
    rw [show ((0 : Nat) : Int) = 0 from rfl] at h0
    rw [h0, Nat.add_zero]
    have hmx : max 0 (mxL (st.drop k)) = mxL (st.drop k) := by have := mxL_nn (st.drop k); omega
    rw [hmx]
    have hkl : k ≤ st.length := by omega
    rw [deep_loop f hf d (i + 1) _ (by omega) (by rw [hr, List.length_append, List.length_take, List.length_singleton, Nat.min_eq_left hkl, hk]; exact o3) (by simp; omega) (by exact_mod_cast within_step hw (by omega) k), hr]
def deepS (f : List tCrack) : Int × Int := if checkS f = 0 then ((depF f []).getD 0 0, 0) else (0, checkS f)
theorem deep_eq (f : List tCrack) : fail_Deep f = some (deepS f) := by
  unfold fail_Deep en_fail_Deep deepS
  rw [check_eq]
  simp only [Option.bind_some]
  by_cases h : checkS f = 0
  · obtain ⟨h1, h2⟩ := okF_check h
    simp only [h, decide_true, Bool.not_true, Bool.false_eq_true, if_false, if_true]
    show iter _ _ = _
    have := deep_loop f h2 f.length 0 [] (by omega) h1 (by simp) (fun x hx => by simp at hx)
    simpa using this
  · simp only [h, decide_false, Bool.not_false, if_true, if_false]; rfl
end Go.Eng
