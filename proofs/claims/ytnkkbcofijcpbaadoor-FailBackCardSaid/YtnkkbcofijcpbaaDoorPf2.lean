/- A part of the proof: Pf2. -/
import Derived.Test.YtnkkbcofijcpbaaDoorPf1
namespace Go.Eng
set_option linter.unusedVariables false
set_option linter.unusedSimpArgs false
def stepB (i : Int) (c : tCrack) (st : List Int) : Option (Int × List Int) :=
  if crackS c = true ∧ c.2.1 ≤ (st.length : Int) then
    (if 0 < c.2.1 then some (st.getD (st.length - c.2.1.toNat) 0, st.take (st.length - c.2.1.toNat) ++ [st.getD (st.length - c.2.1.toNat) 0]) else some (i, st ++ [i]))
  else none
def begF : List tCrack → Nat → List Int → List Int → List Int × Bool
  | [], _, fr, st => (fr, decide (st.length = 1))
  | c :: r, i, fr, st => match stepB i c st with
    | some (b, st') => begF r (i + 1) (fr ++ [b]) st'
    | none => ([], false)
theorem nat_sub {a : Nat} {n : Int} (h0 : 0 ≤ n) (h : n ≤ (a : Int)) (ha : a < 4611686018427387904) : w64 ((a : Int) - n) = ((a - n.toNat : Nat) : Int) := by
  rw [w64_eq (by omega) (by omega)]; omega
theorem set_app (fr : List Int) (x y : Int) (d : Nat) (i : Nat) (h : fr.length = i) (r : List Int) : (fr ++ y :: r).set i x = (fr ++ [x]) ++ r := by
  subst h; simp
theorem failBeg_loop (f : List tCrack) (hf : f.length < 1000000000000) : ∀ (d i : Nat) (fr st : List Int), i + d = f.length → fr.length = i → st.length ≤ i →
    iter st_fail_begins (.l3 (fr ++ List.replicate d 0) st f (f.length : Int) (i : Int)) = some (begF (f.drop i) i fr st)
  | 0, i, fr, st, hi, h1, h2 => by
    rw [iter_eq']
    have hd : f.drop i = [] := List.drop_eq_nil_of_le (by omega)
    have : ¬ (i : Int) < (f.length : Int) := by omega
    have e : decide ((st.length : Int) = 1) = decide (st.length = 1) := by
      by_cases h : st.length = 1
      · rw [decide_eq_true h, decide_eq_true (by omega)]
      · rw [decide_eq_false h, decide_eq_false (by omega)]
    simp only [st_fail_begins, sg_fail_begins_3, this, decide_false, Bool.false_eq_true, if_false, hd, begF, runL, e, List.replicate_zero, List.append_nil]
  | d + 1, i, fr, st, hi, h1, h2 => by
    rw [iter_eq']
    obtain ⟨c, r, hL⟩ := drop_ex (show i < f.length by omega)
    obtain ⟨hc, hr, hlen⟩ := drop_cons (d := dCrack) hL
    have hlt : (i : Int) < (f.length : Int) := by omega
    have hG : 0 ≤ (i : Int) ∧ (i : Int) < (f.length : Int) := ⟨by omega, hlt⟩
    have e6 : w64 ((i : Int) + 1) = ((i + 1 : Nat) : Int) := w64_eq (by omega) (by omega)
    have ec : fail_well (c.1, c.2.1, c.2.2.1, ()) = some (crackS c) := well_eq c
    rw [hL, begF, List.replicate_succ]
    have hset : ∀ x y : Int, (fr ++ y :: List.replicate d 0).set i x = (fr ++ [x]) ++ List.replicate d 0 := fun x y => set_app fr x y d i h1 _
    have hset2 : ∀ x y : Int, ((fr ++ [y]) ++ List.replicate d 0).set i x = (fr ++ [x]) ++ List.replicate d 0 := fun x y => by
      rw [List.append_assoc]; exact hset x y
    have hget : ∀ y : Int, ((fr ++ [y]) ++ List.replicate d 0).getD i 0 = y := by
      intro y
      rw [List.getD_eq_getElem?_getD, List.append_assoc, List.getElem?_append_right (by omega), h1]; simp
    have hl1 : ∀ y : Int, ((fr ++ [y]) ++ List.replicate d (0 : Int)).length = f.length := fun y => by simp; omega
    have hl2 : (fr ++ (0 : Int) :: List.replicate d (0 : Int)).length = f.length := by simp; omega
    simp only [st_fail_begins, sg_fail_begins_3, decide_eq_true_eq, if_pos hlt, G_pos hG, Int.toNat_natCast, hc, ec, Option.bind_some, hset, hset2, hl1, hl2]
    have tail : ∀ (b : Int) (k n : Int) (t : List UInt8) (m : Nat), 0 ≤ n → n ≤ (st.length : Int) → m = st.length - n.toNat →
        iter st_fail_begins (.l10 ((fr ++ [b]) ++ List.replicate d 0) st (i : Int) k n t f (f.length : Int) (i : Int)) = some (begF r (i + 1) (fr ++ [b]) (st.take m ++ [b])) := by
      intro b k n t m hn0 hn1 hm
      subst hm
      rw [iter_eq']
      have ew := nat_sub hn0 hn1 (by omega)
      have hG3 : 0 ≤ ((st.length - n.toNat : Nat) : Int) ∧ ((st.length - n.toNat : Nat) : Int) ≤ (st.length : Int) := by omega
      simp only [st_fail_begins, sg_fail_begins_10, e6, ew, G_pos hG3, Int.toNat_natCast, hget]
      rw [G_pos (by rw [hl1]; exact hG), G_pos (by simp only [List.length_singleton]; omega)]
      show iter _ _ = _
      rw [failBeg_loop f hf d (i + 1) (fr ++ [b]) _ (by omega) (by simp [h1]) (by simp; omega), hr]
    unfold stepB
    cases hk : crackS c with
    | false => simp [runL]
    | true =>
      have hp := crackS_pos hk
      by_cases hn : c.2.1 ≤ (st.length : Int)
      · have hn' : ¬ (st.length : Int) < c.2.1 := by omega
        simp only [Bool.not_true, Bool.false_or, decide_eq_true_eq, if_neg hn', true_and, if_pos hn]
        by_cases hz : 0 < c.2.1
        · have ew := nat_sub hp hn (by omega)
          have hG2 : 0 ≤ ((st.length - c.2.1.toNat : Nat) : Int) ∧ ((st.length - c.2.1.toNat : Nat) : Int) < (st.length : Int) := by omega
          simp only [if_pos hz, ew, G_pos hG2, Int.toNat_natCast]
          exact tail _ _ _ _ _ hp hn rfl
        · simp only [if_neg hz]
          have h0 : c.2.1 = 0 := by omega
          have := tail (i : Int) c.1 c.2.1 c.2.2.1 st.length hp hn (by rw [h0]; rfl)
          rw [List.take_length] at this
          exact this
      · have hn' : (st.length : Int) < c.2.1 := by omega
        simp only [Bool.not_true, Bool.false_or, decide_eq_true_eq, if_pos hn', true_and, if_neg hn]
        rfl
theorem failBeg_eq (f : List tCrack) (hf : f.length < 1000000000000) : fail_begins f = some (begF f 0 [] []) := by
  unfold fail_begins en_fail_begins
  rw [G_pos ⟨by omega, by omega, by omega⟩]
  show iter _ _ = _
  have := failBeg_loop f hf f.length 0 [] [] (by omega) rfl (by simp)
  simpa using this
def checkS (f : List tCrack) : Int := if 1024 < f.length then 3 else if (begF f 0 [] []).2 = true then 0 else 5
theorem check_eq (f : List tCrack) : fail_Check f = some (checkS f) := by
  unfold fail_Check checkS
  by_cases h : 1024 < f.length
  · rw [if_pos h, if_pos (by simp only [decide_eq_true_eq]; omega)]
  · rw [if_neg h, if_neg (by simp only [decide_eq_true_eq]; omega), failBeg_eq f (by omega)]
    cases e : (begF f 0 [] []).2 <;> simp [e]
end Go.Eng
