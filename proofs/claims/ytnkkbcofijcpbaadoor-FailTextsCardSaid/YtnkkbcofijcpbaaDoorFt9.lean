/- A part of the proof: Ft9. -/
import Derived.Test.YtnkkbcofijcpbaaDoorFt8
namespace Go.Eng
set_option linter.unusedVariables false
set_option linter.unusedSimpArgs false
abbrev RcT := List UInt8 → Int → Int → Option RfS
theorem rf_no {s : List UInt8} {p : Nat} : rfRel s p none (([] : List tCrack), (0 : Int), false) := ⟨Nat.zero_le _, rfl⟩
theorem rf_leaf {s : List UInt8} {p n : Nat} (k : Int) (t : List UInt8) (h : p + 1 ≤ s.length) : rfRel s p (some (leafT k t, n)) ([(k, 0, t, ())], ((p + n : Nat) : Int), true) :=
  ⟨by simp only [List.length_cons, List.length_nil]; omega, .inl ⟨rfl, rfl, rfl⟩⟩
theorem rf_one {s : List UInt8} {p p1 n : Nat} (hp : p1 = p + n) (hn : 1 ≤ n) (hl : p1 ≤ s.length) (kk : Int) (t : List UInt8) {o : Option (TF × Nat)} {res : RfS} (h : rfRel s p1 o res) : rfRel s p (oneF kk t n o) (res.1 ++ [(kk, 1, t, ())], res.2.1, res.2.2) := by
  obtain ⟨h1, h2⟩ := h
  refine ⟨by simp only [List.length_append, List.length_cons, List.length_nil]; omega, ?_⟩
  cases o with
  | none => exact h2
  | some q =>
    obtain ⟨x, a⟩ := q
    rcases h2 with ⟨r1, r2, r3⟩ | ⟨r1, r2⟩
    · left
      refine ⟨r1, ?_, ?_⟩
      · show res.1 ++ _ = _
        rw [r2, flat_node]; simp [flats]
      · show res.2.1 = _
        rw [r3]; congr 1; omega
    · right
      refine ⟨r1, ?_⟩
      rw [flat_node]
      simp only [flats, List.length_append, List.append_nil]; omega
theorem space_eq (s : List UInt8) (q : Nat) : (decide ((s.length : Int) ≤ (q : Int)) || !decide (((s.getD q 0).toNat : Int) = 32)) = !decide ((s.drop q).take 1 = [32]) := by
  by_cases hlt : q < s.length
  · obtain ⟨c, r, hL⟩ := drop_ex hlt
    obtain ⟨hc, hr, hlen⟩ := drop_cons (d := (0 : UInt8)) hL
    rw [hc, hL, decide_eq_false (show ¬ (s.length : Int) ≤ (q : Int) by omega), Bool.false_or]
    congr 1
    apply decide_eq_decide.2
    simp only [List.take_succ_cons, List.take_zero, List.cons.injEq, and_true]
    constructor
    · intro h
      have h2 : c.toNat = 32 := by omega
      have : c = UInt8.ofNat c.toNat := by simp
      rw [this, h2]; rfl
    · rintro rfl; rfl
  · have hd : s.drop q = [] := List.drop_eq_nil_of_le (by omega)
    rw [hd, decide_eq_true (show (s.length : Int) ≤ (q : Int) by omega)]; rfl
def spC (s : List UInt8) (q : Int) (k : Option (L_ref03_parse ⊕ RfS)) : Option (L_ref03_parse ⊕ RfS) :=
  G ((!decide ((s.length : Int) ≤ q)) = true → (0 ≤ q ∧ q < (s.length : Int))) (if (decide ((s.length : Int) ≤ q) || !decide (((s.getD q.toNat 0).toNat : Int) = 32)) = true then some (.inr (([] : List tCrack), (0 : Int), false)) else k)
theorem spC_eq (s : List UInt8) (q : Nat) (k : Option (L_ref03_parse ⊕ RfS)) : spC s (q : Int) k = if (s.drop q).take 1 = [32] then k else some (.inr (([] : List tCrack), (0 : Int), false)) := by
  unfold spC
  rw [G_any (fun h => by simp only [Bool.not_eq_true', decide_eq_false_iff_not] at h; omega), Int.toNat_natCast, space_eq]
  by_cases h : (s.drop q).take 1 = [32]
  · rw [if_pos h, decide_eq_true h]; rfl
  · rw [if_neg h, decide_eq_false h]; rfl
section
variable {rc : RcT} {s : List UInt8} {at_ q deep : Int} {w : List UInt8} (hd : ¬ (1024 : Int) < deep) (hw : ref03_word s at_ = some (w, q))
include hd hw
theorem pen_0 (h : kindS w = 0) : en_ref03_parse rc s at_ deep = spC s q (some (.inr (([] : List tCrack), (0 : Int), false))) := by
  have ne : ∀ lit : List UInt8, ¬ kindS lit = 0 → decide (w = lit) = false := fun lit hl => decide_eq_false fun e => hl (e ▸ h)
  unfold en_ref03_parse
  rw [if_neg (by simpa using hd), hw, Option.bind_some]
  simp only [ax_ref03_parse_e_1, ax_ref03_parse_e_2, ax_ref03_parse_e_3, ax_ref03_parse_e_4]
  rw [ne [100, 101, 112, 116, 104] (by decide), ne [99, 108, 111, 115, 101, 100] (by decide), ne [108, 111, 110, 103] (by decide), ne [106, 111, 105, 110] (by decide), ne [102, 97, 105, 108] (by decide), ne [118, 97, 108, 117, 101] (by decide), ne [116, 111, 107, 101, 110] (by decide), ne [99, 101, 108, 108] (by decide), ne [110, 111, 110, 101] (by decide), ne [99, 121, 99, 108, 101] (by decide), ne [112, 97, 110, 105, 99] (by decide)]
  simp only [Bool.false_eq_true, if_false]
  rfl
theorem pen_leaf (h : kindS w = 6 ∨ kindS w = 7 ∨ kindS w = 11) : en_ref03_parse rc s at_ deep = some (.inr ([(kindS w, 0, [], ())], q, true)) := by
  have hl := (kindS_word w (by omega)).1
  unfold en_ref03_parse
  rw [if_neg (by simpa using hd), hw, Option.bind_some]
  rcases h with h | h | h
  all_goals
    rw [h] at hl
    subst hl
    rw [h]
    rfl
theorem pen_10 (h : kindS w = 10) : en_ref03_parse rc s at_ deep = (ref03_joined rc s q deep).bind fun t => some (.inr (t.1, t.2.1, t.2.2)) := by
  have hl := (kindS_word w (by omega)).1
  unfold en_ref03_parse
  rw [if_neg (by simpa using hd), hw, Option.bind_some]
  rw [h] at hl
  subst hl
  rfl
theorem pen_text (h : kindS w = 1 ∨ kindS w = 2) : en_ref03_parse rc s at_ deep = spC s q ((ref03_text s (w64 (q + 1))).bind fun t => some (.inr ([(kindS w, 0, t.1, ())], t.2.1, t.2.2))) := by
  have hl := (kindS_word w (by omega)).1
  unfold en_ref03_parse
  rw [if_neg (by simpa using hd), hw, Option.bind_some]
  rcases h with h | h
  all_goals
    rw [h] at hl
    subst hl
    rw [h]
    rfl
theorem pen_word (h : kindS w = 3 ∨ kindS w = 4 ∨ kindS w = 5) : ∃ k' : Int, en_ref03_parse rc s at_ deep = spC s q ((ref03_word s (w64 (q + 1))).bind fun t => some (.inl (.l30 w t.1 t.2 k'))) ∧ ∀ (t : List UInt8) (n : Int), sg_ref03_parse_30 rc w t n k' = some (.inr ([(kindS w, 0, t, ())], n, true)) := by
  have hl := (kindS_word w (by omega)).1
  unfold en_ref03_parse
  rw [if_neg (by simpa using hd), hw, Option.bind_some]
  rcases h with h | h | h
  · rw [h] at hl; subst hl; rw [h]; exact ⟨3, rfl, fun t n => rfl⟩
  · rw [h] at hl; subst hl; rw [h]; exact ⟨4, rfl, fun t n => rfl⟩
  · rw [h] at hl; subst hl; rw [h]; exact ⟨3, rfl, fun t n => rfl⟩
theorem pen_8 (h : kindS w = 8) : en_ref03_parse rc s at_ deep = spC s q ((ref03_text s (w64 (q + 1))).bind fun t => (if (!(!t.2.2)) = true then ref03_begin s t.2.1 ([58, 32] : List UInt8) else some false).bind fun b =>
    if ((!t.2.2) || (!b)) = true then some (.inr ([(8, 0, t.1, ())], t.2.1, t.2.2)) else (rc s (w64 (t.2.1 + 2)) (w64 (deep + 1))).bind fun u => G ((u.1.length + ([((8 : Int), (1 : Int), t.1, ())] : List tCrack).length) * 32 ≤ 140737488355328) (some (.inr (u.1 ++ [(8, 1, t.1, ())], u.2.1, u.2.2)))) := by
  have hl := (kindS_word w (by omega)).1
  unfold en_ref03_parse
  rw [if_neg (by simpa using hd), hw, Option.bind_some]
  rw [h] at hl
  subst hl
  rfl
theorem pen_9 (h : kindS w = 9) : en_ref03_parse rc s at_ deep = spC s q ((ref03_word s (w64 (q + 1))).bind fun t => (ref03_begin s t.2 ([58, 32] : List UInt8)).bind fun b =>
    if (!b) = true then some (.inr (([] : List tCrack), (0 : Int), false)) else (rc s (w64 (t.2 + 2)) (w64 (deep + 1))).bind fun u => G ((u.1.length + ([((9 : Int), (1 : Int), t.1, ())] : List tCrack).length) * 32 ≤ 140737488355328) (some (.inr (u.1 ++ [(9, 1, t.1, ())], u.2.1, u.2.2)))) := by
  have hl := (kindS_word w (by omega)).1
  unfold en_ref03_parse
  rw [if_neg (by simpa using hd), hw, Option.bind_some]
  rw [h] at hl
  subst hl
  rfl
end
end Go.Eng
