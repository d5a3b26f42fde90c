/- A part of the proof: Pt7. -/
import Derived.Test.YthgemanfbanhnaaDoorPt6
namespace Go.Eng
set_option linter.unusedVariables false
set_option linter.unusedSimpArgs false

theorem wText_len (t : tToken) (ht : okTok t) : (wText t).length ≤ 4194400 := by
  have h1 := ht.1
  have h2 := decS_len t.2.2.1.toNat
  have h3 := quoteT_len t.2.2.2.1
  unfold wText
  split
  · simp only [List.length_cons]; omega
  · split
    · omega
    · split <;> omega
theorem tail_len {B : Nat} : ∀ (r : List (List UInt8)), (∀ x ∈ r, x.length ≤ B) → (Lib.joinTail [32] r).length ≤ r.length * (B + 1)
  | [], _ => by simp [Lib.joinTail]
  | x :: r, h => by
    have h1 := h x (by simp)
    have h2 := tail_len r (fun y hy => h y (by simp [hy]))
    unfold Lib.joinTail at h2 ⊢
    rw [List.map_cons, List.flatten_cons, List.length_append, List.length_append]
    simp only [List.length_cons, List.length_nil] at h2 ⊢
    rw [Nat.add_mul, Nat.one_mul]; omega
theorem join_len {B : Nat} : ∀ (r : List (List UInt8)), (∀ x ∈ r, x.length ≤ B) → (Lib.join r [32]).length ≤ r.length * (B + 1)
  | [], _ => by simp [Lib.join_nil]
  | x :: r, h => by
    have h1 := h x (by simp)
    have h2 := tail_len r (fun y hy => h y (by simp [hy]))
    rw [Lib.join_cons, List.length_append, List.length_cons, Nat.add_mul, Nat.one_mul]; omega
def layS (l : List tToken) : List UInt8 × Int := if 8192 < l.length then ([], 3) else if l.all rightS = true then (Lib.join (l.map wText) [32], 0) else ([], 5)
theorem eta_tok (c : tToken) : ((c.1, c.2.1, c.2.2.1, c.2.2.2.1, ()) : tToken) = c := rfl
theorem lay_loop (l : List tToken) (hl : l.length ≤ 8192) (ho : ∀ t ∈ l, okTok t) : ∀ (d i : Nat), i + d = l.length → iter st_lex_Lay (.l5 ((l.take i).map wText) l (l.length : Int) (i : Int)) = some (if (l.drop i).all rightS = true then (Lib.join (l.map wText) [32], 0) else ([], 5))
  | 0, i, hi => by
    rw [iter_eq']
    have hd : l.drop i = [] := List.drop_eq_nil_of_le (by omega)
    have ht : l.take i = l := List.take_of_length_le (by omega)
    have h1 : ¬ (i : Int) < (l.length : Int) := by omega
    have hj := join_len (B := 4194400) (l.map wText) (fun x hx => by obtain ⟨t, hm, rfl⟩ := List.mem_map.1 hx; exact wText_len t (ho t hm))
    rw [List.length_map] at hj
    have hb : l.length * (4194400 + 1) ≤ 8192 * (4194400 + 1) := Nat.mul_le_mul_right _ hl
    simp only [st_lex_Lay, sg_lex_Lay_5, h1, decide_false, Bool.false_eq_true, if_false, hd, ht, List.all_nil, if_true, strings_Join]
    rw [G_pos (show (l.map wText).length ≤ 140737488355328 ∧ (Lib.join (l.map wText) [32]).length ≤ 140737488355328 from ⟨by rw [List.length_map]; omega, by omega⟩)]; rfl
  | d + 1, i, hi => by
    rw [iter_eq']
    obtain ⟨c, r, hL⟩ := drop_ex (show i < l.length by omega)
    obtain ⟨hc, hr, hlen⟩ := drop_cons (d := dToken) hL
    have hlt : (i : Int) < (l.length : Int) := by omega
    have hG : 0 ≤ (i : Int) ∧ (i : Int) < (l.length : Int) := ⟨by omega, hlt⟩
    have e6 : w64 ((i : Int) + 1) = ((i + 1 : Nat) : Int) := w64_eq (by omega) (by omega)
    have hmem : c ∈ l := List.mem_of_mem_drop (i := i) (by rw [hL]; simp)
    obtain ⟨x, hx, hx2⟩ := written_eq c (ho c hmem)
    simp only [st_lex_Lay, sg_lex_Lay_5, decide_eq_true_eq, if_pos hlt, G_pos hG, Int.toNat_natCast, hc, e6, eta_tok, hx, Option.bind_some]
    rw [hL, List.all_cons]
    cases hrt : rightS c with
    | false => rfl
    | true =>
      simp only [Bool.not_true, Bool.false_eq_true, if_false, Bool.true_and]
      have := hx2 hrt
      subst this
      have hlt2 : (l.take i).length ≤ 8192 := by rw [List.length_take]; omega
      rw [G_pos (show (((l.take i).map wText).length + ([wText c] : List (List UInt8)).length) * 16 ≤ 140737488355328 from by simp only [List.length_map, List.length_cons, List.length_nil]; omega)]
      show iter _ _ = _
      have ht : (l.take i).map wText ++ [wText c] = (l.take (i + 1)).map wText := by
        rw [List.take_add_one, ← List.head?_drop, hL, List.map_append]; rfl
      rw [ht, lay_loop l hl ho d (i + 1) (by omega), hr]
theorem Lay_eq (l : List tToken) (ho : ∀ t ∈ l, okTok t) : lex_Lay l = some (layS l) := by
  unfold lex_Lay en_lex_Lay layS
  have h8 : ((8192 : Int) < (l.length : Int)) = (8192 < l.length) := by apply propext; omega
  simp only [decide_eq_true_eq, h8]
  by_cases h : 8192 < l.length
  · rw [if_pos h, if_pos h]; rfl
  · rw [if_neg h, if_neg h]
    show iter _ _ = _
    exact lay_loop l (by omega) ho l.length 0 (by omega)

/-! the reference -/
theorem ref12 (l : List tToken) (out : List UInt8) (i : Nat) (hi : i < 8192) (c : tToken) (hc : okTok c) (hr : rightS c = true) (hout : out.length ≤ 100000000000) :
    iter st_ref01_Lay (.l12 l out (i : Int) c.1 c.2.1 c.2.2.1 c.2.2.2.1) = iter st_ref01_Lay (.l5 l (out ++ wText c) ((i + 1 : Nat) : Int)) := by
  rw [iter_eq']
  have e6 : w64 ((i : Int) + 1) = ((i + 1 : Nat) : Int) := w64_eq (by omega) (by omega)
  obtain ⟨c1, c2, c3⟩ := hc
  simp only [st_ref01_Lay, sg_ref01_Lay_12, decide_eq_true_eq, e6]
  unfold wText
  by_cases h3 : c.1 = 3
  · rw [if_pos h3, if_pos h3, G_pos (show ([36] : List UInt8).length + c.2.2.2.1.length ≤ 9223372036854775807 from by simp only [List.length_cons, List.length_nil]; omega), G_pos (show out.length + (([36] : List UInt8) ++ c.2.2.2.1).length ≤ 140737488355328 from by simp only [List.length_append, List.length_cons, List.length_nil]; omega)]
    rfl
  · rw [if_neg h3, if_neg h3]
    by_cases h4 : c.1 = 4
    · rw [if_pos h4, if_pos h4]
      unfold rightS at hr
      rw [if_neg (by omega), if_neg (by omega), if_neg (by omega), if_pos h4] at hr
      simp only [Bool.and_eq_true, decide_eq_true_eq] at hr
      obtain ⟨m, hm⟩ : ∃ m : Nat, c.2.2.1 = (m : Int) := ⟨c.2.2.1.toNat, by omega⟩
      have hd := decS_len m
      rw [hm, itoa_eq m (by omega), Int.toNat_natCast, Option.bind_some, G_pos (show out.length + (decS m).length ≤ 140737488355328 by omega)]
      rfl
    · rw [if_neg h4, if_neg h4]
      by_cases h5 : c.1 = 5
      · have hq := quoteT_len c.2.2.2.1
        rw [if_pos h5, if_pos h5, refQuote_eq _ (by omega), Option.bind_some, G_pos (show out.length + (quoteT c.2.2.2.1).length ≤ 140737488355328 by omega)]
        rfl
      · rw [if_neg h5, if_neg h5, G_pos (show out.length + c.2.2.2.1.length ≤ 140737488355328 by omega)]
        rfl
theorem refLay_loop (l : List tToken) (hl : l.length ≤ 8192) (ho : ∀ t ∈ l, okTok t) : ∀ (d i : Nat) (out : List UInt8), i + d = l.length → 1 ≤ i → out.length ≤ i * 4194402 →
    iter st_ref01_Lay (.l5 l out (i : Int)) = some (if (l.drop i).all rightS = true then (out ++ Lib.joinTail [32] ((l.drop i).map wText), 0) else ([], 5))
  | 0, i, out, hi, h1i, hout => by
    rw [iter_eq']
    have hd : l.drop i = [] := List.drop_eq_nil_of_le (by omega)
    have h1 : ¬ (i : Int) < (l.length : Int) := by omega
    simp only [st_ref01_Lay, sg_ref01_Lay_5, h1, decide_false, Bool.false_eq_true, if_false, hd, List.all_nil, if_true, List.map_nil]
    show some (out, (0 : Int)) = _
    simp [Lib.joinTail]
  | d + 1, i, out, hi, h1i, hout => by
    rw [iter_eq']
    obtain ⟨c, r, hL⟩ := drop_ex (show i < l.length by omega)
    obtain ⟨hc, hr, hlen⟩ := drop_cons (d := dToken) hL
    have hlt : (i : Int) < (l.length : Int) := by omega
    have hG : 0 ≤ (i : Int) ∧ (i : Int) < (l.length : Int) := ⟨by omega, hlt⟩
    have hmem : c ∈ l := List.mem_of_mem_drop (i := i) (by rw [hL]; simp)
    have hpos : (0 : Int) < (i : Int) := by omega
    have hb : i * 4194402 ≤ 8192 * 4194402 := Nat.mul_le_mul_right _ (by omega)
    have hwl := wText_len c (ho c hmem)
    simp only [st_ref01_Lay, sg_ref01_Lay_5, decide_eq_true_eq, if_pos hlt, G_pos hG, Int.toNat_natCast, hc, eta_tok, refRight_eq c (ho c hmem), Option.bind_some, if_pos hpos]
    rw [hL, List.all_cons]
    cases hrt : rightS c with
    | false => rfl
    | true =>
      simp only [Bool.not_true, Bool.false_eq_true, if_false, Bool.true_and]
      rw [G_pos (show (out.length + ([(32 : UInt8)] : List UInt8).length) * 1 ≤ 140737488355328 from by simp only [List.length_cons, List.length_nil]; omega)]
      show iter _ _ = _
      rw [ref12 l _ i (by omega) c (ho c hmem) hrt (by simp only [List.length_append, List.length_cons, List.length_nil]; omega), refLay_loop l hl ho d (i + 1) _ (by omega) (by omega) (by simp only [List.length_append, List.length_cons, List.length_nil]; omega), hr]
      simp only [Lib.joinTail, List.map_cons, List.flatten_cons, List.append_assoc]
theorem refLay_eq (l : List tToken) (ho : ∀ t ∈ l, okTok t) : ref01_Lay l = some (layS l) := by
  unfold ref01_Lay en_ref01_Lay layS
  have h8 : ((8192 : Int) < (l.length : Int)) = (8192 < l.length) := by apply propext; omega
  simp only [decide_eq_true_eq, h8]
  by_cases h : 8192 < l.length
  · rw [if_pos h, if_pos h]; rfl
  · rw [if_neg h, if_neg h]
    show iter _ _ = _
    rw [iter_eq']
    cases l with
    | nil => rfl
    | cons c r =>
      have hlt : (0 : Int) < ((c :: r).length : Int) := by simp only [List.length_cons]; omega
      have hc := ho c (by simp)
      have hwl := wText_len c hc
      have hg0 : (c :: r).getD 0 dToken = c := rfl
      simp only [st_ref01_Lay, sg_ref01_Lay_5, decide_eq_true_eq, if_pos hlt, G_pos (show 0 ≤ (0 : Int) ∧ (0 : Int) < ((c :: r).length : Int) from ⟨by omega, hlt⟩), Int.toNat_zero, hg0, eta_tok, refRight_eq c hc, Option.bind_some, List.all_cons]
      by_cases hrt : rightS c = true
      rotate_left
      · have hrt : rightS c = false := by simpa using hrt
        simp only [hrt, Bool.not_false, if_true, Bool.false_and, Bool.false_eq_true, if_false]; rfl
      · simp only [hrt, Bool.not_true, Bool.false_eq_true, if_false, Bool.true_and]
        rw [if_neg (show ¬ (0 : Int) < 0 by omega)]
        show iter _ _ = _
        have := ref12 (c :: r) [] 0 (by omega) c hc hrt (by simp)
        rw [show ((0 : Nat) : Int) = 0 from rfl] at this
        rw [this, refLay_loop (c :: r) (by omega) ho r.length 1 _ (by simp only [List.length_cons]; omega) (by omega) (by rw [List.nil_append]; omega)]
        simp only [List.nil_append, List.drop_succ_cons, List.drop_zero, List.map_cons, Lib.join_cons]
theorem LexLays_pure (l : List tToken) (hl : l.length ≤ 1048576) (ho : ∀ t ∈ l, okTok t) : law01_LexLays l = some true := by
  unfold law01_LexLays
  rw [G_pos (show (([] : List tToken).length + l.length) * 40 ≤ 140737488355328 from by simp only [List.length_nil]; omega), Lay_eq l ho, refLay_eq l ho]
  simp only [Option.bind_some, decide_true, Bool.and_self, if_true, toksame_eq l l (by omega)]
end Go.Eng
