/- A part of the proof: Ft4. -/
import Derived.Test.YtnkkbcofijcpbaaDoorFt3
namespace Go.Eng
set_option linter.unusedVariables false
set_option linter.unusedSimpArgs false
theorem qcut_take {α : Type} (l : List α) (i n : Nat) : cut l i (i + n) = (l.drop i).take n := by
  simp [cut, List.drop_take]
theorem pre_eq (l t : List UInt8) : strings_HasPrefix l t = some (decide (l.take t.length = t)) := by
  unfold strings_HasPrefix stringslite_HasPrefix
  rw [G_any (fun h => ⟨by omega, of_decide_eq_true h⟩)]
  simp only [Option.bind_some, Int.toNat_natCast, Option.some.injEq]
  by_cases h : l.take t.length = t
  · have : (t.length : Int) ≤ (l.length : Int) := by
      have h2 := congrArg List.length h
      rw [List.length_take] at h2; omega
    rw [decide_eq_true this, Bool.true_and]
  · rw [decide_eq_false h, Bool.and_false]
abbrev FdS := Bool × (Nat × Value) × List UInt8 × Int × List tCrack × Int
def okS (s : List UInt8) (p : Nat) (v : List tCrack) (dp : Int) : FdS := (false, (0, undef), s, (p : Int), v, dp)
def panS : FdS := (true, (103, valX tystuck ()), [], 0, [], 0)
def panT : Bool × (Nat × Value) × List UInt8 × List UInt8 × Int × List tCrack × Int := (true, (103, valX tystuck ()), [], [], 0, [], 0)
theorem need_eq (s : List UInt8) (p : Nat) (v : List tCrack) (dp : Int) (ok : Bool) : fail_reader_need s (p : Int) v dp ok = some (if ok = true then okS s p v dp else panS) := by
  cases ok <;> rfl
theorem take_eq (s : List UInt8) (hs : s.length ≤ 65536) (p : Nat) (v : List tCrack) (dp : Int) (t : List UInt8) (hp : p ≤ s.length) (ht : t.length ≤ 2) :
    fail_reader_take s (p : Int) v dp t = some (if (s.drop p).take t.length = t then okS s (p + t.length) v dp else panS) := by
  unfold fail_reader_take en_fail_reader_take
  rw [G_any (by omega), Int.toNat_natCast, pre_eq, Option.bind_some, need_eq, Option.bind_some]
  by_cases h : (s.drop p).take t.length = t
  · simp only [h, decide_true, if_true, if_pos trivial, okS, Bool.false_eq_true, if_false]
    rw [w64_eq (by omega) (by omega)]; rfl
  · simp only [h, decide_false, Bool.false_eq_true, if_false, panS, if_true]
theorem has_eq (s : List UInt8) (hs : s.length ≤ 65536) (p : Nat) (v : List tCrack) (dp : Int) (t : List UInt8) (hp : p ≤ s.length) (ht : t.length ≤ 2) :
    fail_reader_has s (p : Int) v dp t = some (if (s.drop p).take t.length = t then (true, s, ((p + t.length : Nat) : Int), v, dp) else (false, s, (p : Int), v, dp)) := by
  unfold fail_reader_has en_fail_reader_has
  rw [G_any (by omega), Int.toNat_natCast, pre_eq, Option.bind_some, w64_eq (by omega) (by omega)]
  by_cases h : (s.drop p).take t.length = t
  · simp only [h, decide_true, if_true, if_pos trivial]; rfl
  · simp only [h, decide_false, Bool.false_eq_true, if_false]
theorem put_eq (s : List UInt8) (p : Nat) (v : List tCrack) (hv : v.length ≤ 1024) (dp : Int) (c : tCrack) : fail_reader_put s (p : Int) v dp c = some (if v.length < 1024 ∧ crackS c = true then okS s p (v ++ [c]) dp else panS) := by
  unfold fail_reader_put en_fail_reader_put
  have hc : ((c.1, c.2.1, c.2.2.1, ()) : tCrack) = c := rfl
  rw [hc]
  have go : ∀ (b w : Bool), (if b = true then fail_well c else some false) = some (b && crackS c) := fun b w => by
    cases b <;> simp [well_eq]
  have fin : ∀ b : Bool, (some (b && crackS c)).bind (fun t13 => (fail_reader_need s (p : Int) v dp (b && t13)).bind fun t15 => if t15.1 = true then some (true, t15.2.1, ([] : List UInt8), (0 : Int), ([] : List tCrack), (0 : Int)) else
      G ((t15.2.2.2.2.1.length + [c].length) * 32 ≤ 140737488355328) (some (false, ((0 : Nat), undef), t15.2.2.1, t15.2.2.2.1, t15.2.2.2.2.1 ++ [c], t15.2.2.2.2.2))) = some (if b = true ∧ crackS c = true then okS s p (v ++ [c]) dp else panS) := by
    intro b
    rw [Option.bind_some, need_eq, Option.bind_some]
    cases hb : b <;> cases hw : crackS c
    · rfl
    · rfl
    · rfl
    · show (if (okS s p v dp).1 = true then _ else G ((v.length + 1) * 32 ≤ 140737488355328) _) = _
      rw [if_neg (show ¬ (okS s p v dp).1 = true from Bool.false_ne_true), G_any (by omega)]; rfl
  rw [go _ true]
  have := fin (decide ((v.length : Int) < (1024 : Int)))
  rw [this]
  have e : (decide ((v.length : Int) < (1024 : Int)) = true) = (v.length < 1024) := by
    apply propext; rw [decide_eq_true_eq]; omega
  simp only [e]
theorem fword_loop (s : List UInt8) (hs : s.length ≤ 65536) (v : List tCrack) (dp : Int) (a : Nat) : ∀ (d p : Nat), p + d = s.length → a ≤ p →
    iter st_fail_reader_word (.l2 s (p : Int) v dp (a : Int)) = some (cut s a (p + wlen (s.drop p)), s, ((p + wlen (s.drop p) : Nat) : Int), v, dp)
  | 0, p, hp, ha => by
    rw [iter_eq']
    have hd : s.drop p = [] := List.drop_eq_nil_of_le (by omega)
    have b : decide ((p : Int) < (s.length : Int)) = false := decide_eq_false (by omega)
    simp only [st_fail_reader_word, sg_fail_reader_word_2, b, Bool.false_and, Bool.false_eq_true, if_false, false_implies, hd]
    rw [G_any trivial, G_any trivial, G_any trivial, G_any trivial, G_any trivial, G_any (by omega)]; rfl
  | d + 1, p, hp, ha => by
    obtain ⟨c, r, hL⟩ := drop_ex (show p < s.length by omega)
    obtain ⟨hc, hr, hlen⟩ := drop_cons (d := (0 : UInt8)) hL
    have b : decide ((p : Int) < (s.length : Int)) = true := decide_eq_true (by omega)
    have hG : 0 ≤ (p : Int) ∧ (p : Int) < (s.length : Int) := ⟨by omega, by omega⟩
    have e1 : w64 ((p : Int) + 1) = ((p + 1 : Nat) : Int) := w64_eq (by omega) (by omega)
    have hcond : (((decide (97 ≤ (c.toNat : Int)) && decide ((c.toNat : Int) ≤ 122)) || (decide (48 ≤ (c.toNat : Int)) && decide ((c.toNat : Int) ≤ 57))) || decide ((c.toNat : Int) = 95)) = isP c := rfl
    rw [iter_eq']
    simp only [st_fail_reader_word]
    unfold sg_fail_reader_word_2
    rw [G_any (fun _ => hG), G_any (fun _ => hG), G_any (fun _ => hG), G_any (fun _ => hG), G_any (fun _ => hG), Int.toNat_natCast, hc, b, Bool.true_and, hcond, e1, hL, wlen_cons]
    by_cases hi : isP c = true
    · rw [if_pos hi, if_pos hi]
      show iter _ _ = _
      rw [fword_loop s hs v dp a d (p + 1) (by omega) (by omega), hr]
      have : p + 1 + wlen r = p + (wlen r + 1) := by omega
      rw [this]
    · rw [if_neg hi, if_neg hi, G_any (by omega)]; rfl
theorem fword_eq (s : List UInt8) (hs : s.length ≤ 65536) (p : Nat) (hp : p ≤ s.length) (v : List tCrack) (dp : Int) : fail_reader_word s (p : Int) v dp = some ((s.drop p).take (wlen (s.drop p)), s, ((p + wlen (s.drop p) : Nat) : Int), v, dp) := by
  unfold fail_reader_word en_fail_reader_word
  show iter _ _ = _
  rw [fword_loop s hs v dp p (s.length - p) p (by omega) (Nat.le_refl _), qcut_take]
theorem scan_loop (s : List UInt8) (hs : s.length ≤ 65536) (a : Int) (v : List tCrack) (dp : Int) : ∀ (f p : Nat), s.length < p + f → p ≤ s.length →
    (match scanQ (s.drop p) with
    | some j => iter st_fail_reader_text (.l2 s a v dp (p : Int)) = iter st_fail_reader_text (.l2 s a v dp ((p + j : Nat) : Int)) ∧ p + j < s.length ∧ ((s.getD (p + j) 0).toNat : Int) = 34
    | none => iter st_fail_reader_text (.l2 s a v dp (p : Int)) = some panT)
  | 0, p, hf, hp => by omega
  | f + 1, p, hf, hp => by
    by_cases hlt : p < s.length
    · obtain ⟨c, r, hL⟩ := drop_ex hlt
      obtain ⟨hc, hr, hlen⟩ := drop_cons (d := (0 : UInt8)) hL
      have b0 : decide ((p : Int) < (s.length : Int)) = true := decide_eq_true (by omega)
      have hG : 0 ≤ (p : Int) ∧ (p : Int) < (s.length : Int) := ⟨by omega, by omega⟩
      have e1 : w64 ((p : Int) + 1) = ((p + 1 : Nat) : Int) := w64_eq (by omega) (by omega)
      have e2 : w64 (((p + 1 : Nat) : Int) + 1) = ((p + 2 : Nat) : Int) := w64_eq (by omega) (by omega)
      rw [hL]
      by_cases h34 : (c.toNat : Int) = 34
      · rw [show scanQ (c :: r) = some 0 by unfold scanQ; rw [if_pos h34]]
        exact ⟨rfl, hlt, by rw [Nat.add_zero, hc]; exact h34⟩
      · have b34 : decide ((c.toNat : Int) = 34) = false := decide_eq_false h34
        have hstep : iter st_fail_reader_text (.l2 s a v dp (p : Int)) = (if (c.toNat : Int) = 92 then iter st_fail_reader_text (.l2 s a v dp ((p + 2 : Nat) : Int)) else iter st_fail_reader_text (.l2 s a v dp ((p + 1 : Nat) : Int))) := by
          rw [iter_eq']
          simp only [st_fail_reader_text]
          unfold sg_fail_reader_text_2
          rw [G_any (fun _ => hG), Int.toNat_natCast, hc, b0, b34, if_pos (by rfl), G_any hG, e1, e2]
          by_cases h92 : (c.toNat : Int) = 92
          · rw [if_pos (decide_eq_true h92), if_pos h92]; rfl
          · rw [if_neg (by simpa using h92), if_neg h92]; rfl
        by_cases h92 : (c.toNat : Int) = 92
        · rw [if_pos h92] at hstep
          cases r with
          | nil =>
            simp only [List.length_nil] at hlen
            rw [show scanQ [c] = none by unfold scanQ; rw [if_neg h34, if_pos h92]]
            show _ = _
            rw [hstep, iter_eq']
            simp only [st_fail_reader_text]
            unfold sg_fail_reader_text_2
            have b1 : decide (((p + 2 : Nat) : Int) < (s.length : Int)) = false := decide_eq_false (by omega)
            rw [b1, G_any (by rintro ⟨⟩)]; rfl
          | cons e r' =>
            simp only [List.length_cons] at hlen
            have hr2 : s.drop (p + 2) = r' := by
              have := (drop_cons (d := (0 : UInt8)) hr).2.1
              exact this
            have ih := scan_loop s hs a v dp f (p + 2) (by omega) (by omega)
            rw [hr2] at ih
            rw [show scanQ (c :: e :: r') = (scanQ r').map (· + 2) by rw [scanQ, if_neg h34, if_pos h92]]
            cases hq : scanQ r' with
            | none =>
              rw [hq] at ih
              show _ = _
              rw [hstep]; exact ih
            | some j =>
              rw [hq] at ih
              obtain ⟨i1, i2, i3⟩ := ih
              rw [Option.map_some]
              dsimp only
              refine ⟨?_, by omega, ?_⟩
              · rw [hstep, i1]; congr 2; omega
              · rw [show p + (j + 2) = p + 2 + j by omega]; exact i3
        · rw [if_neg h92] at hstep
          rw [show scanQ (c :: r) = (scanQ r).map (· + 1) by rw [scanQ.eq_def]; simp only [if_neg h34, if_neg h92]]
          have ih := scan_loop s hs a v dp f (p + 1) (by omega) (by omega)
          rw [hr] at ih
          cases hq : scanQ r with
          | none =>
            rw [hq] at ih
            show _ = _
            rw [hstep]; exact ih
          | some j =>
            rw [hq] at ih
            obtain ⟨i1, i2, i3⟩ := ih
            rw [Option.map_some]
            dsimp only
            refine ⟨?_, by omega, ?_⟩
            · rw [hstep, i1]; congr 2; omega
            · rw [show p + (j + 1) = p + 1 + j by omega]; exact i3
    · have hd : s.drop p = [] := List.drop_eq_nil_of_le (by omega)
      rw [hd]
      show _ = _
      rw [iter_eq']
      simp only [st_fail_reader_text]
      unfold sg_fail_reader_text_2
      have b1 : decide ((p : Int) < (s.length : Int)) = false := decide_eq_false (by omega)
      rw [b1, G_any (by rintro ⟨⟩)]; rfl
theorem text_eq (s : List UInt8) (hs : s.length ≤ 65536) (p : Nat) (hp : p ≤ s.length) (v : List tCrack) (dp : Int) : fail_reader_text s (p : Int) v dp = some (match qtS (s.drop p) with
    | some (t, k) => (false, (0, undef), t, s, ((p + k : Nat) : Int), v, dp)
    | none => panT) := by
  unfold fail_reader_text en_fail_reader_text
  have e1 : w64 ((p : Int) + 1) = ((p + 1 : Nat) : Int) := w64_eq (by omega) (by omega)
  rw [e1]
  show iter _ _ = _
  unfold qtS
  have ht : (s.drop p).tail = s.drop (p + 1) := by rw [List.tail_drop]
  rw [ht]
  by_cases hlt : p < s.length
  · have hsc := scan_loop s hs (p : Int) v dp (s.length + 1) (p + 1) (by omega) (by omega)
    cases hq : scanQ (s.drop (p + 1)) with
    | none => rw [hq] at hsc; exact hsc
    | some j =>
      rw [hq] at hsc
      obtain ⟨i1, i2, i3⟩ := hsc
      have b0 : decide (((p + 1 + j : Nat) : Int) < (s.length : Int)) = true := decide_eq_true (by omega)
      have b34 : decide (((s.getD (p + 1 + j) 0).toNat : Int) = 34) = true := decide_eq_true i3
      have e2 : w64 (((p + 1 + j : Nat) : Int) + 1) = ((p + (j + 2) : Nat) : Int) := by rw [w64_eq (by omega) (by omega)]; omega
      have hcut : cut s p (p + (j + 2)) = (s.drop p).take (j + 2) := qcut_take s p (j + 2)
      rw [i1, iter_eq']
      simp only [st_fail_reader_text]
      unfold sg_fail_reader_text_2
      rw [G_any (fun _ => ⟨by omega, by omega⟩), Int.toNat_natCast, b0, b34, if_neg (by simp), need_eq, Option.bind_some, if_pos rfl]
      rw [if_neg (show ¬ (okS s p v dp).1 = true from Bool.false_ne_true), e2, G_any ⟨Int.natCast_nonneg p, by show (p : Int) ≤ _; omega, by show _ ≤ (s.length : Int); omega⟩]
      show runL st_fail_reader_text ((lex_Unquote (cut s (p : Int).toNat ((p + (j + 2) : Nat) : Int).toNat)).bind fun t59 => (fail_reader_need s (p : Int) v dp t59.2).bind _) = _
      rw [Int.toNat_natCast, Int.toNat_natCast, hcut, Unquote_eq _ (by rw [List.length_take]; omega), Option.bind_some]
      cases hu : unqS ((s.drop p).take (j + 2)) with
      | mk t ok =>
        dsimp only
        rw [need_eq, Option.bind_some]
        cases ok with
        | false => rfl
        | true => rfl
  · have hd : s.drop (p + 1) = [] := List.drop_eq_nil_of_le (by omega)
    rw [hd]
    show _ = some panT
    rw [iter_eq']
    simp only [st_fail_reader_text]
    unfold sg_fail_reader_text_2
    have b1 : decide (((p + 1 : Nat) : Int) < (s.length : Int)) = false := decide_eq_false (by omega)
    rw [b1, G_any (by rintro ⟨⟩)]; rfl
end Go.Eng
