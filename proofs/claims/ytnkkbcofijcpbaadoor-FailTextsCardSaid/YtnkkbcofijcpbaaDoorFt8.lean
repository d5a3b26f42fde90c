/- A part of the proof: Ft8. -/
import Derived.Test.YtnkkbcofijcpbaaDoorFt7
namespace Go.Eng
set_option linter.unusedVariables false
set_option linter.unusedSimpArgs false
theorem rword_loop (s : List UInt8) (hs : s.length ≤ 65536) (a : Nat) : ∀ (d p : Nat), p + d = s.length → a ≤ p →
    iter st_ref03_word (.l2 s (a : Int) (p : Int)) = some (cut s a (p + wlen (s.drop p)), ((p + wlen (s.drop p) : Nat) : Int))
  | 0, p, hp, ha => by
    rw [iter_eq']
    have hd : s.drop p = [] := List.drop_eq_nil_of_le (by omega)
    have b : decide ((p : Int) < (s.length : Int)) = false := decide_eq_false (by omega)
    simp only [st_ref03_word, sg_ref03_word_2, b, Bool.false_and, Bool.false_eq_true, if_false, false_implies, hd]
    rw [G_any trivial, G_any trivial, G_any trivial, G_any trivial, G_any trivial, G_any (by omega)]; rfl
  | d + 1, p, hp, ha => by
    obtain ⟨c, r, hL⟩ := drop_ex (show p < s.length by omega)
    obtain ⟨hc, hr, hlen⟩ := drop_cons (d := (0 : UInt8)) hL
    have b : decide ((p : Int) < (s.length : Int)) = true := decide_eq_true (by omega)
    have hG : 0 ≤ (p : Int) ∧ (p : Int) < (s.length : Int) := ⟨by omega, by omega⟩
    have e1 : w64 ((p : Int) + 1) = ((p + 1 : Nat) : Int) := w64_eq (by omega) (by omega)
    have hcond : (((decide (97 ≤ (c.toNat : Int)) && decide ((c.toNat : Int) ≤ 122)) || (decide (48 ≤ (c.toNat : Int)) && decide ((c.toNat : Int) ≤ 57))) || decide ((c.toNat : Int) = 95)) = isP c := rfl
    rw [iter_eq']
    simp only [st_ref03_word]
    unfold sg_ref03_word_2
    rw [G_any (fun _ => hG), G_any (fun _ => hG), G_any (fun _ => hG), G_any (fun _ => hG), G_any (fun _ => hG), Int.toNat_natCast, hc, b, Bool.true_and, hcond, e1, hL, wlen_cons]
    by_cases hi : isP c = true
    · rw [if_pos hi, if_pos hi]
      show iter _ _ = _
      rw [rword_loop s hs a d (p + 1) (by omega) (by omega), hr]
      have : p + 1 + wlen r = p + (wlen r + 1) := by omega
      rw [this]
    · rw [if_neg hi, if_neg hi, G_any (by omega)]; rfl
theorem rword_eq (s : List UInt8) (hs : s.length ≤ 65536) (p : Nat) (hp : p ≤ s.length) : ref03_word s (p : Int) = some ((s.drop p).take (wlen (s.drop p)), ((p + wlen (s.drop p) : Nat) : Int)) := by
  unfold ref03_word en_ref03_word
  show iter _ _ = _
  rw [rword_loop s hs p (s.length - p) p (by omega) (Nat.le_refl _), qcut_take]
theorem rbegin_eq (s : List UInt8) (hs : s.length ≤ 65536) (p : Nat) (hp : p ≤ s.length) (t : List UInt8) (ht : t.length ≤ 2) : ref03_begin s (p : Int) t = some (decide ((s.drop p).take t.length = t)) := by
  unfold ref03_begin
  have e1 : w64 ((s.length : Int) - (p : Int)) = ((s.length - p : Nat) : Int) := by rw [w64_eq (by omega) (by omega)]; omega
  have e2 : w64 ((p : Int) + (t.length : Int)) = ((p + t.length : Nat) : Int) := by rw [w64_eq (by omega) (by omega)]; omega
  rw [e1, e2, G_any (fun h => by have := of_decide_eq_true h; omega), Int.toNat_natCast, Int.toNat_natCast, qcut_take]
  by_cases h : (s.drop p).take t.length = t
  · have h2 : (t.length : Int) ≤ ((s.length - p : Nat) : Int) := by
      have := congrArg List.length h
      rw [List.length_take, List.length_drop] at this; omega
    rw [decide_eq_true h2, Bool.true_and]
  · rw [decide_eq_false h, Bool.and_false]
theorem rscan_loop (s : List UInt8) (hs : s.length ≤ 65536) (a : Int) : ∀ (f p : Nat), s.length < p + f → p ≤ s.length →
    (match scanQ (s.drop p) with
    | some j => iter st_ref03_text (.l4 s a (p : Int)) = iter st_ref03_text (.l4 s a ((p + j : Nat) : Int)) ∧ p + j < s.length ∧ ((s.getD (p + j) 0).toNat : Int) = 34
    | none => iter st_ref03_text (.l4 s a (p : Int)) = some ([], 0, false))
  | 0, p, hf, hp => by omega
  | f + 1, p, hf, hp => by
    by_cases hlt : p < s.length
    · obtain ⟨c, r, hL⟩ := drop_ex hlt
      obtain ⟨hc, hr, hlen⟩ := drop_cons (d := (0 : UInt8)) hL
      have b0 : decide ((p : Int) < (s.length : Int)) = true := decide_eq_true (by omega)
      have hG : 0 ≤ (p : Int) ∧ (p : Int) < (s.length : Int) := ⟨by omega, by omega⟩
      have e1 : w64 ((p : Int) + 1) = ((p + 1 : Nat) : Int) := w64_eq (by omega) (by omega)
      have e2 : w64 (((p + 1 : Nat) : Int) + 1) = ((p + 2 : Nat) : Int) := w64_eq (by omega) (by omega)
      rw [hL]
      by_cases h34 : (c.toNat : Int) = 34
      · rw [show scanQ (c :: r) = some 0 by unfold scanQ; rw [if_pos h34]]
        exact ⟨rfl, hlt, by rw [Nat.add_zero, hc]; exact h34⟩
      · have b34 : decide ((c.toNat : Int) = 34) = false := decide_eq_false h34
        have hstep : iter st_ref03_text (.l4 s a (p : Int)) = (if (c.toNat : Int) = 92 then iter st_ref03_text (.l4 s a ((p + 2 : Nat) : Int)) else iter st_ref03_text (.l4 s a ((p + 1 : Nat) : Int))) := by
          rw [iter_eq']
          simp only [st_ref03_text]
          unfold sg_ref03_text_4
          rw [G_any (fun _ => hG), Int.toNat_natCast, hc, b0, b34, if_pos (by rfl), G_any hG, e1, e2]
          by_cases h92 : (c.toNat : Int) = 92
          · rw [if_pos (decide_eq_true h92), if_pos h92]; rfl
          · rw [if_neg (by simpa using h92), if_neg h92]; rfl
        by_cases h92 : (c.toNat : Int) = 92
        · rw [if_pos h92] at hstep
          cases r with
          | nil =>
            simp only [List.length_nil] at hlen
            rw [show scanQ [c] = none by unfold scanQ; rw [if_neg h34, if_pos h92]]
            show _ = _
            rw [hstep, iter_eq']
            simp only [st_ref03_text]
            unfold sg_ref03_text_4
            have b1 : decide (((p + 2 : Nat) : Int) < (s.length : Int)) = false := decide_eq_false (by omega)
            have b2 : decide ((s.length : Int) ≤ ((p + 2 : Nat) : Int)) = true := decide_eq_true (by omega)
            rw [b1, b2, G_any (by rintro ⟨⟩)]; rfl
          | cons e r' =>
            simp only [List.length_cons] at hlen
            have hr2 : s.drop (p + 2) = r' := by
              have := (drop_cons (d := (0 : UInt8)) hr).2.1
              exact this
            have ih := rscan_loop s hs a f (p + 2) (by omega) (by omega)
            rw [hr2] at ih
            rw [show scanQ (c :: e :: r') = (scanQ r').map (· + 2) by rw [scanQ, if_neg h34, if_pos h92]]
            cases hq : scanQ r' with
            | none =>
              rw [hq] at ih
              show _ = _
              rw [hstep]; exact ih
            | some j =>
              rw [hq] at ih
              obtain ⟨i1, i2, i3⟩ := ih
              rw [Option.map_some]
              dsimp only
              refine ⟨?_, by omega, ?_⟩
              · rw [hstep, i1]; congr 2; omega
              · rw [show p + (j + 2) = p + 2 + j by omega]; exact i3
        · rw [if_neg h92] at hstep
          rw [show scanQ (c :: r) = (scanQ r).map (· + 1) by rw [scanQ.eq_def]; simp only [if_neg h34, if_neg h92]]
          have ih := rscan_loop s hs a f (p + 1) (by omega) (by omega)
          rw [hr] at ih
          cases hq : scanQ r with
          | none =>
            rw [hq] at ih
            show _ = _
            rw [hstep]; exact ih
          | some j =>
            rw [hq] at ih
            obtain ⟨i1, i2, i3⟩ := ih
            rw [Option.map_some]
            dsimp only
            refine ⟨?_, by omega, ?_⟩
            · rw [hstep, i1]; congr 2; omega
            · rw [show p + (j + 1) = p + 1 + j by omega]; exact i3
    · have hd : s.drop p = [] := List.drop_eq_nil_of_le (by omega)
      rw [hd]
      show _ = _
      rw [iter_eq']
      simp only [st_ref03_text]
      unfold sg_ref03_text_4
      have b1 : decide ((p : Int) < (s.length : Int)) = false := decide_eq_false (by omega)
      have b2 : decide ((s.length : Int) ≤ (p : Int)) = true := decide_eq_true (by omega)
      rw [b1, b2, G_any (by rintro ⟨⟩)]; rfl
theorem unqS_no (c : UInt8) (r : List UInt8) (h : ¬ (c.toNat : Int) = 34) : (unqS (c :: r)).2 = false := by
  unfold unqS
  simp [h]
theorem rtext_eq (s : List UInt8) (hs : s.length ≤ 65536) (p : Nat) (hp : p ≤ s.length) : ∃ t k ok, ref03_text s (p : Int) = some (t, k, ok) ∧ (match qtS (s.drop p) with
    | some (t', m) => ok = true ∧ t = t' ∧ k = ((p + m : Nat) : Int)
    | none => ok = false) := by
  unfold ref03_text en_ref03_text
  have e1 : w64 ((p : Int) + 1) = ((p + 1 : Nat) : Int) := w64_eq (by omega) (by omega)
  rw [G_any (fun h => by simp only [Bool.not_eq_true', decide_eq_false_iff_not] at h; omega), e1, Int.toNat_natCast]
  unfold qtS
  have ht : (s.drop p).tail = s.drop (p + 1) := by rw [List.tail_drop]
  rw [ht]
  by_cases hlt : p < s.length
  · obtain ⟨c, r, hL⟩ := drop_ex hlt
    obtain ⟨hc, hr, hlen⟩ := drop_cons (d := (0 : UInt8)) hL
    rw [hc]
    by_cases h34 : (c.toNat : Int) = 34
    · rw [if_neg (by simp only [Bool.or_eq_true, decide_eq_true_eq, Bool.not_eq_true', decide_eq_false_iff_not]; omega)]
      have hsc := rscan_loop s hs (p : Int) (s.length + 1) (p + 1) (by omega) (by omega)
      cases hq : scanQ (s.drop (p + 1)) with
      | none => rw [hq] at hsc; exact ⟨_, _, _, hsc, rfl⟩
      | some j =>
        rw [hq] at hsc
        obtain ⟨i1, i2, i3⟩ := hsc
        have b0 : decide (((p + 1 + j : Nat) : Int) < (s.length : Int)) = true := decide_eq_true (by omega)
        have b34 : decide (((s.getD (p + 1 + j) 0).toNat : Int) = 34) = true := decide_eq_true i3
        have b1 : decide ((s.length : Int) ≤ ((p + 1 + j : Nat) : Int)) = false := decide_eq_false (by omega)
        have e2 : w64 (((p + 1 + j : Nat) : Int) + 1) = ((p + (j + 2) : Nat) : Int) := by rw [w64_eq (by omega) (by omega)]; omega
        have hcut : cut s p (p + (j + 2)) = (s.drop p).take (j + 2) := qcut_take s p (j + 2)
        show ∃ t k ok, iter _ _ = some (t, k, ok) ∧ _
        rw [i1, iter_eq']
        simp only [st_ref03_text]
        unfold sg_ref03_text_4
        rw [G_any (fun _ => ⟨by omega, by omega⟩), Int.toNat_natCast, b0, b34, if_neg (by simp), b1, if_neg (by simp), e2, G_any ⟨by omega, by omega, by omega⟩, Int.toNat_natCast, Int.toNat_natCast, hcut, refUnquote_eq _ (by rw [List.length_take]; omega), Option.bind_some]
        refine ⟨_, _, _, rfl, ?_⟩
        cases hu : unqS ((s.drop p).take (j + 2)) with
        | mk t ok =>
          cases ok with
          | false => exact rfl
          | true => exact ⟨rfl, rfl, rfl⟩
    · rw [if_pos (by simp only [Bool.or_eq_true, decide_eq_true_eq, Bool.not_eq_true', decide_eq_false_iff_not]; exact .inr h34)]
      refine ⟨_, _, _, rfl, ?_⟩
      cases hq : scanQ (s.drop (p + 1)) with
      | none => exact rfl
      | some j =>
        dsimp only
        have := unqS_no c (r.take (j + 1)) h34
        rw [hL, List.take_succ_cons]
        cases hu : unqS (c :: r.take (j + 1)) with
        | mk t ok =>
          rw [hu] at this
          dsimp only at this
          subst this; rfl
  · have hd : s.drop (p + 1) = [] := List.drop_eq_nil_of_le (by omega)
    rw [hd, if_pos (by simp only [Bool.or_eq_true, decide_eq_true_eq]; left; omega)]
    exact ⟨_, _, _, rfl, rfl⟩
abbrev RfS := List tCrack × Int × Bool
def rfRel (s : List UInt8) (p : Nat) (o : Option (TF × Nat)) (res : RfS) : Prop := res.1.length ≤ s.length - p ∧ match o with
  | some (x, k) => (res.2.2 = true ∧ res.1 = flat x ∧ res.2.1 = ((p + k : Nat) : Int)) ∨ (res.2.2 = false ∧ 1024 < (flat x).length)
  | none => res.2.2 = false
def allF (val : List UInt8 → Option (TF × Nat)) (f : Nat) (l : List UInt8) : Option (List TF × Nat) := match val l with
  | none => none
  | some (x, k) => (tailF val f (l.drop k)).map fun q => (x :: q.1, k + q.2)
theorem tailF_all (val : List UInt8 → Option (TF × Nat)) (f : Nat) (l : List UInt8) : tailF val (f + 1) l = if l.take 2 = [59, 32] then (allF val f (l.drop 2)).map (fun q => (q.1, 2 + q.2)) else if l.take 1 = [41] then some ([], 1) else none := by
  rw [tailF]
  unfold allF
  split
  · cases val (l.drop 2) with
    | none => rfl
    | some q =>
      obtain ⟨x, k⟩ := q
      dsimp only
      rw [List.drop_drop, Option.map_map]
      congr 1
      funext q
      simp only [Function.comp]
      rw [Nat.add_assoc]
  · rfl
theorem joinF_all (val : List UInt8 → Option (TF × Nat)) (n : Nat) (r : List UInt8) : joinF val n r = if r.take 1 = [40] then (allF val (r.length + 1) (r.drop 1)).map (fun q => (.node (10, (q.1.length : Int), [], ()) q.1, n + 1 + q.2)) else none := by
  unfold joinF allF
  split
  · cases val (r.drop 1) with
    | none => rfl
    | some q =>
      obtain ⟨x, a⟩ := q
      dsimp only
      rw [List.drop_drop, Option.map_map]
      cases tailF val (r.length + 1) (r.drop (1 + a)) with
      | none => rfl
      | some q =>
        obtain ⟨xs, m⟩ := q
        simp only [joinE, Option.map_some, Function.comp, List.length_cons]
        rw [Nat.add_assoc (n + 1)]
  · rfl
def jnRel (p : Nat) (out : List tCrack) (n : Nat) (o : Option (List TF × Nat)) (res : RfS) : Prop := match o with
  | some (xs, m) => res = (out ++ flats xs ++ [(10, ((n + xs.length : Nat) : Int), [], ())], ((p + m : Nat) : Int), true) ∨ (res = ([], 0, false) ∧ 1024 < out.length + (flats xs).length + 1)
  | none => res = ([], 0, false)
theorem take1_2 {l : List UInt8} (h : l.take 1 = [41]) : ¬ l.take 2 = [59, 32] := by
  intro h2
  have := congrArg (List.take 1) h2
  rw [List.take_take] at this
  rw [show min 1 2 = 1 from rfl, h] at this
  revert this; decide
section
variable {s : List UInt8} (hs : s.length ≤ 65536) {rc : List UInt8 → Int → Int → Option RfS} {val : List UInt8 → Option (TF × Nat)} {deep : Int} {p d : Nat}
  (hrc : ∀ (p' : Nat), p < p' → p' ≤ s.length → ∃ res, rc s (p' : Int) (w64 (deep + 1)) = some res ∧ rfRel s p' (val (s.drop p')) res)
  (hval : ∀ s x k, val s = some (x, k) → sizeF d s x k)
include hs hrc hval
theorem joined_rel : ∀ (f p' n : Nat) (out : List tCrack), s.length - p' < f → p < p' → p' ≤ s.length → out.length ≤ p' → n ≤ p' →
    ∃ res, iter (st_ref03_joined rc) (.l6 s (p' : Int) deep out (n : Int)) = some res ∧ jnRel p' out n (allF val f (s.drop p')) res
  | 0, p', n, out, hf, h0, h1, ho, hn => by omega
  | f + 1, p', n, out, hf, h0, h1, ho, hn => by
    rw [iter_eq']
    simp only [st_ref03_joined]
    unfold sg_ref03_joined_6
    by_cases hol : out.length ≤ 1024
    · rw [if_pos (decide_eq_true (by omega))]
      obtain ⟨res, e1, e2⟩ := hrc p' h0 h1
      rw [e1, Option.bind_some]
      unfold allF
      obtain ⟨ez, e2⟩ := e2
      cases hov : val (s.drop p') with
      | none =>
        rw [hov] at e2
        rw [if_pos (by rw [show res.2.2 = false from e2]; rfl)]
        exact ⟨_, rfl, rfl⟩
      | some q =>
        obtain ⟨x, k⟩ := q
        rw [hov] at e2
        obtain ⟨z1, z2, z3, z4, z5⟩ := hval _ _ _ hov
        rw [List.length_drop] at z1
        dsimp only
        rcases e2 with ⟨r1, r2, r3⟩ | ⟨r1, r2⟩
        · have hb1 : ref03_begin s ((p' + k : Nat) : Int) [41] = some (decide ((s.drop (p' + k)).take 1 = [41])) := rbegin_eq s hs (p' + k) (by omega) [41] (by decide)
          have hb2 : ref03_begin s ((p' + k : Nat) : Int) [59, 32] = some (decide ((s.drop (p' + k)).take 2 = [59, 32])) := rbegin_eq s hs (p' + k) (by omega) [59, 32] (by decide)
          rw [if_neg (by rw [r1]; simp), r2, r3, G_any (by omega), hb1, Option.bind_some, List.drop_drop]
          have en : w64 ((n : Int) + 1) = ((n + 1 : Nat) : Int) := w64_eq (by omega) (by omega)
          by_cases h3 : (s.drop (p' + k)).take 1 = [41]
          · have hl := take_len1 h3
            rw [List.length_drop] at hl
            rw [if_pos (decide_eq_true h3), tailF_all, if_neg (take1_2 h3), if_pos h3, en, G_any (by simp only [List.length_append, List.length_cons, List.length_nil]; omega)]
            refine ⟨_, rfl, .inl ?_⟩
            rw [w64_eq (by omega) (by omega)]
            simp only [flats, List.append_nil, List.length_cons, List.length_nil]
            rfl
          · rw [if_neg (by simpa using h3), hb2, Option.bind_some, tailF_all]
            by_cases h2 : (s.drop (p' + k)).take 2 = [59, 32]
            · have hl := take_len2 h2
              rw [List.length_drop] at hl
              rw [if_pos h2, if_neg (by rw [decide_eq_true h2]; simp), en]
              have ep : w64 (((p' + k : Nat) : Int) + 2) = ((p' + k + 2 : Nat) : Int) := w64_eq (by omega) (by omega)
              rw [ep]
              obtain ⟨res', i1, i2⟩ := joined_rel f (p' + k + 2) (n + 1) (out ++ flat x) (by omega) (by omega) (by omega) (by rw [List.length_append]; omega) (by omega)
              refine ⟨res', i1, ?_⟩
              rw [List.drop_drop]
              cases ha : allF val f (s.drop (p' + k + 2)) with
              | none => rw [ha] at i2; exact i2
              | some q =>
                obtain ⟨xs, m⟩ := q
                rw [ha] at i2
                simp only [Option.map_some]
                rcases i2 with i2 | ⟨i2, i3⟩
                · left
                  rw [i2]
                  simp only [flats, List.append_assoc, List.length_cons]
                  rw [show p' + k + 2 + m = p' + (k + (2 + m)) by omega, show n + 1 + xs.length = n + (xs.length + 1) by omega]
                · right
                  refine ⟨i2, ?_⟩
                  rw [List.length_append] at i3
                  simp only [flats, List.length_append]; omega
            · rw [if_neg h2, if_neg h3, if_pos (by rw [decide_eq_false h2]; rfl)]
              exact ⟨_, rfl, rfl⟩
        · rw [if_pos (by rw [r1]; rfl)]
          refine ⟨_, rfl, ?_⟩
          cases ht : tailF val (f + 1) ((s.drop p').drop k) with
          | none => exact rfl
          | some q =>
            obtain ⟨xs, m⟩ := q
            right
            exact ⟨rfl, by simp only [flats, List.length_append]; omega⟩
    · rw [if_neg (by rw [decide_eq_true_eq]; omega)]
      refine ⟨_, rfl, ?_⟩
      cases ha : allF val (f + 1) (s.drop p') with
      | none => exact rfl
      | some q =>
        obtain ⟨xs, m⟩ := q
        right
        exact ⟨rfl, by omega⟩
end
end Go.Eng
