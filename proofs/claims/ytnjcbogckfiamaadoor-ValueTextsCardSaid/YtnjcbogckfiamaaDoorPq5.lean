/- A part of the proof: Pq5. -/
import Derived.Test.YtnjcbogckfiamaaDoorPq4
namespace Go.Eng
set_option linter.unusedVariables false
set_option linter.unusedSimpArgs false

abbrev RfS := (List tAtom) × Int × Bool
def rfRel (p : Nat) (o : Option (Tr tAtom × Nat)) (res : RfS) : Prop := match o with
  | some (x, k) => res = (flat x, ((p + k : Nat) : Int), true) ∨ (res.2.2 = false ∧ 1024 < (flat x).length)
  | none => res.2.2 = false
theorem rscan_loop (s : List UInt8) (hs : s.length ≤ 65536) (rc : (List UInt8) → Int → Int → Option RfS) (a : Int) : ∀ (f p : Nat), s.length < p + f → p ≤ s.length →
    (match scanQ (s.drop p) with
    | some j => iter (st_ref07_parse rc) (.l6 s a (p : Int)) = iter (st_ref07_parse rc) (.l6 s a ((p + j : Nat) : Int)) ∧ p + j < s.length ∧ ((s.getD (p + j) 0).toNat : Int) = 34
    | none => iter (st_ref07_parse rc) (.l6 s a (p : Int)) = some ([], 0, false))
  | 0, p, hf, hp => by omega
  | f + 1, p, hf, hp => by
    by_cases hlt : p < s.length
    · obtain ⟨c, r, hL⟩ := drop_ex hlt
      obtain ⟨hc, hr, hlen⟩ := drop_cons (d := (0 : UInt8)) hL
      have b0 : decide ((p : Int) < (s.length : Int)) = true := decide_eq_true (by omega)
      have hG : 0 ≤ (p : Int) ∧ (p : Int) < (s.length : Int) := ⟨by omega, by omega⟩
      have e1 : w64 ((p : Int) + 1) = ((p + 1 : Nat) : Int) := w64_eq (by omega) (by omega)
      have e2 : w64 (((p + 1 : Nat) : Int) + 1) = ((p + 2 : Nat) : Int) := w64_eq (by omega) (by omega)
      rw [hL]
      by_cases h34 : (c.toNat : Int) = 34
      · rw [show scanQ (c :: r) = some 0 by unfold scanQ; rw [if_pos h34]]
        exact ⟨rfl, hlt, by rw [Nat.add_zero, hc]; exact h34⟩
      · have b34 : decide ((c.toNat : Int) = 34) = false := decide_eq_false h34
        have hstep : iter (st_ref07_parse rc) (.l6 s a (p : Int)) = (if (c.toNat : Int) = 92 then iter (st_ref07_parse rc) (.l6 s a ((p + 2 : Nat) : Int)) else iter (st_ref07_parse rc) (.l6 s a ((p + 1 : Nat) : Int))) := by
          rw [iter_eq']
          simp only [st_ref07_parse]
          unfold sg_ref07_parse_6
          rw [G_any (fun _ => hG), Int.toNat_natCast, hc, b0, b34, if_pos (by rfl), G_any hG, e1, e2]
          by_cases h92 : (c.toNat : Int) = 92
          · rw [if_pos (decide_eq_true h92), if_pos h92]; rfl
          · rw [if_neg (by simpa using h92), if_neg h92]; rfl
        by_cases h92 : (c.toNat : Int) = 92
        · rw [if_pos h92] at hstep
          cases r with
          | nil =>
            simp only [List.length_nil] at hlen
            rw [show scanQ [c] = none by unfold scanQ; rw [if_neg h34, if_pos h92]]
            show _ = _
            rw [hstep, iter_eq']
            simp only [st_ref07_parse]
            unfold sg_ref07_parse_6
            have b1 : decide (((p + 2 : Nat) : Int) < (s.length : Int)) = false := decide_eq_false (by omega)
            have b2 : decide ((s.length : Int) ≤ ((p + 2 : Nat) : Int)) = true := decide_eq_true (by omega)
            rw [b1, b2, G_any (by rintro ⟨⟩)]; rfl
          | cons e r' =>
            simp only [List.length_cons] at hlen
            have hr2 : s.drop (p + 2) = r' := (drop_cons (d := (0 : UInt8)) hr).2.1
            have ih := rscan_loop s hs rc a f (p + 2) (by omega) (by omega)
            rw [hr2] at ih
            rw [show scanQ (c :: e :: r') = (scanQ r').map (· + 2) by rw [scanQ, if_neg h34, if_pos h92]]
            cases hq : scanQ r' with
            | none =>
              rw [hq] at ih
              show _ = _
              rw [hstep]; exact ih
            | some j =>
              rw [hq] at ih
              obtain ⟨i1, i2, i3⟩ := ih
              rw [Option.map_some]
              dsimp only
              refine ⟨?_, by omega, ?_⟩
              · rw [hstep, i1]; congr 2; omega
              · rw [show p + (j + 2) = p + 2 + j by omega]; exact i3
        · rw [if_neg h92] at hstep
          rw [show scanQ (c :: r) = (scanQ r).map (· + 1) by rw [scanQ.eq_def]; simp only [if_neg h34, if_neg h92]]
          have ih := rscan_loop s hs rc a f (p + 1) (by omega) (by omega)
          rw [hr] at ih
          cases hq : scanQ r with
          | none =>
            rw [hq] at ih
            show _ = _
            rw [hstep]; exact ih
          | some j =>
            rw [hq] at ih
            obtain ⟨i1, i2, i3⟩ := ih
            rw [Option.map_some]
            dsimp only
            refine ⟨?_, by omega, ?_⟩
            · rw [hstep, i1]; congr 2; omega
            · rw [show p + (j + 1) = p + 1 + j by omega]; exact i3
    · have hd : s.drop p = [] := List.drop_eq_nil_of_le (by omega)
      rw [hd]
      show _ = _
      rw [iter_eq']
      simp only [st_ref07_parse]
      unfold sg_ref07_parse_6
      have b1 : decide ((p : Int) < (s.length : Int)) = false := decide_eq_false (by omega)
      have b2 : decide ((s.length : Int) ≤ (p : Int)) = true := decide_eq_true (by omega)
      rw [b1, b2, G_any (by rintro ⟨⟩)]; rfl
theorem rtext_rel (s : List UInt8) (hs : s.length ≤ 65536) (rc : (List UInt8) → Int → Int → Option RfS) (p : Nat) (hp : p < s.length) : ∃ res, iter (st_ref07_parse rc) (.l6 s (p : Int) ((p + 1 : Nat) : Int)) = some res ∧ rfRel p (txtV (s.drop p)) res := by
  have hsc := rscan_loop s hs rc (p : Int) (s.length + 1) (p + 1) (by omega) (by omega)
  unfold txtV
  have ht : (s.drop p).tail = s.drop (p + 1) := by rw [List.tail_drop]
  rw [ht]
  cases hq : scanQ (s.drop (p + 1)) with
  | none =>
    rw [hq] at hsc
    exact ⟨_, hsc, rfl⟩
  | some j =>
    rw [hq] at hsc
    obtain ⟨i1, i2, i3⟩ := hsc
    have b0 : decide (((p + 1 + j : Nat) : Int) < (s.length : Int)) = true := decide_eq_true (by omega)
    have b1 : decide ((s.length : Int) ≤ ((p + 1 + j : Nat) : Int)) = false := decide_eq_false (by omega)
    have b34 : decide (((s.getD (p + 1 + j) 0).toNat : Int) = 34) = true := decide_eq_true i3
    have e2 : w64 (((p + 1 + j : Nat) : Int) + 1) = ((p + (j + 2) : Nat) : Int) := by rw [w64_eq (by omega) (by omega)]; omega
    have hcut : cut s p (p + (j + 2)) = (s.drop p).take (j + 2) := qcut_take s p (j + 2)
    rw [i1, iter_eq']
    simp only [st_ref07_parse]
    unfold sg_ref07_parse_6
    rw [G_any (fun _ => ⟨by omega, by omega⟩), Int.toNat_natCast, b0, b34, if_neg (by simp), b1, if_neg (by simp), e2, G_any ⟨by omega, by omega, by omega⟩, Int.toNat_natCast, Int.toNat_natCast, hcut,
      refUnquote_eq _ (by rw [List.length_take]; omega), Option.bind_some]
    cases hu : unqS ((s.drop p).take (j + 2)) with
    | mk t ok =>
      dsimp only
      cases ok with
      | false => exact ⟨_, rfl, rfl⟩
      | true => exact ⟨_, rfl, .inl rfl⟩
def finR (neg : Bool) (t : Int × Bool) (q : Nat) : RfS :=
  if t.2 = true ∧ (neg = true → 0 < t.1) then ([(1, 0, if neg = true then -t.1 else t.1, [], ())], (q : Int), true) else ([], 0, false)
theorem rdigs_loop (s : List UInt8) (hs : s.length ≤ 65536) (rc : (List UInt8) → Int → Int → Option RfS) (neg : Bool) (b : Nat) : ∀ (d p : Nat), p + d = s.length → b ≤ p →
    iter (st_ref07_parse rc) (.l35 s (p : Int) neg (b : Int)) = some (finR neg (numS (cut s b (p + (cutD (s.drop p)).length))) (p + (cutD (s.drop p)).length)) := by
  have last : ∀ p : Nat, p ≤ s.length → b ≤ p → cutD (s.drop p) = [] → iter (st_ref07_parse rc) (.l35 s (p : Int) neg (b : Int)) = some (finR neg (numS (cut s b p)) p) := by
    intro p hp hb h0
    rw [iter_eq']
    simp only [st_ref07_parse]
    unfold sg_ref07_parse_35
    have hcl : (cut s b p).length ≤ s.length := by rw [cut]; simp; omega
    have hn := numS_bd (cut s b p)
    have hdec : ((decide ((p : Int) < (s.length : Int)) && decide (48 ≤ ((s.getD p 0).toNat : Int))) && decide (((s.getD p 0).toNat : Int) ≤ 57)) = false := by
      by_cases hlt : p < s.length
      · obtain ⟨c, r, hL⟩ := drop_ex hlt
        obtain ⟨hc, hr, hlen⟩ := drop_cons (d := (0 : UInt8)) hL
        rw [hc, Bool.and_assoc, isD_split]
        rw [hL] at h0
        have : isD c = false := by
          cases hd : isD c with
          | false => rfl
          | true => simp [cutD, hd] at h0
        rw [this, Bool.and_false]
      · rw [decide_eq_false (by omega)]; rfl
    rw [G_any (fun h => ⟨by omega, of_decide_eq_true h⟩), G_any (fun h => ⟨by omega, of_decide_eq_true (Bool.and_eq_true_iff.1 h).1⟩), Int.toNat_natCast, hdec, if_neg Bool.false_ne_true, G_any ⟨by omega, by omega, by omega⟩,
      Int.toNat_natCast, base_Whole_eq _ (by omega), Option.bind_some, w64_eq (by omega) (by omega)]
    unfold finR
    generalize numS (cut s b p) = t at hn
    obtain ⟨n, ok⟩ := t
    dsimp only at hn ⊢
    cases ok with
    | false => simp only [Bool.not_false, Bool.true_or, if_true, Bool.false_eq_true, false_and, if_false]; rfl
    | true =>
      cases neg with
      | true =>
        by_cases h : n = 0
        · have : ¬ 0 < n := by omega
          simp only [h, decide_true, Bool.and_self, Bool.not_true, Bool.or_true, if_true, true_implies, Int.lt_irrefl, and_false, if_false]; rfl
        · have : 0 < n := by omega
          simp only [h, decide_false, Bool.and_false, Bool.not_true, Bool.or_self, Bool.false_eq_true, if_false, if_true, this, true_implies, and_self, Int.zero_sub]; rfl
      | false =>
        simp only [Bool.false_and, Bool.not_true, Bool.or_self, Bool.false_eq_true, if_false, false_implies, and_self, if_true]; rfl
  intro d
  induction d with
  | zero =>
    intro p hp hb
    have h0 : cutD (s.drop p) = [] := by rw [List.drop_eq_nil_of_le (by omega)]; rfl
    rw [h0, List.length_nil, Nat.add_zero]
    exact last p (by omega) hb h0
  | succ d ih =>
    intro p hp hb
    obtain ⟨c, r, hL⟩ := drop_ex (show p < s.length by omega)
    obtain ⟨hc, hr, hlen⟩ := drop_cons (d := (0 : UInt8)) hL
    cases hd : isD c with
    | false =>
      have h0 : cutD (s.drop p) = [] := by rw [hL]; simp [cutD, hd]
      rw [h0, List.length_nil, Nat.add_zero]
      exact last p (by omega) hb h0
    | true =>
      have h1 : cutD (s.drop p) = c :: cutD (s.drop (p + 1)) := by rw [hL, hr]; simp [cutD, hd]
      rw [iter_eq']
      simp only [st_ref07_parse]
      unfold sg_ref07_parse_35
      have b0 : decide ((p : Int) < (s.length : Int)) = true := decide_eq_true (by omega)
      have e1 : w64 ((p : Int) + 1) = ((p + 1 : Nat) : Int) := w64_eq (by omega) (by omega)
      rw [G_any (fun h => ⟨by omega, of_decide_eq_true h⟩), G_any (fun h => ⟨by omega, of_decide_eq_true (Bool.and_eq_true_iff.1 h).1⟩), Int.toNat_natCast, hc, b0, Bool.and_assoc, isD_split, hd, if_pos (by rfl), e1]
      show iter _ _ = _
      rw [ih (p + 1) (by omega) (by omega), h1, List.length_cons, show p + ((cutD (s.drop (p + 1))).length + 1) = p + 1 + (cutD (s.drop (p + 1))).length by omega]
theorem finR_rel (p k : Nat) (neg : Bool) (t : Int × Bool) :
    rfRel p (if t.2 = true ∧ (neg = true → 0 < t.1) then some (numA (if neg = true then -t.1 else t.1), k) else none) (finR neg t (p + k)) := by
  unfold finR
  by_cases h : t.2 = true ∧ (neg = true → 0 < t.1)
  · rw [if_pos h, if_pos h]; exact .inl rfl
  · rw [if_neg h, if_neg h]; rfl

def lsRel (e n : Nat) (out : List tAtom) (o : Option (List (Tr tAtom) × Nat)) (res : RfS) : Prop := match o with
  | some (xs, m) => res = (out ++ flats xs ++ [lastA (n + xs.length)], ((e + m : Nat) : Int), true) ∨ (res.2.2 = false ∧ 1024 < out.length + (flats xs).length + 1)
  | none => res.2.2 = false
def allT (d f : Nat) (t : List UInt8) : Option (List (Tr tAtom) × Nat) := match valT d t with
  | some (x, k) => (match moreT (valT d) f (t.drop k) with
    | some (xs, m) => some (x :: xs, k + m)
    | none => none)
  | none => none
theorem moreT_93 (d f : Nat) (c : UInt8) (r : List UInt8) (h93 : (c.toNat : Int) = 93) : moreT (valT d) (f + 1) (c :: r) = some ([], 1) := by
  rw [moreT.eq_def]; dsimp only; rw [if_pos h93]
theorem moreT_cons2 (d f : Nat) (e : UInt8) (r' : List UInt8) (c : UInt8) (h93 : ¬ (c.toNat : Int) = 93) : moreT (valT d) (f + 1) (c :: e :: r') = if (c.toNat : Int) = 44 then (if (e.toNat : Int) = 32 then (match allT d f r' with
    | some (xs, m) => some (xs, 2 + m)
    | none => none) else none) else none := by
  rw [moreT, if_neg h93]
  unfold allT
  by_cases h44 : (c.toNat : Int) = 44
  · rw [if_pos h44, if_pos h44]
    by_cases h32 : (e.toNat : Int) = 32
    · rw [if_pos h32, if_pos h32]
      cases valT d r' with
      | none => rfl
      | some xk =>
        obtain ⟨x, k⟩ := xk
        dsimp only
        cases moreT (valT d) f (r'.drop k) with
        | none => rfl
        | some xm =>
          obtain ⟨xs, m⟩ := xm
          simp only [Nat.add_assoc]
    · rw [if_neg h32, if_neg h32]
  · rw [if_neg h44, if_neg h44]
section
variable {s : List UInt8} (hs : s.length ≤ 65536) {d : Nat} (hd : d < 32) {rc : (List UInt8) → Int → Int → Option RfS}
  (hrc : ∀ p, p ≤ s.length → ∃ res, rc s (p : Int) ((33 - d : Nat) : Int) = some res ∧ rfRel p (valT d (s.drop p)) res)
include hs hd hrc
theorem rlist_loop : ∀ (f e n : Nat) (out : List tAtom), s.length + 1 ≤ e + f → e ≤ s.length → n ≤ e →
    ∃ res, iter (st_ref07_parse rc) (.l19 s ((32 - d : Nat) : Int) (e : Int) out (n : Int)) = some res ∧ lsRel e n out (allT d f (s.drop e)) res
  | 0, e, n, out, hf, he, hn => by omega
  | f + 1, e, n, out, hf, he, hn => by
    rw [iter_eq']
    simp only [st_ref07_parse]
    unfold sg_ref07_parse_19
    by_cases ho : out.length < 1024
    · have bo : decide ((out.length : Int) < 1024) = true := decide_eq_true (by omega)
      have hdm : w64 (((32 - d : Nat) : Int) + 1) = ((33 - d : Nat) : Int) := by rw [w64_eq (by omega) (by omega)]; omega
      rw [bo, if_pos rfl, hdm]
      obtain ⟨r1, q1, q2⟩ := hrc e he
      rw [q1, Option.bind_some]
      unfold allT
      cases hv : valT d (s.drop e) with
      | none =>
        rw [hv] at q2
        have q3 : r1.2.2 = false := q2
        rw [q3, if_pos (by rfl)]
        exact ⟨_, rfl, rfl⟩
      | some xk =>
        obtain ⟨x, k⟩ := xk
        rw [hv] at q2
        obtain ⟨z1, z2, z3⟩ := valT_size d _ _ _ hv
        rw [List.length_drop] at z2
        dsimp only
        rw [List.drop_drop]
        rcases q2 with q3 | ⟨q3, q4⟩
        · subst q3
          dsimp only
          have bn : decide ((0 : Int) ≤ ((e + k : Nat) : Int)) = true := decide_eq_true (by omega)
          have e1 : w64 (((e + k : Nat) : Int) + 1) = ((e + k + 1 : Nat) : Int) := w64_eq (by omega) (by omega)
          have e2 : w64 (((e + k : Nat) : Int) + 2) = ((e + k + 2 : Nat) : Int) := w64_eq (by omega) (by omega)
          have en : w64 ((n : Int) + 1) = ((n + 1 : Nat) : Int) := w64_eq (by omega) (by omega)
          rw [if_neg (by simp), G_any (by omega), G_any (fun h => ⟨by omega, of_decide_eq_true h⟩), Int.toNat_natCast, e1, e2, en]
          cases hL : s.drop (e + k) with
          | nil =>
            have hpl : e + k = s.length := by
              have := congrArg List.length hL
              rw [List.length_drop, List.length_nil] at this; omega
            have b1 : decide (((e + k : Nat) : Int) < (s.length : Int)) = false := decide_eq_false (by omega)
            have b2 : decide ((s.length : Int) ≤ ((e + k + 1 : Nat) : Int)) = true := decide_eq_true (by omega)
            rw [b1, b2, Bool.false_and, if_neg Bool.false_ne_true, G_any (by rintro ⟨⟩), G_any (by rintro ⟨⟩), if_pos (by rfl)]
            exact ⟨_, rfl, rfl⟩
          | cons c r =>
            obtain ⟨hc, hr, hlen⟩ := drop_cons (d := (0 : UInt8)) hL
            have b1 : decide (((e + k : Nat) : Int) < (s.length : Int)) = true := decide_eq_true (by omega)
            rw [b1, Bool.true_and, hc]
            by_cases h93 : (c.toNat : Int) = 93
            · rw [if_pos (decide_eq_true h93), G_any (by simp only [List.length_append, List.length_cons, List.length_nil]; omega)]
              refine ⟨_, rfl, ?_⟩
              rw [moreT_93 d f c r h93]
              refine .inl ?_
              simp only [flats, List.append_nil, List.length_cons, List.length_nil, Nat.zero_add, lastA]
              rw [show e + k + 1 = e + (k + 1) by omega]
            · rw [if_neg (by simpa using h93)]
              cases r with
              | nil =>
                simp only [List.length_nil] at hlen
                have b2 : decide ((s.length : Int) ≤ ((e + k + 1 : Nat) : Int)) = true := decide_eq_true (by omega)
                rw [b2, Bool.true_or, Bool.true_or, G_any (by rintro ⟨⟩), G_any (by rintro ⟨⟩), if_pos (by rfl)]
                refine ⟨_, rfl, ?_⟩
                rw [moreT, if_neg h93]
                by_cases h44 : (c.toNat : Int) = 44
                · rw [if_pos h44]; rfl
                · rw [if_neg h44]; rfl
              | cons e' r' =>
                obtain ⟨he', hr2, hlen2⟩ := drop_cons (d := (0 : UInt8)) hr
                simp only [List.length_cons] at hlen
                have b2 : decide ((s.length : Int) ≤ ((e + k + 1 : Nat) : Int)) = false := decide_eq_false (by omega)
                rw [b2, Bool.false_or, G_any (fun _ => ⟨by omega, by omega⟩), G_any (fun _ => ⟨by omega, by omega⟩), Int.toNat_natCast, he', moreT_cons2 d f e' r' c h93]
                by_cases h44 : (c.toNat : Int) = 44
                · by_cases h32 : (e'.toNat : Int) = 32
                  · rw [decide_eq_true h44, decide_eq_true h32, if_neg (by decide), if_pos h44, if_pos h32]
                    obtain ⟨res, y1, y2⟩ := rlist_loop f (e + k + 2) (n + 1) (out ++ flat x) (by omega) (by omega) (by omega)
                    rw [hr2] at y2
                    refine ⟨res, y1, ?_⟩
                    cases ha : allT d f r' with
                    | none => rw [ha] at y2; exact y2
                    | some xm =>
                      obtain ⟨xs, m⟩ := xm
                      rw [ha] at y2
                      rcases y2 with y3 | ⟨y3, y4⟩
                      · refine .inl ?_
                        rw [y3]
                        simp only [flats, List.append_assoc, List.length_cons]
                        rw [show e + k + 2 + m = e + (k + (2 + m)) by omega, show n + 1 + xs.length = n + (xs.length + 1) by omega]
                      · refine .inr ⟨y3, ?_⟩
                        rw [List.length_append] at y4
                        simp only [flats, List.length_append]; omega
                  · rw [decide_eq_true h44, decide_eq_false h32, if_pos (by decide), if_pos h44, if_neg h32]
                    exact ⟨_, rfl, rfl⟩
                · rw [decide_eq_false h44, Bool.not_false, Bool.true_or, if_pos rfl, if_neg h44]
                  exact ⟨_, rfl, rfl⟩
        · rw [q3, if_pos (by rfl)]
          refine ⟨_, rfl, ?_⟩
          cases hm : moreT (valT d) (f + 1) (s.drop (e + k)) with
          | none => rfl
          | some xm =>
            obtain ⟨xs, m⟩ := xm
            refine .inr ⟨rfl, ?_⟩
            simp only [flats, List.length_append]; omega
    · have bo : decide ((out.length : Int) < 1024) = false := decide_eq_false (by omega)
      rw [bo, if_neg Bool.false_ne_true]
      refine ⟨_, rfl, ?_⟩
      unfold allT
      cases hv : valT d (s.drop e) with
      | none => rfl
      | some xk =>
        obtain ⟨x, k⟩ := xk
        dsimp only
        cases hm : moreT (valT d) (f + 1) ((s.drop e).drop k) with
        | none => rfl
        | some xm =>
          obtain ⟨xs, m⟩ := xm
          refine .inr ⟨rfl, ?_⟩
          have := flat_pos x
          simp only [flats, List.length_append]; omega
end
theorem listT_all (d : Nat) (e : UInt8) (r' : List UInt8) (h93 : ¬ (e.toNat : Int) = 93) : listT d (e :: r') = (match allT d ((e :: r').length + 1) (e :: r') with
    | some (xs, m) => some (lstA xs, 1 + m)
    | none => none) := by
  rw [listT_cons, if_neg h93]
  unfold allT
  cases valT d (e :: r') with
  | none => rfl
  | some xk =>
    obtain ⟨x, k⟩ := xk
    dsimp only
    cases moreT (valT d) ((e :: r').length + 1) ((e :: r').drop k) with
    | none => rfl
    | some xm =>
      obtain ⟨xs, m⟩ := xm
      simp only [Nat.add_assoc]
theorem parse_rel {s : List UInt8} (hs : s.length ≤ 65536) : ∀ (fu d : Nat), d < fu → d ≤ 32 → ∀ (p : Nat), p ≤ s.length →
    ∃ res, ref07_parse_n fu s (p : Int) ((33 - d : Nat) : Int) = some res ∧ rfRel p (valT d (s.drop p)) res
  | 0, d, h, _, p, hp => by omega
  | fu + 1, 0, h, hd, p, hp => by
    refine ⟨([], 0, false), ?_, rfl⟩
    unfold ref07_parse_n en_ref07_parse
    rw [show decide ((32 : Int) < ((33 - 0 : Nat) : Int)) = true from rfl, Bool.or_true, if_pos rfl]; rfl
  | fu + 1, d + 1, h, hd, p, hp => by
    unfold ref07_parse_n en_ref07_parse
    have b0 : decide ((32 : Int) < ((33 - (d + 1) : Nat) : Int)) = false := decide_eq_false (by omega)
    rw [b0, Bool.or_false]
    cases hL : s.drop p with
    | nil =>
      have hpl : p = s.length := by
        have := congrArg List.length hL
        rw [List.length_drop, List.length_nil] at this; omega
      rw [decide_eq_true (show (s.length : Int) ≤ (p : Int) by omega), if_pos rfl]
      exact ⟨_, rfl, rfl⟩
    | cons c r =>
      obtain ⟨hc, hr, hlen⟩ := drop_cons (d := (0 : UInt8)) hL
      have e1 : w64 ((p : Int) + 1) = ((p + 1 : Nat) : Int) := w64_eq (by omega) (by omega)
      have e2 : w64 (((p + 1 : Nat) : Int) + 1) = ((p + 2 : Nat) : Int) := w64_eq (by omega) (by omega)
      rw [decide_eq_false (show ¬ (s.length : Int) ≤ (p : Int) by omega), if_neg Bool.false_ne_true, G_any ⟨by omega, by omega⟩, Int.toNat_natCast, hc, e1, e2]
      by_cases h34 : (c.toNat : Int) = 34
      · rw [if_pos (decide_eq_true h34), valT_cons, if_pos h34, ← hL]
        exact rtext_rel s hs _ p (by omega)
      · rw [if_neg (by simpa using h34)]
        by_cases h91 : (c.toNat : Int) = 91
        · rw [if_pos (decide_eq_true h91), valT_list d c r h34 h91, G_any (fun h => ⟨by omega, of_decide_eq_true h⟩), Int.toNat_natCast]
          have hrc := fun p hp => parse_rel hs fu d (by omega) (by omega) p hp
          have h32 : (33 - (d + 1) : Nat) = 32 - d := by omega
          rw [h32]
          cases r with
          | nil =>
            simp only [List.length_nil] at hlen
            have b1 : decide (((p + 1 : Nat) : Int) < (s.length : Int)) = false := decide_eq_false (by omega)
            rw [b1, Bool.false_and, if_neg Bool.false_ne_true]
            obtain ⟨res, y1, y2⟩ := rlist_loop hs (by omega) hrc (s.length + 1) (p + 1) 0 [] (by omega) (by omega) (by omega)
            refine ⟨res, y1, ?_⟩
            rw [hr] at y2
            have hvn : valT d [] = none := by cases d <;> rfl
            have ha : allT d (s.length + 1) [] = none := by unfold allT; rw [hvn]
            rw [ha] at y2
            exact y2
          | cons e r' =>
            obtain ⟨he, hr2, hlen2⟩ := drop_cons (d := (0 : UInt8)) hr
            simp only [List.length_cons] at hlen
            have b1 : decide (((p + 1 : Nat) : Int) < (s.length : Int)) = true := decide_eq_true (by omega)
            rw [b1, Bool.true_and, he]
            by_cases h93 : (e.toNat : Int) = 93
            · rw [if_pos (decide_eq_true h93), listT_cons, if_pos h93]
              exact ⟨_, rfl, .inl rfl⟩
            · rw [if_neg (by simpa using h93), listT_all d e r' h93]
              obtain ⟨res, y1, y2⟩ := rlist_loop hs (by omega) hrc ((e :: r').length + 1) (p + 1) 0 [] (by simp only [List.length_cons]; omega) (by omega) (by omega)
              refine ⟨res, y1, ?_⟩
              rw [hr] at y2
              cases ha : allT d ((e :: r').length + 1) (e :: r') with
              | none => rw [ha] at y2; exact y2
              | some xm =>
                obtain ⟨xs, m⟩ := xm
                rw [ha] at y2
                have hfl : flat (lstA xs) = flats xs ++ [lastA xs.length] := by simp only [lstA, flat]
                rcases y2 with y3 | ⟨y3, y4⟩
                · refine .inl ?_
                  rw [y3, hfl, List.nil_append, Nat.zero_add, show p + 1 + m = p + (1 + m) by omega]
                · refine .inr ⟨y3, ?_⟩
                  rw [hfl, List.length_append]
                  simp only [List.length_nil, List.length_cons] at y4 ⊢; omega
        · rw [if_neg (by simpa using h91), valT_cons, if_neg h34, if_neg h91]
          by_cases h45 : (c.toNat : Int) = 45
          · rw [decide_eq_true h45, if_neg (by decide)]
            have hw : iter (st_ref07_parse (ref07_parse_n fu)) (.l34 s ((p + 1 : Nat) : Int) true) = iter (st_ref07_parse (ref07_parse_n fu)) (.l35 s ((p + 1 : Nat) : Int) true ((p + 1 : Nat) : Int)) := by rw [iter_eq']; rfl
            show ∃ res, iter _ _ = some res ∧ _
            rw [hw, rdigs_loop s hs _ true (p + 1) (s.length - (p + 1)) (p + 1) (by omega) (by omega), hr, qcut_take, hr, ← cutD_take]
            refine ⟨_, rfl, ?_⟩
            have := finR_rel p ((cutD r).length + 1) true (numS (cutD r))
            simp only [if_true, true_implies] at this
            rw [numV, if_pos h45, show p + 1 + (cutD r).length = p + ((cutD r).length + 1) by omega]
            exact this
          · rw [decide_eq_false h45, if_pos (by decide)]
            have hw : iter (st_ref07_parse (ref07_parse_n fu)) (.l34 s (p : Int) false) = iter (st_ref07_parse (ref07_parse_n fu)) (.l35 s (p : Int) false (p : Int)) := by rw [iter_eq']; rfl
            show ∃ res, iter _ _ = some res ∧ _
            rw [hw, rdigs_loop s hs _ false p (s.length - p) p (by omega) (by omega), qcut_take, hL, ← cutD_take]
            refine ⟨_, rfl, ?_⟩
            have := finR_rel p (cutD (c :: r)).length false (numS (cutD (c :: r)))
            simp only [Bool.false_eq_true, if_false, false_implies, and_true] at this
            rw [numV, if_neg h45]
            exact this
theorem rParse_eq (s : List UInt8) : ref07_Parse s = some (parseV s) := by
  unfold ref07_Parse parseV
  by_cases hl : 65536 < s.length
  · rw [if_pos (decide_eq_true (by omega)), if_pos hl]
  · rw [if_neg (by rw [decide_eq_true_eq]; omega), if_neg hl]
    obtain ⟨res, q1, q2⟩ := parse_rel (s := s) (by omega) 64 32 (by omega) (by omega) 0 (by omega)
    rw [List.drop_zero] at q2
    have q1' : ref07_parse s (0 : Int) (1 : Int) = some res := q1
    rw [q1', Option.bind_some]
    cases hv : valT 32 s with
    | none =>
      rw [hv] at q2
      have q3 : res.2.2 = false := q2
      rw [q3]; rfl
    | some xk =>
      obtain ⟨x, k⟩ := xk
      rw [hv] at q2
      dsimp only
      rcases q2 with q3 | ⟨q3, q4⟩
      · subst q3
        rw [Nat.zero_add]
        by_cases hk : k = s.length
        · subst hk
          simp only [Bool.not_true, Bool.false_or, decide_true, Bool.not_false, if_true, rcheck_eq, Option.bind_some, true_and, Bool.not_eq_true', decide_eq_false_iff_not]
          by_cases hc : checkV (flat x) = 0
          · rw [if_neg (by simpa using hc), if_pos hc]
          · rw [if_pos hc, if_neg hc]
        · have bk : decide ((k : Int) = (s.length : Int)) = false := decide_eq_false (by omega)
          simp only [Bool.not_true, Bool.false_or, bk, Bool.not_false, Bool.true_or, Bool.false_eq_true, if_false, Option.bind_some, if_true, hk, false_and]
      · have hc : ¬ checkV (flat x) = 0 := fun h => by have := ((valT_check hv).1 h).1; omega
        rw [q3, if_neg (fun h : k = s.length ∧ checkV (flat x) = 0 => hc h.2)]; rfl
end Go.Eng
