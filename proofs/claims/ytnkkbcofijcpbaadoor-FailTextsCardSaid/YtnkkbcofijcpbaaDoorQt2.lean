/- A part of the proof: Qt2. -/
import Derived.Test.YtnkkbcofijcpbaaDoorQt0
namespace Go.Eng
set_option linter.unusedVariables false
set_option linter.unusedSimpArgs false
theorem refhex_eq (c : UInt8) : ref01_hex c = some (Lib.indexByte hexD c) :=
  all_u8 (p := fun c => ref01_hex c = some (Lib.indexByte hexD c)) (by decide +kernel) c
theorem hex_lt (c : UInt8) : Lib.indexByte hexD c < 16 :=
  all_u8 (p := fun c => Lib.indexByte hexD c < 16) (by decide +kernel) c
theorem hexX16 {a b : Int} (ha : 0 ≤ a) (ha2 : a < 16) (hb : 0 ≤ b) (hb2 : b < 16) : (IntKind.wrap .u8 (w64 ((w64 ((16 : Int) * a)) + b))).toNat.toUInt8 = hexX a b := by
  have h : ∀ x y : Fin 16, (IntKind.wrap .u8 (w64 ((w64 ((16 : Int) * ((x.1 : Nat) : Int))) + ((y.1 : Nat) : Int)))).toNat.toUInt8 = hexX ((x.1 : Nat) : Int) ((y.1 : Nat) : Int) := by decide +kernel
  have := h ⟨a.toNat, by omega⟩ ⟨b.toNat, by omega⟩
  simp only [Int.toNat_of_nonneg ha, Int.toNat_of_nonneg hb] at this
  exact this
def refR (out : List UInt8) (i : Nat) : Option (List UInt8 × Nat) → Int × List UInt8 × Bool
  | some (t, n) => (((i + n : Nat) : Int), out ++ t, true)
  | none => (0, [], false)
theorem G_any {ρ : Type} {p : Prop} {d : Decidable p} {k : Option ρ} (h : p) : @G ρ p d k = k := by unfold G; exact if_pos h
theorem ref_esc (s : List UInt8) (hs : s.length < 100000000000) (i : Nat) (out : List UInt8) (ho : out.length ≤ i) (c : UInt8) (r : List UInt8) (hL : s.drop i = c :: r) (h92 : (c.toNat : Int) = 92) :
    sg_ref01_quoted_5 s out (i : Int) = if (escS r).2 = 0 then some (.inr (0, [], false)) else some (.inl (.l5 s (out ++ [(escS r).1]) ((i : Int) + (escS r).2))) := by
  obtain ⟨hc, hr, hlen⟩ := drop_cons (d := (0 : UInt8)) hL
  have hlt' : (i : Int) < (s.length : Int) := by omega
  have b0 : decide ((i : Int) < (s.length : Int)) = true := decide_eq_true hlt'
  have hG : 0 ≤ (i : Int) ∧ (i : Int) < (s.length : Int) := ⟨by omega, hlt'⟩
  have e1 : w64 ((i : Int) + 1) = ((i + 1 : Nat) : Int) := w64_eq (by omega) (by omega)
  have e2 : w64 ((i : Int) + 2) = ((i + 2 : Nat) : Int) := w64_eq (by omega) (by omega)
  have e3 : w64 ((i : Int) + 3) = ((i + 3 : Nat) : Int) := w64_eq (by omega) (by omega)
  have e4 : w64 ((i : Int) + 4) = ((i + 4 : Nat) : Int) := w64_eq (by omega) (by omega)
  have g1 : ∀ x : UInt8, (out.length + ([x] : List UInt8).length) * 1 ≤ 140737488355328 := fun x => by simp only [List.length_cons, List.length_nil]; omega
  have b34 : decide ((c.toNat : Int) = 34) = false := decide_eq_false (by omega)
  have b92 : decide ((c.toNat : Int) = 92) = true := decide_eq_true h92
  unfold sg_ref01_quoted_5
  rw [Int.toNat_natCast, hc, b0, if_pos rfl, G_any hG, b34, b92, if_neg Bool.false_ne_true, if_neg (by decide), e1, e2, e3, e4]
  simp only [Int.toNat_natCast]
  cases r with
  | nil =>
    simp only [List.length_nil] at hlen
    have b1 : decide (((i + 1 : Nat) : Int) < (s.length : Int)) = false := decide_eq_false (by omega)
    have b3 : decide (((i + 3 : Nat) : Int) < (s.length : Int)) = false := decide_eq_false (by omega)
    simp only [b1, b3, Bool.false_and, Option.bind_some, Bool.false_eq_true, if_false]
    rw [G_any (by rintro ⟨⟩), G_any (by rintro ⟨⟩), G_any (by rintro ⟨⟩), G_any (by rintro ⟨⟩), G_any (by rintro ⟨⟩), G_any (by rintro ⟨⟩)]
    rfl
  | cons d r =>
    simp only [List.length_cons] at hlen
    obtain ⟨hd, hr1, _⟩ := drop_cons (d := (0 : UInt8)) hr
    have l1 : (((i + 1 : Nat) : Int) < (s.length : Int)) := by omega
    have b1 : decide (((i + 1 : Nat) : Int) < (s.length : Int)) = true := decide_eq_true l1
    have hG1 : 0 ≤ ((i + 1 : Nat) : Int) ∧ ((i + 1 : Nat) : Int) < (s.length : Int) := ⟨by omega, l1⟩
    simp only [b1, Bool.true_and, hd]
    rw [G_any (fun _ => hG1), G_any (fun _ => hG1)]
    by_cases h34 : (d.toNat : Int) = 34 ∨ (d.toNat : Int) = 92
    · have he : escS (d :: r) = (d, 2) := by simp only [escS]; rw [if_pos h34]
      rw [if_pos (show (decide ((d.toNat : Int) = 34) || decide ((d.toNat : Int) = 92)) = true by simpa using h34), G_any hG1, G_any (g1 d), he]
      rfl
    · rw [if_neg (show ¬ (decide ((d.toNat : Int) = 34) || decide ((d.toNat : Int) = 92)) = true by simpa using h34), G_any (fun _ => hG1)]
      by_cases h110 : (d.toNat : Int) = 110
      · have he : escS (d :: r) = (10, 2) := by simp only [escS]; rw [if_neg h34, if_pos h110]
        rw [if_pos (show (decide ((d.toNat : Int) = 110)) = true from decide_eq_true h110), G_any (g1 10), he]
        rfl
      · rw [if_neg (show ¬ (decide ((d.toNat : Int) = 110)) = true by simpa using h110)]
        have hesc : escS (d :: r) = if (d.toNat : Int) = 120 then escX r else (0, 0) := by simp only [escS]; rw [if_neg h34, if_neg h110]
        rw [hesc]
        rw [G_any (fun _ => hG1)]
        have short : r.length < 2 → (if (d.toNat : Int) = 120 then escX r else ((0 : UInt8), (0 : Int))).2 = 0 := by
          intro hl
          split
          · cases r with
            | nil => rfl
            | cons p r => cases r with
              | nil => rfl
              | cons q r => simp only [List.length_cons] at hl; omega
          · rfl
        by_cases hl : r.length < 2
        · have b3 : decide (((i + 3 : Nat) : Int) < (s.length : Int)) = false := decide_eq_false (by omega)
          simp only [b3, Bool.false_and, Option.bind_some, Bool.false_eq_true, if_false]
          rw [G_any (by rintro ⟨⟩), G_any (by rintro ⟨⟩), if_pos (short hl)]
        · cases r with
          | nil => simp at hl
          | cons p r =>
            cases r with
            | nil => simp at hl
            | cons q r =>
              simp only [List.length_cons] at hlen
              obtain ⟨hp, hr2, _⟩ := drop_cons (d := (0 : UInt8)) hr1
              obtain ⟨hq, hr3, _⟩ := drop_cons (d := (0 : UInt8)) hr2
              have hp' : s.getD (i + 2) 0 = p := hp
              have hq' : s.getD (i + 3) 0 = q := hq
              have b3 : decide (((i + 3 : Nat) : Int) < (s.length : Int)) = true := decide_eq_true (by omega)
              have hG2 : 0 ≤ ((i + 2 : Nat) : Int) ∧ ((i + 2 : Nat) : Int) < (s.length : Int) := ⟨by omega, by omega⟩
              have hG3 : 0 ≤ ((i + 3 : Nat) : Int) ∧ ((i + 3 : Nat) : Int) < (s.length : Int) := ⟨by omega, by omega⟩
              simp only [b3, Bool.true_and, hp', hq', refhex_eq]
              rw [G_any (fun _ => hG2)]
              have hx : escX (p :: q :: r) = hexS p q := rfl
              rw [hx]
              have a1 := hex_lt p
              have a2 := hex_lt q
              by_cases h120 : (d.toNat : Int) = 120
              · have b120 : decide ((d.toNat : Int) = 120) = true := decide_eq_true h120
                simp only [b120, if_true, if_pos h120, Option.bind_some, Bool.true_and]
                rw [G_any (fun _ => hG3)]
                by_cases hpn : 0 ≤ Lib.indexByte hexD p
                · have bp : decide (0 ≤ Lib.indexByte hexD p) = true := decide_eq_true hpn
                  simp only [bp, if_true, Option.bind_some, Bool.true_and]
                  by_cases hqn : 0 ≤ Lib.indexByte hexD q
                  · have bq : decide (0 ≤ Lib.indexByte hexD q) = true := decide_eq_true hqn
                    simp only [bq, if_true, Option.bind_some]
                    rw [G_any hG2, G_any hG3, hexX16 hpn a1 hqn a2]
                    unfold hexS
                    have np : ¬ Lib.indexByte hexD p < 0 := by omega
                    have nq : ¬ Lib.indexByte hexD q < 0 := by omega
                    simp only [np, nq, false_or]
                    by_cases hb : ((hexX (Lib.indexByte hexD p) (Lib.indexByte hexD q)).toNat : Int) = 10 ∨ (32 ≤ ((hexX (Lib.indexByte hexD p) (Lib.indexByte hexD q)).toNat : Int) ∧ ((hexX (Lib.indexByte hexD p) (Lib.indexByte hexD q)).toNat : Int) ≤ 126)
                    · simp only [if_pos hb]
                      rw [if_pos trivial, if_pos (by
                        simp only [Bool.or_eq_true, Bool.and_eq_true, decide_eq_true_eq]
                        rcases hb with h | h
                        · exact .inr h
                        · exact .inl h)]
                    · simp only [if_neg hb]
                      rw [if_neg (show ¬ (_ : Bool) = true from by
                        simp only [Bool.or_eq_true, Bool.and_eq_true, decide_eq_true_eq]
                        rintro (h | h)
                        · exact hb (.inr h)
                        · exact hb (.inl h)), G_any (g1 _)]
                      rfl
                  · have nq : Lib.indexByte hexD q < 0 := by omega
                    have bq : decide (0 ≤ Lib.indexByte hexD q) = false := decide_eq_false hqn
                    simp only [bq, Bool.false_eq_true, if_false]
                    have : (hexS p q).2 = 0 := by unfold hexS; rw [if_pos (.inr (.inl nq))]
                    rw [if_pos this]
                · have np : Lib.indexByte hexD p < 0 := by omega
                  have bp : decide (0 ≤ Lib.indexByte hexD p) = false := decide_eq_false hpn
                  simp only [bp, Bool.false_eq_true, if_false, Bool.false_and, Option.bind_some]
                  have : (hexS p q).2 = 0 := by unfold hexS; rw [if_pos (.inl np)]
                  rw [if_pos this]
              · have b120 : decide ((d.toNat : Int) = 120) = false := decide_eq_false h120
                simp only [b120, Bool.false_eq_true, if_false, if_neg h120, Option.bind_some, Bool.false_and]
                rw [G_any (by rintro ⟨⟩), if_pos trivial]
theorem refquoted_loop (s : List UInt8) (hs : s.length < 100000000000) : ∀ (f i : Nat) (out : List UInt8), s.length < i + f → i ≤ s.length → out.length ≤ i →
    iter st_ref01_quoted (.l5 s out (i : Int)) = some (refR out i (quoteF f (s.drop i)))
  | 0, i, out, hf, hi, ho => by omega
  | f + 1, i, out, hf, hi, ho => by
    rw [iter_eq']
    by_cases hlt : i < s.length
    · obtain ⟨c, r, hL⟩ := drop_ex hlt
      obtain ⟨hc, hr, hlen⟩ := drop_cons (d := (0 : UInt8)) hL
      have hlt' : (i : Int) < (s.length : Int) := by omega
      have hG : 0 ≤ (i : Int) ∧ (i : Int) < (s.length : Int) := ⟨by omega, hlt'⟩
      have e6 : w64 ((i : Int) + 1) = ((i + 1 : Nat) : Int) := w64_eq (by omega) (by omega)
      rw [hL]
      simp only [st_ref01_quoted, quoteF]
      by_cases h92 : (c.toNat : Int) = 92
      · rw [ref_esc s hs i out ho c r hL h92, if_neg (show ¬ (c.toNat : Int) = 34 by omega), if_pos h92]
        by_cases he : (escS r).2 = 0
        · rw [if_pos he, if_pos he]; rfl
        · rw [if_neg he, if_neg he]
          have hk : ∃ k : Nat, (escS r).2 = (k : Int) ∧ 2 ≤ k ∧ i + k ≤ s.length := by
            rcases escS_k r with h | ⟨h, h2⟩ | ⟨h, h2⟩
            · exact absurd h he
            · exact ⟨2, h, by omega, by omega⟩
            · exact ⟨4, h, by omega, by omega⟩
          obtain ⟨k, hk1, hk2, hk3⟩ := hk
          rw [hk1, show (i : Int) + (k : Int) = ((i + k : Nat) : Int) by omega]
          show iter _ _ = _
          rw [refquoted_loop s hs f (i + k) _ (by omega) (by omega) (by simp only [List.length_append, List.length_cons, List.length_nil]; omega)]
          have hdr : s.drop (i + k) = r.drop (k - 1) := by
            rw [← hr, List.drop_drop]; congr 1; omega
          rw [hdr, Int.toNat_natCast]
          cases quoteF f (r.drop (k - 1)) with
          | none => rfl
          | some p => simp only [refR, Option.map_some, List.append_assoc, List.cons_append, List.nil_append, Option.some.injEq, Prod.mk.injEq, true_and, and_true]; omega
      · unfold sg_ref01_quoted_5
        simp only [hlt', decide_true, if_true, G_pos hG, Int.toNat_natCast, hc, e6, decide_eq_true_eq]
        by_cases h34 : (c.toNat : Int) = 34
        · rw [if_pos h34, if_pos h34]; simp only [refR, List.append_nil]; rfl
        · rw [if_neg h34, if_neg h34, if_neg h92, if_pos (by simpa using h92)]
          by_cases hp : (c.toNat : Int) < 32 ∨ 126 < (c.toNat : Int)
          · rw [if_pos (by simpa using hp), if_pos hp]; rfl
          · rw [if_neg (by simpa using hp), if_neg hp, G_pos (show (out.length + ([c] : List UInt8).length) * 1 ≤ 140737488355328 from by simp only [List.length_cons, List.length_nil]; omega)]
            show iter _ _ = _
            rw [refquoted_loop s hs f (i + 1) _ (by omega) (by omega) (by simp only [List.length_append, List.length_cons, List.length_nil]; omega), hr]
            cases quoteF f r with
            | none => rfl
            | some p => simp only [refR, Option.map_some, List.append_assoc, List.cons_append, List.nil_append, Option.some.injEq, Prod.mk.injEq, true_and, and_true]; omega
    · have hd : s.drop i = [] := List.drop_eq_nil_of_le (by omega)
      have h1 : ¬ (i : Int) < (s.length : Int) := by omega
      simp only [st_ref01_quoted, sg_ref01_quoted_5, h1, decide_false, Bool.false_eq_true, if_false, hd, quoteF]; rfl
theorem refUnquote_eq (s : List UInt8) (hs : s.length < 100000000000) : ref01_Unquote s = some (unqS s) := by
  unfold ref01_Unquote ref01_quoted en_ref01_quoted
  cases s with
  | nil => rfl
  | cons c r =>
    simp only [unqS]
    have h1 : ¬ ((c :: r).length : Int) ≤ 0 := by simp only [List.length_cons]; omega
    have hg : (c :: r).getD (0 : Int).toNat 0 = c := rfl
    rw [G_pos (fun _ => ⟨by omega, by simp only [List.length_cons]; omega⟩)]
    by_cases h34 : (c.toNat : Int) = 34
    · simp only [h1, hg, h34, decide_false, decide_true, Bool.not_true, Bool.or_false, Bool.false_eq_true, if_false, if_true]
      have hw : w64 ((0 : Int) + 1) = ((1 : Nat) : Int) := w64_eq (by omega) (by omega)
      rw [hw]
      have := refquoted_loop (c :: r) hs (r.length + 1) 1 [] (by simp only [List.length_cons]; omega) (by simp only [List.length_cons]; omega) (by simp)
      show (iter st_ref01_quoted _).bind _ = _
      rw [this, List.drop_succ_cons, List.drop_zero]
      cases quoteF (r.length + 1) r with
      | none => rfl
      | some p =>
        obtain ⟨t, n⟩ := p
        simp only [refR, Option.bind_some, Bool.not_true, Bool.false_or, List.nil_append]
        have : (((1 + n : Nat) : Int) = ((c :: r).length : Int)) = (n = r.length) := by apply propext; simp only [List.length_cons]; omega
        simp only [this, Bool.not_eq_true', decide_eq_false_iff_not]
        by_cases hn : n = r.length
        · rw [if_neg (by simpa using hn), if_pos hn]
        · rw [if_pos hn, if_neg hn]
    · simp only [h1, hg, h34, decide_false, Bool.not_false, Bool.or_true, if_true, if_false]
      rfl
end Go.Eng
