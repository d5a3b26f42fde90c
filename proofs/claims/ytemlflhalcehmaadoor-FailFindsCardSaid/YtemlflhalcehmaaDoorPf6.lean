/- A part of the proof: Pf6. -/
import Derived.Test.YtemlflhalcehmaaDoorPf4
namespace Go.Eng
set_option linter.unusedVariables false
set_option linter.unusedSimpArgs false

/-- The wholes on the stack (the last one first) end where the next one begins. -/
def tileR (fr : List Int) : List Int → Nat → Prop
  | [], _ => True
  | b :: rs, i => 1 ≤ i ∧ i ≤ fr.length ∧ fr.getD (i - 1) 0 = b ∧ 0 ≤ b ∧ b < (i : Int) ∧ tileR fr rs b.toNat
theorem tileR_ext (fr ext : List Int) : ∀ (rs : List Int) (i : Nat), tileR fr rs i → tileR (fr ++ ext) rs i
  | [], _, _ => trivial
  | b :: rs, i, h => by
    obtain ⟨h1, h2, h3, h4, h5, h6⟩ := h
    refine ⟨h1, by rw [List.length_append]; omega, ?_, h4, h5, tileR_ext fr ext rs _ h6⟩
    rw [← h3, List.getD_eq_getElem?_getD, List.getD_eq_getElem?_getD, List.getElem?_append_left (by omega)]
theorem tileR_drop (fr : List Int) : ∀ (rs : List Int) (i m : Nat), tileR fr rs i → m < rs.length → tileR fr (rs.drop (m + 1)) (rs.getD m 0).toNat ∧ 0 ≤ rs.getD m 0 ∧ rs.getD m 0 < (i : Int)
  | [], _, _, _, hm => by simp at hm
  | b :: rs, i, 0, h, _ => by
    obtain ⟨h1, h2, h3, h4, h5, h6⟩ := h
    exact ⟨h6, h4, h5⟩
  | b :: rs, i, m + 1, h, hm => by
    obtain ⟨h1, h2, h3, h4, h5, h6⟩ := h
    obtain ⟨k1, k2, k3⟩ := tileR_drop fr rs _ m h6 (by simpa using hm)
    exact ⟨by simpa using k1, by simpa using k2, by simp only [List.getD_cons_succ]; omega⟩

theorem rev_take (st : List Int) (m : Nat) (h : m ≤ st.length) : (st.take (st.length - m)).reverse = st.reverse.drop m := by
  rw [List.reverse_take]; congr 1; omega
theorem rev_get (st : List Int) (m : Nat) (h : 1 ≤ m) (h2 : m ≤ st.length) : st.getD (st.length - m) 0 = st.reverse.getD (m - 1) 0 := by
  rw [List.getD_eq_getElem?_getD, List.getD_eq_getElem?_getD, List.getElem?_reverse (by omega)]
  congr 2; omega

theorem begF_tile : ∀ (r : List tCrack) (i : Nat) (fr st : List Int), fr.length = i → tileR fr st.reverse i → st.length ≤ i → (begF r i fr st).2 = true →
    ∃ ext, (begF r i fr st).1 = fr ++ ext ∧ ext.length = r.length ∧ ∀ j c, r[j]? = some c → 0 ≤ c.2.1 ∧ crackS c = true ∧ ∃ rs : List Int, c.2.1.toNat ≤ rs.length ∧ rs.length ≤ i + j ∧ tileR (begF r i fr st).1 rs (i + j)
  | [], i, fr, st, hf, ht, hl, h => ⟨[], by simp [begF], rfl, fun j c hj => by simp at hj⟩
  | c :: r, i, fr, st, hf, ht, hl, h => by
    simp only [begF] at h ⊢
    cases hs : stepB i c st with
    | none => rw [hs] at h; cases h
    | some p =>
      obtain ⟨b, st'⟩ := p
      rw [hs] at h
      simp only at h ⊢
      have hlen := stepB_len hs
      have key : tileR (fr ++ [b]) st'.reverse (i + 1) ∧ 0 ≤ c.2.1 ∧ crackS c = true ∧ c.2.1.toNat ≤ st.reverse.length := by
        unfold stepB at hs
        split at hs
        · rename_i hc
          have hp := crackS_pos hc.1
          refine ⟨?_, hp, hc.1, by rw [List.length_reverse]; omega⟩
          have hget : ∀ x : Int, (fr ++ [x]).getD i 0 = x := fun x => by
            rw [List.getD_eq_getElem?_getD, List.getElem?_append_right (by omega), hf, Nat.sub_self]; rfl
          split at hs
          · rename_i hpos
            simp only [Option.some.injEq, Prod.mk.injEq] at hs
            obtain ⟨rfl, rfl⟩ := hs
            rw [List.reverse_append, rev_take _ _ (by omega)]
            obtain ⟨k1, k2, k3⟩ := tileR_drop fr st.reverse i (c.2.1.toNat - 1) ht (by rw [List.length_reverse]; omega)
            rw [rev_get st c.2.1.toNat (by omega) (by omega)]
            refine ⟨by omega, by rw [List.length_append, hf]; simp, by rw [Nat.add_sub_cancel]; exact hget _, k2, by omega, tileR_ext _ _ _ _ ?_⟩
            rw [show c.2.1.toNat - 1 + 1 = c.2.1.toNat by omega] at k1
            exact k1
          · simp only [Option.some.injEq, Prod.mk.injEq] at hs
            obtain ⟨rfl, rfl⟩ := hs
            rw [List.reverse_append]
            refine ⟨by omega, by rw [List.length_append, hf]; simp, by rw [Nat.add_sub_cancel]; exact hget _, by omega, by omega, tileR_ext _ _ _ _ ?_⟩
            rw [Int.toNat_natCast]; exact ht
        · cases hs
      obtain ⟨q1, q2, q3, q4⟩ := key
      obtain ⟨ext, e1, e2, e3⟩ := begF_tile r (i + 1) (fr ++ [b]) st' (by rw [List.length_append, hf]; rfl) q1 (by omega) h
      refine ⟨b :: ext, by rw [e1]; simp, by simp [e2], fun j d hj => ?_⟩
      cases j with
      | zero =>
        simp at hj; subst hj
        refine ⟨q2, q3, st.reverse, q4, by rw [List.length_reverse]; omega, ?_⟩
        rw [e1, List.append_assoc]
        exact tileR_ext _ _ _ _ ht
      | succ j =>
        obtain ⟨p1, p2, rs, p3, p4, p5⟩ := e3 j d (by simpa using hj)
        exact ⟨p1, p2, rs, p3, by omega, by rw [show i + (j + 1) = i + 1 + j by omega]; exact p5⟩
theorem valid_at {f : List tCrack} (h : checkS f = 0) : ((begF f 0 [] []).1.length = f.length) ∧ f.length ≤ 1024 ∧ 0 < f.length ∧ ∀ j c, f[j]? = some c → 0 ≤ c.2.1 ∧ crackS c = true ∧ ∃ rs : List Int, c.2.1.toNat ≤ rs.length ∧ rs.length ≤ j ∧ tileR (begF f 0 [] []).1 rs j := by
  have hlen := (okF_check h).2
  unfold checkS at h
  split at h
  · cases h
  · split at h
    · rename_i h1 h2
      obtain ⟨ext, e1, e2, e3⟩ := begF_tile f 0 [] [] rfl trivial (by simp) h2
      refine ⟨by rw [e1]; simpa using e2, hlen, ?_, fun j c hj => ?_⟩
      · cases f with
        | nil => simp [begF] at h2
        | cons c r => simp
      · obtain ⟨p1, p2, rs, p3, p4, p5⟩ := e3 j c hj
        exact ⟨p1, p2, rs, p3, by omega, by simpa using p5⟩
    · cases h

/-! parts -/
theorem parts_loop (fr : List Int) (hfr : fr.length ≤ 1024) : ∀ (n k : Nat) (out rs : List Int), n ≤ rs.length → tileR fr rs k → n ≤ out.length → out.length ≤ 1024 → k ≤ 1024 →
    ∃ o, o.length = out.length ∧ iter st_fail_parts (.l4 fr out (k : Int) ((n : Int) - 1)) = some o ∧ iter st_ref03_parts (.l5 fr out ((k : Int) - 1) ((n : Int) - 1)) = some o
  | 0, k, out, rs, hn, ht, ho, ho2, hk => by
    refine ⟨out, rfl, ?_, ?_⟩
    · rw [iter_eq']
      have : ¬ (0 : Int) ≤ ((0 : Nat) : Int) - 1 := by omega
      simp only [st_fail_parts, sg_fail_parts_4, this, decide_false, Bool.false_eq_true, if_false]; rfl
    · rw [iter_eq']
      have : ¬ (0 : Int) ≤ ((0 : Nat) : Int) - 1 := by omega
      simp only [st_ref03_parts, sg_ref03_parts_5, this, decide_false, Bool.false_eq_true, if_false]; rfl
  | n + 1, k, out, [], hn, ht, ho, ho2, hk => by simp at hn
  | n + 1, k, out, b :: rs, hn, ht, ho, ho2, hk => by
    obtain ⟨h1, h2, h3, h4, h5, h6⟩ := ht
    obtain ⟨o, q1, q2, q3⟩ := parts_loop fr hfr n b.toNat (out.set n ((k : Int) - 1)) rs (by simpa using hn) h6 (by rw [List.length_set]; omega) (by rw [List.length_set]; exact ho2) (by omega)
    have e0 : ((n + 1 : Nat) : Int) - 1 = (n : Int) := by omega
    have eb : ((b.toNat : Nat) : Int) = b := by omega
    rw [eb] at q2 q3
    have g0 : (0 : Int) ≤ (n : Int) := by omega
    have g1 : 0 ≤ (n : Int) ∧ (n : Int) < (out.length : Int) := by omega
    have w1 : w64 ((k : Int) - 1) = (k : Int) - 1 := w64_eq (by omega) (by omega)
    have w2 : w64 ((n : Int) - 1) = (n : Int) - 1 := w64_eq (by omega) (by omega)
    have w3 : w64 (b - 1) = b - 1 := w64_eq (by omega) (by omega)
    have g2 : 0 ≤ (k : Int) - 1 ∧ (k : Int) - 1 < (fr.length : Int) := by omega
    have e2 : ((k : Int) - 1).toNat = k - 1 := by omega
    refine ⟨o, by rw [q1, List.length_set], ?_, ?_⟩
    · rw [iter_eq']
      simp only [e0, st_fail_parts, sg_fail_parts_4, decide_eq_true_eq, if_pos g0, G_pos g1, w1, G_pos g2, Int.toNat_natCast, e2, h3, w2]
      exact q2
    · rw [iter_eq']
      simp only [e0, st_ref03_parts, sg_ref03_parts_5, decide_eq_true_eq, if_pos g0, G_pos g1, G_pos g2, Int.toNat_natCast, e2, h3, w2, w3]
      exact q3
theorem parts_both (f : List tCrack) (a : Int) (hf : f.length * 32 ≤ 140737488351232) : ∃ p : List Int × Int, fail_Parts f a = some p ∧ ref03_Parts f a = some p ∧ p.1.length ≤ 1024 := by
  unfold fail_Parts ref03_Parts
  rw [check_eq, refCheck_eq]
  simp only [Option.bind_some]
  by_cases h : checkS f = 0
  · obtain ⟨v1, v2, v3, v4⟩ := valid_at h
    simp only [h, decide_true, Bool.not_true, Bool.false_eq_true, if_false]
    by_cases ha : a < 0 ∨ (f.length : Int) ≤ a
    · have : (decide (a < 0) || decide ((f.length : Int) ≤ a)) = true := by simpa using ha
      simp only [this, if_true]
      exact ⟨_, rfl, rfl, by simp⟩
    · have : (decide (a < 0) || decide ((f.length : Int) ≤ a)) = false := by
        rw [Bool.or_eq_false_iff, decide_eq_false_iff_not, decide_eq_false_iff_not]; omega
      simp only [this, Bool.false_eq_true, if_false]
      obtain ⟨k, rfl⟩ : ∃ k : Nat, a = k := ⟨a.toNat, by omega⟩
      have hk : k < f.length := by omega
      rw [failBeg_eq f (by omega)]
      unfold fail_parts ref03_parts en_fail_parts en_ref03_parts
      rw [refBeg_eq f (by omega)]
      simp only [Option.bind_some]
      obtain ⟨c, hc⟩ : ∃ c, f[k]? = some c := ⟨f[k], List.getElem?_eq_getElem hk⟩
      have hcd : f.getD k dCrack = c := by rw [List.getD_eq_getElem?_getD, hc]; rfl
      obtain ⟨p1, p2, rs, p3, p4, p5⟩ := v4 k c hc
      have g1 : 0 ≤ (k : Int) ∧ (k : Int) < (f.length : Int) := by omega
      have g2 : 0 ≤ c.2.1 ∧ c.2.1 ≤ c.2.1 ∧ (8 : Int) * c.2.1 ≤ 281474976710656 := by omega
      simp only [Int.toNat_natCast, hcd, G_pos g1, G_pos g2, List.length_replicate]
      have w1 : w64 ((c.2.1.toNat : Int) - 1) = (c.2.1.toNat : Int) - 1 := w64_eq (by omega) (by omega)
      have w2 : w64 (c.2.1 - 1) = (c.2.1.toNat : Int) - 1 := by rw [w64_eq (by omega) (by omega)]; omega
      have w3 : w64 ((k : Int) - 1) = (k : Int) - 1 := w64_eq (by omega) (by omega)
      rw [w1, w2, w3]
      obtain ⟨o, q1, q2, q3⟩ := parts_loop (begF f 0 [] []).1 (by omega) c.2.1.toNat k (List.replicate c.2.1.toNat 0) rs p3 p5 (by simp) (by simp; omega) (by omega)
      refine ⟨(o, 0), ?_, ?_, by rw [q1]; simp; omega⟩
      · show (iter _ _).bind _ = _
        rw [q2]; rfl
      · show (iter _ _).bind _ = _
        rw [q3]; rfl
  · simp only [h, decide_false, Bool.not_false, if_true]
    exact ⟨_, rfl, rfl, by simp⟩
theorem SameInts_loop (a b : List Int) (ha : a.length < 4611686018427387904) (hab : a.length = b.length) : ∀ (d i : Nat), i + d = a.length → iter st_base_SameInts (.l4 a b (i : Int)) = some (decide (a.drop i = b.drop i))
  | 0, i, hi => by
    rw [iter_eq']
    have hd : a.drop i = [] := List.drop_eq_nil_of_le (by omega)
    have hd2 : b.drop i = [] := List.drop_eq_nil_of_le (by omega)
    have : ¬ (i : Int) < (a.length : Int) := by omega
    simp only [st_base_SameInts, sg_base_SameInts_4, this, decide_false, Bool.false_eq_true, if_false, hd, hd2]; rfl
  | d + 1, i, hi => by
    rw [iter_eq']
    obtain ⟨c, r, hL⟩ := drop_ex (show i < a.length by omega)
    obtain ⟨hc, hr, hlen⟩ := drop_cons (d := (0 : Int)) hL
    obtain ⟨c2, r2, hL2⟩ := drop_ex (show i < b.length by omega)
    obtain ⟨hc2, hr2, hlen2⟩ := drop_cons (d := (0 : Int)) hL2
    have hlt : (i : Int) < (a.length : Int) := by omega
    have hG : 0 ≤ (i : Int) ∧ (i : Int) < (a.length : Int) := ⟨by omega, hlt⟩
    have hG2 : 0 ≤ (i : Int) ∧ (i : Int) < (b.length : Int) := ⟨by omega, by omega⟩
    have e6 : w64 ((i : Int) + 1) = ((i + 1 : Nat) : Int) := w64_eq (by omega) (by omega)
    simp only [st_base_SameInts, sg_base_SameInts_4, decide_eq_true_eq, if_pos hlt, G_pos hG, G_pos hG2, Int.toNat_natCast, hc, hc2, e6]
    by_cases heq : c = c2
    · simp only [heq, decide_true, Bool.not_true, Bool.false_eq_true, if_false]
      show iter _ _ = _
      rw [SameInts_loop a b ha hab d (i + 1) (by omega), hL, hL2, hr, hr2, heq]
      simp
    · rw [hL, hL2]
      simp [runL, heq]
theorem SameInts_eq (a b : List Int) (ha : a.length < 4611686018427387904) : base_SameInts a b = some (decide (a = b)) := by
  unfold base_SameInts en_base_SameInts
  by_cases h : a.length = b.length
  · have h' : (a.length : Int) = (b.length : Int) := by omega
    simp only [h', decide_true, Bool.not_true, Bool.false_eq_true, if_false]
    show iter _ _ = _
    have := SameInts_loop a b ha h a.length 0 (by omega)
    simpa using this
  · have h' : ¬ (a.length : Int) = (b.length : Int) := by omega
    have hne : ¬ a = b := fun e => h (by rw [e])
    simp only [h', decide_false, Bool.not_false, if_true, hne]; rfl

theorem SameTexts_loop (a b : List (List UInt8)) (ha : a.length < 4611686018427387904) (hab : a.length = b.length) : ∀ (d i : Nat), i + d = a.length → iter st_base_SameTexts (.l4 a b (i : Int)) = some (decide (a.drop i = b.drop i))
  | 0, i, hi => by
    rw [iter_eq']
    have hd : a.drop i = [] := List.drop_eq_nil_of_le (by omega)
    have hd2 : b.drop i = [] := List.drop_eq_nil_of_le (by omega)
    have : ¬ (i : Int) < (a.length : Int) := by omega
    simp only [st_base_SameTexts, sg_base_SameTexts_4, this, decide_false, Bool.false_eq_true, if_false, hd, hd2]; rfl
  | d + 1, i, hi => by
    rw [iter_eq']
    obtain ⟨c, r, hL⟩ := drop_ex (show i < a.length by omega)
    obtain ⟨hc, hr, hlen⟩ := drop_cons (d := ([] : List UInt8)) hL
    obtain ⟨c2, r2, hL2⟩ := drop_ex (show i < b.length by omega)
    obtain ⟨hc2, hr2, hlen2⟩ := drop_cons (d := ([] : List UInt8)) hL2
    have hlt : (i : Int) < (a.length : Int) := by omega
    have hG : 0 ≤ (i : Int) ∧ (i : Int) < (a.length : Int) := ⟨by omega, hlt⟩
    have hG2 : 0 ≤ (i : Int) ∧ (i : Int) < (b.length : Int) := ⟨by omega, by omega⟩
    have e6 : w64 ((i : Int) + 1) = ((i + 1 : Nat) : Int) := w64_eq (by omega) (by omega)
    simp only [st_base_SameTexts, sg_base_SameTexts_4, decide_eq_true_eq, if_pos hlt, G_pos hG, G_pos hG2, Int.toNat_natCast, hc, hc2, e6]
    by_cases heq : c = c2
    · simp only [heq, decide_true, Bool.not_true, Bool.false_eq_true, if_false]
      show iter _ _ = _
      rw [SameTexts_loop a b ha hab d (i + 1) (by omega), hL, hL2, hr, hr2, heq]
      simp
    · rw [hL, hL2]
      simp [runL, heq]
theorem SameTexts_eq (a b : List (List UInt8)) (ha : a.length < 4611686018427387904) : base_SameTexts a b = some (decide (a = b)) := by
  unfold base_SameTexts en_base_SameTexts
  by_cases h : a.length = b.length
  · have h' : (a.length : Int) = (b.length : Int) := by omega
    simp only [h', decide_true, Bool.not_true, Bool.false_eq_true, if_false]
    show iter _ _ = _
    have := SameTexts_loop a b ha h a.length 0 (by omega)
    simpa using this
  · have h' : ¬ (a.length : Int) = (b.length : Int) := by omega
    have hne : ¬ a = b := fun e => h (by rw [e])
    simp only [h', decide_false, Bool.not_false, if_true, hne]; rfl

/-! leaves -/
def leafL (f : List tCrack) : List tCrack := f.filter fun c => decide (c.2.1 = 0)
theorem leaves_loop (f : List tCrack) (hf : f.length ≤ 1024) : ∀ (d i : Nat) (out : List (Bool × List tCrack)), i + d = f.length → out.length ≤ i →
    iter st_fail_Leaves (.l6 out f (f.length : Int) (i : Int)) = some (out ++ (leafL (f.drop i)).map (fun c => (true, [c])), 0)
  | 0, i, out, hi, ho => by
    rw [iter_eq']
    have hd : f.drop i = [] := List.drop_eq_nil_of_le (by omega)
    have : ¬ (i : Int) < (f.length : Int) := by omega
    simp only [st_fail_Leaves, sg_fail_Leaves_6, this, decide_false, Bool.false_eq_true, if_false, hd]
    rw [G_pos trivial]
    simp [leafL, runL]
  | d + 1, i, out, hi, ho => by
    rw [iter_eq']
    obtain ⟨c, r, hL⟩ := drop_ex (show i < f.length by omega)
    obtain ⟨hc, hr, hlen⟩ := drop_cons (d := dCrack) hL
    have hlt : (i : Int) < (f.length : Int) := by omega
    have hG : 0 ≤ (i : Int) ∧ (i : Int) < (f.length : Int) := ⟨by omega, hlt⟩
    have e6 : w64 ((i : Int) + 1) = ((i + 1 : Nat) : Int) := w64_eq (by omega) (by omega)
    simp only [st_fail_Leaves, sg_fail_Leaves_6, decide_eq_true_eq, if_pos hlt, G_pos hG, Int.toNat_natCast, hc, e6]
    by_cases hq : c.2.1 = 0
    · rw [if_pos hq, G_pos trivial, G_pos trivial, G_pos (by simp only [List.length_cons, List.length_nil]; omega)]
      show iter _ _ = _
      rw [leaves_loop f hf d (i + 1) _ (by omega) (by simp; omega), hL, ← hr]
      have hcc : ((c.1, c.2.1, c.2.2.1, ()) : tCrack) = c := rfl
      rw [hcc]
      simp [leafL, hq]
    · rw [if_neg hq]
      show iter _ _ = _
      rw [leaves_loop f hf d (i + 1) _ (by omega) (by omega), hL, ← hr]
      simp [leafL, hq]
theorem refLeaves_loop (f : List tCrack) (hf : f.length ≤ 1024) : ∀ (d i : Nat) (out : List (List tCrack)), i + d = f.length → out.length ≤ i →
    iter st_ref03_Leaves (.l6 f out (i : Int)) = some (out ++ (leafL (f.drop i)).map (fun c => [c]), 0)
  | 0, i, out, hi, ho => by
    rw [iter_eq']
    have hd : f.drop i = [] := List.drop_eq_nil_of_le (by omega)
    have : ¬ (i : Int) < (f.length : Int) := by omega
    simp only [st_ref03_Leaves, sg_ref03_Leaves_6, this, decide_false, Bool.false_eq_true, if_false, hd]
    simp [leafL, runL]
  | d + 1, i, out, hi, ho => by
    rw [iter_eq']
    obtain ⟨c, r, hL⟩ := drop_ex (show i < f.length by omega)
    obtain ⟨hc, hr, hlen⟩ := drop_cons (d := dCrack) hL
    have hlt : (i : Int) < (f.length : Int) := by omega
    have hG : 0 ≤ (i : Int) ∧ (i : Int) < (f.length : Int) := ⟨by omega, hlt⟩
    have e6 : w64 ((i : Int) + 1) = ((i + 1 : Nat) : Int) := w64_eq (by omega) (by omega)
    simp only [st_ref03_Leaves, sg_ref03_Leaves_6, decide_eq_true_eq, if_pos hlt, G_pos hG, Int.toNat_natCast, hc, e6]
    by_cases hq : c.2.1 = 0
    · rw [if_pos hq, G_pos (by simp only [List.length_cons, List.length_nil]; omega)]
      show iter _ _ = _
      rw [refLeaves_loop f hf d (i + 1) _ (by omega) (by simp; omega), hL, ← hr]
      simp [leafL, hq]
    · rw [if_neg hq]
      show iter _ _ = _
      rw [refLeaves_loop f hf d (i + 1) _ (by omega) (by omega), hL, ← hr]
      simp [leafL, hq]
def leavesS (f : List tCrack) : List tCrack × Int := if checkS f = 0 then (leafL f, 0) else ([], checkS f)
theorem leaves_eq (f : List tCrack) : fail_Leaves f = some ((leavesS f).1.map (fun c => (true, [c])), (leavesS f).2) := by
  unfold fail_Leaves en_fail_Leaves leavesS
  rw [check_eq]
  simp only [Option.bind_some]
  by_cases h : checkS f = 0
  · obtain ⟨h1, h2⟩ := okF_check h
    simp only [h, decide_true, Bool.not_true, Bool.false_eq_true, if_false, if_true]
    show iter _ _ = _
    have := leaves_loop f h2 f.length 0 [] (by omega) (by simp)
    simpa using this
  · simp only [h, decide_false, Bool.not_false, if_true, if_false]; rfl
theorem refLeaves_eq (f : List tCrack) : ref03_Leaves f = some ((leavesS f).1.map (fun c => [c]), (leavesS f).2) := by
  unfold ref03_Leaves en_ref03_Leaves leavesS
  rw [refCheck_eq]
  simp only [Option.bind_some]
  by_cases h : checkS f = 0
  · obtain ⟨h1, h2⟩ := okF_check h
    simp only [h, decide_true, Bool.not_true, Bool.false_eq_true, if_false, if_true]
    show iter _ _ = _
    have := refLeaves_loop f h2 f.length 0 [] (by omega) (by simp)
    simpa using this
  · simp only [h, decide_false, Bool.not_false, if_true, if_false]; rfl
theorem leavesS_len (f : List tCrack) : (leavesS f).1.length ≤ 1024 := by
  unfold leavesS
  split
  · rename_i h
    have := (okF_check h).2
    have h2 := List.length_filter_le (fun c : tCrack => decide (c.2.1 = 0)) f
    unfold leafL; dsimp only; omega
  · simp

/-! the path -/
theorem path_loop (f : List tCrack) (h : checkS f = 0) : ∀ (j : Nat) (out : List (List UInt8)), j < f.length → out.length + j ≤ 1024 →
    ∃ o : List (List UInt8), o.length ≤ out.length + j + 1 ∧ iter st_fail_Path (.l7 f out (j : Int)) = some (o, 0) ∧ iter st_ref03_Path (.l7 f out (j : Int)) = some (o, 0) := by
  obtain ⟨v1, v2, v3, v4⟩ := valid_at h
  intro j
  induction j with
  | zero =>
    intro out hj ho
    obtain ⟨c, hc⟩ : ∃ c, f[0]? = some c := ⟨f[0], List.getElem?_eq_getElem hj⟩
    have hcd : f.getD 0 dCrack = c := by rw [List.getD_eq_getElem?_getD, hc]; rfl
    obtain ⟨p1, p2, rs, p3, p4, p5⟩ := v4 0 c hc
    have hn : ¬ c.2.1 = 1 := by omega
    have g1 : 0 ≤ ((0 : Nat) : Int) ∧ ((0 : Nat) : Int) < (f.length : Int) := by omega
    have e0 : ((0 : Nat) : Int).toNat = 0 := rfl
    refine ⟨if c.1 = 9 then out ++ [c.2.2.1] else out, by split <;> simp, ?_, ?_⟩
    · rw [iter_eq']
      simp only [st_fail_Path, sg_fail_Path_7, G_pos g1, e0, hcd, decide_eq_true_eq]
      by_cases h9 : c.1 = 9
      · rw [if_pos h9, if_pos h9, G_pos (by simp only [List.length_cons, List.length_nil]; omega)]
        show iter _ _ = _
        rw [iter_eq']
        simp only [st_fail_Path, sg_fail_Path_9, G_pos g1, e0, hcd, hn, decide_false, Bool.not_false, if_true]; rfl
      · rw [if_neg h9, if_neg h9]
        show iter _ _ = _
        rw [iter_eq']
        simp only [st_fail_Path, sg_fail_Path_9, G_pos g1, e0, hcd, hn, decide_false, Bool.not_false, if_true]; rfl
    · rw [iter_eq']
      simp only [st_ref03_Path, sg_ref03_Path_7, G_pos g1, e0, hcd, decide_eq_true_eq]
      by_cases h9 : c.1 = 9
      · rw [if_pos h9, if_pos h9, G_pos (by simp only [List.length_cons, List.length_nil]; omega)]
        show iter _ _ = _
        rw [iter_eq']
        simp only [st_ref03_Path, sg_ref03_Path_9, G_pos g1, e0, hcd, hn, decide_false, Bool.not_false, if_true]; rfl
      · rw [if_neg h9, if_neg h9]
        show iter _ _ = _
        rw [iter_eq']
        simp only [st_ref03_Path, sg_ref03_Path_9, G_pos g1, e0, hcd, hn, decide_false, Bool.not_false, if_true]; rfl
  | succ j ih =>
    intro out hj ho
    obtain ⟨c, hc⟩ : ∃ c, f[j + 1]? = some c := ⟨f[j + 1], List.getElem?_eq_getElem hj⟩
    have hcd : f.getD (j + 1) dCrack = c := by rw [List.getD_eq_getElem?_getD, hc]; rfl
    have g1 : 0 ≤ ((j + 1 : Nat) : Int) ∧ ((j + 1 : Nat) : Int) < (f.length : Int) := by omega
    have w1 : w64 (((j + 1 : Nat) : Int) - 1) = (j : Int) := by rw [w64_eq (by omega) (by omega)]; omega
    have hnext : ∀ out2 : List (List UInt8), out2.length ≤ out.length + 1 → ∃ o : List (List UInt8), o.length ≤ out.length + (j + 1) + 1 ∧ iter st_fail_Path (.l9 f out2 ((j + 1 : Nat) : Int)) = some (o, 0) ∧ iter st_ref03_Path (.l9 f out2 ((j + 1 : Nat) : Int)) = some (o, 0) := by
      intro out2 h2
      by_cases hn : c.2.1 = 1
      · obtain ⟨o, q1, q2, q3⟩ := ih out2 (by omega) (by omega)
        refine ⟨o, by omega, ?_, ?_⟩
        · rw [iter_eq']
          simp only [st_fail_Path, sg_fail_Path_9, G_pos g1, Int.toNat_natCast, hcd, hn, decide_true, Bool.not_true, Bool.false_eq_true, if_false, w1]
          exact q2
        · rw [iter_eq']
          simp only [st_ref03_Path, sg_ref03_Path_9, G_pos g1, Int.toNat_natCast, hcd, hn, decide_true, Bool.not_true, Bool.false_eq_true, if_false, w1]
          exact q3
      · refine ⟨out2, by omega, ?_, ?_⟩
        · rw [iter_eq']
          simp only [st_fail_Path, sg_fail_Path_9, G_pos g1, Int.toNat_natCast, hcd, hn, decide_false, Bool.not_false, if_true]; rfl
        · rw [iter_eq']
          simp only [st_ref03_Path, sg_ref03_Path_9, G_pos g1, Int.toNat_natCast, hcd, hn, decide_false, Bool.not_false, if_true]; rfl
    by_cases h9 : c.1 = 9
    · obtain ⟨o, q1, q2, q3⟩ := hnext (out ++ [c.2.2.1]) (by simp)
      refine ⟨o, q1, ?_, ?_⟩
      · rw [iter_eq']
        simp only [st_fail_Path, sg_fail_Path_7, G_pos g1, Int.toNat_natCast, hcd, decide_eq_true_eq, if_pos h9]
        rw [G_pos (by simp only [List.length_cons, List.length_nil]; omega)]
        exact q2
      · rw [iter_eq']
        simp only [st_ref03_Path, sg_ref03_Path_7, G_pos g1, Int.toNat_natCast, hcd, decide_eq_true_eq, if_pos h9]
        rw [G_pos (by simp only [List.length_cons, List.length_nil]; omega)]
        exact q3
    · obtain ⟨o, q1, q2, q3⟩ := hnext out (by omega)
      refine ⟨o, q1, ?_, ?_⟩
      · rw [iter_eq']
        simp only [st_fail_Path, sg_fail_Path_7, G_pos g1, Int.toNat_natCast, hcd, decide_eq_true_eq, if_neg h9]
        exact q2
      · rw [iter_eq']
        simp only [st_ref03_Path, sg_ref03_Path_7, G_pos g1, Int.toNat_natCast, hcd, decide_eq_true_eq, if_neg h9]
        exact q3
theorem path_both (f : List tCrack) : ∃ p : List (List UInt8) × Int, fail_Path f = some p ∧ ref03_Path f = some p ∧ p.1.length ≤ 2048 := by
  unfold fail_Path ref03_Path en_fail_Path en_ref03_Path
  rw [check_eq, refCheck_eq]
  simp only [Option.bind_some]
  by_cases h : checkS f = 0
  · obtain ⟨v1, v2, v3, v4⟩ := valid_at h
    simp only [h, decide_true, Bool.not_true, Bool.false_eq_true, if_false]
    obtain ⟨o, q1, q2, q3⟩ := path_loop f h (f.length - 1) [] (by omega) (by simp; omega)
    have w1 : w64 ((f.length : Int) - 1) = ((f.length - 1 : Nat) : Int) := by rw [w64_eq (by omega) (by omega)]; omega
    rw [w1]
    exact ⟨(o, 0), q2, q3, by simp only [List.length_nil] at q1; dsimp only; omega⟩
  · simp only [h, decide_false, Bool.not_false, if_true]
    exact ⟨_, rfl, rfl, by simp⟩

/-! the law -/
theorem partsLaw_loop (f : List tCrack) (hf : f.length * 32 ≤ 140737488351232) (M : List tCrack) (hM : M.length ≤ 1024) : ∀ (d i : Nat) (l : List (Bool × List tCrack)), i + d = M.length → l.length = M.length → l.drop i = (M.drop i).map (fun c => (true, [c])) →
    iter st_law03_FailParts (.l11 f f l (M.map fun c => [c]) (i : Int)) = some true
  | 0, i, l, hi, hl, hd => by
    rw [iter_eq']
    have : ¬ (i : Int) < (l.length : Int) := by omega
    obtain ⟨p, q1, q2, q3⟩ := path_both f
    simp only [st_law03_FailParts, sg_law03_FailParts_11, this, decide_false, Bool.false_eq_true, if_false, q1, q2, Option.bind_some, decide_true, if_true, SameTexts_eq p.1 p.1 (by omega), same_eq f f (by omega), Bool.and_self]
    rfl
  | d + 1, i, l, hi, hl, hd => by
    rw [iter_eq']
    obtain ⟨c, r, hL⟩ := drop_ex (show i < M.length by omega)
    obtain ⟨hc, hr, hlen⟩ := drop_cons (d := dCrack) hL
    rw [hL] at hd
    simp only [List.map_cons] at hd
    obtain ⟨hc2, hr2, hlen2⟩ := drop_cons (d := (false, ([] : List tCrack))) hd
    have hlt : (i : Int) < (l.length : Int) := by omega
    have hG : 0 ≤ (i : Int) ∧ (i : Int) < (l.length : Int) := ⟨by omega, hlt⟩
    have hG2 : 0 ≤ (i : Int) ∧ (i : Int) < ((M.map fun c => [c]).length : Int) := ⟨by omega, by rw [List.length_map]; omega⟩
    have e6 : w64 ((i : Int) + 1) = ((i + 1 : Nat) : Int) := w64_eq (by omega) (by omega)
    have hel : el2D l i = (true, [c]) := hc2
    have hm : (M.map fun c => [c]).getD i ([] : List tCrack) = [c] := by
      rw [List.getD_eq_getElem?_getD, List.getElem?_map]
      have : M[i]? = some c := by
        have := congrArg (fun l => l[0]?) hL
        simpa using this
      rw [this]; rfl
    simp only [st_law03_FailParts, sg_law03_FailParts_11, decide_eq_true_eq, if_pos hlt, G_pos hG, G_pos hG2, Int.toNat_natCast, e6, hel, hm]
    rw [G_pos trivial, G_pos trivial, same_eq [c] [c] (by simp)]
    simp only [Option.bind_some, decide_true, Bool.not_true, Bool.false_eq_true, if_false]
    rw [G_pos trivial, G_pos trivial]
    show iter _ _ = _
    refine partsLaw_loop f hf M hM d (i + 1) _ (by omega) (by rw [List.length_set]; exact hl) ?_
    rw [List.drop_set_of_lt (by omega), hr2, hr]
theorem FailParts_pure (f : List tCrack) (a : Int) (hf : f.length * 32 ≤ 140737488351232) : law03_FailParts f a = some true := by
  unfold law03_FailParts en_law03_FailParts
  obtain ⟨p, q1, q2, q3⟩ := parts_both f a hf
  have hM := leavesS_len f
  simp only [copy_eq f hf, q1, q2, Option.bind_some, decide_true, Bool.not_true, Bool.not_false, if_true, SameInts_eq p.1 p.1 (by omega), Bool.or_self, Bool.false_eq_true, if_false, leaves_eq, refLeaves_eq, List.length_map]
  show iter _ _ = _
  exact partsLaw_loop f hf (leavesS f).1 hM (leavesS f).1.length 0 _ (by omega) (by simp) (by simp)
end Go.Eng
