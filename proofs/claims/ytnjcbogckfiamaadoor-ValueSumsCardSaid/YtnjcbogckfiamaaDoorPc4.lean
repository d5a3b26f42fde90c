/- A part of the proof: Pc4. -/
import Derived.Test.YtnjcbogckfiamaaDoorPc3
namespace Go.Eng
set_option linter.unusedVariables false
set_option linter.unusedSimpArgs false

theorem atom_ext {a b : tAtom} (h1 : a.1 = b.1) (h2 : a.2.1 = b.2.1) (h3 : a.2.2.1 = b.2.2.1) (h4 : a.2.2.2.1 = b.2.2.2.1) : a = b := by
  obtain ⟨x1, x2, x3, x4, ⟨⟩⟩ := a
  obtain ⟨y1, y2, y3, y4, ⟨⟩⟩ := b
  simp only at h1 h2 h3 h4
  subst h1 h2 h3 h4; rfl
mutual
theorem cmpT_zero {l1 l2 : Int} : ∀ (t u : Tr tAtom), okT arV (goodV l1) t → okT arV (goodV l2) u → cmpT t u = 0 → t = u
  | .node a ts, .node b us, h1, h2, h => by
    have w1 : wellA a = true := okT_well h1
    have w2 : wellA b = true := okT_well h2
    have n1 : a.2.1.toNat = ts.length := h1.1
    have n2 : b.2.1.toNat = us.length := h2.1
    by_cases hk : a.1 = b.1
    · rw [cmpT_e (t := .node a ts) (u := .node b us) hk] at h
      rcases wellA_kind w1 with ⟨k1, p1, q1, _⟩ | ⟨k1, p1, q1, _⟩ | ⟨k1, p1, q1, r1⟩ <;> rcases wellA_kind w2 with ⟨k2, p2, q2, _⟩ | ⟨k2, p2, q2, _⟩ | ⟨k2, p2, q2, r2⟩
      · rw [cmpK_1 (t := .node a ts) k1] at h
        have e := cmI_zero.1 h
        have ht : ts = [] := List.eq_nil_of_length_eq_zero (by omega)
        have hu : us = [] := List.eq_nil_of_length_eq_zero (by omega)
        rw [ht, hu, atom_ext hk (p1.trans p2.symm) e (q1.trans q2.symm)]
      · omega
      · omega
      · omega
      · rw [cmpK_2 (t := .node a ts) (by show ¬ a.1 = 1; omega) k1] at h
        have e := (comp_zero _ _).1 h
        have ht : ts = [] := List.eq_nil_of_length_eq_zero (by omega)
        have hu : us = [] := List.eq_nil_of_length_eq_zero (by omega)
        rw [ht, hu, atom_ext hk (p1.trans p2.symm) (q1.trans q2.symm) e]
      · omega
      · omega
      · omega
      · rw [cmpK_3 (t := .node a ts) (by show ¬ a.1 = 1; omega) (by show ¬ a.1 = 2; omega)] at h
        have e := cmpTs_zero ts us h1.2.2 h2.2.2 h
        subst e
        rw [atom_ext hk (by omega) (q1.trans q2.symm) (r1.trans r2.symm)]
    · rw [cmpT_k (t := .node a ts) (u := .node b us) hk] at h
      exact absurd (cmI_zero.1 h) hk
theorem cmpTs_zero {l1 l2 : Int} : ∀ (ts us : List (Tr tAtom)), okF arV (goodV l1) ts → okF arV (goodV l2) us → cmpTs ts us = 0 → ts = us
  | [], [], _, _, _ => rfl
  | [], u :: us, _, _, h => by rw [cmpTs_nc] at h; exact absurd h (by decide)
  | t :: ts, [], _, _, h => by rw [cmpTs_cn] at h; exact absurd h (by decide)
  | t :: ts, u :: us, h1, h2, h => by
    rw [cmpTs_cc] at h
    by_cases e : cmpT t u = 0
    · rw [if_neg (by simpa using e)] at h
      rw [cmpT_zero t u h1.1 h2.1 e, cmpTs_zero ts us h1.2 h2.2 h]
    · rw [if_pos e] at h; exact absurd h e
end
theorem cmpT_self (t : Tr tAtom) : cmpT t t = 0 := by have := cmpT_neg t t; omega
theorem cmpT_iff {t u : Tr tAtom} {a b : List tAtom} (ha : isV t a) (hb : isV u b) : cmpT t u = 0 ↔ a = b := by
  constructor
  · intro h
    have := cmpT_zero t u ha.2.1 hb.2.1 h
    rw [← ha.2.2, ← hb.2.2, this]
  · intro h
    have : t = u := flat_inj ha.2.1 hb.2.1 (by rw [ha.2.2, hb.2.2, h])
    rw [this]; exact cmpT_self u
theorem lcompare {t u : Tr tAtom} {a b : List tAtom} (ha : isV t a) (hb : isV u b) : law07_compare a b = some (cmpT t u, true) := by
  unfold law07_compare value_Compare
  simp only [vcheck_eq, checkV_is ha, checkV_is hb, Option.bind_some, decide_true, Bool.not_true, Bool.false_eq_true, if_false, vcompare_eq ha hb, Bool.true_and, (cmpT_bd t u).1, (cmpT_bd t u).2]
theorem checks3 (a b c : List tAtom) : (∃ t u v, isV t a ∧ isV u b ∧ isV v c) ∨ ((value_Check a).bind fun t18 => (if (!(!decide (t18 = (0 : Int)))) = true then value_Check b else some (0 : Int)).bind fun t22 =>
    (if (!((!decide (t18 = (0 : Int))) || (!decide (t22 = (0 : Int))))) = true then value_Check c else some (0 : Int)).bind fun t27 => some (((!decide (t18 = (0 : Int))) || (!decide (t22 = (0 : Int)))) || (!decide (t27 = (0 : Int))))) = some true := by
  simp only [vcheck_eq, Option.bind_some]
  by_cases h1 : checkV a = 0
  · by_cases h2 : checkV b = 0
    · by_cases h3 : checkV c = 0
      · obtain ⟨t, ht⟩ := checkV_ok h1
        obtain ⟨u, hu⟩ := checkV_ok h2
        obtain ⟨v, hv⟩ := checkV_ok h3
        exact .inl ⟨t, u, v, ht, hu, hv⟩
      · right; simp [h1, h2, h3]
    · right; simp [h1, h2]
  · right; simp [h1]
theorem checks_bind {β : Type} (a b c : List tAtom) (f g : Option β) (h : ((value_Check a).bind fun t18 => (if (!(!decide (t18 = (0 : Int)))) = true then value_Check b else some (0 : Int)).bind fun t22 =>
    (if (!((!decide (t18 = (0 : Int))) || (!decide (t22 = (0 : Int))))) = true then value_Check c else some (0 : Int)).bind fun t27 => some (((!decide (t18 = (0 : Int))) || (!decide (t22 = (0 : Int)))) || (!decide (t27 = (0 : Int))))) = some true) :
    ((value_Check a).bind fun t18 => (if (!(!decide (t18 = (0 : Int)))) = true then value_Check b else some (0 : Int)).bind fun t22 =>
    (if (!((!decide (t18 = (0 : Int))) || (!decide (t22 = (0 : Int))))) = true then value_Check c else some (0 : Int)).bind fun t27 => if (((!decide (t18 = (0 : Int))) || (!decide (t22 = (0 : Int)))) || (!decide (t27 = (0 : Int)))) = true then f else g) = f := by
  obtain ⟨x, hx, h⟩ := Option.bind_eq_some_iff.1 h
  obtain ⟨y, hy, h⟩ := Option.bind_eq_some_iff.1 h
  obtain ⟨z, hz, h⟩ := Option.bind_eq_some_iff.1 h
  rw [hx, Option.bind_some, hy, Option.bind_some, hz, Option.bind_some, if_pos (Option.some.inj h)]
theorem ValueOrder_pure (a b c : List tAtom) (hl : a.length < 4611686018427387904) : law07_ValueOrder a b c = some true := by
  unfold law07_ValueOrder
  rw [works_eq, Option.bind_some, if_neg (by decide)]
  rcases checks3 a b c with ⟨t, u, v, ha, hb, hc⟩ | h
  · simp only [vcheck_eq, checkV_is ha, checkV_is hb, checkV_is hc, Option.bind_some, decide_true, Bool.not_true, Bool.or_self, Bool.not_false, Bool.false_eq_true, if_false, if_true, lcompare ha hb, lcompare hb ha, lcompare hb hc, lcompare ha hc, Bool.false_or, vsame_eq a b hl]
    have hn := cmpT_neg t u
    have b1 := cmpT_bd t u
    have b2 := cmpT_bd u t
    have b3 := cmpT_bd u v
    have b4 := cmpT_bd t v
    have hi := cmpT_iff ha hb
    have t1 := cmpT_tri t u v
    have t2 := cmpT_tri v u t
    have n2 := cmpT_neg u v
    have n3 := cmpT_neg t v
    unfold tri at t1 t2
    rw [w64_eq (by omega) (by omega)]
    have e0 : cmpT t u = 0 - cmpT u t := by omega
    have hd : decide (cmpT t u = 0) = decide (a = b) := by
      by_cases h : a = b
      · rw [decide_eq_true (hi.2 h), decide_eq_true h]
      · rw [decide_eq_false (fun e => h (hi.1 e)), decide_eq_false h]
    simp only [hd, BEq.rfl, Bool.not_true, Bool.or_false]
    rw [decide_eq_true e0]
    simp only [Bool.not_true, Bool.not_false, if_true, Option.bind_some, Bool.false_eq_true, if_false, BEq.rfl, hd]
    rw [if_neg (by decide)]
    refine congrArg some ?_
    generalize cmpT t u = x at *
    generalize cmpT u v = y at *
    generalize cmpT t v = z at *
    generalize cmpT u t = x' at *
    generalize cmpT v u = y' at *
    generalize cmpT v t = z' at *
    have q1 : ¬ (x ≤ 0 ∧ y ≤ 0 ∧ 0 < z) := fun h => by have := (t1 h.1 h.2.1).1; omega
    have q2 : ¬ (0 ≤ x ∧ 0 ≤ y ∧ z < 0) := fun h => by have := (t2 (by omega) (by omega)).1; omega
    have q3 : ¬ (x < 0 ∧ y ≤ 0 ∧ 0 ≤ z) := fun h => by
      obtain ⟨h1, h2⟩ := t1 (by omega) h.2.1
      have := (h2.1 (by omega)).1; omega
    have f (p q r : Prop) [Decidable p] [Decidable q] [Decidable r] (h : ¬ (p ∧ q ∧ r)) : (decide p && decide q && decide r) = false := by
      by_cases hp : p
      · by_cases hq : q
        · have : ¬ r := fun hr => h ⟨hp, hq, hr⟩
          simp [this]
        · simp [hq]
      · simp [hp]
    rw [f _ _ _ q1, f _ _ _ q2, f _ _ _ q3]; rfl
  · exact checks_bind a b c _ _ h
end Go.Eng
