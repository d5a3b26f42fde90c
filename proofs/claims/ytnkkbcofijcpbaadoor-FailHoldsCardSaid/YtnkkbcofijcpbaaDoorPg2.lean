/- A part of the proof: Pg2. -/
import Derived.Test.YtnkkbcofijcpbaaDoorPg1
import Derived.Test.YtnkkbcofijcpbaaDoorWk
namespace Go.Tw
open Go.Eng
set_option linter.unusedVariables false
set_option linter.unusedSimpArgs false
theorem is_true {t u : Tr tCrack} {f g : List tCrack} (h : isF t f) (hg : isF u g) (hx : ∃ v ∈ subT t, flat v = g) : law03_is f g = some true := by
  rw [lis_eq h hg, decide_eq_true hx]
theorem is_false {t u : Tr tCrack} {f g : List tCrack} (h : isF t f) (hg : isF u g) (hx : ¬ ∃ v ∈ subT t, flat v = g) : law03_is f g = some false := by
  rw [lis_eq h hg, decide_eq_false hx]
theorem isF_node {c : tCrack} {ts : List (Tr tCrack)} (hc : crackS c = true) (hn : arC c = ts.length) (ht : okF arC goodC ts) (hl : (flats ts).length + 1 ≤ 1024) : isF (.node c ts) (flats ts ++ [c]) :=
  ⟨⟨hn, hc, ht⟩, by rw [flat], by rw [List.length_append, List.length_singleton]; exact hl⟩
theorem isF_sub {t v : Tr tCrack} {f : List tCrack} (h : isF t f) (hv : v ∈ subT t) : isF v (flat v) :=
  ⟨sub_ok t h.1 v hv, rfl, by have := sub_flat t v hv; rw [h.2.1] at this; have := h.2.2; omega⟩
theorem isF_pos {t : Tr tCrack} {f : List tCrack} (h : isF t f) : 0 < f.length := by rw [← h.2.1]; exact flat_pos t
theorem wrap_crack {name : List UInt8} (hn : nameS name = true) : crackS (9, 1, name, ()) = true := by
  have := name_len name hn
  simp [crackS, partS, fitS, hn, this]
theorem join_crack (n : Nat) (h : 1 ≤ n) : crackS (10, (n : Int), [], ()) = true := by
  have : (1 : Int) ≤ (n : Int) := by omega
  simp [crackS, partS, fitS, this]
theorem first_sub {t : Tr tCrack} {f : List tCrack} (h : isF t f) (kind : Int) (hk : 1 ≤ kind ∧ kind ≤ 11) : (firstS f kind = ([], 4)) ∨ ∃ v ∈ subT t, firstS f kind = (flat v, 0) ∧ v.a.1 = kind := by
  unfold firstS
  rw [if_pos (check_of h), if_neg (by omega)]
  have hc := check_of h
  obtain ⟨v1, v2, v3, v4⟩ := valid2 hc
  have hpl : place f ((f.length : Int) - 1) := ⟨by omega, by omega⟩
  have hl := pre_place hc (1023 + 1) _ hpl
  unfold foundS
  cases hq : (pre f (1023 + 1) ((f.length : Int) - 1)).find? (isK f kind) with
  | none => exact .inl rfl
  | some a =>
    right
    have ha := hl a (List.mem_of_find?_eq_some hq)
    have hka : isK f kind a = true := List.find?_some hq
    have h1 := ha.1
    have h2 := ha.2
    obtain ⟨w, hw, hcut⟩ := cut_sub h a.toNat (by omega)
    have hm := List.mem_of_getElem? hw
    refine ⟨w, hm, ?_, ?_⟩
    · dsimp only
      rw [show (a + 1).toNat = a.toNat + 1 by omega, hcut]
    · have hk2 : (f.getD a.toNat dCrack).1 = kind := of_decide_eq_true hka
      rw [← hk2]
      -- the last crack of what is cut
      have hlast : (flat w).getLast? = some w.a := by cases w; simp [flat, Tr.a]
      rw [← hcut] at hlast
      have : (cut f ((begB f).getD a.toNat 0).toNat (a.toNat + 1)).getLast? = some (f.getD a.toNat dCrack) := by
        obtain ⟨_, p2, p3, _⟩ := v4 a ha
        unfold cut
        rw [List.getLast?_drop, if_neg (by rw [List.length_take]; omega), List.getLast?_take, if_neg (by omega)]
        rw [Nat.add_sub_cancel, List.getD_eq_getElem?_getD, List.getElem?_eq_getElem (by omega)]; rfl
      rw [hlast] at this
      rw [Option.some.inj this]
theorem FailHolds_pure (f g : List tCrack) (name : List UInt8) : law03_FailHolds f g name = some true := by
  unfold law03_FailHolds
  rw [works_eq]
  simp only [Option.bind_some, Bool.not_true, Bool.false_eq_true, if_false, check_eq]
  by_cases hf : ¬ checkS f = 0
  · simp only [hf, decide_false, Bool.not_false, Bool.not_true, Bool.false_eq_true, if_false, Option.bind_some, Bool.true_or, if_true]
  replace hf := Decidable.not_not.1 hf
  by_cases hg : ¬ checkS g = 0
  · simp only [hf, hg, decide_true, decide_false, Bool.not_true, Bool.not_false, if_true, Option.bind_some, Bool.or_true]
  replace hg := Decidable.not_not.1 hg
  obtain ⟨t, ht⟩ := check_ex hf
  obtain ⟨u, hu⟩ := check_ex hg
  have pf := isF_pos ht
  have pg := isF_pos hu
  have lf := ht.2.2
  have lg := hu.2.2
  simp only [hf, hg, decide_true, Bool.not_true, Bool.not_false, if_true, Option.bind_some, Bool.or_self, Bool.false_eq_true, if_false]
  rw [is_true ht ht ⟨t, subT_self t, ht.2.1⟩]
  simp only [Option.bind_some, Bool.not_true, Bool.false_eq_true, if_false, wrap_eq, join_eq]
  -- what comes behind the wrapping
  have rest : ((if (!decide ((joinS [f, g]).2 = (0 : Int))) = true then some false
      else if (decide ((1024 : Int) ≤ (w64 ((f.length : Int) + (g.length : Int))))) = true then
        ((base_SameFail (joinS [f, g]).1 ([((11 : Int), (0 : Int), ([] : List UInt8), ())] : List tCrack)).bind fun t76 => some t76)
      else (law03_is (joinS [f, g]).1 f).bind fun t79 =>
        (if (!(!t79)) = true then law03_is (joinS [f, g]).1 g else some false).bind fun t84 =>
        (if (!((!t79) || (!t84))) = true then law03_is f (joinS [f, g]).1 else some false).bind fun t90 =>
        if (((!t79) || (!t84)) || t90) = true then some false
        else (fail_First f (9 : Int)).bind fun t94 =>
          (if (!(!decide (t94.2 = (0 : Int)))) = true then law03_is f t94.1 else some false).bind fun t102 =>
          (if ((!(!decide (t94.2 = (0 : Int)))) && t102) = true then law03_is (joinS [f, g]).1 t94.1 else some false).bind fun t106 =>
          some ((!decide (t94.2 = (0 : Int))) || (t102 && t106))) : Option Bool) = some true := by
    have hj : joinS [f, g] = (longS (f ++ g ++ [(10, 2, [], ())]), 0) := by
      have e1 : joinF [f, g] 0 [] = joinF [g] 1 f := by conv => lhs; rw [joinF, if_neg (show ¬ f.length = 0 by omega), if_pos hf, if_pos (show ([] : List tCrack).length ≤ 1024 by simp), List.nil_append]
      have e2 : joinF [g] 1 f = joinF [] 2 (f ++ g) := by conv => lhs; rw [joinF, if_neg (show ¬ g.length = 0 by omega), if_pos hg, if_pos lf]
      have e3 : joinF [] 2 (f ++ g) = (longS (f ++ g ++ [(10, 2, [], ())]), 0) := by rw [joinF, if_neg (by omega)]; rfl
      unfold joinS
      rw [if_neg (by simp), e1, e2, e3]
    rw [hj]
    simp only [decide_true, Bool.not_true, Bool.false_eq_true, if_false]
    rw [w64_eq (by omega) (by omega)]
    by_cases hl : 1024 ≤ f.length + g.length
    · rw [if_pos (decide_eq_true (by omega))]
      have : longS (f ++ g ++ [(10, 2, [], ())]) = [(11, 0, [], ())] := by
        unfold longS
        rw [if_pos (by simp only [List.length_append, List.length_cons, List.length_nil]; omega)]
      rw [this, same_eq _ _ (by simp)]; rfl
    · rw [if_neg (by rw [decide_eq_true_eq]; omega)]
      have hlong : longS (f ++ g ++ [(10, 2, [], ())]) = f ++ g ++ [(10, 2, [], ())] := by
        unfold longS
        rw [if_neg (by simp only [List.length_append, List.length_cons, List.length_nil]; omega)]
      rw [hlong]
      have hJ : isF (.node (10, 2, [], ()) [t, u]) (f ++ g ++ [(10, 2, [], ())]) := by
        have := isF_node (c := (10, 2, [], ())) (ts := [t, u]) (join_crack 2 (by omega)) rfl ⟨ht.1, hu.1, trivial⟩ (by simp only [flats, List.append_nil, List.length_append, ht.2.1, hu.2.1]; omega)
        simp only [flats, List.append_nil, ht.2.1, hu.2.1] at this
        exact this
      have mJ : ∀ v, v ∈ subT t ∨ v ∈ subT u → v ∈ subT (Tr.node ((10, 2, [], ()) : tCrack) [t, u]) := fun v hv => by
        simp only [subT, subF, List.mem_append, List.append_nil]
        exact .inl hv
      rw [is_true hJ ht ⟨t, mJ _ (.inl (subT_self t)), ht.2.1⟩, is_true hJ hu ⟨u, mJ _ (.inr (subT_self u)), hu.2.1⟩]
      have hno : law03_is f (f ++ g ++ [(10, 2, [], ())]) = some false := is_false ht hJ (by
        rintro ⟨v, hv, e⟩
        have := sub_flat t v hv
        rw [e, ht.2.1] at this
        simp only [List.length_append, List.length_cons, List.length_nil] at this
        omega)
      simp only [Option.bind_some, Bool.not_true, Bool.not_false, if_true, Bool.or_self, hno, Bool.false_eq_true, if_false, first_eq]
      rcases first_sub ht 9 (by omega) with h9 | ⟨v, hv, h9, _⟩
      · rw [h9]; rfl
      · rw [h9]
        have hx := isF_sub ht hv
        simp only [decide_true, Bool.not_true, Bool.not_false, if_true]
        rw [is_true ht hx ⟨v, hv, rfl⟩]
        simp only [Option.bind_some, Bool.and_self, if_true]
        rw [is_true hJ hx ⟨v, mJ _ (.inl hv), rfl⟩]
        rfl
  have hw : wrapS name f = if nameS name = true then (longS (f ++ [(9, 1, name, ())]), 0) else ([], 2) := by
    unfold wrapS
    rw [if_pos hf]
  rw [hw]
  cases hn : nameS name with
  | false =>
    simp only [Bool.false_eq_true, if_false]
    have h2 : decide ((2 : Int) = 0) = false := by decide
    simp only [h2, Bool.false_and, Bool.false_eq_true, if_false, Option.bind_some]
    exact rest
  | true =>
    simp only [if_true, decide_true, Bool.true_and]
    by_cases h1024 : f.length < 1024
    · have hlong : longS (f ++ [(9, 1, name, ())]) = f ++ [(9, 1, name, ())] := by
        unfold longS
        rw [if_neg (by simp only [List.length_append, List.length_cons, List.length_nil]; omega)]
      have hW : isF (.node (9, 1, name, ()) [t]) (f ++ [(9, 1, name, ())]) := by
        have := isF_node (c := (9, 1, name, ())) (ts := [t]) (wrap_crack hn) rfl ⟨ht.1, trivial⟩ (by simp only [flats, List.append_nil, ht.2.1]; omega)
        simp only [flats, List.append_nil, ht.2.1] at this
        exact this
      have mW : ∀ v, v ∈ subT (Tr.node ((9, 1, name, ()) : tCrack) [t]) ↔ v ∈ subT t ∨ v = Tr.node ((9, 1, name, ()) : tCrack) [t] := fun v => by
        simp only [subT, subF, List.mem_append, List.append_nil, List.mem_singleton]
      rw [hlong, decide_eq_true (show (f.length : Int) < 1024 by omega), is_true hW ht ⟨t, (mW _).2 (.inl (subT_self t)), ht.2.1⟩]
      simp only [if_true, Option.bind_some, Bool.not_true, Bool.not_false, Bool.and_self, Bool.true_and, Bool.false_or]
      rw [lis_eq hW hu, lis_eq ht hu]
      simp only [Option.bind_some]
      by_cases hx : ∃ v ∈ subT t, flat v = g
      · obtain ⟨v, hv, e⟩ := hx
        rw [decide_eq_true (show ∃ v ∈ subT (Tr.node ((9, 1, name, ()) : tCrack) [t]), flat v = g from ⟨v, (mW v).2 (.inl hv), e⟩), decide_eq_true (show ∃ v ∈ subT t, flat v = g from ⟨v, hv, e⟩)]
        simp only [Bool.not_true, Bool.false_eq_true, if_false, Option.bind_some, Bool.true_or, beq_self_eq_true]
        exact rest
      · rw [decide_eq_false hx]
        simp only [Bool.not_false, if_true, Bool.false_or]
        rw [same_eq _ _ (by simp only [List.length_append, List.length_cons, List.length_nil]; omega), Option.bind_some]
        have e : decide (∃ v ∈ subT (Tr.node ((9, 1, name, ()) : tCrack) [t]), flat v = g) = decide (f ++ [(9, 1, name, ())] = g) := by
          apply decide_eq_decide.2
          constructor
          · rintro ⟨v, hv, e⟩
            rcases (mW v).1 hv with h | h
            · exact absurd ⟨v, h, e⟩ hx
            · subst h; rw [← e, hW.2.1]
          · intro e
            exact ⟨_, (mW _).2 (.inr rfl), by rw [hW.2.1, e]⟩
        rw [e]
        simp only [beq_self_eq_true, Bool.not_true, Bool.false_eq_true, if_false]
        exact rest
    · rw [decide_eq_false (show ¬ (f.length : Int) < 1024 by omega)]
      simp only [Bool.false_and, Bool.false_eq_true, if_false, Option.bind_some]
      exact rest
end Go.Tw
