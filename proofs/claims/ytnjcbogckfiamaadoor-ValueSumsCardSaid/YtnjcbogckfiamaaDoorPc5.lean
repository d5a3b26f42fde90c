/- A part of the proof: Pc5. -/
import Derived.Test.YtnjcbogckfiamaaDoorPc4
namespace Go.Eng
set_option linter.unusedVariables false
set_option linter.unusedSimpArgs false

theorem madeL_eq : ∀ {l : List (List tAtom)} {out o : List tAtom}, madeL l out = some o → o = out ++ l.flatten
  | [], out, o, h => by cases h; simp
  | v :: r, out, o, h => by
    rw [madeL] at h
    split at h
    · cases h
    · rw [madeL_eq h]; simp
theorem made_ok {F : List (Tr tAtom)} (hF : okF arV (goodV 32) F) (h : (madeV (F.map flat)).2 = true) : isV (.node (lastA F.length) F) (madeV (F.map flat)).1 := by
  unfold madeV at h ⊢
  cases hm : madeL (F.map flat) [] with
  | none => rw [hm] at h; cases h
  | some o =>
    rw [hm] at h
    simp only [List.length_map, decide_eq_true_eq] at h ⊢
    have ho : o = flats F := by rw [madeL_eq hm, flats_map, List.nil_append]
    subst ho
    obtain ⟨w, hw⟩ := checkV_ok h
    have hp := isV_par hw
    rw [parse_flats F [lastA F.length] [] hF, List.nil_append] at hp
    have e : w = .node (lastA F.length) F := by
      have ha : arV (lastA F.length) = F.length := rfl
      simp only [parseT, pushT, ha, Nat.sub_self, List.take_zero, List.drop_zero, List.nil_append] at hp
      split at hp
      · rename_i st' hst
        split at hst
        · have e1 := Option.some.inj hst
          have e2 := Option.some.inj hp
          rw [← e1] at e2
          exact (List.cons.inj e2).1.symm
        · cases hst
      · cases hp
    rw [← e]; exact hw
theorem sizeV_2 {t : Tr tAtom} (h : t.a.1 = 2) : sizeV t = (t.a.2.2.2.1.length : Int) := if_pos h
theorem sizeV_3 {t : Tr tAtom} (h : ¬ t.a.1 = 2) : sizeV t = t.a.2.1 := if_neg h
/-- What a join that went well is. -/
theorem jo_ok {t u : Tr tAtom} {a b : List tAtom} (ha : isV t a) (hb : isV u b) (h : (joO t u).2 = true) : ∃ w, isV w (joO t u).1 ∧ w.a.1 = t.a.1 ∧ u.a.1 = t.a.1 ∧ sizeV w = sizeV t + sizeV u ∧ ((t.a.1 = 2 ∧ w.a.2.2.2.1 = t.a.2.2.2.1 ++ u.a.2.2.2.1) ∨ (t.a.1 = 3 ∧ w.ts = t.ts ++ u.ts)) := by
  unfold joO at h ⊢
  by_cases hc : t.a.1 ≠ u.a.1 ∨ t.a.1 = 1
  · rw [if_pos hc] at h; cases h
  · rw [if_neg hc] at h ⊢
    simp only [not_or, Decidable.not_not] at hc
    obtain ⟨hk, h1⟩ := hc
    by_cases h2 : t.a.1 = 2
    · rw [if_pos h2] at h ⊢
      by_cases h4 : 4096 < t.a.2.2.2.1.length + u.a.2.2.2.1.length
      · rw [if_pos h4] at h; cases h
      · rw [if_neg h4]
        refine ⟨_, isV_txt (by rw [List.length_append]; omega), h2.symm, hk.symm, ?_, .inl ⟨h2, rfl⟩⟩
        rw [sizeV_2 h2, sizeV_2 (t := u) (hk ▸ h2), sizeV_2 (t := .node (2, 0, 0, t.a.2.2.2.1 ++ u.a.2.2.2.1, ()) []) rfl]
        show ((t.a.2.2.2.1 ++ u.a.2.2.2.1).length : Int) = _
        rw [List.length_append]; omega
    · rw [if_neg h2] at h ⊢
      have h3 : t.a.1 = 3 := by rcases isV_kind ha with h | h | h <;> omega
      rw [← List.map_append] at h ⊢
      have hF : okF arV (goodV 32) (t.ts ++ u.ts) := okF_mem.2 fun x hx => by
        rcases List.mem_append.1 hx with hx | hx
        · exact (isV_child ha hx).2.1
        · exact (isV_child hb hx).2.1
      refine ⟨_, made_ok hF h, h3.symm, hk.symm, ?_, .inr ⟨h3, rfl⟩⟩
      rw [sizeV_3 h2, sizeV_3 (t := u) (hk ▸ h2), sizeV_3 (by show ¬ (3 : Int) = 2; decide), isV_ar ha, isV_ar hb]
      show (((t.ts ++ u.ts).length : Nat) : Int) = _
      rw [List.length_append]; omega
theorem jo_assoc {t u v w1 w2 : Tr tAtom} (k1 : w1.a.1 = t.a.1) (k2 : u.a.1 = t.a.1) (k3 : w2.a.1 = u.a.1) (k4 : v.a.1 = u.a.1)
    (h1 : (t.a.1 = 2 ∧ w1.a.2.2.2.1 = t.a.2.2.2.1 ++ u.a.2.2.2.1) ∨ (t.a.1 = 3 ∧ w1.ts = t.ts ++ u.ts)) (h2 : (u.a.1 = 2 ∧ w2.a.2.2.2.1 = u.a.2.2.2.1 ++ v.a.2.2.2.1) ∨ (u.a.1 = 3 ∧ w2.ts = u.ts ++ v.ts)) : joO w1 v = joO t w2 := by
  unfold joO
  rcases h1 with ⟨e1, h1⟩ | ⟨e1, h1⟩
  · rcases h2 with ⟨e2, h2⟩ | ⟨e2, h2⟩
    · have p1 : w1.a.1 = 2 := by omega
      have p2 : v.a.1 = 2 := by omega
      have p3 : w2.a.1 = 2 := by omega
      simp only [p1, p2, p3, e1, h1, h2, ne_eq, not_true, false_or, Int.reduceEq, if_false, if_true, List.append_assoc, List.length_append, Nat.add_assoc]
    · omega
  · rcases h2 with ⟨e2, h2⟩ | ⟨e2, h2⟩
    · omega
    · have p1 : w1.a.1 = 3 := by omega
      have p2 : v.a.1 = 3 := by omega
      have p3 : w2.a.1 = 3 := by omega
      simp only [p1, p2, p3, e1, h1, h2, ne_eq, not_true, false_or, Int.reduceEq, if_false, if_true, List.map_append, List.append_assoc]
theorem okP_len {p : List tAtom × Bool} (h : p.1.length ≤ 1024) : (okP p).1.length ≤ 1024 := by
  unfold okP; split
  · exact h
  · simp
theorem joO_len {t u : Tr tAtom} : (joO t u).1.length ≤ 1024 := by
  unfold joO; split
  · simp
  · split
    · split
      · simp
      · simp
    · exact madeV_len _
/-- A part of a row of parts. -/
noncomputable def itN (F : List (Tr tAtom)) (i : Nat) : List tAtom × Bool := if F.length ≤ i then ([], false) else ((F.map flat).getD i [], true)
theorem itO_3 {t : Tr tAtom} {a : List tAtom} (ha : isV t a) (hk : t.a.1 = 3) (i : Nat) : itO t (numT (i : Int)) = itN t.ts i := by
  unfold itO itN
  have hN := isV_ar ha
  have e1 : (numT (i : Int)).a.1 = 1 := rfl
  have e2 : (numT (i : Int)).a.2.2.1 = (i : Int) := rfl
  rw [e1, e2]
  by_cases h : t.ts.length ≤ i
  · rw [if_pos h, if_pos (by omega)]
  · rw [if_neg h, if_neg (by omega)]; rfl
theorem itO_2 {t : Tr tAtom} (hk : t.a.1 = 2) (i : Nat) : itO t (numT (i : Int)) = ([], false) := by
  unfold itO
  rw [if_pos (by omega)]
theorem okP_itN (F : List (Tr tAtom)) (i : Nat) : okP (itN F i) = itN F i := by
  unfold okP itN
  by_cases h : F.length ≤ i
  · rw [if_pos h]; rfl
  · rw [if_neg h]; rfl
theorem itN_app1 (F H : List (Tr tAtom)) (i : Nat) (h : i < F.length) : itN (F ++ H) i = itN F i := by
  unfold itN
  rw [if_neg (by rw [List.length_append]; omega), if_neg (by omega), List.map_append, List.getD_eq_getElem?_getD, List.getD_eq_getElem?_getD, List.getElem?_append_left (by rw [List.length_map]; exact h)]
theorem itN_app2 (F H : List (Tr tAtom)) (i : Nat) (h : F.length ≤ i) : itN (F ++ H) i = itN H (i - F.length) := by
  unfold itN
  by_cases h2 : H.length ≤ i - F.length
  · rw [if_pos h2, if_pos (by rw [List.length_append]; omega)]
  · rw [if_neg h2, if_neg (by rw [List.length_append]; omega), List.map_append, List.getD_eq_getElem?_getD, List.getD_eq_getElem?_getD, List.getElem?_append_right (by rw [List.length_map]; exact h), List.length_map]
theorem itN_len {t : Tr tAtom} {a : List tAtom} (ha : isV t a) (i : Nat) : (itN t.ts i).1.length ≤ 1024 := by
  unfold itN
  by_cases h : t.ts.length ≤ i
  · rw [if_pos h]; simp
  · rw [if_neg h]
    obtain ⟨_, m2⟩ := members_len ha
    refine m2 _ ?_
    show (t.ts.map flat).getD i [] ∈ _
    rw [List.getD_eq_getElem?_getD, List.getElem?_eq_getElem (by rw [List.length_map]; omega)]
    exact List.getElem_mem _
end Go.Eng
