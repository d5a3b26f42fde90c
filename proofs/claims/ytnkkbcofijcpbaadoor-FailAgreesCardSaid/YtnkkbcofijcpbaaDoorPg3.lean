/- A part of the proof: Pg3. -/
import Derived.Test.YtnkkbcofijcpbaaDoorPg2
namespace Go.Tw
open Go.Eng
set_option linter.unusedVariables false
set_option linter.unusedSimpArgs false
theorem G_any {ρ : Type} {p : Prop} {d : Decidable p} {k : Option ρ} (h : p) : @G ρ p d k = k := by unfold G; exact if_pos h
theorem parts_cover (fr : List Int) : ∀ (n k : Nat) (rs : List Int), n ≤ rs.length → tileR fr rs k → ∀ q : Int, (if n = 0 then (k : Int) else rs.getD (n - 1) 0) ≤ q → q < (k : Int) → ∃ p ∈ partsS fr n k, fr.getD p.toNat 0 ≤ q ∧ q ≤ p
  | 0, k, rs, hn, ht, q, h1, h2 => by rw [if_pos rfl] at h1; omega
  | n + 1, k, [], hn, ht, q, h1, h2 => by simp at hn
  | n + 1, k, b :: rs, hn, ht, q, h1, h2 => by
    obtain ⟨t1, t2, t3, t4, t5, t6⟩ := ht
    rw [if_neg (by omega), Nat.add_sub_cancel] at h1
    have e2 : ((k : Int) - 1).toNat = k - 1 := by omega
    by_cases hq : b ≤ q
    · refine ⟨(k : Int) - 1, by rw [partsS]; simp, ?_, by omega⟩
      rw [e2, t3]; exact hq
    · have eb : ((b.toNat : Nat) : Int) = b := by omega
      have ih := parts_cover fr n b.toNat rs (by simpa using hn) t6 q (by
        rw [eb]
        by_cases h0 : n = 0
        · rw [if_pos h0]; subst h0; simp at h1; omega
        · rw [if_neg h0]
          obtain ⟨m, rfl⟩ : ∃ m, n = m + 1 := ⟨n - 1, by omega⟩
          simpa using h1) (by omega)
      obtain ⟨p, hp, h3, h4⟩ := ih
      refine ⟨p, ?_, h3, h4⟩
      rw [partsS, e2, t3, List.mem_append, ← eb]
      exact .inl hp
theorem pre_cover {f : List tCrack} (h : checkS f = 0) : ∀ (n : Nat) (a : Int), place f a → a < (n : Int) → ∀ q : Int, (begB f).getD a.toNat 0 ≤ q → q ≤ a → q ∈ pre f n a
  | 0, a, ha, hn, q, h1, h2 => by have := ha.1; omega
  | n + 1, a, ha, hn, q, h1, h2 => by
    rw [pre]
    by_cases e : q = a
    · subst e; exact List.mem_cons_self
    · obtain ⟨v1, v2, v3, v4⟩ := valid2 h
      obtain ⟨p1, p2, p3, rs, p4, p5, p6, p7⟩ := v4 a ha
      have ea : ((a.toNat : Nat) : Int) = a := by have := ha.1; omega
      have := parts_cover (begB f) (nOf f a) a.toNat rs p4 p6 q (by rw [ea, ← p7]; exact h1) (by omega)
      obtain ⟨p, hp, h3, h4⟩ := this
      rw [ea] at hp
      obtain ⟨k1, k2⟩ := part_place h ha hp
      exact List.mem_cons_of_mem _ (List.mem_flatMap.2 ⟨p, hp, pre_cover h n p k1 (by omega) q h3 h4⟩)
theorem beg_last {t : Tr tCrack} {f : List tCrack} (h : isF t f) : (begB f).getD (f.length - 1) 0 = 0 := by
  have hp := isF_pos h
  unfold begB
  rw [begB_of h]
  cases t with
  | node a ts =>
    have hl : f.length - 1 = (flats ts).length := by rw [← h.2.1, flat, List.length_append, List.length_singleton]; omega
    rw [outB, outF, outF, List.append_nil, outT, List.getD_eq_getElem?_getD, List.getElem?_map, List.getElem?_append_right (by rw [outF_len]; omega), outF_len, hl, Nat.sub_self]; rfl
theorem first_has {t : Tr tCrack} {f : List tCrack} (h : isF t f) (kind : Int) (hk : 1 ≤ kind ∧ kind ≤ 11) : decide ((firstS f kind).2 = 0) = f.any (fun c => decide (c.1 = kind)) := by
  have hc := check_of h
  have hpos := isF_pos h
  unfold firstS foundS
  rw [if_pos hc, if_neg (by omega)]
  have hpl : place f ((f.length : Int) - 1) := ⟨by omega, by omega⟩
  have hl := pre_place hc (1023 + 1) _ hpl
  have hlen := h.2.2
  cases hq : (pre f (1023 + 1) ((f.length : Int) - 1)).find? (isK f kind) with
  | some a =>
    have ha := hl a (List.mem_of_find?_eq_some hq)
    have hka : isK f kind a = true := List.find?_some hq
    have h1 := ha.1
    have h2 := ha.2
    symm
    rw [show decide ((cut f ((begB f).getD a.toNat 0).toNat (a + 1).toNat, (0 : Int)).2 = 0) = true from rfl, List.any_eq_true]
    refine ⟨f.getD a.toNat dCrack, ?_, hka⟩
    rw [List.getD_eq_getElem?_getD, List.getElem?_eq_getElem (by omega)]
    exact List.getElem_mem _
  | none =>
    symm
    rw [show decide ((([] : List tCrack), (4 : Int)).2 = 0) = false by decide]
    cases hany : f.any (fun c => decide (c.1 = kind)) with
    | false => rfl
    | true =>
      obtain ⟨c, hc1, hc2⟩ := List.any_eq_true.1 hany
      obtain ⟨j, hj, e⟩ := List.getElem_of_mem hc1
      have hm := pre_cover hc (1023 + 1) ((f.length : Int) - 1) hpl (by omega) (j : Int) (by
        rw [show ((f.length : Int) - 1).toNat = f.length - 1 by omega, beg_last h]; omega) (by omega)
      have := List.find?_eq_none.1 hq _ hm
      exfalso
      apply this
      unfold isK
      rw [Int.toNat_natCast, List.getD_eq_getElem?_getD, List.getElem?_eq_getElem hj, e]
      exact hc2
theorem mxL_deep : ∀ ts : List (Tr tCrack), mxL (ts.map fun t => (tdeep t : Int)) = (tdeeps ts : Int)
  | [] => rfl
  | t :: ts => by
    rw [List.map_cons, mxL, mxL_deep ts, tdeeps]; omega
theorem depF_parse : ∀ (l : List tCrack) (F F' : List (Tr tCrack)), parseT arC goodC l F = some F' → depF l (F.map fun t => (tdeep t : Int)) = F'.map fun t => (tdeep t : Int)
  | [], F, F', h => by cases h; rfl
  | c :: r, F, F', h => by
    rw [parseT, pushT] at h
    split at h
    · rename_i st' hs
      split at hs
      · rename_i hc
        cases hs
        have ih := depF_parse r _ F' h
        rw [depF, List.length_map, ← List.map_take, ← List.map_drop, mxL_deep]
        rw [← ih, List.map_append]
        congr 2
      · cases hs
    · cases h
theorem deep_of {t : Tr tCrack} {f : List tCrack} (h : isF t f) : deepS f = ((tdeep t : Int), 0) := by
  unfold deepS
  rw [if_pos (check_of h)]
  have := depF_parse f [] [t] (parse_one.2 ⟨h.1, h.2.1⟩)
  rw [List.map_nil] at this
  rw [this]; rfl
theorem kind_range (k : Int) : 1 ≤ w64 ((1 : Int) + (w64 ((Int.tmod (IntKind.wrap .u64 k) (11 : Int))))) ∧ w64 ((1 : Int) + (w64 ((Int.tmod (IntKind.wrap .u64 k) (11 : Int))))) ≤ 11 := by
  have h0 : 0 ≤ IntKind.wrap .u64 k := by simp [IntKind.wrap, IntKind.bits, IntKind.signed]; omega
  rw [Int.tmod_eq_emod_of_nonneg h0]
  have h1 := Int.emod_nonneg (IntKind.wrap .u64 k) (show (11 : Int) ≠ 0 by decide)
  have h2 := Int.emod_lt_of_pos (IntKind.wrap .u64 k) (show (0 : Int) < 11 by decide)
  rw [w64_eq (a := IntKind.wrap .u64 k % 11) (by omega) (by omega), w64_eq (by omega) (by omega)]
  omega
theorem leafL_len (f : List tCrack) (i : Nat) (hi : i ≤ f.length) : (leafL (f.take i)).length ≤ i := by
  have := List.length_filter_le (fun c : tCrack => decide (c.2.1 = 0)) (f.take i)
  unfold leafL
  rw [List.length_take] at this
  omega
section
variable {t : Tr tCrack} {f : List tCrack} (h : isF t f)
include h
theorem agrees_loop : ∀ (d i : Nat), i + d = f.length → iter st_law03_FailAgrees (.l12 f ((leafL (f.take i)).length : Int) (i : Int)) = some true
  | 0, i, hi => by
    have hc := check_of h
    have hlen := h.2.2
    have hpos := isF_pos h
    rw [iter_eq']
    simp only [st_law03_FailAgrees]
    unfold sg_law03_FailAgrees_12
    rw [if_neg (by rw [decide_eq_true_eq]; omega), leaves_eq, Option.bind_some]
    unfold leavesS
    rw [if_pos hc, show i = f.length by omega, List.take_length]
    simp only [List.length_map, decide_true, Bool.not_true, Bool.or_self, Bool.false_eq_true, if_false]
    rw [deep_eq, Option.bind_some, deep_of h]
    have t1 := tdeep_pos t
    have t2 := tdeep_le t
    rw [h.2.1] at t2
    rw [if_neg (by
      simp only [decide_true, Bool.not_true, Bool.false_or, Bool.or_eq_true, decide_eq_true_eq]
      omega), wrap_eq, Option.bind_some]
    have hn : nameS [97] = true := by decide +kernel
    unfold wrapS
    rw [if_pos hn, if_pos hc]
    by_cases h1024 : 1024 ≤ f.length
    · rw [if_pos (by simp only [Bool.or_eq_true, decide_eq_true_eq]; right; omega)]; rfl
    · rw [if_neg (by simp only [decide_true, Bool.not_true, Bool.false_or, decide_eq_true_eq]; omega)]
      have hlong : longS (f ++ [(9, 1, [97], ())]) = f ++ [(9, 1, [97], ())] := by
        unfold longS
        rw [if_neg (by simp only [List.length_append, List.length_cons, List.length_nil]; omega)]
      have hW : isF (.node (9, 1, [97], ()) [t]) (f ++ [(9, 1, [97], ())]) := by
        have := isF_node (c := (9, 1, [97], ())) (ts := [t]) (wrap_crack hn) rfl ⟨h.1, trivial⟩ (by simp only [flats, List.append_nil, h.2.1]; omega)
        simp only [flats, List.append_nil, h.2.1] at this
        exact this
      rw [hlong, deep_eq, Option.bind_some, deep_of hW, w64_eq (by omega) (by omega)]
      have e : tdeep (Tr.node ((9, 1, [97], ()) : tCrack) [t]) = tdeep t + 1 := by simp [tdeep, tdeeps]
      rw [e]
      show some _ = some true
      congr 1
      simp
  | d + 1, i, hi => by
    have hlen := h.2.2
    obtain ⟨c, r, hL⟩ := drop_ex (show i < f.length by omega)
    obtain ⟨hc, hr, hl2⟩ := drop_cons (d := dCrack) hL
    have hl := leafL_len f i (by omega)
    rw [iter_eq']
    simp only [st_law03_FailAgrees]
    unfold sg_law03_FailAgrees_12
    have e1 : w64 ((i : Int) + 1) = ((i + 1 : Nat) : Int) := w64_eq (by omega) (by omega)
    have e2 : w64 (((leafL (f.take i)).length : Int) + 1) = (((leafL (f.take i)).length + 1 : Nat) : Int) := w64_eq (by omega) (by omega)
    rw [if_pos (decide_eq_true (by omega)), G_pos (by omega), Int.toNat_natCast, hc, e1, e2]
    have ht : f.take (i + 1) = f.take i ++ [c] := by
      rw [List.take_add_one]
      congr 1
      have : f[i]? = some c := by
        have : (f.drop i)[0]? = some c := by rw [hL]; rfl
        rw [List.getElem?_drop] at this; simpa using this
      rw [this]; rfl
    have ih := agrees_loop d (i + 1) (by omega)
    rw [ht] at ih
    unfold leafL at ih ⊢
    rw [List.filter_append, List.length_append] at ih
    by_cases h0 : c.2.1 = 0
    · rw [if_pos (decide_eq_true h0)]
      have : ([c].filter fun c => decide (c.2.1 = 0)).length = 1 := by simp [h0]
      rw [this] at ih
      exact ih
    · rw [if_neg (by simpa using h0)]
      have : ([c].filter fun c => decide (c.2.1 = 0)).length = 0 := by simp [h0]
      rw [this, Nat.add_zero] at ih
      exact ih
end
theorem FailAgrees_pure (f : List tCrack) (kind : Int) : law03_FailAgrees f kind = some true := by
  unfold law03_FailAgrees en_law03_FailAgrees
  rw [works_eq]
  simp only [Option.bind_some, Bool.not_true, Bool.false_eq_true, if_false, check_eq]
  by_cases hf : ¬ checkS f = 0
  · rw [if_pos (by simpa using hf)]; rfl
  replace hf := Decidable.not_not.1 hf
  obtain ⟨t, ht⟩ := check_ex hf
  rw [if_neg (by simp [hf])]
  obtain ⟨k1, k2⟩ := kind_range kind
  generalize w64 ((1 : Int) + (w64 ((Int.tmod (IntKind.wrap .u64 kind) (11 : Int))))) = k at k1 k2
  rw [has_eq, Option.bind_some, first_eq, Option.bind_some]
  have hh := first_has ht k ⟨k1, k2⟩
  have hhas : hasS f k = (f.any (fun c => decide (c.1 = k)), 0) := by
    unfold hasS
    rw [if_pos hf, if_neg (by omega)]
  rw [hhas]
  have fin := agrees_loop ht f.length 0 (by omega)
  have fin' : iter st_law03_FailAgrees (.l12 f 0 0) = some true := fin
  rcases first_sub ht k ⟨k1, k2⟩ with h9 | ⟨v, hv, h9, hva⟩
  · rw [h9] at hh ⊢
    have h4 : decide ((4 : Int) = 0) = false := by decide
    simp only [h4] at hh
    simp only [← hh, h4, decide_true, Bool.not_true, Bool.false_or, beq_self_eq_true, Bool.not_false, Bool.and_false, Bool.false_and, Bool.false_eq_true, if_false, Option.bind_some, Bool.or_self]
    rw [G_any (by rintro ⟨⟩)]
    exact fin'
  · rw [h9] at hh ⊢
    have hx := isF_sub ht hv
    simp only [decide_true] at hh
    have hpos := isF_pos hx
    have hl := hx.2.2
    simp only [← hh, decide_true, Bool.not_true, Bool.false_or, beq_self_eq_true, Bool.not_false, Bool.and_true, if_true]
    rw [is_true ht hx ⟨v, hv, rfl⟩, Option.bind_some]
    have hw : w64 (((flat v).length : Int) - 1) = (((flat v).length - 1 : Nat) : Int) := by rw [w64_eq (by omega) (by omega)]; omega
    have h0 : decide (((flat v).length : Int) = 0) = false := decide_eq_false (by omega)
    rw [hw, h0, Int.toNat_natCast, G_any (fun _ => by omega)]
    have hlast : (flat v).getD ((flat v).length - 1) dCrack = v.a := by
      cases v with
      | node a ts => rw [flat, List.length_append, List.length_singleton, Nat.add_sub_cancel, List.getD_eq_getElem?_getD, List.getElem?_append_right (Nat.le_refl _), Nat.sub_self]; rfl
    rw [hlast, hva]
    simp only [decide_true, Bool.not_true, Bool.or_self, Bool.false_eq_true, if_false]
    exact fin'
end Go.Tw
