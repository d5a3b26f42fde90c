/- A part of the proof: So8. -/
import Derived.Test.YtnjcbogckfiamaaSo7
namespace Go.Eng
set_option linter.unusedVariables false
set_option linter.unusedSimpArgs false
noncomputable def compV (a b : List tAtom) : Int × Int := if checkV a = 0 then (if checkV b = 0 then (cV a b, 0) else (0, checkV b)) else (0, checkV a)
theorem vComp_eq (a b : List tAtom) : value_Compare a b = some (compV a b) := by
  unfold value_Compare compV
  rw [vcheck_eq, Option.bind_some]
  by_cases ha : checkV a = 0
  · rw [if_neg (by simp [ha]), vcheck_eq, Option.bind_some, if_pos ha]
    by_cases hb : checkV b = 0
    · rw [if_neg (by simp [hb]), if_pos hb, vcmp_eq (checkV_ok ha) (checkV_ok hb)]; rfl
    · rw [if_pos (by simp [hb]), if_neg hb]
  · rw [if_pos (by simp [ha]), if_neg ha]
theorem rComp_eq (a b : List tAtom) : ref07_Compare a b = some (compV a b) := by
  have h4 : ∀ e : Int, (e = 0 → checkV a = 0 ∧ checkV b = 0) → iter st_ref07_Compare (.l4 a b e) = some (if e = 0 then (cV a b, 0) else (0, e)) := fun e he => by
    rw [iter_eq']
    show runL _ (sg_ref07_Compare_4 _ _ _) = _
    unfold sg_ref07_Compare_4
    by_cases h : e = 0
    · obtain ⟨ha, hb⟩ := he h
      rw [if_neg (by simp [h]), if_pos h, rcmp_eq (checkV_ok ha) (checkV_ok hb)]; rfl
    · rw [if_pos (by simp [h]), if_neg h]; rfl
  unfold ref07_Compare en_ref07_Compare compV
  rw [rcheck_eq, Option.bind_some]
  by_cases ha : checkV a = 0
  · rw [if_pos (decide_eq_true ha), rcheck_eq, Option.bind_some, if_pos ha]
    show iter _ _ = _
    rw [h4 _ (fun h => ⟨ha, h⟩)]
  · rw [if_neg (by simpa using ha), if_neg ha]
    show iter _ _ = _
    rw [h4 _ (fun h => absurd h ha), if_neg ha]
theorem sort_both (l : List (List tAtom)) (hl : l.length < 4611686018427387904) : ∃ (W : List SE) (e : Int), value_Sort l = some (W, e) ∧ ref07_Sort l = some (W.map (fun y => y.2), e) ∧ (∀ y ∈ W, y.1 = true ∧ y.2.length ≤ 1024) ∧ W.length ≤ 4096 := by
  by_cases h1 : 4096 < l.length
  · refine ⟨[], 3, ?_, ?_, fun y hy => (by cases hy), by simp⟩
    · unfold value_Sort en_value_Sort
      rw [if_pos (decide_eq_true (by omega))]; rfl
    · unfold ref07_Sort en_ref07_Sort
      rw [if_pos (decide_eq_true (by omega))]; rfl
  · by_cases hf : firstV l = 0
    · obtain ⟨W, w1, w2, w3⟩ := vsort_eq l (by omega) hf
      obtain ⟨S, s1, s2, s3⟩ := rsort_eq l (by omega) hf
      have ho := ows_ok (firstV_all hf)
      have hW : W = ows S := srt_uniq (okL_perm w1.symm ho) (w1.trans (s1.map _).symm) w2 s2
      refine ⟨W, 0, w3, by rw [s3, hW, ows_snd], fun y hy => ?_, ?_⟩
      · obtain ⟨q1, q2⟩ := ho y (w1.mem_iff.1 hy)
        exact ⟨q1, rV_len q2⟩
      · rw [w1.length_eq]; unfold ows; rw [List.length_map]; omega
    · refine ⟨[], firstV l, ?_, ?_, fun y hy => (by cases hy), by simp⟩
      · unfold value_Sort en_value_Sort
        rw [if_neg (by rw [decide_eq_true_eq]; omega), vfirst_eq l (by omega), Option.bind_some, if_pos (by simp [hf])]; rfl
      · unfold ref07_Sort en_ref07_Sort
        rw [if_neg (by rw [decide_eq_true_eq]; omega), rfirst_eq l (by omega), Option.bind_some, if_pos (by simp [hf])]; rfl
theorem vo_loop (l own : List (List tAtom)) (hv : law07_values own l = some true) : ∀ (d i : Nat) (x : List SE), i + d = x.length → x.length ≤ 4096 → (∀ y ∈ x, y.1 = true) → iter st_law07_ValueOrders (.l11 l own x (i : Int)) = some true
  | 0, i, x, hi, hs, hx => by
    rw [iter_eq']
    show runL _ (sg_law07_ValueOrders_11 _ _ _ _) = _
    unfold sg_law07_ValueOrders_11
    rw [if_neg (by rw [decide_eq_true_eq]; omega), hv]; rfl
  | d + 1, i, x, hi, hs, hx => by
    have e6 : w64 ((i : Int) + 1) = ((i + 1 : Nat) : Int) := w64_eq (by omega) (by omega)
    have hm : el2D x i ∈ x := by
      unfold el2D
      rw [List.getD_eq_getElem?_getD, List.getElem?_eq_getElem (by omega)]
      exact List.getElem_mem _
    rw [iter_eq']
    show runL _ (sg_law07_ValueOrders_11 _ _ _ _) = _
    unfold sg_law07_ValueOrders_11
    rw [if_pos (decide_eq_true (by omega)), Gx ⟨by omega, by omega⟩, Gx (by rw [Int.toNat_natCast]; exact hx _ hm), Gx rfl, e6]
    show iter _ _ = _
    refine vo_loop l own hv d (i + 1) _ (by rw [List.length_set]; omega) (by rw [List.length_set]; exact hs) (fun y hy => ?_)
    rcases List.mem_or_eq_of_mem_set hy with hy | hy
    · exact hx y hy
    · rw [hy]
theorem ValueOrders_pure (a b : List tAtom) (l : List (List tAtom)) (ha : a.length * 40 ≤ 140737488351232) (hb : b.length * 40 ≤ 140737488351232) (hl : vsizes l) : law07_ValueOrders a b l = some true := by
  obtain ⟨W, e, q1, q2, q3, q4⟩ := sort_both l (by have := hl.1; omega)
  have hvv : law07_values l l = some true := values_eq l (by have := hl.1; omega) (fun v hv => by have := hl.2 v hv; omega)
  unfold law07_ValueOrders en_law07_ValueOrders
  rw [vcopy_eq a (by omega), Option.bind_some, vcopy_eq b (by omega), Option.bind_some, vComp_eq, Option.bind_some, rComp_eq, Option.bind_some, if_neg (by simp), copied_eq l hl, Option.bind_some, q1, Option.bind_some, q2, Option.bind_some, Gx fun _ => rfl]
  have h1 : (if (!(!decide ((W, e).2 = (W.map (fun y => y.2), e).2))) = true then law07_values ((W, e).1.map fun y => y.2) (W.map (fun y => y.2), e).1 else some false) = some true := by
    rw [if_pos (by simp)]
    exact values_eq _ (by rw [List.length_map]; show W.length < _; omega) (fun v hv => by
      obtain ⟨y, hy, rfl⟩ := List.mem_map.1 hv
      have := (q3 y hy).2; omega)
  rw [h1, Option.bind_some, if_neg (by simp)]
  show iter _ _ = _
  exact vo_loop l l hvv W.length 0 W (by omega) q4 (fun y hy => (q3 y hy).1)
end Go.Eng
