/- A part of the proof: So7. -/
import Derived.Test.YtnjcbogckfiamaaSo6
import Derived.Test.YtnjcbogckfiamaaPv4b
namespace Go.Eng
set_option linter.unusedVariables false
set_option linter.unusedSimpArgs false
def ows (l : List (List tAtom)) : List SE := l.map fun v => (true, v)
theorem ows_snd (l : List (List tAtom)) : (ows l).map (fun y => y.2) = l := by unfold ows; rw [List.map_map]; exact List.map_id l
theorem firstV_all : ∀ {l : List (List tAtom)}, firstV l = 0 → ∀ v ∈ l, rV v
  | [], _, v, hv => by cases hv
  | x :: l, h, v, hv => by
    unfold firstV at h
    split at h
    · rename_i hx
      rcases List.mem_cons.1 hv with rfl | hv
      · exact checkV_ok hx
      · exact firstV_all h v hv
    · rename_i hx; exact absurd h hx
theorem ows_ok {l : List (List tAtom)} (h : ∀ v ∈ l, rV v) : okL (ows l) := fun y hy => by
  obtain ⟨v, hv, rfl⟩ := List.mem_map.1 hy
  exact ⟨rfl, h v hv⟩
theorem rV_len {v : List tAtom} (h : rV v) : v.length ≤ 1024 := by obtain ⟨t, h⟩ := h; exact h.1
theorem vs_loop (l : List (List tAtom)) (hl : l.length ≤ 4096) (ho : ∀ v ∈ l, rV v) : ∀ (d i : Nat), i + d = l.length →
    iter st_value_Sort (.l8 l (ows (l.take i) ++ List.replicate d (false, [])) (l.length : Int) (i : Int)) = iter st_value_Sort (.l8 l (ows l) (l.length : Int) (l.length : Int))
  | 0, i, hi => by
    simp only [Nat.add_zero] at hi
    subst hi
    rw [List.take_length]; simp
  | d + 1, i, hi => by
    obtain ⟨c, r, hL⟩ := drop_ex (show i < l.length by omega)
    obtain ⟨hc, hr, hlen⟩ := drop_cons (d := ([] : List tAtom)) hL
    have oc : rV c := ho c (List.mem_of_mem_drop (by rw [hL]; exact List.mem_cons_self))
    have hcl := rV_len oc
    have htl : (ows (l.take i)).length = i := by unfold ows; rw [List.length_map, List.length_take]; omega
    have e6 : w64 ((i : Int) + 1) = ((i + 1 : Nat) : Int) := w64_eq (by omega) (by omega)
    rw [List.replicate_succ, iter_eq']
    show runL _ (sg_value_Sort_8 _ _ _ _) = _
    unfold sg_value_Sort_8
    rw [if_pos (decide_eq_true (by omega)), Gx ⟨by omega, by omega⟩, Int.toNat_natCast, hc, vclone_eq c (by omega), Option.bind_some, Gx ⟨by omega, by rw [List.length_append, List.length_cons, List.length_replicate]; omega⟩, Gx (by rw [el_mid _ _ _ htl]), set_md _ _ _ _ htl, e6]
    show iter _ _ = _
    have et : l.take (i + 1) = l.take i ++ [c] := by
      have h1 : l[i]? = some c := by rw [← List.head?_drop, hL]; rfl
      rw [List.take_add_one, h1]; rfl
    have e7 : ows (l.take i) ++ (true, c) :: List.replicate d (false, ([] : List tAtom)) = ows (l.take (i + 1)) ++ List.replicate d (false, []) := by
      rw [et]; unfold ows; simp
    rw [e7]
    exact vs_loop l hl ho d (i + 1) (by omega)
theorem vsort_eq (l : List (List tAtom)) (hl : l.length ≤ 4096) (hf : firstV l = 0) : ∃ W : List SE, W.Perm (ows l) ∧ srt W ∧ value_Sort l = some (W, 0) := by
  have ho := firstV_all hf
  have hol : (ows l).length = l.length := by unfold ows; exact List.length_map _
  obtain ⟨W, w1, w2, w3⟩ := sortStable_eq (ows l) (by rw [hol]; omega) (ows_ok ho)
  refine ⟨W, w1, w2, ?_⟩
  unfold value_Sort en_value_Sort
  rw [if_neg (by rw [decide_eq_true_eq]; omega), vfirst_eq l (by omega), hf, Option.bind_some, if_neg (by decide), Gx ⟨by omega, by omega, by omega⟩]
  show iter _ _ = _
  have e0 : (List.replicate ((l.length : Int)).toNat ([] : List tAtom)).map (fun y => (false, y)) = ows (l.take 0) ++ List.replicate l.length (false, []) := by
    rw [List.map_replicate, Int.toNat_natCast]; rfl
  rw [e0, show (0 : Int) = ((0 : Nat) : Int) from rfl, vs_loop l hl ho l.length 0 (by omega), iter_eq']
  show runL _ (sg_value_Sort_8 _ _ _ _) = _
  unfold sg_value_Sort_8
  rw [if_neg (by rw [decide_eq_true_eq]; omega), Gx rfl, allR_ok w3 (okL_perm w1.symm (ows_ok ho)), Option.bind_some, Gx rfl]; rfl
theorem getD_mid {α : Type} (A : List α) (x d : α) (B : List α) {n : Nat} (h : A.length = n) : (A ++ x :: B).getD n d = x := by
  subst h
  rw [List.getD_eq_getElem?_getD, List.getElem?_append_right (Nat.le_refl _)]; simp
theorem set_midg {α : Type} (A : List α) (x y : α) (B : List α) {n : Nat} (h : A.length = n) : (A ++ x :: B).set n y = A ++ y :: B := by
  subst h
  rw [List.set_append_right _ _ (Nat.le_refl _)]; simp
theorem rs_shift (l : List (List tAtom)) (i : Nat) (S1 : List (List tAtom)) (x : List tAtom) (hi : i < l.length) (hx : l.getD i [] = x) (hxl : x.length ≤ 1024) (hil : l.length ≤ 4096) : ∀ (k : Nat) (A B : List (List tAtom)) (g : List tAtom), A.length = k → S1.length + A.length + B.length ≤ 4096 →
    iter st_ref07_Sort (.l15 l (S1 ++ (A ++ g :: B)) (i : Int) (S1.length : Int) ((S1.length + A.length : Nat) : Int)) = iter st_ref07_Sort (.l8 l (S1 ++ (x :: (A ++ B))) ((i + 1 : Nat) : Int))
  | 0, A, B, g, hk, hs => by
    have := nil_of_len hk
    subst this
    have e6 : w64 ((i : Int) + 1) = ((i + 1 : Nat) : Int) := w64_eq (by omega) (by omega)
    rw [iter_eq']
    show runL _ (sg_ref07_Sort_15 _ _ _ _ _) = _
    unfold sg_ref07_Sort_15
    rw [if_neg (by rw [decide_eq_true_eq, List.length_nil]; omega), Gx ⟨by omega, by omega⟩, Int.toNat_natCast, hx, vcopy_eq x (by omega), Option.bind_some, Gx ⟨by omega, by simp; omega⟩, Int.toNat_natCast, List.nil_append, set_midg _ _ _ _ rfl, e6]
    rfl
  | k + 1, A1, B, g, hk, hs => by
    obtain ⟨A, y, rfl⟩ : ∃ A y, A1 = A ++ [y] := by
      rcases List.eq_nil_or_concat A1 with rfl | ⟨S, y, rfl⟩
      · cases hk
      · exact ⟨S, y, by simp⟩
    have hA : A.length = k := by simpa using hk
    have hl1 : (A ++ [y]).length = A.length + 1 := by simp
    have e1 : w64 (((S1.length + (A ++ [y]).length : Nat) : Int) - 1) = ((S1.length + A.length : Nat) : Int) := by rw [w64_eq (by omega) (by omega)]; omega
    have g1 : (S1 ++ (A ++ [y] ++ g :: B)).getD (S1.length + A.length) ([] : List tAtom) = y := by
      rw [show S1 ++ (A ++ [y] ++ g :: B) = (S1 ++ A) ++ y :: (g :: B) by simp]
      exact getD_mid _ _ _ _ (by simp)
    have g2 : (S1 ++ (A ++ [y] ++ g :: B)).set (S1.length + (A ++ [y]).length) y = S1 ++ (A ++ y :: (y :: B)) := by
      rw [show S1 ++ (A ++ [y] ++ g :: B) = (S1 ++ (A ++ [y])) ++ g :: B by simp, set_midg _ _ _ _ (by simp)]; simp
    have hlen : (S1 ++ (A ++ [y] ++ g :: B)).length = S1.length + (A.length + 1 + (B.length + 1)) := by simp; omega
    rw [iter_eq']
    show runL _ (sg_ref07_Sort_15 _ _ _ _ _) = _
    unfold sg_ref07_Sort_15
    rw [if_pos (decide_eq_true (by omega)), e1, Gx ⟨by omega, by rw [hlen]; omega⟩, Gx ⟨by omega, by rw [hlen]; omega⟩, Int.toNat_natCast, Int.toNat_natCast, g1, g2]
    show iter _ _ = _
    have := rs_shift l i S1 x hi hx hxl hil k A (y :: B) y hA (by simp only [List.length_cons]; omega)
    rw [this]; simp
theorem rs_scan (l : List (List tAtom)) (i : Nat) (x : List tAtom) (hi : i < l.length) (hx : l.getD i [] = x) (ox : rV x) (hil : l.length ≤ 4096) : ∀ (k : Nat) (S1 S2 : List (List tAtom)), S1.length = k → S1.length + S2.length ≤ 4095 → (∀ v ∈ S1, rV v) → (∀ v ∈ S2, rV v) → srt (ows (S1 ++ S2)) → (∀ z ∈ S2, cV x z ≤ 0) →
    ∃ S : List (List tAtom), S.Perm (x :: (S1 ++ S2)) ∧ srt (ows S) ∧ iter st_ref07_Sort (.l11 l (S1 ++ S2) (i : Int) (S1.length : Int)) = iter st_ref07_Sort (.l8 l S ((i + 1 : Nat) : Int)) := by
  have ows_app : ∀ a b : List (List tAtom), ows (a ++ b) = ows a ++ ows b := fun a b => List.map_append
  have ows_cons : ∀ (a : List tAtom) (b : List (List tAtom)), ows (a :: b) = (true, a) :: ows b := fun a b => rfl
  -- the place is found
  have found : ∀ (S1 S2 : List (List tAtom)), S1.length + S2.length ≤ 4095 → (∀ v ∈ S1, rV v) → (∀ v ∈ S2, rV v) → srt (ows (S1 ++ S2)) → (∀ z ∈ S2, cV x z ≤ 0) → (∀ z ∈ S1, cV z x ≤ 0) →
      runL st_ref07_Sort (G (((S1 ++ S2).length + ([([] : List tAtom)] : List (List tAtom)).length) * 24 ≤ 140737488355328) <| some (.inl (.l15 l ((S1 ++ S2) ++ ([([] : List tAtom)] : List (List tAtom))) (i : Int) (S1.length : Int) (w64 (((((S1 ++ S2) ++ ([([] : List tAtom)] : List (List tAtom))).length : Nat) : Int) - (1 : Int)))))) = iter st_ref07_Sort (.l8 l (S1 ++ (x :: S2)) ((i + 1 : Nat) : Int)) ∧ (S1 ++ (x :: S2)).Perm (x :: (S1 ++ S2)) ∧ srt (ows (S1 ++ (x :: S2))) := by
    intro S1 S2 hs o1 o2 hst h2 h1
    have hl : ((S1 ++ S2) ++ [([] : List tAtom)]).length = S1.length + S2.length + 1 := by simp; omega
    refine ⟨?_, List.perm_middle, ?_⟩
    · rw [Gx (by rw [List.length_append, List.length_singleton]; omega), hl]
      have e1 : w64 (((S1.length + S2.length + 1 : Nat) : Int) - 1) = ((S1.length + S2.length : Nat) : Int) := by rw [w64_eq (by omega) (by omega)]; omega
      rw [e1]
      show iter _ _ = _
      have := rs_shift l i S1 x hi hx (rV_len ox) hil S2.length S2 [] [] rfl (by simp only [List.length_nil]; omega)
      rw [List.append_assoc, this, List.append_nil]
    · rw [ows_app] at hst
      obtain ⟨t1, t2, t3⟩ := srt_app.1 hst
      rw [ows_app, ows_cons]
      refine srt_app.2 ⟨t1, srt_cons.2 ⟨fun b hb => ?_, t2⟩, fun u hu v hv => ?_⟩
      · obtain ⟨z, hz, rfl⟩ := List.mem_map.1 hb
        exact h2 z hz
      · rcases List.mem_cons.1 hv with rfl | hv
        · obtain ⟨z, hz, rfl⟩ := List.mem_map.1 hu
          exact h1 z hz
        · exact t3 u hu v hv
  intro k
  induction k with
  | zero =>
    intro S1 S2 hk hs o1 o2 hst h2
    have := nil_of_len hk
    subst this
    obtain ⟨f1, f2, f3⟩ := found [] S2 hs o1 o2 hst h2 (fun z hz => by cases hz)
    refine ⟨_, f2, f3, ?_⟩
    rw [iter_eq', ← f1]
    show runL _ (sg_ref07_Sort_11 _ _ _ _) = _
    unfold sg_ref07_Sort_11
    have hf : decide ((0 : Int) < ((([] : List (List tAtom)).length : Nat) : Int)) = false := decide_eq_false (by simp)
    rw [Gno hf, Gno hf, hf]
    simp only [Bool.false_eq_true, if_false, Option.bind_some, Bool.false_and]
  | succ k ih =>
    intro S1' S2 hk hs o1 o2 hst h2
    obtain ⟨S1, y, rfl⟩ : ∃ A y, S1' = A ++ [y] := by
      rcases List.eq_nil_or_concat S1' with rfl | ⟨S, y, rfl⟩
      · cases hk
      · exact ⟨S, y, by simp⟩
    have hS : S1.length = k := by simpa using hk
    have hl1 : (S1 ++ [y]).length = S1.length + 1 := by simp
    have oy : rV y := o1 y (by simp)
    have e1 : w64 ((((S1 ++ [y]).length : Nat) : Int) - 1) = ((S1.length : Nat) : Int) := by rw [w64_eq (by omega) (by omega)]; omega
    have g1 : (S1 ++ [y] ++ S2).getD S1.length ([] : List tAtom) = y := by
      rw [show S1 ++ [y] ++ S2 = S1 ++ y :: S2 by simp]
      exact getD_mid _ _ _ _ rfl
    have hlt : decide ((0 : Int) < (((S1 ++ [y]).length : Nat) : Int)) = true := decide_eq_true (by omega)
    have hcm : ref07_compare ((S1 ++ [y] ++ S2).getD ((((S1.length : Nat) : Int)).toNat) ([] : List tAtom)) (l.getD ((i : Int)).toNat ([] : List tAtom)) = some (cV y x) := by
      rw [Int.toNat_natCast, Int.toNat_natCast, g1, hx, rcmp_eq oy ox]
    by_cases hc : 0 < cV y x
    · obtain ⟨S, s1, s2, s3⟩ := ih S1 (y :: S2) hS (by simp only [List.length_cons]; omega) (fun v hv => o1 v (by simp [hv])) (fun v hv => by
        rcases List.mem_cons.1 hv with rfl | hv
        · exact oy
        · exact o2 v hv) (by simpa using hst) (fun z hz => by
        rcases List.mem_cons.1 hz with rfl | hz
        · have := cV_neg oy ox; omega
        · exact h2 z hz)
      refine ⟨S, s1.trans (by simp), s2, ?_⟩
      rw [iter_eq']
      show runL _ (sg_ref07_Sort_11 _ _ _ _) = _
      unfold sg_ref07_Sort_11
      rw [e1, Gx fun _ => ⟨by omega, by simp only [List.length_append, List.length_singleton]; omega⟩, Gx fun _ => ⟨by omega, by omega⟩, if_pos hlt, hcm, Option.bind_some, hlt, if_pos (by simpa using hc)]
      show iter _ _ = _
      rw [show S1 ++ [y] ++ S2 = S1 ++ y :: S2 by simp]
      exact s3
    · have hle : ∀ z ∈ S1 ++ [y], cV z x ≤ 0 := fun z hz => by
        rcases List.mem_append.1 hz with hz' | hz'
        · rw [ows_app, ows_app] at hst
          have := (srt_app.1 (srt_app.1 hst).1).2.2 (true, z) (List.mem_map.2 ⟨z, hz', rfl⟩) (true, y) (List.mem_map.2 ⟨y, by simp, rfl⟩)
          exact cV_trans (o1 z (by simp [hz'])) oy ox this (by omega)
        · rw [List.mem_singleton.1 hz']; omega
      obtain ⟨f1, f2, f3⟩ := found (S1 ++ [y]) S2 hs o1 o2 hst h2 hle
      refine ⟨_, f2, f3, ?_⟩
      rw [iter_eq', ← f1]
      show runL _ (sg_ref07_Sort_11 _ _ _ _) = _
      unfold sg_ref07_Sort_11
      rw [e1, Gx fun _ => ⟨by omega, by simp only [List.length_append, List.length_singleton]; omega⟩, Gx fun _ => ⟨by omega, by omega⟩, if_pos hlt, hcm, Option.bind_some, hlt, if_neg (by simpa using hc)]
theorem rs_loop (l : List (List tAtom)) (hl : l.length ≤ 4096) (ho : ∀ v ∈ l, rV v) : ∀ (d i : Nat) (S : List (List tAtom)), i + d = l.length → S.Perm (l.take i) → srt (ows S) →
    ∃ S' : List (List tAtom), S'.Perm l ∧ srt (ows S') ∧ iter st_ref07_Sort (.l8 l S (i : Int)) = some (S', 0)
  | 0, i, S, hi, hp, hs => by
    simp only [Nat.add_zero] at hi
    subst hi
    rw [List.take_length] at hp
    refine ⟨S, hp, hs, ?_⟩
    rw [iter_eq']
    show runL _ (sg_ref07_Sort_8 _ _ _) = _
    unfold sg_ref07_Sort_8
    rw [if_neg (by rw [decide_eq_true_eq]; omega)]; rfl
  | d + 1, i, S, hi, hp, hs => by
    obtain ⟨c, r, hL⟩ := drop_ex (show i < l.length by omega)
    obtain ⟨hc, hr, hlen⟩ := drop_cons (d := ([] : List tAtom)) hL
    have oc : rV c := ho c (List.mem_of_mem_drop (by rw [hL]; exact List.mem_cons_self))
    have hSl : S.length = i := by rw [hp.length_eq, List.length_take]; omega
    have et : l.take (i + 1) = l.take i ++ [c] := by
      have h1 : l[i]? = some c := by rw [← List.head?_drop, hL]; rfl
      rw [List.take_add_one, h1]; rfl
    obtain ⟨T, t1, t2, t3⟩ := rs_scan l i c (by omega) hc oc hl S.length S [] rfl (by simp only [List.length_nil]; omega) (fun v hv => ho v (List.mem_of_mem_take (hp.mem_iff.1 hv))) (fun v hv => by cases hv) (by rw [List.append_nil]; exact hs) (fun z hz => by cases hz)
    rw [List.append_nil] at t1 t3
    obtain ⟨S', s1, s2, s3⟩ := rs_loop l hl ho d (i + 1) T (by omega) (by
      rw [et]
      refine t1.trans ?_
      exact ((List.perm_cons c).2 hp).trans (List.perm_append_singleton c _).symm) t2
    refine ⟨S', s1, s2, ?_⟩
    rw [iter_eq']
    show runL _ (sg_ref07_Sort_8 _ _ _) = _
    unfold sg_ref07_Sort_8
    rw [if_pos (decide_eq_true (by omega))]
    show iter _ _ = _
    rw [t3, s3]
theorem rsort_eq (l : List (List tAtom)) (hl : l.length ≤ 4096) (hf : firstV l = 0) : ∃ S : List (List tAtom), S.Perm l ∧ srt (ows S) ∧ ref07_Sort l = some (S, 0) := by
  obtain ⟨S, s1, s2, s3⟩ := rs_loop l hl (firstV_all hf) l.length 0 [] (by omega) (List.Perm.refl _) List.Pairwise.nil
  refine ⟨S, s1, s2, ?_⟩
  unfold ref07_Sort en_ref07_Sort
  rw [if_neg (by rw [decide_eq_true_eq]; omega), rfirst_eq l (by omega), hf, Option.bind_some, if_neg (by decide)]
  exact s3
end Go.Eng
