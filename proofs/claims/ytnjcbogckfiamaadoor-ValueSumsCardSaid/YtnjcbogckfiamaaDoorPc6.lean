/- A part of the proof: Pc6. -/
import Derived.Test.YtnjcbogckfiamaaDoorPc5
namespace Go.Eng
set_option linter.unusedVariables false
set_option linter.unusedSimpArgs false

theorem beq_self_not (b : Bool) : (!(b == b)) = false := by cases b <;> rfl
/-- Parts held against each other: one round. -/
theorem s38 {a b x : List tAtom} {s t : Int} {i : Nat} {p q : List tAtom × Bool} (hi : i < 20) (h : p = q) (hl : p.1.length ≤ 1024) (hn : iter st_law07_ValueSums (.l32 a b x s t ((i + 1 : Nat) : Int)) = some true) :
    iter st_law07_ValueSums (.l38 a b x s t (i : Int) p.1 p.2 q.1 q.2) = some true := by
  subst h
  rw [iter_eq']
  have e6 : w64 ((i : Int) + 1) = ((i + 1 : Nat) : Int) := by rw [w64_eq (by omega) (by omega)]; omega
  simp only [st_law07_ValueSums, sg_law07_ValueSums_38, beq_self_not, Bool.not_false, if_true, vsame_eq p.1 p.1 (by omega), Option.bind_some, decide_true, Bool.not_true, Bool.or_self, Bool.false_eq_true, if_false, e6]
  exact hn
theorem s32 {t u w : Tr tAtom} {a b x : List tAtom} (ha : isV t a) (hb : isV u b) (hx : isV w x) (k1 : w.a.1 = t.a.1) (k2 : u.a.1 = t.a.1) (hs : sizeV w = sizeV t + sizeV u)
    (h1 : (t.a.1 = 2 ∧ w.a.2.2.2.1 = t.a.2.2.2.1 ++ u.a.2.2.2.1) ∨ (t.a.1 = 3 ∧ w.ts = t.ts ++ u.ts)) (hb1 : 0 ≤ sizeV t) (hb2 : sizeV t ≤ 5000) (hb3 : 0 ≤ sizeV u) (hb4 : sizeV u ≤ 5000) : ∀ (d i : Nat), i + d = 20 → iter st_law07_ValueSums (.l32 a b x (sizeV t) (sizeV u) (i : Int)) = some true
  | 0, i, hi => by
    rw [iter_eq']
    simp only [st_law07_ValueSums, sg_law07_ValueSums_32, show ¬ ((i : Int) < 20) by omega, decide_false, Bool.and_false, Bool.false_eq_true, if_false]; rfl
  | d + 1, i, hi => by
    by_cases hlt : (i : Int) < sizeV t + sizeV u
    · have hn := s32 ha hb hx k1 k2 hs h1 hb1 hb2 hb3 hb4 d (i + 1) (by omega)
      have hw : w64 (sizeV t + sizeV u) = sizeV t + sizeV u := w64_eq (by omega) (by omega)
      have i1 := isV_num (n := (i : Int)) (by omega) (by omega)
      rw [iter_eq']
      have hp : okP (itO w (numT (i : Int))) = (if sizeV t ≤ (i : Int) then okP (itO u (numT ((i - (sizeV t).toNat : Nat) : Int))) else okP (itO t (numT (i : Int)))) ∧ (okP (itO w (numT (i : Int)))).1.length ≤ 1024 := by
        rcases h1 with ⟨e1, h1⟩ | ⟨e1, h1⟩
        · rw [itO_2 (t := w) (by omega), itO_2 (t := t) e1, itO_2 (t := u) (by omega)]
          refine ⟨?_, by decide⟩
          split <;> rfl
        · rw [itO_3 hx (by omega), itO_3 ha e1, itO_3 hb (by omega), okP_itN, okP_itN, okP_itN]
          refine ⟨?_, itN_len hx i⟩
          have hN := isV_ar ha
          have hz : sizeV t = (t.ts.length : Int) := by rw [sizeV_3 (by omega)]; exact hN
          rw [h1, hz]
          by_cases hc : (t.ts.length : Int) ≤ (i : Int)
          · rw [if_pos hc, itN_app2 _ _ _ (by omega), Int.toNat_natCast]
          · rw [if_neg hc, itN_app1 _ _ _ (by omega)]
      simp only [st_law07_ValueSums, sg_law07_ValueSums_32, hw, hlt, show ((i : Int) < 20) by omega, decide_true, Bool.and_self, if_true, law07_whole, Option.bind_some, do10 hx i1, do10 ha i1]
      by_cases hc : sizeV t ≤ (i : Int)
      · have e5 : w64 ((i : Int) - sizeV t) = ((i - (sizeV t).toNat : Nat) : Int) := by rw [w64_eq (by omega) (by omega)]; omega
        have i2 := isV_num (n := ((i - (sizeV t).toNat : Nat) : Int)) (by omega) (by omega)
        rw [if_pos hc] at hp
        rw [if_pos (by simpa using hc), e5, do10 hb i2]
        exact s38 (by omega) hp.1 hp.2 hn
      · rw [if_neg hc] at hp
        rw [if_neg (by simpa using hc)]
        exact s38 (by omega) hp.1 hp.2 hn
    · have hw : w64 (sizeV t + sizeV u) = sizeV t + sizeV u := w64_eq (by omega) (by omega)
      rw [iter_eq']
      simp only [st_law07_ValueSums, sg_law07_ValueSums_32, hw, hlt, decide_false, Bool.false_and, Bool.false_eq_true, if_false]; rfl
theorem sizeV_bd {t : Tr tAtom} {a : List tAtom} (ha : isV t a) : 0 ≤ sizeV t ∧ sizeV t ≤ 5000 := by
  have w1 := wellA_kind (okT_well ha.2.1)
  have hN := isV_ar ha
  have := isV_ts_len ha
  by_cases h : t.a.1 = 2
  · rw [sizeV_2 h]; rcases w1 with w | w | w <;> omega
  · rw [sizeV_3 h]; omega
theorem s16 (a b c : List tAtom) : iter st_law07_ValueSums (.l16 a b c) = some true := by
  rw [iter_eq']
  show runL _ (sg_law07_ValueSums_16 a b c) = _
  unfold sg_law07_ValueSums_16
  rcases checks3 a b c with ⟨t, u, v, ha, hb, hc⟩ | h
  · simp only [vcheck_eq, checkV_is ha, checkV_is hb, checkV_is hc, Option.bind_some, decide_true, Bool.not_true, Bool.or_self, Bool.not_false, Bool.false_eq_true, if_false, if_true, do9 ha hb, do9 hb hc]
    by_cases hok : (joO t u).2 = true ∧ (joO u v).2 = true
    · obtain ⟨w1, hw1, k1, k2, hs, h1⟩ := jo_ok ha hb hok.1
      obtain ⟨w2, hw2, k3, k4, hs2, h2⟩ := jo_ok hb hc hok.2
      have o1 : okP (joO t u) = ((joO t u).1, true) := by unfold okP; rw [if_pos hok.1]
      have o2 : okP (joO u v) = ((joO u v).1, true) := by unfold okP; rw [if_pos hok.2]
      have hk1 : ¬ t.a.1 = 1 := by rcases h1 with h | h <;> omega
      have b1 := sizeV_bd ha
      have b2 := sizeV_bd hb
      have hass : joO w1 v = joO t w2 := jo_assoc k1 k2 k3 k4 h1 h2
      simp only [o1, o2, Bool.not_true, Bool.or_self, Bool.false_eq_true, if_false, do9 hw1 hc, do9 ha hw2, Option.bind_some, hass, beq_self_not, Bool.not_false, if_true, vsame_eq (okP (joO t w2)).1 (okP (joO t w2)).1 (by have := okP_len (joO_len (t := t) (u := w2)); omega), decide_true, lsize ha, lsize hb, lsize hw1]
      rw [if_neg hk1, if_neg (show ¬ u.a.1 = 1 by omega), if_neg (show ¬ w1.a.1 = 1 by omega)]
      have e : decide (sizeV w1 = w64 (sizeV t + sizeV u)) = true := decide_eq_true (by rw [hs, w64_eq (by omega) (by omega)])
      simp only [Bool.not_true, Bool.or_self, Bool.false_or, e, Bool.false_eq_true, if_false]
      have := s32 ha hb hw1 k1 k2 hs h1 b1.1 b1.2 b2.1 b2.2 20 0 rfl
      exact this
    · have hno : (!(okP (joO t u)).2 || !(okP (joO u v)).2) = true := by
        unfold okP
        by_cases h1 : (joO t u).2 = true
        · have h2 : ¬ (joO u v).2 = true := fun e => hok ⟨h1, e⟩
          rw [if_neg h2]; simp
        · rw [if_neg h1]; simp
      rw [if_pos hno]; rfl
  · have := checks_bind a b c (some (.inr true) : Option (L_law07_ValueSums ⊕ Bool)) ((law07_do (9 : Int) a b).bind fun t116 =>
  (law07_do (9 : Int) b c).bind fun t122 =>
  if ((!t116.2) || (!t122.2)) = true then
  some (.inr true)
  else
  (law07_do (9 : Int) t116.1 c).bind fun t134 =>
  (law07_do (9 : Int) a t122.1).bind fun t140 =>
  (if (!(!(t134.2 == t140.2))) = true then base_SameValue t134.1 t140.1 else some false).bind fun t149 =>
  if ((!(t134.2 == t140.2)) || (!t149)) = true then
  some (.inr false)
  else
  (law07_size a).bind fun t154 =>
  (law07_size b).bind fun t159 =>
  (law07_size t116.1).bind fun t164 =>
  if ((((!t154.2) || (!t159.2)) || (!t164.2)) || (!decide (t164.1 = (w64 (t154.1 + t159.1))))) = true then
  some (.inr false)
  else
  some (.inl (.l32 a b t116.1 t154.1 t159.1 (0 : Int)))) h
    exact (congrArg (runL st_law07_ValueSums) this).trans rfl

/-! whole numbers -/
theorem arO_num (k n m : Int) : arO k (numT n) (numT m) = arV2 k n m := by
  unfold arO; rw [if_pos ⟨rfl, rfl⟩]; rfl
theorem ar_comm {k : Int} (hk : k = 6 ∨ k = 8) (n m : Int) : arV2 k n m = arV2 k m n := by
  unfold arV2
  rcases hk with rfl | rfl
  · rw [if_pos rfl, if_pos rfl, Int.add_comm]
  · simp only [Int.reduceEq, if_false]
    rw [Nat.mul_comm, Int.mul_comm]
theorem s5a {n m : Int} (a b c : List tAtom) {k : Int} (hk : k = 6 ∨ k = 8) (hn1 : -9007199254740992 ≤ n) (hn2 : n ≤ 9007199254740992) (hm1 : -9007199254740992 ≤ m) (hm2 : m ≤ 9007199254740992) (h : iter st_law07_ValueSums (.l5 n m a b c (k + 2)) = some true) :
    iter st_law07_ValueSums (.l5 n m a b c k) = some true := by
  have i1 := isV_num hn1 hn2
  have i2 := isV_num hm1 hm2
  have d1 : law07_do k [(1, 0, n, [], ())] [(1, 0, m, [], ())] = some (okP (arV2 k n m)) := by
    rcases hk with rfl | rfl
    · rw [do6 i1 i2, arO_num]
    · rw [do8 i1 i2, arO_num]
  have d2 : law07_do k [(1, 0, m, [], ())] [(1, 0, n, [], ())] = some (okP (arV2 k n m)) := by
    rw [ar_comm hk]
    rcases hk with rfl | rfl
    · rw [do6 i2 i1, arO_num]
    · rw [do8 i2 i1, arO_num]
  have hl := okP_len (arV2_len k n m)
  rw [iter_eq']
  have hle : k ≤ 8 := by omega
  have e6 : w64 (k + 2) = k + 2 := w64_eq (by omega) (by omega)
  simp only [st_law07_ValueSums, sg_law07_ValueSums_5, hle, decide_true, if_true, law07_whole, Option.bind_some, d1, d2, beq_self_not, Bool.not_false, vsame_eq (okP (arV2 k n m)).1 (okP (arV2 k n m)).1 (by omega), Bool.not_true, Bool.or_self, Bool.false_eq_true, if_false, e6]
  exact h
theorem s5 {n m : Int} (a b c : List tAtom) (hn1 : -9007199254740992 ≤ n) (hn2 : n ≤ 9007199254740992) (hm1 : -9007199254740992 ≤ m) (hm2 : m ≤ 9007199254740992) : iter st_law07_ValueSums (.l5 n m a b c 6) = some true := by
  have i1 := isV_num hn1 hn2
  have i2 := isV_num hm1 hm2
  refine s5a a b c (.inl rfl) hn1 hn2 hm1 hm2 (s5a a b c (.inr rfl) hn1 hn2 hm1 hm2 ?_)
  show iter st_law07_ValueSums (.l5 n m a b c 10) = _
  rw [iter_eq']
  have e7 : arV2 7 n m = numV (n - m) := by
    unfold arV2
    rw [if_neg (by decide), if_pos rfl, w64_eq (by omega) (by omega)]
  simp only [st_law07_ValueSums, sg_law07_ValueSums_5, show ¬ ((10 : Int) ≤ 8) by decide, decide_false, Bool.false_eq_true, if_false, law07_whole, Option.bind_some, do7 i1 i2, arO_num, e7]
  by_cases hr : n - m < -9007199254740992 ∨ 9007199254740992 < n - m
  · have : okP (numV (n - m)) = ([], false) := by unfold numV; rw [if_pos hr]; rfl
    rw [this, if_neg (by decide)]
    exact s16 a b c
  · have hk : okP (numV (n - m)) = ([(1, 0, n - m, [], ())], true) := by unfold numV; rw [if_neg hr]; rfl
    have i3 := isV_num (n := n - m) (by omega) (by omega)
    have e8 : okP (arV2 6 (n - m) m) = ([(1, 0, n, [], ())], true) := by
      unfold arV2
      rw [if_pos rfl, w64_eq (by omega) (by omega), show n - m + m = n by omega]
      unfold numV
      rw [if_neg (by omega)]; rfl
    simp only [hk, if_true, do6 i3 i2, arO_num, e8, Option.bind_some, Bool.not_true, Bool.not_false, vsame_eq [((1 : Int), (0 : Int), n, ([] : List UInt8), ())] [((1 : Int), (0 : Int), n, ([] : List UInt8), ())] (by simp), decide_true, Bool.or_self, Bool.false_eq_true, if_false]
    exact s16 a b c
theorem ValueSums_pure (n m : Int) (a b c : List tAtom) : law07_ValueSums n m a b c = some true := by
  unfold law07_ValueSums en_law07_ValueSums
  rw [works_eq, Option.bind_some, if_neg (by decide)]
  have t1 (n : Int) : -9007199254740992 ≤ Int.tmod n 9007199254740992 ∧ Int.tmod n 9007199254740992 ≤ 9007199254740992 := by
    have h1 := Int.tmod_lt_of_pos n (b := 9007199254740992) (by decide)
    have h2 := Int.lt_tmod_of_pos n (b := 9007199254740992) (by decide)
    omega
  exact s5 a b c (t1 n).1 (t1 n).2 (t1 m).1 (t1 m).2
end Go.Eng
