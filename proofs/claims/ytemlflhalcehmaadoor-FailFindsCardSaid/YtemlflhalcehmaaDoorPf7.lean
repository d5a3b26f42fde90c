/- A part of the proof: Pf7. -/
import Derived.Test.YtemlflhalcehmaaDoorPf6
namespace Go.Eng
set_option linter.unusedVariables false
set_option linter.unusedSimpArgs false

theorem begF_tile2 : ∀ (r : List tCrack) (i : Nat) (fr st : List Int), fr.length = i → tileR fr st.reverse i → st.length ≤ i → (begF r i fr st).2 = true →
    ∃ ext, (begF r i fr st).1 = fr ++ ext ∧ ext.length = r.length ∧ ∀ j c, r[j]? = some c → 0 ≤ c.2.1 ∧ 0 ≤ (begF r i fr st).1.getD (i + j) 0 ∧ (begF r i fr st).1.getD (i + j) 0 ≤ ((i + j : Nat) : Int) ∧ ∃ rs : List Int, c.2.1.toNat ≤ rs.length ∧ rs.length ≤ i + j ∧ tileR (begF r i fr st).1 rs (i + j) ∧
      (begF r i fr st).1.getD (i + j) 0 = if c.2.1.toNat = 0 then ((i + j : Nat) : Int) else rs.getD (c.2.1.toNat - 1) 0
  | [], i, fr, st, hf, ht, hl, h => ⟨[], by simp [begF], rfl, fun j c hj => by simp at hj⟩
  | c :: r, i, fr, st, hf, ht, hl, h => by
    simp only [begF] at h ⊢
    cases hs : stepB i c st with
    | none => rw [hs] at h; cases h
    | some p =>
      obtain ⟨b, st'⟩ := p
      rw [hs] at h
      simp only at h ⊢
      have hlen := stepB_len hs
      have hget : ∀ x : Int, (fr ++ [x]).getD i 0 = x := fun x => by
        rw [List.getD_eq_getElem?_getD, List.getElem?_append_right (by omega), hf, Nat.sub_self]; rfl
      have key : tileR (fr ++ [b]) st'.reverse (i + 1) ∧ 0 ≤ c.2.1 ∧ c.2.1.toNat ≤ st.reverse.length ∧ 0 ≤ b ∧ b ≤ (i : Int) ∧ b = if c.2.1.toNat = 0 then (i : Int) else st.reverse.getD (c.2.1.toNat - 1) 0 := by
        unfold stepB at hs
        split at hs
        · rename_i hc
          have hp := crackS_pos hc.1
          split at hs
          · rename_i hpos
            simp only [Option.some.injEq, Prod.mk.injEq] at hs
            obtain ⟨rfl, rfl⟩ := hs
            obtain ⟨k1, k2, k3⟩ := tileR_drop fr st.reverse i (c.2.1.toNat - 1) ht (by rw [List.length_reverse]; omega)
            rw [List.reverse_append, rev_take _ _ (by omega), rev_get st c.2.1.toNat (by omega) (by omega)]
            refine ⟨⟨by omega, by rw [List.length_append, hf]; simp, by rw [Nat.add_sub_cancel]; exact hget _, k2, by omega, tileR_ext _ _ _ _ ?_⟩, hp, by rw [List.length_reverse]; omega, k2, by omega, by rw [if_neg (by omega)]⟩
            rw [show c.2.1.toNat - 1 + 1 = c.2.1.toNat by omega] at k1
            exact k1
          · simp only [Option.some.injEq, Prod.mk.injEq] at hs
            obtain ⟨rfl, rfl⟩ := hs
            rw [List.reverse_append]
            refine ⟨⟨by omega, by rw [List.length_append, hf]; simp, by rw [Nat.add_sub_cancel]; exact hget _, by omega, by omega, tileR_ext _ _ _ _ ?_⟩, hp, by rw [List.length_reverse]; omega, by omega, by omega, by rw [if_pos (by omega)]⟩
            rw [Int.toNat_natCast]; exact ht
        · cases hs
      obtain ⟨q1, q2, q3, q4, q5, q6⟩ := key
      obtain ⟨ext, e1, e2, e3⟩ := begF_tile2 r (i + 1) (fr ++ [b]) st' (by rw [List.length_append, hf]; rfl) q1 (by omega) h
      refine ⟨b :: ext, by rw [e1]; simp, by simp [e2], fun j d hj => ?_⟩
      cases j with
      | zero =>
        simp at hj; subst hj
        have hb : (begF r (i + 1) (fr ++ [b]) st').1.getD (i + 0) 0 = b := by
          rw [e1, Nat.add_zero, List.getD_eq_getElem?_getD, List.getElem?_append_left (by rw [List.length_append, hf]; simp), ← List.getD_eq_getElem?_getD]
          exact hget b
        rw [hb]
        refine ⟨q2, q4, by simpa using q5, st.reverse, q3, by rw [List.length_reverse]; omega, ?_, by simpa using q6⟩
        rw [e1, List.append_assoc]
        exact tileR_ext _ _ _ _ ht
      | succ j =>
        obtain ⟨p1, p2, p3, rs, p4, p5, p6, p7⟩ := e3 j d (by simpa using hj)
        rw [show i + (j + 1) = i + 1 + j by omega]
        exact ⟨p1, p2, p3, rs, p4, p5, p6, p7⟩

def begB (f : List tCrack) : List Int := (begF f 0 [] []).1
def nOf (f : List tCrack) (a : Int) : Nat := (f.getD a.toNat dCrack).2.1.toNat
/-- The parts of what ends ahead of k, n of them. -/
def partsS (fr : List Int) : Nat → Int → List Int
  | 0, _ => []
  | n + 1, k => partsS fr n (fr.getD (k - 1).toNat 0) ++ [k - 1]
def place (f : List tCrack) (a : Int) : Prop := 0 ≤ a ∧ a < (f.length : Int)
theorem valid2 {f : List tCrack} (h : checkS f = 0) : (begB f).length = f.length ∧ f.length ≤ 1024 ∧ 0 < f.length ∧ ∀ a, place f a → 0 ≤ (f.getD a.toNat dCrack).2.1 ∧ 0 ≤ (begB f).getD a.toNat 0 ∧ (begB f).getD a.toNat 0 ≤ a ∧ ∃ rs : List Int, nOf f a ≤ rs.length ∧ rs.length ≤ a.toNat ∧ tileR (begB f) rs a.toNat ∧
    (begB f).getD a.toNat 0 = if nOf f a = 0 then a else rs.getD (nOf f a - 1) 0 := by
  obtain ⟨v1, v2, v3, _⟩ := valid_at h
  refine ⟨v1, v2, v3, fun a ha => ?_⟩
  obtain ⟨k, rfl⟩ : ∃ k : Nat, a = k := ⟨a.toNat, by have := ha.1; omega⟩
  have hk : k < f.length := by have := ha.2; omega
  unfold checkS at h
  split at h
  · cases h
  · split at h
    · rename_i h1 h2
      obtain ⟨ext, e1, e2, e3⟩ := begF_tile2 f 0 [] [] rfl trivial (by simp) h2
      obtain ⟨c, hc⟩ : ∃ c, f[k]? = some c := ⟨f[k], List.getElem?_eq_getElem hk⟩
      have hcd : f.getD k dCrack = c := by rw [List.getD_eq_getElem?_getD, hc]; rfl
      obtain ⟨p1, p2, p3, rs, p4, p5, p6, p7⟩ := e3 k c hc
      rw [Nat.zero_add] at p2 p3 p5 p6 p7
      unfold nOf begB
      rw [Int.toNat_natCast, hcd]
      exact ⟨p1, p2, p3, rs, p4, p5, p6, p7⟩
    · cases h

theorem partsS_mem (fr : List Int) : ∀ (n k : Nat) (rs : List Int), n ≤ rs.length → tileR fr rs k → ∀ p ∈ partsS fr n k, 0 ≤ p ∧ p < (k : Int)
  | 0, _, _, _, _, p, hp => by simp [partsS] at hp
  | n + 1, k, [], hn, _, p, hp => by simp at hn
  | n + 1, k, b :: rs, hn, ht, p, hp => by
    obtain ⟨h1, h2, h3, h4, h5, h6⟩ := ht
    simp only [partsS, List.mem_append, List.mem_singleton] at hp
    have e2 : ((k : Int) - 1).toNat = k - 1 := by omega
    rcases hp with hp | rfl
    · rw [e2, h3] at hp
      have eb : ((b.toNat : Nat) : Int) = b := by omega
      rw [← eb] at hp
      have := partsS_mem fr n b.toNat rs (by simpa using hn) h6 p hp
      omega
    · omega
def szI (fr : List Int) (p : Int) : Int := p - fr.getD p.toNat 0 + 1
theorem partsS_sum (fr : List Int) : ∀ (n k : Nat) (rs : List Int), n ≤ rs.length → tileR fr rs k → ((partsS fr n k).map (szI fr)).sum = (k : Int) - (if n = 0 then (k : Int) else rs.getD (n - 1) 0)
  | 0, k, _, _, _ => by simp [partsS]
  | n + 1, k, [], hn, _ => by simp at hn
  | n + 1, k, b :: rs, hn, ht => by
    obtain ⟨h1, h2, h3, h4, h5, h6⟩ := ht
    have e2 : ((k : Int) - 1).toNat = k - 1 := by omega
    have eb : ((b.toNat : Nat) : Int) = b := by omega
    have ih := partsS_sum fr n b.toNat rs (by simpa using hn) h6
    rw [eb] at ih
    simp only [partsS, e2, h3, List.map_append, List.sum_append, List.map_cons, List.map_nil, List.sum_cons, List.sum_nil]
    rw [ih]
    simp only [szI, e2, h3]
    rw [if_neg (show ¬ (n + 1 = 0) by omega), Nat.add_sub_cancel]
    cases n with
    | zero => simp only [List.getD_cons_zero, if_true]; omega
    | succ n => rw [if_neg (show ¬ (n + 1 = 0) by omega)]; simp only [Nat.add_sub_cancel, List.getD_cons_succ]; omega
theorem partsS_len (fr : List Int) : ∀ (n : Nat) (k : Int), (partsS fr n k).length = n
  | 0, _ => rfl
  | n + 1, k => by simp only [partsS, List.length_append, partsS_len fr n, List.length_singleton]

theorem parts_loop2 (fr : List Int) (hfr : fr.length ≤ 1024) : ∀ (n k : Nat) (out rs : List Int), n ≤ rs.length → tileR fr rs k → n ≤ out.length → out.length ≤ 1024 → k ≤ 1024 →
    iter st_fail_parts (.l4 fr out (k : Int) ((n : Int) - 1)) = some (partsS fr n k ++ out.drop n) ∧ iter st_ref03_parts (.l5 fr out ((k : Int) - 1) ((n : Int) - 1)) = some (partsS fr n k ++ out.drop n)
  | 0, k, out, rs, hn, ht, ho, ho2, hk => by
    have : ¬ (0 : Int) ≤ ((0 : Nat) : Int) - 1 := by omega
    refine ⟨?_, ?_⟩
    · rw [iter_eq']
      simp only [st_fail_parts, sg_fail_parts_4, this, decide_false, Bool.false_eq_true, if_false]; rfl
    · rw [iter_eq']
      simp only [st_ref03_parts, sg_ref03_parts_5, this, decide_false, Bool.false_eq_true, if_false]; rfl
  | n + 1, k, out, [], hn, ht, ho, ho2, hk => by simp at hn
  | n + 1, k, out, b :: rs, hn, ht, ho, ho2, hk => by
    obtain ⟨h1, h2, h3, h4, h5, h6⟩ := ht
    obtain ⟨q2, q3⟩ := parts_loop2 fr hfr n b.toNat (out.set n ((k : Int) - 1)) rs (by simpa using hn) h6 (by rw [List.length_set]; omega) (by rw [List.length_set]; exact ho2) (by omega)
    have e0 : ((n + 1 : Nat) : Int) - 1 = (n : Int) := by omega
    have eb : ((b.toNat : Nat) : Int) = b := by omega
    rw [eb] at q2 q3
    have g0 : (0 : Int) ≤ (n : Int) := by omega
    have g1 : 0 ≤ (n : Int) ∧ (n : Int) < (out.length : Int) := by omega
    have w1 : w64 ((k : Int) - 1) = (k : Int) - 1 := w64_eq (by omega) (by omega)
    have w2 : w64 ((n : Int) - 1) = (n : Int) - 1 := w64_eq (by omega) (by omega)
    have w3 : w64 (b - 1) = b - 1 := w64_eq (by omega) (by omega)
    have g2 : 0 ≤ (k : Int) - 1 ∧ (k : Int) - 1 < (fr.length : Int) := by omega
    have e2 : ((k : Int) - 1).toNat = k - 1 := by omega
    have ed : (out.set n ((k : Int) - 1)).drop n = ((k : Int) - 1) :: out.drop (n + 1) := by
      rw [List.drop_eq_getElem_cons (by rw [List.length_set]; omega), List.getElem_set_self, List.drop_set_of_lt (by omega)]
    have eo : partsS fr (n + 1) (k : Int) ++ out.drop (n + 1) = partsS fr n b ++ (out.set n ((k : Int) - 1)).drop n := by
      rw [ed]; simp only [partsS, e2, h3, List.append_assoc, List.singleton_append]
    rw [eo]
    refine ⟨?_, ?_⟩
    · rw [iter_eq']
      simp only [e0, st_fail_parts, sg_fail_parts_4, decide_eq_true_eq, if_pos g0, G_pos g1, w1, G_pos g2, Int.toNat_natCast, e2, h3, w2]
      exact q2
    · rw [iter_eq']
      simp only [e0, st_ref03_parts, sg_ref03_parts_5, decide_eq_true_eq, if_pos g0, G_pos g1, G_pos g2, Int.toNat_natCast, e2, h3, w2, w3]
      exact q3
theorem parts_of {f : List tCrack} (h : checkS f = 0) (a : Int) (ha : place f a) : fail_parts f (begB f) a = some (partsS (begB f) (nOf f a) a) ∧ ref03_parts f a = some (partsS (begB f) (nOf f a) a) := by
  obtain ⟨v1, v2, v3, v4⟩ := valid2 h
  obtain ⟨p1, p2, p3, rs, p4, p5, p6, p7⟩ := v4 a ha
  obtain ⟨k, rfl⟩ : ∃ k : Nat, a = k := ⟨a.toNat, by have := ha.1; omega⟩
  have hk : k < f.length := by have := ha.2; omega
  rw [Int.toNat_natCast] at p1 p5 p6
  have hn : nOf f (k : Int) = (f.getD k dCrack).2.1.toNat := rfl
  have p4' : (f.getD k dCrack).2.1.toNat ≤ rs.length := p4
  have hN : ((f.getD k dCrack).2.1.toNat : Int) = (f.getD k dCrack).2.1 := by omega
  have g1 : 0 ≤ (k : Int) ∧ (k : Int) < (f.length : Int) := by omega
  have g2 : 0 ≤ (f.getD k dCrack).2.1 ∧ (f.getD k dCrack).2.1 ≤ (f.getD k dCrack).2.1 ∧ (8 : Int) * (f.getD k dCrack).2.1 ≤ 281474976710656 := by omega
  have w1 : w64 (((f.getD k dCrack).2.1.toNat : Int) - 1) = ((f.getD k dCrack).2.1.toNat : Int) - 1 := w64_eq (by omega) (by omega)
  have w2 : w64 ((f.getD k dCrack).2.1 - 1) = ((f.getD k dCrack).2.1.toNat : Int) - 1 := by rw [w64_eq (by omega) (by omega)]; omega
  have w3 : w64 ((k : Int) - 1) = (k : Int) - 1 := w64_eq (by omega) (by omega)
  obtain ⟨q2, q3⟩ := parts_loop2 (begB f) (by omega) (f.getD k dCrack).2.1.toNat k (List.replicate (f.getD k dCrack).2.1.toNat 0) rs p4' p6 (by rw [List.length_replicate]; exact Nat.le_refl _) (by rw [List.length_replicate]; omega) (by omega)
  have hd : (List.replicate (f.getD k dCrack).2.1.toNat (0 : Int)).drop (f.getD k dCrack).2.1.toNat = [] := List.drop_eq_nil_of_le (by simp)
  rw [hd, List.append_nil] at q2 q3
  refine ⟨?_, ?_⟩
  · unfold fail_parts en_fail_parts
    simp only [Int.toNat_natCast, G_pos g1, G_pos g2, List.length_replicate, w1]
    rw [hn]; exact q2
  · unfold ref03_parts en_ref03_parts
    rw [refBeg_eq f (by omega)]
    simp only [Option.bind_some, Int.toNat_natCast, G_pos g1, G_pos g2, w2, w3]
    rw [hn]; exact q3

/-! a whole ahead of its parts -/
def pre (f : List tCrack) : Nat → Int → List Int
  | 0, _ => []
  | n + 1, a => a :: (partsS (begB f) (nOf f a) a).flatMap (pre f n)
theorem part_place {f : List tCrack} (h : checkS f = 0) {a p : Int} (ha : place f a) (hp : p ∈ partsS (begB f) (nOf f a) a) : place f p ∧ p < a := by
  obtain ⟨v1, v2, v3, v4⟩ := valid2 h
  obtain ⟨p1, p2, p3, rs, p4, p5, p6, p7⟩ := v4 a ha
  have ea : ((a.toNat : Nat) : Int) = a := by have := ha.1; omega
  rw [← ea] at hp
  have hp' : p ∈ partsS (begB f) (nOf f a) (a.toNat : Int) := by rw [ea] at hp ⊢; exact hp
  have := partsS_mem (begB f) (nOf f a) a.toNat rs p4 p6 p hp'
  refine ⟨⟨this.1, ?_⟩, by omega⟩
  have := ha.2; omega
theorem pre_place {f : List tCrack} (h : checkS f = 0) : ∀ (n : Nat) (a : Int), place f a → ∀ p ∈ pre f n a, place f p
  | 0, _, _, p, hp => by simp [pre] at hp
  | n + 1, a, ha, p, hp => by
    simp only [pre, List.mem_cons, List.mem_flatMap] at hp
    rcases hp with rfl | ⟨q, hq, hp⟩
    · exact ha
    · exact pre_place h n q (part_place h ha hq).1 p hp
theorem flatMap_ext {α β : Type} {g g' : α → List β} : ∀ {l : List α}, (∀ x ∈ l, g x = g' x) → l.flatMap g = l.flatMap g'
  | [], _ => rfl
  | x :: l, h => by rw [List.flatMap_cons, List.flatMap_cons, h x (by simp), flatMap_ext (fun y hy => h y (by simp [hy]))]
theorem pre_fuel {f : List tCrack} (h : checkS f = 0) : ∀ (n m : Nat) (a : Int), place f a → a < (n : Int) → a < (m : Int) → pre f n a = pre f m a
  | 0, m, a, ha, hn, hm => by have := ha.1; omega
  | n + 1, 0, a, ha, hn, hm => by have := ha.1; omega
  | n + 1, m + 1, a, ha, hn, hm => by
    simp only [pre]
    congr 1
    refine flatMap_ext fun p hp => ?_
    obtain ⟨k1, k2⟩ := part_place h ha hp
    exact pre_fuel h n m p k1 (by omega) (by omega)
theorem flatMap_len {α β : Type} (g : α → List β) (s : α → Int) : ∀ (l : List α), (∀ x ∈ l, ((g x).length : Int) = s x) → ((l.flatMap g).length : Int) = (l.map s).sum
  | [], _ => rfl
  | x :: l, h => by
    rw [List.flatMap_cons, List.length_append, List.map_cons, List.sum_cons, ← flatMap_len g s l (fun y hy => h y (by simp [hy])), ← h x (by simp)]
    omega
theorem pre_len {f : List tCrack} (h : checkS f = 0) : ∀ (n : Nat) (a : Int), place f a → a < (n : Int) → ((pre f n a).length : Int) = szI (begB f) a
  | 0, a, ha, hn => by have := ha.1; omega
  | n + 1, a, ha, hn => by
    obtain ⟨v1, v2, v3, v4⟩ := valid2 h
    obtain ⟨p1, p2, p3, rs, p4, p5, p6, p7⟩ := v4 a ha
    have ea : ((a.toNat : Nat) : Int) = a := by have := ha.1; omega
    have hs := partsS_sum (begB f) (nOf f a) a.toNat rs p4 p6
    rw [ea, ← p7] at hs
    have hl := flatMap_len (pre f n) (szI (begB f)) (partsS (begB f) (nOf f a) a) (fun p hp => by
      obtain ⟨k1, k2⟩ := part_place h ha hp
      exact pre_len h n p k1 (by omega))
    simp only [pre, List.length_cons]
    rw [hs] at hl
    unfold szI
    omega
theorem pre_short {f : List tCrack} (h : checkS f = 0) (n : Nat) (a : Int) (ha : place f a) (hn : a < (n : Int)) : (pre f n a).length ≤ 1024 := by
  have := pre_len h n a ha hn
  obtain ⟨v1, v2, v3, v4⟩ := valid2 h
  obtain ⟨p1, p2, p3, _⟩ := v4 a ha
  unfold szI at this
  have := ha.2
  omega

theorem ahead_loop {f : List tCrack} {ps : List Int} {n : Nat} (hps : ps.length ≤ 1024) (hrec : ∀ p ∈ ps, ∀ out : List Int, out.length + (pre f n p).length ≤ 100000 → fail_ahead_o_n n f (begB f) p out = some (out ++ pre f n p)) : ∀ (d i : Nat) (out : List Int), i + d = ps.length → out.length + ((ps.drop i).flatMap (pre f n)).length ≤ 100000 →
    iter (st_fail_ahead_o (fail_ahead_o_n n)) (.l3 f (begB f) out ps (ps.length : Int) (i : Int)) = some (out ++ (ps.drop i).flatMap (pre f n))
  | 0, i, out, hi, ho => by
    rw [iter_eq']
    have hd : ps.drop i = [] := List.drop_eq_nil_of_le (by omega)
    have : ¬ (i : Int) < (ps.length : Int) := by omega
    simp only [st_fail_ahead_o, sg_fail_ahead_o_3, this, decide_false, Bool.false_eq_true, if_false, hd]
    simp [runL]
  | d + 1, i, out, hi, ho => by
    rw [iter_eq']
    obtain ⟨c, r, hL⟩ := drop_ex (show i < ps.length by omega)
    obtain ⟨hc, hr, hlen⟩ := drop_cons (d := (0 : Int)) hL
    have hlt : (i : Int) < (ps.length : Int) := by omega
    have hG : 0 ≤ (i : Int) ∧ (i : Int) < (ps.length : Int) := ⟨by omega, hlt⟩
    have e6 : w64 ((i : Int) + 1) = ((i + 1 : Nat) : Int) := w64_eq (by omega) (by omega)
    have hm : c ∈ ps := by
      have : c ∈ ps.drop i := by rw [hL]; simp
      exact List.mem_of_mem_drop this
    rw [hL, List.flatMap_cons, List.length_append] at ho
    simp only [st_fail_ahead_o, sg_fail_ahead_o_3, decide_eq_true_eq, if_pos hlt, G_pos hG, Int.toNat_natCast, hc, e6, hrec c hm out (by omega), Option.bind_some]
    show iter _ _ = _
    rw [ahead_loop hps hrec d (i + 1) _ (by omega) (by rw [hr, List.length_append]; omega), hL, hr]
    simp
theorem ahead_eq {f : List tCrack} (h : checkS f = 0) : ∀ (n : Nat) (a : Int) (out : List Int), place f a → a < (n : Int) → out.length + (pre f n a).length ≤ 100000 → fail_ahead_o_n n f (begB f) a out = some (out ++ pre f n a)
  | 0, a, out, ha, hn, ho => by have := ha.1; omega
  | n + 1, a, out, ha, hn, ho => by
    unfold fail_ahead_o_n en_fail_ahead_o
    simp only [pre, List.length_cons] at ho
    rw [G_pos (by simp only [List.length_cons, List.length_nil]; omega), (parts_of h a ha).1]
    simp only [Option.bind_some]
    show iter _ _ = _
    have hlen : (partsS (begB f) (nOf f a) a).length ≤ 1024 := by
      rw [partsS_len]
      obtain ⟨v1, v2, v3, v4⟩ := valid2 h
      obtain ⟨p1, p2, p3, rs, p4, p5, p6, p7⟩ := v4 a ha
      have := ha.2
      omega
    have := ahead_loop (f := f) (n := n) hlen (fun p hp out' ho' => by
      obtain ⟨k1, k2⟩ := part_place h ha hp
      exact ahead_eq h n p out' k1 (by omega) ho') (partsS (begB f) (nOf f a) a).length 0 (out ++ [a]) (by omega) (by rw [List.drop_zero, List.length_append, List.length_singleton]; omega)
    rw [List.drop_zero] at this
    have e0 : ((0 : Nat) : Int) = 0 := rfl
    rw [e0] at this
    rw [this]
    simp [pre]

/-! the first of a kind -/
def isK (f : List tCrack) (kind : Int) (a : Int) : Bool := decide ((f.getD a.toNat dCrack).1 = kind)
def foundS (f : List tCrack) (kind : Int) (l : List Int) : List tCrack × Int := match l.find? (isK f kind) with
  | some a => (cut f ((begB f).getD a.toNat 0).toNat (a + 1).toNat, 0)
  | none => ([], 4)
theorem cut_len (f : List tCrack) (a b : Nat) : (cut f a b).length ≤ f.length := by
  unfold cut; rw [List.length_drop, List.length_take]; omega
theorem first_loop {f : List tCrack} (h : checkS f = 0) (kind : Int) (l : List Int) (hl : ∀ p ∈ l, place f p) (hll : l.length ≤ 100000) : ∀ (d i : Nat), i + d = l.length →
    iter st_fail_First (.l8 f kind (begB f) l (l.length : Int) (i : Int)) = some (foundS f kind (l.drop i))
  | 0, i, hi => by
    rw [iter_eq']
    have hd : l.drop i = [] := List.drop_eq_nil_of_le (by omega)
    have : ¬ (i : Int) < (l.length : Int) := by omega
    simp only [st_fail_First, sg_fail_First_8, this, decide_false, Bool.false_eq_true, if_false, hd]
    rfl
  | d + 1, i, hi => by
    rw [iter_eq']
    obtain ⟨v1, v2, v3, v4⟩ := valid2 h
    obtain ⟨c, r, hL⟩ := drop_ex (show i < l.length by omega)
    obtain ⟨hc, hr, hlen⟩ := drop_cons (d := (0 : Int)) hL
    have hlt : (i : Int) < (l.length : Int) := by omega
    have hG : 0 ≤ (i : Int) ∧ (i : Int) < (l.length : Int) := ⟨by omega, hlt⟩
    have e6 : w64 ((i : Int) + 1) = ((i + 1 : Nat) : Int) := w64_eq (by omega) (by omega)
    have hm : c ∈ l := by
      have : c ∈ l.drop i := by rw [hL]; simp
      exact List.mem_of_mem_drop this
    have hp := hl c hm
    have hG2 : 0 ≤ c ∧ c < (f.length : Int) := hp
    obtain ⟨p1, p2, p3, _⟩ := v4 c hp
    have hG3 : 0 ≤ c ∧ c < ((begB f).length : Int) := by have := hp.1; have := hp.2; omega
    have w1 : w64 (c + 1) = c + 1 := w64_eq (by omega) (by omega)
    have hG4 : 0 ≤ (begB f).getD c.toNat 0 ∧ (begB f).getD c.toNat 0 ≤ c + 1 ∧ c + 1 ≤ (f.length : Int) := by have := hp.2; omega
    simp only [st_fail_First, sg_fail_First_8, decide_eq_true_eq, if_pos hlt, G_pos hG, Int.toNat_natCast, hc, e6, G_pos hG2]
    by_cases hk : (f.getD c.toNat dCrack).1 = kind
    · have hcl : slices_Clone (cut f ((begB f).getD c.toNat 0).toNat (c + 1).toNat) = some (cut f ((begB f).getD c.toNat 0).toNat (c + 1).toNat) := by
        unfold slices_Clone
        rw [G_pos]
        have := cut_len f ((begB f).getD c.toNat 0).toNat (c + 1).toNat
        simp only [List.length_nil]; omega
      rw [if_pos hk, G_pos hG3, w1, G_pos hG4, hcl]
      simp only [Option.bind_some]
      have : isK f kind c = true := by unfold isK; rw [hk]; simp
      rw [hL]
      simp only [foundS, List.find?_cons, this]; rfl
    · rw [if_neg hk]
      show iter _ _ = _
      have : isK f kind c = false := by unfold isK; exact decide_eq_false hk
      rw [first_loop h kind l hl hll d (i + 1) (by omega), hL, hr]
      simp only [foundS, List.find?_cons, this]

theorem push_loop (f : List tCrack) (kind : Int) (p : List Int) (hp : p.length ≤ 1024) : ∀ (n : Nat) (td : List Int), n ≤ p.length → td.length + n ≤ 1000000 →
    iter st_ref03_First (.l14 f kind td p ((n : Int) - 1)) = iter st_ref03_First (.l7 f kind (td ++ (p.take n).reverse))
  | 0, td, hn, ht => by
    rw [iter_eq']
    have : ¬ (0 : Int) ≤ ((0 : Nat) : Int) - 1 := by omega
    simp only [st_ref03_First, sg_ref03_First_14, this, decide_false, Bool.false_eq_true, if_false, List.take_zero, List.reverse_nil, List.append_nil]
    rfl
  | n + 1, td, hn, ht => by
    rw [iter_eq']
    have e0 : ((n + 1 : Nat) : Int) - 1 = (n : Int) := by omega
    have g0 : (0 : Int) ≤ (n : Int) := by omega
    have g1 : 0 ≤ (n : Int) ∧ (n : Int) < (p.length : Int) := by omega
    have w2 : w64 ((n : Int) - 1) = (n : Int) - 1 := w64_eq (by omega) (by omega)
    simp only [e0, st_ref03_First, sg_ref03_First_14, decide_eq_true_eq, if_pos g0, G_pos g1, Int.toNat_natCast, w2]
    rw [G_pos (by simp only [List.length_cons, List.length_nil]; omega)]
    show iter _ _ = _
    rw [push_loop f kind p hp n _ (by omega) (by simp; omega)]
    have ht : p.take (n + 1) = p.take n ++ [p.getD n 0] := by
      rw [List.take_add_one, List.getElem?_eq_getElem (by omega), List.getD_eq_getElem?_getD, List.getElem?_eq_getElem (by omega)]; rfl
    rw [ht, List.reverse_append, List.append_assoc]
    rfl
theorem pre_succ (f : List tCrack) (n : Nat) (a : Int) : pre f (n + 1) a = a :: (partsS (begB f) (nOf f a) a).flatMap (pre f n) := rfl
def spread (f : List tCrack) (M : Nat) (todo : List Int) : List Int := todo.reverse.flatMap (pre f (M + 1))
theorem le_flatMap {α β : Type} (g : α → List β) : ∀ (l : List α), (∀ x ∈ l, 1 ≤ (g x).length) → l.length ≤ (l.flatMap g).length
  | [], _ => Nat.zero_le _
  | x :: l, h => by
    rw [List.flatMap_cons, List.length_append, List.length_cons]
    have := h x (by simp); have := le_flatMap g l (fun y hy => h y (by simp [hy])); omega
theorem spread_len (f : List tCrack) (M : Nat) (todo : List Int) : todo.length ≤ (spread f M todo).length := by
  have := le_flatMap (pre f (M + 1)) todo.reverse (fun x _ => by rw [pre_succ, List.length_cons]; omega)
  rwa [List.length_reverse] at this
theorem search_eq {f : List tCrack} (h : checkS f = 0) (hf : f.length * 32 ≤ 140737488351232) (M : Nat) (hM : f.length ≤ M + 1) (kind : Int) : ∀ (m : Nat) (todo : List Int), (spread f M todo).length = m → m ≤ 100000 → (∀ t ∈ todo, place f t) → iter st_ref03_First (.l7 f kind todo) = some (foundS f kind (spread f M todo)) := by
  intro m
  induction m using Nat.strongRecOn with
  | ind m ih =>
    intro todo hm hmb hp
    obtain ⟨v1, v2, v3, v4⟩ := valid2 h
    rw [iter_eq']
    have hsl := spread_len f M todo
    rcases List.eq_nil_or_concat todo with rfl | ⟨rest, a, rfl⟩
    · have : ¬ (0 : Int) < ((([] : List Int).length : Nat) : Int) := by simp
      simp only [st_ref03_First, sg_ref03_First_7, this, decide_false, Bool.false_eq_true, if_false]
      rfl
    · rw [List.concat_eq_append] at hm hp hsl ⊢
      have ha : place f a := hp a (by simp)
      have hl : ((rest ++ [a]).length : Int) = (rest.length : Int) + 1 := by simp
      have hlr : rest.length < 100000 := by rw [List.length_append, List.length_singleton] at hsl; omega
      have g0 : (0 : Int) < ((rest ++ [a]).length : Int) := by omega
      have w1 : w64 (((rest ++ [a]).length : Int) - 1) = (rest.length : Int) := by rw [w64_eq (by omega) (by omega)]; omega
      have g1 : 0 ≤ (rest.length : Int) ∧ (rest.length : Int) < ((rest ++ [a]).length : Int) := by omega
      have g2 : 0 ≤ (rest.length : Int) ∧ (rest.length : Int) ≤ ((rest ++ [a]).length : Int) := by omega
      have hga : (rest ++ [a]).getD rest.length 0 = a := by
        rw [List.getD_eq_getElem?_getD, List.getElem?_append_right (Nat.le_refl _), Nat.sub_self]; rfl
      have g3 : 0 ≤ a ∧ a < (f.length : Int) := ha
      have hsp : spread f M (rest ++ [a]) = a :: ((partsS (begB f) (nOf f a) a).flatMap (pre f (M + 1)) ++ spread f M rest) := by
        unfold spread
        rw [List.reverse_append, List.reverse_singleton, List.singleton_append, List.flatMap_cons]
        have : pre f (M + 1) a = a :: (partsS (begB f) (nOf f a) a).flatMap (pre f (M + 1)) := by
          rw [pre_succ]
          congr 1
          refine flatMap_ext fun p hp' => ?_
          obtain ⟨k1, k2⟩ := part_place h ha hp'
          have := ha.2
          exact pre_fuel h M (M + 1) p k1 (by omega) (by omega)
        rw [this, List.cons_append]
      simp only [st_ref03_First, sg_ref03_First_7, decide_eq_true_eq, if_pos g0, w1, G_pos g1, G_pos g2, Int.toNat_natCast, hga, G_pos g3]
      rw [hsp]
      by_cases hk : (f.getD a.toNat dCrack).1 = kind
      · obtain ⟨p1, p2, p3, _⟩ := v4 a ha
        have w2 : w64 (a + 1) = a + 1 := w64_eq (by omega) (by omega)
        have hG3 : 0 ≤ a ∧ a < ((begB f).length : Int) := by omega
        have hG4 : 0 ≤ (begB f).getD a.toNat 0 ∧ (begB f).getD a.toNat 0 ≤ a + 1 ∧ a + 1 ≤ (f.length : Int) := by omega
        have hsub : ref03_sub f a = some (cut f ((begB f).getD a.toNat 0).toNat (a + 1).toNat) := by
          unfold ref03_sub
          rw [refBeg_eq f (by omega)]
          show (G (0 ≤ a ∧ a < ((begB f).length : Int)) _) = _
          rw [G_pos hG3, w2]
          show (G (0 ≤ (begB f).getD a.toNat 0 ∧ (begB f).getD a.toNat 0 ≤ a + 1 ∧ a + 1 ≤ (f.length : Int)) _) = _
          rw [G_pos hG4]
          show (base_CopyFail (cut f ((begB f).getD a.toNat 0).toNat (a + 1).toNat)).bind _ = _
          rw [copy_eq _ (by have := cut_len f ((begB f).getD a.toNat 0).toNat (a + 1).toNat; omega)]; rfl
        rw [if_pos hk, hsub]
        have : isK f kind a = true := by unfold isK; rw [hk]; simp
        simp only [foundS, List.find?_cons, this]; rfl
      · have hpl : (partsS (begB f) (nOf f a) a).length ≤ 1024 := by
          rw [partsS_len]
          obtain ⟨p1, p2, p3, rs, p4, p5, p6, p7⟩ := v4 a ha
          have := ha.2
          omega
        have hK : isK f kind a = false := by unfold isK; exact decide_eq_false hk
        rw [if_neg hk, (parts_of h a ha).2]
        simp only [Option.bind_some]
        show iter _ _ = _
        have w3 : w64 (((partsS (begB f) (nOf f a) a).length : Int) - 1) = ((partsS (begB f) (nOf f a) a).length : Int) - 1 := w64_eq (by omega) (by omega)
        have htk : (rest ++ [a]).take rest.length = rest := List.take_left
        rw [w3, htk, push_loop f kind _ hpl _ rest (Nat.le_refl _) (by omega), List.take_length]
        have hnew : spread f M (rest ++ (partsS (begB f) (nOf f a) a).reverse) = (partsS (begB f) (nOf f a) a).flatMap (pre f (M + 1)) ++ spread f M rest := by
          unfold spread
          rw [List.reverse_append, List.reverse_reverse, List.flatMap_append]
        rw [hsp, List.length_cons] at hm
        rw [ih _ (by rw [← hm]; exact Nat.lt_succ_self _) (rest ++ (partsS (begB f) (nOf f a) a).reverse) (by rw [hnew]) (by omega) (fun t ht => by
          rcases List.mem_append.1 ht with ht | ht
          · exact hp t (by simp [ht])
          · exact (part_place h ha (List.mem_reverse.1 ht)).1), hnew]
        simp only [foundS, List.find?_cons, hK]

/-! has -/
theorem refHas_loop (f : List tCrack) (hf : f.length ≤ 1024) (kind : Int) : ∀ (d i : Nat), i + d = f.length → iter st_ref03_Has (.l7 f kind (i : Int)) = some ((f.drop i).any (fun c => decide (c.1 = kind)), 0)
  | 0, i, hi => by
    rw [iter_eq']
    have hd : f.drop i = [] := List.drop_eq_nil_of_le (by omega)
    have : ¬ (i : Int) < (f.length : Int) := by omega
    simp only [st_ref03_Has, sg_ref03_Has_7, this, decide_false, Bool.false_eq_true, if_false, hd]
    rfl
  | d + 1, i, hi => by
    rw [iter_eq']
    obtain ⟨c, r, hL⟩ := drop_ex (show i < f.length by omega)
    obtain ⟨hc, hr, hlen⟩ := drop_cons (d := dCrack) hL
    have hlt : (i : Int) < (f.length : Int) := by omega
    have hG : 0 ≤ (i : Int) ∧ (i : Int) < (f.length : Int) := ⟨by omega, hlt⟩
    have e6 : w64 ((i : Int) + 1) = ((i + 1 : Nat) : Int) := w64_eq (by omega) (by omega)
    simp only [st_ref03_Has, sg_ref03_Has_7, decide_eq_true_eq, if_pos hlt, G_pos hG, Int.toNat_natCast, hc, e6]
    rw [hL]
    by_cases hk : c.1 = kind
    · rw [if_pos hk]; simp [runL, hk]
    · rw [if_neg hk]
      show iter _ _ = _
      rw [refHas_loop f hf kind d (i + 1) (by omega), hr]
      simp [hk]
def hasS (f : List tCrack) (kind : Int) : Bool × Int := if checkS f = 0 then (if kind < 1 ∨ 11 < kind then (false, 1) else (f.any (fun c => decide (c.1 = kind)), 0)) else (false, checkS f)
theorem sort_zero (kind : Int) : sortS kind = 0 ↔ kind < 1 ∨ 11 < kind := by
  unfold sortS
  by_cases h9 : kind = 9
  · subst h9; simp
  · by_cases h10 : kind = 10
    · subst h10; simp
    · by_cases h8 : kind = 8
      · subst h8; simp
      · rw [if_neg h9, if_neg h10, if_neg h8]
        split <;> omega
theorem has_eq (f : List tCrack) (kind : Int) : fail_Has f kind = some (hasS f kind) := by
  unfold fail_Has hasS
  rw [check_eq, sort_eq]
  simp only [Option.bind_some]
  by_cases h : checkS f = 0
  · simp only [h, decide_true, Bool.not_true, Bool.false_eq_true, if_false, if_true]
    by_cases hk : kind < 1 ∨ 11 < kind
    · rw [if_pos hk, if_pos (by simpa using (sort_zero kind).2 hk)]
    · rw [if_neg hk, if_neg (by simpa using fun e => hk ((sort_zero kind).1 e))]
  · simp only [h, decide_false, Bool.not_false, if_true, if_false]
theorem refHas_eq (f : List tCrack) (kind : Int) : ref03_Has f kind = some (hasS f kind) := by
  unfold ref03_Has en_ref03_Has hasS
  rw [refCheck_eq]
  simp only [Option.bind_some]
  by_cases h : checkS f = 0
  · simp only [h, decide_true, Bool.not_true, Bool.false_eq_true, if_false, if_true]
    by_cases hk : kind < 1 ∨ 11 < kind
    · rw [if_pos hk, if_pos (by simpa using hk)]; rfl
    · rw [if_neg hk, if_neg (by simpa using hk)]
      show iter _ _ = _
      have := refHas_loop f (okF_check h).2 kind f.length 0 (by omega)
      simpa using this
  · simp only [h, decide_false, Bool.not_false, if_true, if_false]; rfl

/-! first -/
def firstS (f : List tCrack) (kind : Int) : List tCrack × Int := if checkS f = 0 then (if kind < 1 ∨ 11 < kind then ([], 1) else foundS f kind (pre f (1023 + 1) ((f.length : Int) - 1))) else ([], checkS f)
theorem first_eq (f : List tCrack) (kind : Int) : fail_First f kind = some (firstS f kind) := by
  unfold fail_First en_fail_First firstS
  rw [check_eq, sort_eq]
  simp only [Option.bind_some]
  by_cases h : checkS f = 0
  · simp only [h, decide_true, Bool.not_true, Bool.false_eq_true, if_false, if_true]
    by_cases hk : kind < 1 ∨ 11 < kind
    · rw [if_pos hk, if_pos (by simpa using (sort_zero kind).2 hk)]; rfl
    · rw [if_neg hk, if_neg (by simpa using fun e => hk ((sort_zero kind).1 e))]
      obtain ⟨v1, v2, v3, v4⟩ := valid2 h
      have hpl : place f ((f.length : Int) - 1) := ⟨by omega, by omega⟩
      have w1 : w64 ((f.length : Int) - 1) = (f.length : Int) - 1 := w64_eq (by omega) (by omega)
      have hsh := pre_short h 4096 _ hpl (by omega)
      have hah : fail_ahead_o f (begB f) ((f.length : Int) - 1) [] = some (pre f (1023 + 1) ((f.length : Int) - 1)) := by
        unfold fail_ahead_o
        rw [ahead_eq h 4096 _ [] hpl (by omega) (by simp only [List.length_nil]; omega), List.nil_append, pre_fuel h 4096 (1023 + 1) _ hpl (by omega) (by omega)]
      rw [failBeg_eq f (by omega)]
      simp only [Option.bind_some]
      rw [w1]
      show runL st_fail_First ((fail_ahead_o f (begB f) ((f.length : Int) - 1) []).bind _) = _
      rw [hah]
      simp only [Option.bind_some]
      show iter _ _ = _
      have hl := pre_place h (1023 + 1) _ hpl
      have hsh2 := pre_short h (1023 + 1) _ hpl (by omega)
      have := first_loop h kind (pre f (1023 + 1) ((f.length : Int) - 1)) hl (by omega) (pre f (1023 + 1) ((f.length : Int) - 1)).length 0 (by omega)
      rw [List.drop_zero] at this
      exact this
  · simp only [h, decide_false, Bool.not_false, if_true, if_false]; rfl
theorem refFirst_eq (f : List tCrack) (kind : Int) (hf : f.length * 32 ≤ 140737488351232) : ref03_First f kind = some (firstS f kind) := by
  unfold ref03_First en_ref03_First firstS
  rw [refHas_eq]
  simp only [Option.bind_some]
  unfold hasS
  by_cases h : checkS f = 0
  · simp only [h, if_true]
    by_cases hk : kind < 1 ∨ 11 < kind
    · simp only [hk, if_true]; rfl
    · simp only [hk, if_false, decide_true, Bool.not_true, Bool.false_eq_true]
      obtain ⟨v1, v2, v3, v4⟩ := valid2 h
      have hpl : place f ((f.length : Int) - 1) := ⟨by omega, by omega⟩
      have w1 : w64 ((f.length : Int) - 1) = (f.length : Int) - 1 := w64_eq (by omega) (by omega)
      cases hany : f.any (fun c => decide (c.1 = kind)) with
      | false =>
        simp only [Bool.not_false, if_true]
        have hno : (pre f (1023 + 1) ((f.length : Int) - 1)).find? (isK f kind) = none := by
          rw [List.find?_eq_none]
          intro a ha
          have hp := pre_place h (1023 + 1) _ hpl a ha
          have hlt : a.toNat < f.length := by have := hp.1; have := hp.2; omega
          have hmem : f.getD a.toNat dCrack ∈ f := by
            rw [List.getD_eq_getElem?_getD, List.getElem?_eq_getElem hlt]; exact List.getElem_mem hlt
          have := List.any_eq_false.1 hany _ hmem
          unfold isK; exact this
        unfold foundS
        rw [hno]; rfl
      | true =>
        simp only [Bool.not_true, Bool.false_eq_true, if_false]
        rw [w1]
        show iter _ _ = _
        have hsp : spread f 1023 [((f.length : Int) - 1)] = pre f (1023 + 1) ((f.length : Int) - 1) := by
          unfold spread; simp
        have hsh2 := pre_short h (1023 + 1) _ hpl (by omega)
        have := search_eq h hf 1023 (by omega) kind _ [((f.length : Int) - 1)] rfl (by rw [hsp]; omega) (fun t ht => by rw [List.mem_singleton.1 ht]; exact hpl)
        rw [hsp] at this
        exact this
  · simp only [h, if_false, decide_false, Bool.not_false, if_true]; rfl
theorem firstS_len (f : List tCrack) (kind : Int) : (firstS f kind).1.length ≤ f.length := by
  unfold firstS
  split
  · split
    · simp
    · unfold foundS
      split
      · exact cut_len _ _ _
      · simp
  · simp

/-! is -/
theorem equal_loop (a b : List tCrack) (ha : a.length < 4611686018427387904) (hab : a.length = b.length) : ∀ (d i : Nat), i + d = a.length → iter st_slices_Equal (.l4 a b (a.length : Int) (i : Int)) = some (decide (a.drop i = b.drop i))
  | 0, i, hi => by
    rw [iter_eq']
    have hd : a.drop i = [] := List.drop_eq_nil_of_le (by omega)
    have hd2 : b.drop i = [] := List.drop_eq_nil_of_le (by omega)
    have : ¬ (i : Int) < (a.length : Int) := by omega
    simp only [st_slices_Equal, sg_slices_Equal_4, this, decide_false, Bool.false_eq_true, if_false, hd, hd2]; rfl
  | d + 1, i, hi => by
    rw [iter_eq']
    obtain ⟨c, r, hL⟩ := drop_ex (show i < a.length by omega)
    obtain ⟨hc, hr, hlen⟩ := drop_cons (d := dCrack) hL
    obtain ⟨c2, r2, hL2⟩ := drop_ex (show i < b.length by omega)
    obtain ⟨hc2, hr2, hlen2⟩ := drop_cons (d := dCrack) hL2
    have hlt : (i : Int) < (a.length : Int) := by omega
    have hG : 0 ≤ (i : Int) ∧ (i : Int) < (a.length : Int) := ⟨by omega, hlt⟩
    have hG2 : 0 ≤ (i : Int) ∧ (i : Int) < (b.length : Int) := ⟨by omega, by omega⟩
    have e6 : w64 ((i : Int) + 1) = ((i + 1 : Nat) : Int) := w64_eq (by omega) (by omega)
    simp only [st_slices_Equal, sg_slices_Equal_4, decide_eq_true_eq, if_pos hlt, G_pos hG, G_pos hG2, Int.toNat_natCast, hc, hc2, e6]
    have he := eqR_iff tyCrack c c2 rfl rfl
    cases hq : eqR tyCrack c c2 with
    | false =>
      have hne : ¬ c = c2 := fun e => by rw [he.2 e] at hq; cases hq
      rw [hL, hL2]
      simp [runL, hne]
    | true =>
      have heq : c = c2 := he.1 hq
      simp only [Bool.not_true, Bool.false_eq_true, if_false]
      show iter _ _ = _
      rw [equal_loop a b ha hab d (i + 1) (by omega), hL, hL2, hr, hr2, heq]
      simp
theorem equal_eq (a b : List tCrack) (ha : a.length < 4611686018427387904) : slices_Equal a b = some (decide (a = b)) := by
  unfold slices_Equal en_slices_Equal
  by_cases h : a.length = b.length
  · have h' : (a.length : Int) = (b.length : Int) := by omega
    simp only [h', decide_true, Bool.not_true, Bool.false_eq_true, if_false]
    show iter _ _ = _
    have := equal_loop a b ha h a.length 0 (by omega)
    rw [h'] at this
    simpa using this
  · have h' : ¬ (a.length : Int) = (b.length : Int) := by omega
    have hne : ¬ a = b := fun e => h (by rw [e])
    simp only [h', decide_false, Bool.not_false, if_true, hne]; rfl
def isLst (f g : List tCrack) : Nat → Nat → Bool
  | _, 0 => false
  | i, d + 1 => decide (cut f ((begB f).getD i 0).toNat (i + 1) = g) || isLst f g (i + 1) d
theorem is_loop {f : List tCrack} (h : checkS f = 0) (g : List tCrack) : ∀ (d i : Nat), i + d = f.length →
    iter st_fail_Is (.l9 f g (begB f) (f.length : Int) (i : Int)) = some (isLst f g i d, 0) ∧ iter st_ref03_Is (.l8 f g (begB f) (i : Int)) = some (isLst f g i d, 0)
  | 0, i, hi => by
    have : ¬ (i : Int) < (f.length : Int) := by omega
    constructor
    · rw [iter_eq']
      simp only [st_fail_Is, sg_fail_Is_9, this, decide_false, Bool.false_eq_true, if_false]; rfl
    · rw [iter_eq']
      simp only [st_ref03_Is, sg_ref03_Is_8, this, decide_false, Bool.false_eq_true, if_false]; rfl
  | d + 1, i, hi => by
    obtain ⟨v1, v2, v3, v4⟩ := valid2 h
    obtain ⟨q1, q2⟩ := is_loop h g d (i + 1) (by omega)
    have hpl : place f (i : Int) := ⟨by omega, by omega⟩
    obtain ⟨p1, p2, p3, _⟩ := v4 _ hpl
    rw [Int.toNat_natCast] at p2 p3
    have hlt : (i : Int) < (f.length : Int) := by omega
    have e6 : w64 ((i : Int) + 1) = ((i + 1 : Nat) : Int) := w64_eq (by omega) (by omega)
    have hG : 0 ≤ (i : Int) ∧ (i : Int) < ((begB f).length : Int) := by omega
    have hG2 : 0 ≤ (begB f).getD i 0 ∧ (begB f).getD i 0 ≤ ((i + 1 : Nat) : Int) ∧ ((i + 1 : Nat) : Int) ≤ (f.length : Int) := by omega
    have hcl := cut_len f ((begB f).getD i 0).toNat (i + 1)
    have hs : isLst f g i (d + 1) = (decide (cut f ((begB f).getD i 0).toNat (i + 1) = g) || isLst f g (i + 1) d) := rfl
    constructor
    · rw [iter_eq']
      simp only [st_fail_Is, sg_fail_Is_9, decide_eq_true_eq, if_pos hlt, G_pos hG, Int.toNat_natCast, e6, G_pos hG2, equal_eq _ g (show (cut f ((begB f).getD i 0).toNat (i + 1)).length < 4611686018427387904 by omega), Option.bind_some]
      by_cases hq : cut f ((begB f).getD i 0).toNat (i + 1) = g
      · rw [if_pos hq, hs, decide_eq_true hq]; rfl
      · rw [if_neg hq]
        show iter _ _ = _
        rw [q1, hs, decide_eq_false hq]; rfl
    · rw [iter_eq']
      simp only [st_ref03_Is, sg_ref03_Is_8, decide_eq_true_eq, if_pos hlt, G_pos hG, Int.toNat_natCast, e6, G_pos hG2, same_eq _ g (show (cut f ((begB f).getD i 0).toNat (i + 1)).length < 4611686018427387904 by omega), Option.bind_some]
      by_cases hq : cut f ((begB f).getD i 0).toNat (i + 1) = g
      · rw [if_pos hq, hs, decide_eq_true hq]; rfl
      · rw [if_neg hq]
        show iter _ _ = _
        rw [q2, hs, decide_eq_false hq]; rfl
def isS (f g : List tCrack) : Bool × Int := if checkS f = 0 then (if checkS g = 0 then (isLst f g 0 f.length, 0) else (false, checkS g)) else (false, checkS f)
theorem is_eq (f g : List tCrack) : fail_Is f g = some (isS f g) := by
  unfold fail_Is en_fail_Is isS
  rw [check_eq, check_eq]
  simp only [Option.bind_some]
  by_cases h : checkS f = 0
  · simp only [h, decide_true, Bool.not_true, Bool.false_eq_true, if_false, if_true]
    by_cases hg : checkS g = 0
    · simp only [hg, decide_true, Bool.not_true, Bool.false_eq_true, if_false, if_true]
      obtain ⟨v1, v2, v3, v4⟩ := valid2 h
      rw [failBeg_eq f (by omega)]
      simp only [Option.bind_some]
      show iter st_fail_Is (.l9 f g (begB f) ((begB f).length : Int) ((0 : Nat) : Int)) = _
      rw [v1]
      exact (is_loop h g f.length 0 (by omega)).1
    · simp only [hg, decide_false, Bool.not_false, if_true, if_false]; rfl
  · simp only [h, decide_false, Bool.not_false, if_true, if_false]; rfl
theorem refIs_eq (f g : List tCrack) : ref03_Is f g = some (isS f g) := by
  unfold ref03_Is en_ref03_Is isS
  rw [refCheck_eq, refCheck_eq]
  simp only [Option.bind_some]
  by_cases h : checkS f = 0
  · simp only [h, decide_true, if_true]
    show iter _ _ = _
    rw [iter_eq']
    by_cases hg : checkS g = 0
    · obtain ⟨v1, v2, v3, v4⟩ := valid2 h
      simp only [st_ref03_Is, sg_ref03_Is_4, hg, decide_true, Bool.not_true, Bool.false_eq_true, if_false, if_true]
      rw [refBeg_eq f (by omega)]
      simp only [Option.bind_some]
      show iter st_ref03_Is (.l8 f g (begB f) ((0 : Nat) : Int)) = _
      exact (is_loop h g f.length 0 (by omega)).2
    · simp only [st_ref03_Is, sg_ref03_Is_4, hg, decide_false, Bool.not_false, if_true, if_false]; rfl
  · simp only [h, decide_false, Bool.false_eq_true, if_false]
    show iter _ _ = _
    rw [iter_eq']
    simp only [st_ref03_Is, sg_ref03_Is_4, h, decide_false, Bool.not_false, if_true]; rfl

theorem FailFinds_pure (f g : List tCrack) (kind : Int) (hf : f.length * 32 ≤ 140737488351232) (hg : g.length * 32 ≤ 140737488351232) : law03_FailFinds f g kind = some true := by
  unfold law03_FailFinds
  have hl := firstS_len f kind
  simp only [copy_eq f hf, copy_eq g hg, is_eq, refIs_eq, has_eq, refHas_eq, first_eq, refFirst_eq f kind hf, Option.bind_some, beq_self_eq_true, decide_true, Bool.not_true, Bool.not_false, Bool.or_self, Bool.false_eq_true, if_false, if_true,
    same_eq (firstS f kind).1 _ (show (firstS f kind).1.length < 4611686018427387904 by omega), same_eq f f (by omega), same_eq g g (by omega), Bool.and_self]
end Go.Eng
