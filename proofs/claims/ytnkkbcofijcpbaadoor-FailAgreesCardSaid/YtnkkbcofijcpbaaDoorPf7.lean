/- A part of the proof: Pf7. -/
import Derived.Test.YtnkkbcofijcpbaaDoorPf6
namespace Go.Eng
set_option linter.unusedVariables false
set_option linter.unusedSimpArgs false
theorem begF_tile2 : ∀ (r : List tCrack) (i : Nat) (fr st : List Int), fr.length = i → tileR fr st.reverse i → st.length ≤ i → (begF r i fr st).2 = true →
    ∃ ext, (begF r i fr st).1 = fr ++ ext ∧ ext.length = r.length ∧ ∀ j c, r[j]? = some c → 0 ≤ c.2.1 ∧ 0 ≤ (begF r i fr st).1.getD (i + j) 0 ∧ (begF r i fr st).1.getD (i + j) 0 ≤ ((i + j : Nat) : Int) ∧ ∃ rs : List Int, c.2.1.toNat ≤ rs.length ∧ rs.length ≤ i + j ∧ tileR (begF r i fr st).1 rs (i + j) ∧
      (begF r i fr st).1.getD (i + j) 0 = if c.2.1.toNat = 0 then ((i + j : Nat) : Int) else rs.getD (c.2.1.toNat - 1) 0
  | [], i, fr, st, hf, ht, hl, h => ⟨[], by simp [begF], rfl, fun j c hj => by simp at hj⟩
  | c :: r, i, fr, st, hf, ht, hl, h => by
    simp only [begF] at h ⊢
    cases hs : stepB i c st with
    | none => rw [hs] at h; cases h
    | some p =>
      obtain ⟨b, st'⟩ := p
      rw [hs] at h
      simp only at h ⊢
      have hlen := stepB_len hs
      have hget : ∀ x : Int, (fr ++ [x]).getD i 0 = x := fun x => by
        rw [List.getD_eq_getElem?_getD, List.getElem?_append_right (by omega), hf, Nat.sub_self]; rfl
      have key : tileR (fr ++ [b]) st'.reverse (i + 1) ∧ 0 ≤ c.2.1 ∧ c.2.1.toNat ≤ st.reverse.length ∧ 0 ≤ b ∧ b ≤ (i : Int) ∧ b = if c.2.1.toNat = 0 then (i : Int) else st.reverse.getD (c.2.1.toNat - 1) 0 := by
        unfold stepB at hs
        split at hs
        · rename_i hc
          have hp := crackS_pos hc.1
          split at hs
          · rename_i hpos
            simp only [Option.some.injEq, Prod.mk.injEq] at hs
            obtain ⟨rfl, rfl⟩ := hs
            obtain ⟨k1, k2, k3⟩ := tileR_drop fr st.reverse i (c.2.1.toNat - 1) ht (by rw [List.length_reverse]; omega)
            rw [List.reverse_append, rev_take _ _ (by omega), rev_get st c.2.1.toNat (by omega) (by omega)]
            refine ⟨⟨by omega, by rw [List.length_append, hf]; simp, by rw [Nat.add_sub_cancel]; exact hget _, k2, by omega, tileR_ext _ _ _ _ ?_⟩, hp, by rw [List.length_reverse]; omega, k2, by omega, by rw [if_neg (by omega)]⟩
            rw [show c.2.1.toNat - 1 + 1 = c.2.1.toNat by omega] at k1
            exact k1
          · simp only [Option.some.injEq, Prod.mk.injEq] at hs
            obtain ⟨rfl, rfl⟩ := hs
            rw [List.reverse_append]
            refine ⟨⟨by omega, by rw [List.length_append, hf]; simp, by rw [Nat.add_sub_cancel]; exact hget _, by omega, by omega, tileR_ext _ _ _ _ ?_⟩, hp, by rw [List.length_reverse]; omega, by omega, by omega, by rw [if_pos (by omega)]⟩
            rw [Int.toNat_natCast]; exact ht
        · cases hs
      obtain ⟨q1, q2, q3, q4, q5, q6⟩ := key
      obtain ⟨ext, e1, e2, e3⟩ := begF_tile2 r (i + 1) (fr ++ [b]) st' (by rw [List.length_append, hf]; rfl) q1 (by omega) h
      refine ⟨b :: ext, by rw [e1]; simp, by simp [e2], fun j d hj => ?_⟩
      cases j with
      | zero =>
        simp at hj; subst hj
        have hb : (begF r (i + 1) (fr ++ [b]) st').1.getD (i + 0) 0 = b := by
          rw [e1, Nat.add_zero, List.getD_eq_getElem?_getD, List.getElem?_append_left (by rw [List.length_append, hf]; simp), ← List.getD_eq_getElem?_getD]
          exact hget b
        rw [hb]
        refine ⟨q2, q4, by simpa using q5, st.reverse, q3, by rw [List.length_reverse]; omega, ?_, by simpa using q6⟩
        rw [e1, List.append_assoc]
        exact tileR_ext _ _ _ _ ht
      | succ j =>
        obtain ⟨p1, p2, p3, rs, p4, p5, p6, p7⟩ := e3 j d (by simpa using hj)
        rw [show i + (j + 1) = i + 1 + j by omega]
        exact ⟨p1, p2, p3, rs, p4, p5, p6, p7⟩
def begB (f : List tCrack) : List Int := (begF f 0 [] []).1
def nOf (f : List tCrack) (a : Int) : Nat := (f.getD a.toNat dCrack).2.1.toNat
def partsS (fr : List Int) : Nat → Int → List Int
  | 0, _ => []
  | n + 1, k => partsS fr n (fr.getD (k - 1).toNat 0) ++ [k - 1]
def place (f : List tCrack) (a : Int) : Prop := 0 ≤ a ∧ a < (f.length : Int)
theorem valid2 {f : List tCrack} (h : checkS f = 0) : (begB f).length = f.length ∧ f.length ≤ 1024 ∧ 0 < f.length ∧ ∀ a, place f a → 0 ≤ (f.getD a.toNat dCrack).2.1 ∧ 0 ≤ (begB f).getD a.toNat 0 ∧ (begB f).getD a.toNat 0 ≤ a ∧ ∃ rs : List Int, nOf f a ≤ rs.length ∧ rs.length ≤ a.toNat ∧ tileR (begB f) rs a.toNat ∧
    (begB f).getD a.toNat 0 = if nOf f a = 0 then a else rs.getD (nOf f a - 1) 0 := by
  obtain ⟨v1, v2, v3, _⟩ := valid_at h
  refine ⟨v1, v2, v3, fun a ha => ?_⟩
  obtain ⟨k, rfl⟩ : ∃ k : Nat, a = k := ⟨a.toNat, by have := ha.1; omega⟩
  have hk : k < f.length := by have := ha.2; omega
  unfold checkS at h
  split at h
  · cases h
  · split at h
    · rename_i h1 h2
      obtain ⟨ext, e1, e2, e3⟩ := begF_tile2 f 0 [] [] rfl trivial (by simp) h2
      obtain ⟨c, hc⟩ : ∃ c, f[k]? = some c := ⟨f[k], List.getElem?_eq_getElem hk⟩
      have hcd : f.getD k dCrack = c := by rw [List.getD_eq_getElem?_getD, hc]; rfl
      obtain ⟨p1, p2, p3, rs, p4, p5, p6, p7⟩ := e3 k c hc
      rw [Nat.zero_add] at p2 p3 p5 p6 p7
      unfold nOf begB
      rw [Int.toNat_natCast, hcd]
      exact ⟨p1, p2, p3, rs, p4, p5, p6, p7⟩
    · cases h
theorem partsS_mem (fr : List Int) : ∀ (n k : Nat) (rs : List Int), n ≤ rs.length → tileR fr rs k → ∀ p ∈ partsS fr n k, 0 ≤ p ∧ p < (k : Int)
  | 0, _, _, _, _, p, hp => by simp [partsS] at hp
  | n + 1, k, [], hn, _, p, hp => by simp at hn
  | n + 1, k, b :: rs, hn, ht, p, hp => by
    obtain ⟨h1, h2, h3, h4, h5, h6⟩ := ht
    simp only [partsS, List.mem_append, List.mem_singleton] at hp
    have e2 : ((k : Int) - 1).toNat = k - 1 := by omega
    rcases hp with hp | rfl
    · rw [e2, h3] at hp
      have eb : ((b.toNat : Nat) : Int) = b := by omega
      rw [← eb] at hp
      have := partsS_mem fr n b.toNat rs (by simpa using hn) h6 p hp
      omega
    · omega
def szI (fr : List Int) (p : Int) : Int := p - fr.getD p.toNat 0 + 1
theorem partsS_sum (fr : List Int) : ∀ (n k : Nat) (rs : List Int), n ≤ rs.length → tileR fr rs k → ((partsS fr n k).map (szI fr)).sum = (k : Int) - (if n = 0 then (k : Int) else rs.getD (n - 1) 0)
  | 0, k, _, _, _ => by simp [partsS]
  | n + 1, k, [], hn, _ => by simp at hn
  | n + 1, k, b :: rs, hn, ht => by
    obtain ⟨h1, h2, h3, h4, h5, h6⟩ := ht
    have e2 : ((k : Int) - 1).toNat = k - 1 := by omega
    have eb : ((b.toNat : Nat) : Int) = b := by omega
    have ih := partsS_sum fr n b.toNat rs (by simpa using hn) h6
    rw [eb] at ih
    simp only [partsS, e2, h3, List.map_append, List.sum_append, List.map_cons, List.map_nil, List.sum_cons, List.sum_nil]
    rw [ih]
    simp only [szI, e2, h3]
    rw [if_neg (show ¬ (n + 1 = 0) by omega), Nat.add_sub_cancel]
    cases n with
    | zero => simp only [List.getD_cons_zero, if_true]; omega
    | succ n => rw [if_neg (show ¬ (n + 1 = 0) by omega)]; simp only [Nat.add_sub_cancel, List.getD_cons_succ]; omega
theorem partsS_len (fr : List Int) : ∀ (n : Nat) (k : Int), (partsS fr n k).length = n
  | 0, _ => rfl
  | n + 1, k => by simp only [partsS, List.length_append, partsS_len fr n, List.length_singleton]
def pre (f : List tCrack) : Nat → Int → List Int
  | 0, _ => []
  | n + 1, a => a :: (partsS (begB f) (nOf f a) a).flatMap (pre f n)
theorem part_place {f : List tCrack} (h : checkS f = 0) {a p : Int} (ha : place f a) (hp : p ∈ partsS (begB f) (nOf f a) a) : place f p ∧ p < a := by
  obtain ⟨v1, v2, v3, v4⟩ := valid2 h
  obtain ⟨p1, p2, p3, rs, p4, p5, p6, p7⟩ := v4 a ha
  have ea : ((a.toNat : Nat) : Int) = a := by have := ha.1; omega
  rw [← ea] at hp
  have hp' : p ∈ partsS (begB f) (nOf f a) (a.toNat : Int) := by rw [ea] at hp ⊢; exact hp
  have := partsS_mem (begB f) (nOf f a) a.toNat rs p4 p6 p hp'
  refine ⟨⟨this.1, ?_⟩, by omega⟩
  have := ha.2; omega
theorem pre_place {f : List tCrack} (h : checkS f = 0) : ∀ (n : Nat) (a : Int), place f a → ∀ p ∈ pre f n a, place f p
  | 0, _, _, p, hp => by simp [pre] at hp
  | n + 1, a, ha, p, hp => by
    simp only [pre, List.mem_cons, List.mem_flatMap] at hp
    rcases hp with rfl | ⟨q, hq, hp⟩
    · exact ha
    · exact pre_place h n q (part_place h ha hq).1 p hp
theorem flatMap_ext {α β : Type} {g g' : α → List β} : ∀ {l : List α}, (∀ x ∈ l, g x = g' x) → l.flatMap g = l.flatMap g'
  | [], _ => rfl
  | x :: l, h => by rw [List.flatMap_cons, List.flatMap_cons, h x (by simp), flatMap_ext (fun y hy => h y (by simp [hy]))]
theorem pre_fuel {f : List tCrack} (h : checkS f = 0) : ∀ (n m : Nat) (a : Int), place f a → a < (n : Int) → a < (m : Int) → pre f n a = pre f m a
  | 0, m, a, ha, hn, hm => by have := ha.1; omega
  | n + 1, 0, a, ha, hn, hm => by have := ha.1; omega
  | n + 1, m + 1, a, ha, hn, hm => by
    simp only [pre]
    congr 1
    refine flatMap_ext fun p hp => ?_
    obtain ⟨k1, k2⟩ := part_place h ha hp
    exact pre_fuel h n m p k1 (by omega) (by omega)
theorem flatMap_len {α β : Type} (g : α → List β) (s : α → Int) : ∀ (l : List α), (∀ x ∈ l, ((g x).length : Int) = s x) → ((l.flatMap g).length : Int) = (l.map s).sum
  | [], _ => rfl
  | x :: l, h => by
    rw [List.flatMap_cons, List.length_append, List.map_cons, List.sum_cons, ← flatMap_len g s l (fun y hy => h y (by simp [hy])), ← h x (by simp)]
    omega
theorem pre_len {f : List tCrack} (h : checkS f = 0) : ∀ (n : Nat) (a : Int), place f a → a < (n : Int) → ((pre f n a).length : Int) = szI (begB f) a
  | 0, a, ha, hn => by have := ha.1; omega
  | n + 1, a, ha, hn => by
    obtain ⟨v1, v2, v3, v4⟩ := valid2 h
    obtain ⟨p1, p2, p3, rs, p4, p5, p6, p7⟩ := v4 a ha
    have ea : ((a.toNat : Nat) : Int) = a := by have := ha.1; omega
    have hs := partsS_sum (begB f) (nOf f a) a.toNat rs p4 p6
    rw [ea, ← p7] at hs
    have hl := flatMap_len (pre f n) (szI (begB f)) (partsS (begB f) (nOf f a) a) (fun p hp => by
      obtain ⟨k1, k2⟩ := part_place h ha hp
      exact pre_len h n p k1 (by omega))
    simp only [pre, List.length_cons]
    rw [hs] at hl
    unfold szI
    omega
theorem pre_short {f : List tCrack} (h : checkS f = 0) (n : Nat) (a : Int) (ha : place f a) (hn : a < (n : Int)) : (pre f n a).length ≤ 1024 := by
  have := pre_len h n a ha hn
  obtain ⟨v1, v2, v3, v4⟩ := valid2 h
  obtain ⟨p1, p2, p3, _⟩ := v4 a ha
  unfold szI at this
  have := ha.2
  omega
theorem ahead_loop {f : List tCrack} {ps : List Int} {n : Nat} (hps : ps.length ≤ 1024) (hrec : ∀ p ∈ ps, ∀ out : List Int, out.length + (pre f n p).length ≤ 100000 → fail_ahead_o_n n f (begB f) p out = some (out ++ pre f n p)) : ∀ (d i : Nat) (out : List Int), i + d = ps.length → out.length + ((ps.drop i).flatMap (pre f n)).length ≤ 100000 →
    iter (st_fail_ahead_o (fail_ahead_o_n n)) (.l3 f (begB f) out ps (ps.length : Int) (i : Int)) = some (out ++ (ps.drop i).flatMap (pre f n))
  | 0, i, out, hi, ho => by
    rw [iter_eq']
    have hd : ps.drop i = [] := List.drop_eq_nil_of_le (by omega)
    have : ¬ (i : Int) < (ps.length : Int) := by omega
    simp only [st_fail_ahead_o, sg_fail_ahead_o_3, this, decide_false, Bool.false_eq_true, if_false, hd]
    simp [runL]
  | d + 1, i, out, hi, ho => by
    rw [iter_eq']
    obtain ⟨c, r, hL⟩ := drop_ex (show i < ps.length by omega)
    obtain ⟨hc, hr, hlen⟩ := drop_cons (d := (0 : Int)) hL
    have hlt : (i : Int) < (ps.length : Int) := by omega
    have hG : 0 ≤ (i : Int) ∧ (i : Int) < (ps.length : Int) := ⟨by omega, hlt⟩
    have e6 : w64 ((i : Int) + 1) = ((i + 1 : Nat) : Int) := w64_eq (by omega) (by omega)
    have hm : c ∈ ps := by
      have : c ∈ ps.drop i := by rw [hL]; simp
      exact List.mem_of_mem_drop this
    rw [hL, List.flatMap_cons, List.length_append] at ho
    simp only [st_fail_ahead_o, sg_fail_ahead_o_3, decide_eq_true_eq, if_pos hlt, G_pos hG, Int.toNat_natCast, hc, e6, hrec c hm out (by omega), Option.bind_some]
    show iter _ _ = _
    rw [ahead_loop hps hrec d (i + 1) _ (by omega) (by rw [hr, List.length_append]; omega), hL, hr]
    simp
def isK (f : List tCrack) (kind : Int) (a : Int) : Bool := decide ((f.getD a.toNat dCrack).1 = kind)
def foundS (f : List tCrack) (kind : Int) (l : List Int) : List tCrack × Int := match l.find? (isK f kind) with
  | some a => (cut f ((begB f).getD a.toNat 0).toNat (a + 1).toNat, 0)
  | none => ([], 4)
theorem cut_len (f : List tCrack) (a b : Nat) : (cut f a b).length ≤ f.length := by
  unfold cut; rw [List.length_drop, List.length_take]; omega
theorem first_loop {f : List tCrack} (h : checkS f = 0) (kind : Int) (l : List Int) (hl : ∀ p ∈ l, place f p) (hll : l.length ≤ 100000) : ∀ (d i : Nat), i + d = l.length →
    iter st_fail_First (.l8 f kind (begB f) l (l.length : Int) (i : Int)) = some (foundS f kind (l.drop i))
  | 0, i, hi => by
    rw [iter_eq']
    have hd : l.drop i = [] := List.drop_eq_nil_of_le (by omega)
    have : ¬ (i : Int) < (l.length : Int) := by omega
    simp only [st_fail_First, sg_fail_First_8, this, decide_false, Bool.false_eq_true, if_false, hd]
    rfl
  | d + 1, i, hi => by
    rw [iter_eq']
    obtain ⟨v1, v2, v3, v4⟩ := valid2 h
    obtain ⟨c, r, hL⟩ := drop_ex (show i < l.length by omega)
    obtain ⟨hc, hr, hlen⟩ := drop_cons (d := (0 : Int)) hL
    have hlt : (i : Int) < (l.length : Int) := by omega
    have hG : 0 ≤ (i : Int) ∧ (i : Int) < (l.length : Int) := ⟨by omega, hlt⟩
    have e6 : w64 ((i : Int) + 1) = ((i + 1 : Nat) : Int) := w64_eq (by omega) (by omega)
    have hm : c ∈ l := by
      have : c ∈ l.drop i := by rw [hL]; simp
      exact List.mem_of_mem_drop this
    have hp := hl c hm
    have hG2 : 0 ≤ c ∧ c < (f.length : Int) := hp
    obtain ⟨p1, p2, p3, _⟩ := v4 c hp
    have hG3 : 0 ≤ c ∧ c < ((begB f).length : Int) := by have := hp.1; have := hp.2; omega
    have w1 : w64 (c + 1) = c + 1 := w64_eq (by omega) (by omega)
    have hG4 : 0 ≤ (begB f).getD c.toNat 0 ∧ (begB f).getD c.toNat 0 ≤ c + 1 ∧ c + 1 ≤ (f.length : Int) := by have := hp.2; omega
    simp only [st_fail_First, sg_fail_First_8, decide_eq_true_eq, if_pos hlt, G_pos hG, Int.toNat_natCast, hc, e6, G_pos hG2]
    by_cases hk : (f.getD c.toNat dCrack).1 = kind
    · have hcl : slices_Clone (cut f ((begB f).getD c.toNat 0).toNat (c + 1).toNat) = some (cut f ((begB f).getD c.toNat 0).toNat (c + 1).toNat) := by
        unfold slices_Clone
        rw [G_pos]
        have := cut_len f ((begB f).getD c.toNat 0).toNat (c + 1).toNat
        simp only [List.length_nil]; omega
      rw [if_pos hk, G_pos hG3, w1, G_pos hG4, hcl]
      simp only [Option.bind_some]
      have : isK f kind c = true := by unfold isK; rw [hk]; simp
      rw [hL]
      simp only [foundS, List.find?_cons, this]; rfl
    · rw [if_neg hk]
      show iter _ _ = _
      have : isK f kind c = false := by unfold isK; exact decide_eq_false hk
      rw [first_loop h kind l hl hll d (i + 1) (by omega), hL, hr]
      simp only [foundS, List.find?_cons, this]
def hasS (f : List tCrack) (kind : Int) : Bool × Int := if checkS f = 0 then (if kind < 1 ∨ 11 < kind then (false, 1) else (f.any (fun c => decide (c.1 = kind)), 0)) else (false, checkS f)
theorem sort_zero (kind : Int) : sortS kind = 0 ↔ kind < 1 ∨ 11 < kind := by
  unfold sortS
  by_cases h9 : kind = 9
  · subst h9; simp
  · by_cases h10 : kind = 10
    · subst h10; simp
    · by_cases h8 : kind = 8
      · subst h8; simp
      · rw [if_neg h9, if_neg h10, if_neg h8]
        split <;> omega
theorem has_eq (f : List tCrack) (kind : Int) : fail_Has f kind = some (hasS f kind) := by
  unfold fail_Has hasS
  rw [check_eq, sort_eq]
  simp only [Option.bind_some]
  by_cases h : checkS f = 0
  · simp only [h, decide_true, Bool.not_true, Bool.false_eq_true, if_false, if_true]
    by_cases hk : kind < 1 ∨ 11 < kind
    · rw [if_pos hk, if_pos (by simpa using (sort_zero kind).2 hk)]
    · rw [if_neg hk, if_neg (by simpa using fun e => hk ((sort_zero kind).1 e))]
  · simp only [h, decide_false, Bool.not_false, if_true, if_false]
def firstS (f : List tCrack) (kind : Int) : List tCrack × Int := if checkS f = 0 then (if kind < 1 ∨ 11 < kind then ([], 1) else foundS f kind (pre f (1023 + 1) ((f.length : Int) - 1))) else ([], checkS f)
theorem equal_loop (a b : List tCrack) (ha : a.length < 4611686018427387904) (hab : a.length = b.length) : ∀ (d i : Nat), i + d = a.length → iter st_slices_Equal (.l4 a b (a.length : Int) (i : Int)) = some (decide (a.drop i = b.drop i))
  | 0, i, hi => by
    rw [iter_eq']
    have hd : a.drop i = [] := List.drop_eq_nil_of_le (by omega)
    have hd2 : b.drop i = [] := List.drop_eq_nil_of_le (by omega)
    have : ¬ (i : Int) < (a.length : Int) := by omega
    simp only [st_slices_Equal, sg_slices_Equal_4, this, decide_false, Bool.false_eq_true, if_false, hd, hd2]; rfl
  | d + 1, i, hi => by
    rw [iter_eq']
    obtain ⟨c, r, hL⟩ := drop_ex (show i < a.length by omega)
    obtain ⟨hc, hr, hlen⟩ := drop_cons (d := dCrack) hL
    obtain ⟨c2, r2, hL2⟩ := drop_ex (show i < b.length by omega)
    obtain ⟨hc2, hr2, hlen2⟩ := drop_cons (d := dCrack) hL2
    have hlt : (i : Int) < (a.length : Int) := by omega
    have hG : 0 ≤ (i : Int) ∧ (i : Int) < (a.length : Int) := ⟨by omega, hlt⟩
    have hG2 : 0 ≤ (i : Int) ∧ (i : Int) < (b.length : Int) := ⟨by omega, by omega⟩
    have e6 : w64 ((i : Int) + 1) = ((i + 1 : Nat) : Int) := w64_eq (by omega) (by omega)
    simp only [st_slices_Equal, sg_slices_Equal_4, decide_eq_true_eq, if_pos hlt, G_pos hG, G_pos hG2, Int.toNat_natCast, hc, hc2, e6]
    have he := eqR_iff tyCrack c c2 rfl rfl
    cases hq : eqR tyCrack c c2 with
    | false =>
      have hne : ¬ c = c2 := fun e => by rw [he.2 e] at hq; cases hq
      rw [hL, hL2]
      simp [runL, hne]
    | true =>
      have heq : c = c2 := he.1 hq
      simp only [Bool.not_true, Bool.false_eq_true, if_false]
      show iter _ _ = _
      rw [equal_loop a b ha hab d (i + 1) (by omega), hL, hL2, hr, hr2, heq]
      simp
theorem equal_eq (a b : List tCrack) (ha : a.length < 4611686018427387904) : slices_Equal a b = some (decide (a = b)) := by
  unfold slices_Equal en_slices_Equal
  by_cases h : a.length = b.length
  · have h' : (a.length : Int) = (b.length : Int) := by omega
    simp only [h', decide_true, Bool.not_true, Bool.false_eq_true, if_false]
    show iter _ _ = _
    have := equal_loop a b ha h a.length 0 (by omega)
    rw [h'] at this
    simpa using this
  · have h' : ¬ (a.length : Int) = (b.length : Int) := by omega
    have hne : ¬ a = b := fun e => h (by rw [e])
    simp only [h', decide_false, Bool.not_false, if_true, hne]; rfl
def isLst (f g : List tCrack) : Nat → Nat → Bool
  | _, 0 => false
  | i, d + 1 => decide (cut f ((begB f).getD i 0).toNat (i + 1) = g) || isLst f g (i + 1) d
def isS (f g : List tCrack) : Bool × Int := if checkS f = 0 then (if checkS g = 0 then (isLst f g 0 f.length, 0) else (false, checkS g)) else (false, checkS f)
end Go.Eng
