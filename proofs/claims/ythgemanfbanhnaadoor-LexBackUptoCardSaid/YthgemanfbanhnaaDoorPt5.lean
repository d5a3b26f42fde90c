/- A part of the proof: Pt5. -/
import Derived.Test.YthgemanfbanhnaaDoorPt4
namespace Go.Eng
set_option linter.unusedVariables false
set_option linter.unusedSimpArgs false

/-- The text from t on with bl ahead of each further token. -/
def insF (bl : List UInt8) : List UInt8 → List (TkS × Nat) → List UInt8
  | t, [] => t
  | t, p :: l => t.take (t.length - p.2) ++ (bl ++ insF bl (t.drop (t.length - p.2)) l)
theorem insF_nil : ∀ (l : List (TkS × Nat)) (t : List UInt8), insF [] t l = t
  | [], _ => rfl
  | p :: l, t => by simp only [insF, insF_nil l, List.nil_append, List.take_append_drop]
theorem one_head {c : UInt8} {r : List UInt8} (h : (oneS (c :: r)).1 = 0) : isB c = false ∧ ¬ (c.toNat : Int) = 35 := by
  have h35 : c ≠ 35 := by
    rintro rfl
    simp only [oneS, bad] at h
    rw [if_neg (by decide), if_neg (by decide), if_neg (by decide), if_neg (by decide)] at h
    rw [if_neg (by simp [List.take_succ_cons]), if_pos (by decide)] at h
    cases h
  refine ⟨?_, fun e => h35 (UInt8.toNat_inj.1 (by have : ((35 : UInt8).toNat : Int) = 35 := rfl; omega))⟩
  cases hb : isB c with
  | false => rfl
  | true =>
    exfalso
    rcases isB_vals hb with rfl | rfl | rfl | rfl <;>
    · simp only [oneS, bad] at h
      rw [if_neg (by decide), if_neg (by decide), if_neg (by decide), if_neg (by decide)] at h
      rw [if_neg (by simp [List.take_succ_cons]), if_pos (by decide)] at h
      cases h
theorem skip_head {c : UInt8} {r : List UInt8} (h : (oneS (c :: r)).1 = 0) : skipF false (c :: r) = c :: r := by
  obtain ⟨h1, h2⟩ := one_head h
  simp only [skipF, if_neg h2, h1, Bool.false_eq_true, if_false]
theorem toks_ins {bl : List UInt8} (hbl : ∀ c ∈ bl, isB c = true) (hne : bl ≠ []) : ∀ (f : Nat) (c : UInt8) (r : List UInt8) (p : TkS × Nat) (l : List (TkS × Nat)), toksR f (c :: r) = some (p :: l) →
    (∃ r', insF bl (c :: r) l = c :: r') ∧ ∃ g l2, toksR g (insF bl (c :: r) l) = some l2 ∧ l2.map (·.1) = (p :: l).map (·.1)
  | 0, _, _, _, _, h => by cases h
  | f + 1, c, r, p, l, h => by
    have h0 := h
    simp only [toksR] at h
    split at h
    · rename_i he
      obtain ⟨l', h1, h2⟩ := Option.map_eq_some_iff.1 h
      injection h2 with h2a h2b
      subst h2a; subst h2b
      obtain ⟨n1, n2⟩ := oneS_n (c :: r) he
      have hle := skipF_le ((c :: r).drop (oneS (c :: r)).2.2) false
      rw [List.length_drop] at hle
      cases l' with
      | nil => exact ⟨⟨r, rfl⟩, f + 1, _, h0, rfl⟩
      | cons p2 l3 =>
        have hd := toksR_desc h1
        generalize ht2 : skipF false ((c :: r).drop (oneS (c :: r)).2.2) = t2 at h1 hd hle
        cases t2 with
        | nil =>
          have := hd.1; have := hd.2.1
          simp only [List.length_nil] at this; omega
        | cons c2 r2 =>
          have hm : p2.2 = (c2 :: r2).length := by
            cases f with
            | zero => cases h1
            | succ f =>
              simp only [toksR] at h1
              split at h1
              · obtain ⟨l5, q1, q2⟩ := Option.map_eq_some_iff.1 h1
                injection q2 with q2 q3
                rw [← q2]
              · cases h1
          obtain ⟨⟨r', hr'⟩, g, l4, i1, i2⟩ := toks_ins hbl hne f c2 r2 p2 l3 h1
          -- t = x ++ t2
          obtain ⟨y, hy⟩ := skipF_suf ((c :: r).drop (oneS (c :: r)).2.2) false
          rw [ht2] at hy
          obtain ⟨x, hx⟩ : ∃ x, c :: r = x ++ (c2 :: r2) := ⟨(c :: r).take (oneS (c :: r)).2.2 ++ y, by rw [List.append_assoc, ← hy, List.take_append_drop]⟩
          have hxl : x.length = (c :: r).length - (c2 :: r2).length := by rw [hx, List.length_append]; omega
          have htake : (c :: r).take ((c :: r).length - p2.2) = x := by rw [hm, ← hxl, hx, List.take_left]
          have hdrop : (c :: r).drop ((c :: r).length - p2.2) = c2 :: r2 := by rw [hm, ← hxl, hx, List.drop_left]
          have hk : (oneS (c :: r)).2.2 ≤ x.length := by omega
          have hu : insF bl (c :: r) (p2 :: l3) = x ++ (bl ++ insF bl (c2 :: r2) l3) := by
            simp only [insF]; rw [htake, hdrop]
          have hxne : ∃ x', x = c :: x' := by
            cases x with
            | nil => simp only [List.length_nil] at hk; omega
            | cons a x' => rw [List.cons_append] at hx; injection hx with hx1 _; exact ⟨x', by rw [hx1]⟩
          obtain ⟨x', rfl⟩ := hxne
          refine ⟨⟨x' ++ (bl ++ insF bl (c2 :: r2) l3), by rw [hu]; rfl⟩, g + 1, ((oneS (c :: r)).2.1, (c :: (x' ++ (bl ++ insF bl (c2 :: r2) l3))).length) :: l4, ?_, ?_⟩
          · rw [hu, List.cons_append]
            simp only [toksR]
            have hstop : stop (bl ++ insF bl (c2 :: r2) l3) := by
              cases bl with
              | nil => exact absurd rfl hne
              | cons b bl => exact .inr ⟨b, _, rfl, hbl b (by simp)⟩
            have hst : oneS ((c :: x') ++ (bl ++ insF bl (c2 :: r2) l3)) = oneS (c :: r) := by
              rw [oneS_stable (q := c2 :: r2) hstop (by rw [← hx]; exact he) (by rw [← hx]; exact hk), ← hx]
            have hdr0 : ∀ n, n ≤ (c :: x').length → (c :: r).drop n = (c :: x').drop n ++ (c2 :: r2) := fun n hn => by rw [hx, List.drop_append_of_le_length hn]
            have hdr := hdr0 _ hk
            have hsk : skipF false ((c :: x').drop (oneS (c :: r)).2.2 ++ (bl ++ insF bl (c2 :: r2) l3)) = insF bl (c2 :: r2) l3 := by
              rw [skip_ins hbl _ (c2 :: r2) false (by simp) (by rw [← hdr, ht2]), hr']
              refine skip_head ?_
              cases g with
              | zero => cases i1
              | succ g =>
                rw [hr'] at i1
                simp only [toksR] at i1
                split at i1
                · assumption
                · cases i1
            rw [List.cons_append] at hst
            rw [hst, if_pos he, show c :: (x' ++ (bl ++ insF bl (c2 :: r2) l3)) = (c :: x') ++ (bl ++ insF bl (c2 :: r2) l3) from rfl, List.drop_append_of_le_length hk, hsk, i1, Option.map_some]
          · simp only [List.map_cons, i2]
    · cases h
/-- All of a text. -/
theorem toks_insAll {bl s : List UInt8} {f : Nat} {l : List (TkS × Nat)} (hbl : ∀ c ∈ bl, isB c = true) (h : toksR f (skipF false s) = some l) : ∃ g l2, toksR g (skipF false (insF bl s l)) = some l2 ∧ l2.map (·.1) = l.map (·.1) := by
  by_cases hne : bl = []
  · subst hne; rw [insF_nil]; exact ⟨f, l, h, rfl⟩
  · cases l with
    | nil => exact ⟨f, [], h, rfl⟩
    | cons p l =>
      cases ht : skipF false s with
      | nil => rw [ht] at h; cases f <;> cases h
      | cons c r =>
        rw [ht] at h
        have hp : p.2 = (c :: r).length := by
          cases f with
          | zero => cases h
          | succ f =>
            simp only [toksR] at h
            split at h
            · obtain ⟨l5, q1, q2⟩ := Option.map_eq_some_iff.1 h
              injection q2 with q2 q3
              rw [← q2]
            · cases h
        obtain ⟨⟨r', hr'⟩, g, l2, i1, i2⟩ := toks_ins hbl hne f c r p l h
        obtain ⟨y, hy⟩ := skipF_suf s false
        rw [ht] at hy
        have hyl : s.length - p.2 = y.length := by
          have := congrArg List.length hy
          rw [List.length_append] at this; omega
        refine ⟨g, l2, ?_, i2⟩
        have hu : insF bl s (p :: l) = y ++ (bl ++ insF bl (c :: r) l) := by
          simp only [insF]; rw [hyl, hy, List.take_left, List.drop_left]
        rw [hu, skip_ins hbl y (c :: r) false (by simp) (by rw [← hy, ht]), hr', skip_head, ← hr', i1]
        cases g with
        | zero => cases i1
        | succ g =>
          rw [hr'] at i1
          simp only [toksR] at i1
          split at i1
          · assumption
          · cases i1
theorem noAt_map (L : Nat) (l : List (TkS × Nat)) : (l.map (tokAt L)).map noAt = (l.map (·.1)).map fun k => (k.1, 0, k.2.1, k.2.2, ()) := by
  rw [List.map_map, List.map_map]; rfl

theorem blank15 (s bl : List UInt8) (l : List (TkS × Nat)) (f f' : Int) (hbl : ∀ c ∈ bl, isB c = true) (hlen : bl.length ≤ 1048576) (hs : s.length ≤ 65536) (hl : toksR (s.length + 1) (skipF false s) = some l) (hl8 : l.length ≤ 8192) : ∀ (d i at_ : Nat) (out : List UInt8), i + d = l.length → at_ ≤ s.length → desc (s.length - at_) (l.drop i) → out.length ≤ 65536 →
    out ++ insF bl (s.drop at_) (l.drop i) = insF bl s l → iter st_law01_LexBlank (.l15 s bl (l.map (tokAt s.length)) f f' out (at_ : Int) (i : Int)) = some true
  | 0, i, at_, out, hi, ha, hd, ho, hU => by
    rw [iter_eq']
    have hdr : l.drop i = [] := List.drop_eq_nil_of_le (by omega)
    have hll : (l.map (tokAt s.length)).length = l.length := List.length_map ..
    have h1 : ¬ (i : Int) < ((l.map (tokAt s.length)).length : Int) := by omega
    rw [hdr] at hU
    simp only [insF] at hU
    simp only [st_law01_LexBlank, sg_law01_LexBlank_15, h1, decide_false, Bool.false_eq_true, if_false, Int.toNat_natCast]
    rw [G_pos (show 0 ≤ (at_ : Int) ∧ (at_ : Int) ≤ (s.length : Int) by omega), G_pos (show out.length + (s.drop at_).length ≤ 140737488355328 by rw [List.length_drop]; omega)]
    have h6 : ((65536 : Int) < (((insF bl s l).length : Nat) : Int)) = (65536 < (insF bl s l).length) := by apply propext; omega
    simp only [Int.toNat_natCast, hU, decide_eq_true_eq, h6]
    by_cases hbig : 65536 < (insF bl s l).length
    · rw [if_pos hbig]; rfl
    · rw [if_neg hbig]
      obtain ⟨g, l2, t1, t2⟩ := toks_insAll hbl hl
      have hl2 : l2.length = l.length := by have := congrArg List.length t2; simpa using this
      have hfin := tokS_of (s := insF bl s l) (by omega) t1 (by omega)
      have hz0 : eqR tyFault ((0 : Int), (0 : Int), ()) ((0 : Int), (0 : Int), ()) = true := by kernel_rfl
      simp only [tokens_eq, hfin, Option.bind_some]
      rw [hz0]
      simp only [if_true, Option.bind_some]
      rw [nowhere_eq _ (by rw [List.length_map]; omega), nowhere_eq _ (by rw [List.length_map]; omega)]
      simp only [Option.bind_some]
      rw [toksame_eq _ _ (by simp only [List.length_map]; omega), noAt_map, noAt_map, t2]
      simp only [Option.bind_some, decide_true, Bool.and_self]; rfl
  | d + 1, i, at_, out, hi, ha, hd, ho, hU => by
    rw [iter_eq']
    obtain ⟨p, r, hL⟩ := drop_ex (show i < l.length by omega)
    have hll : (l.map (tokAt s.length)).length = l.length := List.length_map ..
    have hlt : (i : Int) < ((l.map (tokAt s.length)).length : Int) := by omega
    have hG : 0 ≤ (i : Int) ∧ (i : Int) < ((l.map (tokAt s.length)).length : Int) := ⟨by omega, hlt⟩
    have e6 : w64 ((i : Int) + 1) = ((i + 1 : Nat) : Int) := w64_eq (by omega) (by omega)
    obtain ⟨hc, hr, _⟩ := drop_cons (d := p) hL
    have hget : ((l.map (tokAt s.length)).getD i dToken) = tokAt s.length p := by
      rw [List.getD_eq_getElem?_getD, List.getElem?_map]
      have : l[i]? = some p := by
        have : (l.drop i)[0]? = some p := by rw [hL]; rfl
        rw [List.getElem?_drop] at this; simpa using this
      rw [this]; rfl
    have hat : (tokAt s.length p).2.1 = ((s.length - p.2 : Nat) : Int) := rfl
    rw [hL] at hd hU
    obtain ⟨d1, d2, d3⟩ := hd
    have hge : at_ ≤ s.length - p.2 := by omega
    simp only [st_law01_LexBlank, sg_law01_LexBlank_15, decide_eq_true_eq, if_pos hlt, G_pos hG, Int.toNat_natCast, hget, hat, e6]
    have c1 : ¬ ((s.length - p.2 : Nat) : Int) < (at_ : Int) := by omega
    have c2 : ¬ (s.length : Int) ≤ ((s.length - p.2 : Nat) : Int) := by omega
    rw [G_pos (fun _ => hG)]
    simp only [c1, c2, decide_false, Bool.or_self, Bool.false_eq_true, if_false]
    have hcut : cut s at_ (s.length - p.2) = (s.drop at_).take (s.length - p.2 - at_) := by
      rw [show cut s at_ (s.length - p.2) = cut s at_ (at_ + (s.length - p.2 - at_)) by congr 1; omega, cut_take]
    have hcl : (cut s at_ (s.length - p.2)).length ≤ 65536 := by rw [hcut, List.length_take, List.length_drop]; omega
    rw [G_pos (show 0 ≤ (at_ : Int) ∧ (at_ : Int) ≤ ((s.length - p.2 : Nat) : Int) ∧ ((s.length - p.2 : Nat) : Int) ≤ (s.length : Int) by omega), G_pos (show out.length + (cut s at_ (s.length - p.2)).length ≤ 140737488355328 by omega), G_pos (show (out ++ cut s at_ (s.length - p.2)).length + bl.length ≤ 140737488355328 by rw [List.length_append]; omega)]
    have h6 : ((65536 : Int) < ((((out ++ cut s at_ (s.length - p.2)) ++ bl).length : Nat) : Int)) = (65536 < ((out ++ cut s at_ (s.length - p.2)) ++ bl).length) := by apply propext; omega
    simp only [decide_eq_true_eq, h6]
    by_cases hbig : 65536 < ((out ++ cut s at_ (s.length - p.2)) ++ bl).length
    · rw [if_pos hbig]; rfl
    · rw [if_neg hbig]
      show iter _ _ = _
      refine blank15 s bl l f f' hbl hlen hs hl hl8 d (i + 1) (s.length - p.2) _ (by omega) (by omega) ?_ (by omega) ?_
      · rw [hr]; exact desc_le d3 (by omega)
      · rw [hr, ← hU]
        simp only [insF]
        rw [List.length_drop, show s.length - at_ - p.2 = s.length - p.2 - at_ by omega, List.drop_drop, show at_ + (s.length - p.2 - at_) = s.length - p.2 by omega, hcut]
        simp only [List.append_assoc]
theorem blank4 (s bl : List UInt8) (hlen : bl.length ≤ 1048576) : ∀ (d i : Nat), i + d = bl.length → (∀ c ∈ bl.take i, isB c = true) → iter st_law01_LexBlank (.l4 s bl (i : Int)) = some true
  | 0, i, hi, hbl => by
    rw [iter_eq']
    have h1 : ¬ (i : Int) < (bl.length : Int) := by omega
    rw [List.take_of_length_le (by omega)] at hbl
    simp only [st_law01_LexBlank, sg_law01_LexBlank_4, h1, decide_false, Bool.false_eq_true, if_false, tokens_eq, Option.bind_some]
    rw [fault_iff (tokS s).2]
    by_cases hok : (tokS s).2 = (0, 0, ())
    · obtain ⟨h6, l, hl, hl8, hmap⟩ := tokS_ok hok
      have hd := toksR_desc hl
      have hsl := skipF_le s false
      simp only [hok, decide_true, Bool.not_true, Bool.false_eq_true, if_false, hmap]
      show iter _ _ = _
      exact blank15 s bl l _ _ hbl hlen h6 hl hl8 l.length 0 0 [] (by omega) (by omega) (by rw [List.drop_zero]; exact desc_le hd (by omega)) (by simp) (by rw [List.drop_zero, List.drop_zero, List.nil_append])
    · have := tokS_bad hok
      simp only [hok, decide_false, Bool.not_false, if_true, this]; rfl
  | d + 1, i, hi, hbl => by
    rw [iter_eq']
    obtain ⟨c, r, hL⟩ := drop_ex (show i < bl.length by omega)
    obtain ⟨hc, hr, hlen2⟩ := drop_cons (d := (0 : UInt8)) hL
    have hlt : (i : Int) < (bl.length : Int) := by omega
    have hG : 0 ≤ (i : Int) ∧ (i : Int) < (bl.length : Int) := ⟨by omega, hlt⟩
    have e6 : w64 ((i : Int) + 1) = ((i + 1 : Nat) : Int) := w64_eq (by omega) (by omega)
    simp only [st_law01_LexBlank, sg_law01_LexBlank_4, decide_eq_true_eq, if_pos hlt, G_pos hG, Int.toNat_natCast, hc, e6]
    by_cases hb : isB c = true
    · have : ¬ ((((!decide ((c.toNat : Int) = 9)) && (!decide ((c.toNat : Int) = 10))) && (!decide ((c.toNat : Int) = 13))) && (!decide ((c.toNat : Int) = 32))) = true := by
        rcases isB_vals hb with rfl | rfl | rfl | rfl <;> decide
      rw [if_neg this]
      show iter _ _ = _
      refine blank4 s bl hlen d (i + 1) (by omega) (fun x hx => ?_)
      rw [List.take_add_one, ← List.head?_drop, hL] at hx
      rcases List.mem_append.1 hx with hx | hx
      · exact hbl x hx
      · simp at hx; subst hx; exact hb
    · have : ((((!decide ((c.toNat : Int) = 9)) && (!decide ((c.toNat : Int) = 10))) && (!decide ((c.toNat : Int) = 13))) && (!decide ((c.toNat : Int) = 32))) = true := by
        simp only [isB, Bool.or_eq_true, decide_eq_true_eq] at hb
        simp only [Bool.and_eq_true, Bool.not_eq_true', decide_eq_false_iff_not]
        omega
      rw [if_pos this]; rfl
theorem LexBlank_pure (s bl : List UInt8) (hlen : bl.length ≤ 1048576) : law01_LexBlank s bl = some true := by
  unfold law01_LexBlank en_law01_LexBlank
  rw [works_eq]
  simp only [Option.bind_some, Bool.not_true, Bool.false_eq_true, if_false]
  show iter _ _ = _
  exact blank4 s bl hlen bl.length 0 (by omega) (by simp)
end Go.Eng
