/- A part of the proof: Pv2. -/
import Derived.Test.YtnjcbogckfiamaaPv1
import Derived.Test.YtnjcbogckfiamaaTree
namespace Go.Eng
set_option linter.unusedVariables false
set_option linter.unusedSimpArgs false
def arV (a : tAtom) : Nat := a.2.1.toNat
noncomputable def goodV (lim : Int) (t : Tr tAtom) : Bool := wellA t.a && decide ((tdeep t : Int) ≤ lim)
def qW (p : Nat × Nat) : twhole := ((p.1 : Int), (p.2 : Int), ())
def whQ (F : List (Tr tAtom)) : List twhole := (whF F 0).map qW
def outQ (F : List (Tr tAtom)) : List twhole := (outF F 0).map qW
theorem dmax_wh : ∀ (f : List (Tr tAtom)) (p : Nat), dmax ((whF f p).map qW) = (tdeeps f : Int)
  | [], p => rfl
  | t :: f, p => by
    rw [whF, List.map_cons, dmax, dmax_wh f]
    simp only [qW, tdeeps]; omega
theorem whQ_len (F : List (Tr tAtom)) : (whQ F).length = F.length := by rw [whQ, List.length_map, whF_len]
theorem topW_wh (F : List (Tr tAtom)) (k : Nat) (hk : k ≤ F.length) (a : tAtom) : topW ((flats F).length : Int) ((whQ F).drop k) = qW ((flats (F.take k)).length, tdeep (.node a (F.drop k))) := by
  have e : (whQ F).drop k = (whF (F.drop k) (0 + (flats (F.take k)).length)).map qW := by rw [whQ, ← List.map_drop, whF_drop F 0 k hk]
  rw [e]
  unfold topW
  rw [dmax_wh, Nat.zero_add]
  have h1 : headW ((flats F).length : Int) ((whF (F.drop k) (flats (F.take k)).length).map qW) = ((flats (F.take k)).length : Int) := by
    cases hd : F.drop k with
    | nil =>
      have : F.take k = F := by
        have := List.take_append_drop k F
        rw [hd, List.append_nil] at this; exact this
      rw [this]; rfl
    | cons t r => rfl
  rw [h1]
  show _ = (((flats (F.take k)).length : Int), ((tdeeps (F.drop k) + 1 : Nat) : Int), ())
  rfl
theorem step_push {lim : Int} (F : List (Tr tAtom)) (a : tAtom) (hw : wellA a = true) (hn : arV a ≤ F.length) :
    stepW ((flats F).length : Int) a (whQ F) = some (qW ((flats (F.take (F.length - arV a))).length, tdeep (.node a (F.drop (F.length - arV a)))), whQ (F.take (F.length - arV a) ++ [.node a (F.drop (F.length - arV a))])) := by
  have hp := wellA_pos hw
  unfold stepW
  rw [if_pos ⟨hw, by rw [whQ_len]; unfold arV at hn; omega⟩, whQ_len]
  have e := topW_wh F (F.length - arV a) (by omega) a
  rw [show F.length - a.2.1.toNat = F.length - arV a from rfl, e]
  congr 1
  congr 1
  rw [whQ, whQ, ← List.map_take, whF_take F 0 _ (by omega), whF_app, List.map_append, Nat.zero_add]
  rfl
theorem outQ_push (F : List (Tr tAtom)) (a : tAtom) (k : Nat) : outQ (F.take k ++ [.node a (F.drop k)]) = outQ F ++ [qW ((flats (F.take k)).length, tdeep (.node a (F.drop k)))] := by
  rw [outQ, outF_app, Nat.zero_add, outF, outT, outF, List.append_nil, List.map_append, List.map_append, ← List.append_assoc, outQ]
  congr 1
  rw [← List.map_append]
  congr 1
  have : outF F 0 = outF (F.take k ++ F.drop k) 0 := by rw [List.take_append_drop]
  rw [this, outF_app, Nat.zero_add]
theorem begV_parse (lim : Int) : ∀ (l : List tAtom) (F : List (Tr tAtom)), begV lim l (flats F).length (outQ F) (whQ F) = (parseT arV (goodV lim) l F).map fun F' => (outQ F', whQ F')
  | [], F => rfl
  | a :: r, F => by
    rw [begV, parseT]
    by_cases hc : wellA a = true ∧ arV a ≤ F.length
    · rw [step_push (lim := lim) F a hc.1 hc.2]
      simp only
      by_cases hd : ((tdeep (.node a (F.drop (F.length - arV a))) : Nat) : Int) ≤ lim
      · have hg : goodV lim (.node a (F.drop (F.length - arV a))) = true := by simp only [goodV, Tr.a, hc.1, hd, decide_true, Bool.and_self]
        have hp : pushT arV (goodV lim) a F = some (F.take (F.length - arV a) ++ [.node a (F.drop (F.length - arV a))]) := by rw [pushT, if_pos ⟨hc.2, hg⟩]
        have hl : ¬ lim < (qW ((flats (F.take (F.length - arV a))).length, tdeep (.node a (F.drop (F.length - arV a))))).2.1 := by show ¬ lim < ((tdeep (.node a (F.drop (F.length - arV a))) : Nat) : Int); omega
        rw [hp, if_neg hl]
        simp only
        rw [← outQ_push, ← begV_parse lim r, flats_app, flats, flat, flats, List.append_nil, ← List.append_assoc, ← flats_app, List.take_append_drop, List.length_append]; rfl
      · have hg : goodV lim (.node a (F.drop (F.length - arV a))) = false := by simp only [goodV, Tr.a, hc.1, hd, decide_false, Bool.and_false]
        have hp : pushT arV (goodV lim) a F = none := by rw [pushT, if_neg (by rw [hg]; simp)]
        have hl : lim < (qW ((flats (F.take (F.length - arV a))).length, tdeep (.node a (F.drop (F.length - arV a))))).2.1 := by show lim < ((tdeep (.node a (F.drop (F.length - arV a))) : Nat) : Int); omega
        rw [hp, if_pos hl]
        rfl
    · have h1 : stepW ((flats F).length : Int) a (whQ F) = none := by
        unfold stepW
        rw [if_neg]
        rintro ⟨k1, k2⟩
        have := wellA_pos k1
        rw [whQ_len] at k2
        exact hc ⟨k1, by unfold arV; omega⟩
      have h2 : pushT arV (goodV lim) a F = none := by
        unfold pushT
        rw [if_neg]
        rintro ⟨k1, k2⟩
        refine hc ⟨?_, k1⟩
        simp only [goodV, Tr.a, Bool.and_eq_true] at k2
        exact k2.1
      rw [h1, h2]; rfl
theorem begV_top (lim : Int) (l : List tAtom) : begV lim l 0 [] [] = (parseT arV (goodV lim) l []).map fun F' => (outQ F', whQ F') := begV_parse lim l []
theorem wholes_par (v : List tAtom) (hv : v.length ≤ 1024) : value_wholes v = some (match parseT arV (goodV 32) v [] with | some F => (outQ F, decide (F.length = 1)) | none => ([], false)) := by
  rw [wholes_eq v hv, begV_top]
  cases parseT arV (goodV 32) v [] with
  | none => rfl
  | some F => simp only [Option.map_some, whQ_len]
theorem begins_inner (v : List tAtom) (fr : List Int) (st : List twhole) (i b : Int) (I : Nat) (hI : I ≤ 1024) (hs : okSt I st) (n : Nat) (hn : n ≤ st.length) :
    ∀ (e k : Nat), k + e = n → iter st_ref07_begins (.l15 v fr (st.map (·.1)) (st.map (·.2.1)) i (n : Int) b (dmax (st.drop (st.length - k))) (k : Int)) = iter st_ref07_begins (.l15 v fr (st.map (·.1)) (st.map (·.2.1)) i (n : Int) b (dmax (st.drop (st.length - n))) (n : Int))
  | 0, k, hk => by rw [show k = n by omega]
  | e + 1, k, hk => by
    rw [iter_eq']
    have hsl := hs.1
    obtain ⟨x, r, hL⟩ := drop_ex (show st.length - (k + 1) < st.length by omega)
    obtain ⟨hc, hr, hlen⟩ := drop_cons (d := dwhole) hL
    have hlt : (k : Int) < (n : Int) := by omega
    have ew : w64 (w64 (((st.map (·.2.1)).length : Int) - 1) - (k : Int)) = ((st.length - (k + 1) : Nat) : Int) := by
      rw [List.length_map, w64_eq (a := (st.length : Int) - 1) (by omega) (by omega), w64_eq (by omega) (by omega)]; omega
    have hG : 0 ≤ ((st.length - (k + 1) : Nat) : Int) ∧ ((st.length - (k + 1) : Nat) : Int) < ((st.map (·.2.1)).length : Int) := by rw [List.length_map]; omega
    have hg : (st.map (·.2.1)).getD (st.length - (k + 1)) 0 = x.2.1 := by
      rw [List.getD_eq_getElem?_getD, List.getElem?_map]
      have : st[st.length - (k + 1)]? = some x := by
        have := congrArg (fun l => l[0]?) hL
        simpa using this
      rw [this]; rfl
    have e6 : w64 ((k : Int) + 1) = ((k + 1 : Nat) : Int) := w64_eq (by omega) (by omega)
    simp only [st_ref07_begins, sg_ref07_begins_15, decide_eq_true_eq, if_pos hlt, ew, G_pos hG, Int.toNat_natCast, hg, e6, mxI_eq]
    show iter _ _ = _
    have ed : max (dmax (st.drop (st.length - k))) x.2.1 = dmax (st.drop (st.length - (k + 1))) := by
      rw [hL]
      simp only [dmax]
      rw [show st.length - k = st.length - (k + 1) + 1 by omega, hr]; omega
    rw [ed, begins_inner v fr st i b I hI hs n hn e (k + 1) (by omega)]
theorem map_take1 (st : List twhole) (k : Nat) : (st.map (·.1)).take k = (st.take k).map (·.1) := List.map_take.symm
theorem map_take2 (st : List twhole) (k : Nat) : (st.map (·.2.1)).take k = (st.take k).map (·.2.1) := List.map_take.symm
def ansR (p : Option (List twhole × List twhole)) : List Int × Int × Bool := match p with
  | some (o, s) => if s.length = 1 then (o.map (·.1), (s.getD 0 dwhole).2.1, true) else ([], 0, false)
  | none => ([], 0, false)
theorem begins_loop (v : List tAtom) (hv : v.length ≤ 1024) : ∀ (d i : Nat) (out st : List twhole), i + d = v.length → out.length = i → okSt i st →
    iter st_ref07_begins (.l5 v (out.map (·.1)) (st.map (·.1)) (st.map (·.2.1)) (i : Int)) = some (ansR (begV 100000 (v.drop i) i out st))
  | 0, i, out, st, hi, h1, h2 => by
    rw [iter_eq']
    have hd : v.drop i = [] := List.drop_eq_nil_of_le (by omega)
    have : ¬ (i : Int) < (v.length : Int) := by omega
    simp only [st_ref07_begins, sg_ref07_begins_5, this, decide_false, Bool.false_eq_true, if_false, hd, begV, List.length_map, dec_one, ansR]
    by_cases h : st.length = 1
    · have hg : 0 ≤ (0 : Int) ∧ (0 : Int) < (st.length : Int) := by omega
      simp only [h, decide_true, Bool.not_true, Bool.false_eq_true, if_false, if_true]
      rw [G_pos (by omega)]
      obtain ⟨x, rfl⟩ := List.length_eq_one_iff.1 h
      rfl
    · simp only [h, decide_false, Bool.not_false, if_true, if_false]; rfl
  | d + 1, i, out, st, hi, h1, h2 => by
    rw [iter_eq']
    obtain ⟨a, r, hL⟩ := drop_ex (show i < v.length by omega)
    obtain ⟨hc, hr, hlen⟩ := drop_cons (d := dAtom) hL
    have hlt : (i : Int) < (v.length : Int) := by omega
    have hG : 0 ≤ (i : Int) ∧ (i : Int) < (v.length : Int) := ⟨by omega, hlt⟩
    have e6 : w64 ((i : Int) + 1) = ((i + 1 : Nat) : Int) := w64_eq (by omega) (by omega)
    have hsl := h2.1
    rw [hL, begV]
    simp only [st_ref07_begins, sg_ref07_begins_5, decide_eq_true_eq, if_pos hlt, G_pos hG, Int.toNat_natCast, hc, ratom_eq, Option.bind_some, List.length_map]
    cases hs : stepW i a st with
    | none =>
      unfold stepW at hs
      split at hs
      · cases hs
      · rename_i hn
        have : (!wellA a || decide ((st.length : Int) < a.2.1)) = true := by
          cases hk : wellA a with
          | false => rfl
          | true =>
            have : (st.length : Int) < a.2.1 := by
              by_cases h : a.2.1 ≤ (st.length : Int)
              · exact absurd ⟨hk, h⟩ hn
              · omega
            simp [this]
        rw [if_pos this]; rfl
    | some p =>
      obtain ⟨w, st'⟩ := p
      obtain ⟨k1, k2, k3, k4, k5⟩ := stepW_some hs
      have ho' := okSt_step h2 hs
      have hno : ¬ (!wellA a || decide ((st.length : Int) < a.2.1)) = true := by
        rw [k1]
        have : ¬ (st.length : Int) < a.2.1 := by omega
        simp [this]
      have hdp := topW_deep h2 (st.length - a.2.1.toNat)
      rw [← k4] at hdp
      have ew := vnat_sub k2 k3 (by omega)
      have hlim : ¬ (100000 : Int) < w.2.1 := by omega
      simp only [if_neg hno, ew, if_neg hlim]
      have tail : ∀ (n : Nat), n = st.length - a.2.1.toNat → iter st_ref07_begins (.l20 v (out.map (·.1)) ((st.take n).map (·.1)) ((st.take n).map (·.2.1)) (i : Int) w.1 (w.2.1 - 1)) = some (ansR (begV 100000 r (i + 1) (out ++ [w]) st')) := by
        intro n hn
        rw [iter_eq']
        have ed : w64 (w.2.1 - 1 + 1) = w.2.1 := by rw [w64_eq (by omega) (by omega)]; omega
        simp only [st_ref07_begins, sg_ref07_begins_20, e6, ed, List.length_map, List.length_singleton]
        have hl := List.length_take_le n st
        rw [G_pos (by omega), G_pos (by omega), G_pos (by omega)]
        show iter _ _ = _
        have := begins_loop v hv d (i + 1) (out ++ [w]) st' (by omega) (by simp [h1]) ho'
        rw [hr, k5, List.map_append, List.map_append, List.map_append, ← hn] at this
        rw [k5, ← hn]
        exact this
      by_cases hz : 0 < a.2.1
      · have hG2 : 0 ≤ ((st.length - a.2.1.toNat : Nat) : Int) ∧ ((st.length - a.2.1.toNat : Nat) : Int) < (st.length : Int) := by omega
        have hG3 : 0 ≤ ((st.length - a.2.1.toNat : Nat) : Int) ∧ ((st.length - a.2.1.toNat : Nat) : Int) ≤ (st.length : Int) := by omega
        simp only [if_pos hz, G_pos hG2, Int.toNat_natCast]
        show iter _ _ = _
        have en : a.2.1 = ((a.2.1.toNat : Nat) : Int) := by omega
        obtain ⟨x, r2, hL2⟩ := drop_ex (show st.length - a.2.1.toNat < st.length by omega)
        have hb : (st.map (·.1)).getD (st.length - a.2.1.toNat) 0 = w.1 := by
          rw [List.getD_eq_getElem?_getD, List.getElem?_map]
          have : st[st.length - a.2.1.toNat]? = some x := by
            have := congrArg (fun l => l[0]?) hL2
            simpa using this
          rw [this, k4, hL2]; rfl
        have hin := begins_inner v (out.map (·.1)) st (i : Int) w.1 i (by omega) h2 a.2.1.toNat (by omega) a.2.1.toNat 0 (by omega)
        have hz0 : dmax (st.drop (st.length - 0)) = 0 := by rw [Nat.sub_zero, List.drop_length]; rfl
        rw [hz0, ← en] at hin
        rw [hb]
        refine Eq.trans hin ?_
        rw [iter_eq']
        have hnn : ¬ a.2.1 < a.2.1 := by omega
        simp only [st_ref07_begins, sg_ref07_begins_15, decide_eq_true_eq, if_neg hnn, List.length_map, ew, G_pos hG3, Int.toNat_natCast, map_take1, map_take2]
        show iter _ _ = _
        have hw2 : dmax (st.drop (st.length - a.2.1.toNat)) = w.2.1 - 1 := by rw [k4]; show _ = dmax _ + 1 - 1; omega
        rw [hw2]
        exact tail _ rfl
      · simp only [if_neg hz]
        show iter _ _ = _
        have h0 : a.2.1.toNat = 0 := by omega
        have hw : w.1 = (i : Int) ∧ w.2.1 = 1 := by
          rw [k4, h0, Nat.sub_zero, List.drop_length]
          exact ⟨rfl, rfl⟩
        have := tail st.length (by omega)
        rw [List.take_length, hw.1, hw.2] at this
        exact this
theorem begins_eq (v : List tAtom) (hv : v.length ≤ 1024) : ref07_begins v = some (match parseT arV (goodV 100000) v [] with | some F => if F.length = 1 then ((outQ F).map (·.1), ((tdeeps F : Nat) : Int), true) else ([], 0, false) | none => ([], 0, false)) := by
  unfold ref07_begins en_ref07_begins
  show iter _ _ = _
  have := begins_loop v hv v.length 0 [] [] (by omega) rfl okSt_nil
  rw [List.drop_zero, begV_top] at this
  refine Eq.trans this ?_
  cases parseT arV (goodV 100000) v [] with
  | none => rfl
  | some F =>
    simp only [Option.map_some, ansR, whQ_len]
    by_cases h : F.length = 1
    · obtain ⟨t, rfl⟩ := List.length_eq_one_iff.1 h
      rw [if_pos h, if_pos h]
      have : tdeeps [t] = tdeep t := by simp [tdeeps]
      rw [this]; rfl
    · rw [if_neg h, if_neg h]
end Go.Eng
