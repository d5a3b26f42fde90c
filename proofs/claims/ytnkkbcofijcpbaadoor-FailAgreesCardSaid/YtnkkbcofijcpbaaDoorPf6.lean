/- A part of the proof: Pf6. -/
import Derived.Test.YtnkkbcofijcpbaaDoorPf4
namespace Go.Eng
set_option linter.unusedVariables false
set_option linter.unusedSimpArgs false
def tileR (fr : List Int) : List Int → Nat → Prop
  | [], _ => True
  | b :: rs, i => 1 ≤ i ∧ i ≤ fr.length ∧ fr.getD (i - 1) 0 = b ∧ 0 ≤ b ∧ b < (i : Int) ∧ tileR fr rs b.toNat
theorem tileR_ext (fr ext : List Int) : ∀ (rs : List Int) (i : Nat), tileR fr rs i → tileR (fr ++ ext) rs i
  | [], _, _ => trivial
  | b :: rs, i, h => by
    obtain ⟨h1, h2, h3, h4, h5, h6⟩ := h
    refine ⟨h1, by rw [List.length_append]; omega, ?_, h4, h5, tileR_ext fr ext rs _ h6⟩
    rw [← h3, List.getD_eq_getElem?_getD, List.getD_eq_getElem?_getD, List.getElem?_append_left (by omega)]
theorem tileR_drop (fr : List Int) : ∀ (rs : List Int) (i m : Nat), tileR fr rs i → m < rs.length → tileR fr (rs.drop (m + 1)) (rs.getD m 0).toNat ∧ 0 ≤ rs.getD m 0 ∧ rs.getD m 0 < (i : Int)
  | [], _, _, _, hm => by simp at hm
  | b :: rs, i, 0, h, _ => by
    obtain ⟨h1, h2, h3, h4, h5, h6⟩ := h
    exact ⟨h6, h4, h5⟩
  | b :: rs, i, m + 1, h, hm => by
    obtain ⟨h1, h2, h3, h4, h5, h6⟩ := h
    obtain ⟨k1, k2, k3⟩ := tileR_drop fr rs _ m h6 (by simpa using hm)
    exact ⟨by simpa using k1, by simpa using k2, by simp only [List.getD_cons_succ]; omega⟩
theorem rev_take (st : List Int) (m : Nat) (h : m ≤ st.length) : (st.take (st.length - m)).reverse = st.reverse.drop m := by
  rw [List.reverse_take]; congr 1; omega
theorem rev_get (st : List Int) (m : Nat) (h : 1 ≤ m) (h2 : m ≤ st.length) : st.getD (st.length - m) 0 = st.reverse.getD (m - 1) 0 := by
  rw [List.getD_eq_getElem?_getD, List.getD_eq_getElem?_getD, List.getElem?_reverse (by omega)]
  congr 2; omega
theorem begF_tile : ∀ (r : List tCrack) (i : Nat) (fr st : List Int), fr.length = i → tileR fr st.reverse i → st.length ≤ i → (begF r i fr st).2 = true →
    ∃ ext, (begF r i fr st).1 = fr ++ ext ∧ ext.length = r.length ∧ ∀ j c, r[j]? = some c → 0 ≤ c.2.1 ∧ crackS c = true ∧ ∃ rs : List Int, c.2.1.toNat ≤ rs.length ∧ rs.length ≤ i + j ∧ tileR (begF r i fr st).1 rs (i + j)
  | [], i, fr, st, hf, ht, hl, h => ⟨[], by simp [begF], rfl, fun j c hj => by simp at hj⟩
  | c :: r, i, fr, st, hf, ht, hl, h => by
    simp only [begF] at h ⊢
    cases hs : stepB i c st with
    | none => rw [hs] at h; cases h
    | some p =>
      obtain ⟨b, st'⟩ := p
      rw [hs] at h
      simp only at h ⊢
      have hlen := stepB_len hs
      have key : tileR (fr ++ [b]) st'.reverse (i + 1) ∧ 0 ≤ c.2.1 ∧ crackS c = true ∧ c.2.1.toNat ≤ st.reverse.length := by
        unfold stepB at hs
        split at hs
        · rename_i hc
          have hp := crackS_pos hc.1
          refine ⟨?_, hp, hc.1, by rw [List.length_reverse]; omega⟩
          have hget : ∀ x : Int, (fr ++ [x]).getD i 0 = x := fun x => by
            rw [List.getD_eq_getElem?_getD, List.getElem?_append_right (by omega), hf, Nat.sub_self]; rfl
          split at hs
          · rename_i hpos
            simp only [Option.some.injEq, Prod.mk.injEq] at hs
            obtain ⟨rfl, rfl⟩ := hs
            rw [List.reverse_append, rev_take _ _ (by omega)]
            obtain ⟨k1, k2, k3⟩ := tileR_drop fr st.reverse i (c.2.1.toNat - 1) ht (by rw [List.length_reverse]; omega)
            rw [rev_get st c.2.1.toNat (by omega) (by omega)]
            refine ⟨by omega, by rw [List.length_append, hf]; simp, by rw [Nat.add_sub_cancel]; exact hget _, k2, by omega, tileR_ext _ _ _ _ ?_⟩
            rw [show c.2.1.toNat - 1 + 1 = c.2.1.toNat by omega] at k1
            exact k1
          · simp only [Option.some.injEq, Prod.mk.injEq] at hs
            obtain ⟨rfl, rfl⟩ := hs
            rw [List.reverse_append]
            refine ⟨by omega, by rw [List.length_append, hf]; simp, by rw [Nat.add_sub_cancel]; exact hget _, by omega, by omega, tileR_ext _ _ _ _ ?_⟩
            rw [Int.toNat_natCast]; exact ht
        · cases hs
      obtain ⟨q1, q2, q3, q4⟩ := key
      obtain ⟨ext, e1, e2, e3⟩ := begF_tile r (i + 1) (fr ++ [b]) st' (by rw [List.length_append, hf]; rfl) q1 (by omega) h
      refine ⟨b :: ext, by rw [e1]; simp, by simp [e2], fun j d hj => ?_⟩
      cases j with
      | zero =>
        simp at hj; subst hj
        refine ⟨q2, q3, st.reverse, q4, by rw [List.length_reverse]; omega, ?_⟩
        rw [e1, List.append_assoc]
        exact tileR_ext _ _ _ _ ht
      | succ j =>
        obtain ⟨p1, p2, rs, p3, p4, p5⟩ := e3 j d (by simpa using hj)
        exact ⟨p1, p2, rs, p3, by omega, by rw [show i + (j + 1) = i + 1 + j by omega]; exact p5⟩
theorem valid_at {f : List tCrack} (h : checkS f = 0) : ((begF f 0 [] []).1.length = f.length) ∧ f.length ≤ 1024 ∧ 0 < f.length ∧ ∀ j c, f[j]? = some c → 0 ≤ c.2.1 ∧ crackS c = true ∧ ∃ rs : List Int, c.2.1.toNat ≤ rs.length ∧ rs.length ≤ j ∧ tileR (begF f 0 [] []).1 rs j := by
  have hlen := (okF_check h).2
  unfold checkS at h
  split at h
  · cases h
  · split at h
    · rename_i h1 h2
      obtain ⟨ext, e1, e2, e3⟩ := begF_tile f 0 [] [] rfl trivial (by simp) h2
      refine ⟨by rw [e1]; simpa using e2, hlen, ?_, fun j c hj => ?_⟩
      · cases f with
        | nil => simp [begF] at h2
        | cons c r => simp
      · obtain ⟨p1, p2, rs, p3, p4, p5⟩ := e3 j c hj
        exact ⟨p1, p2, rs, p3, by omega, by simpa using p5⟩
    · cases h
def leafL (f : List tCrack) : List tCrack := f.filter fun c => decide (c.2.1 = 0)
theorem leaves_loop (f : List tCrack) (hf : f.length ≤ 1024) : ∀ (d i : Nat) (out : List (Bool × List tCrack)), i + d = f.length → out.length ≤ i →
    iter st_fail_Leaves (.l6 out f (f.length : Int) (i : Int)) = some (out ++ (leafL (f.drop i)).map (fun c => (true, [c])), 0)
  | 0, i, out, hi, ho => by
    rw [iter_eq']
    have hd : f.drop i = [] := List.drop_eq_nil_of_le (by omega)
    have : ¬ (i : Int) < (f.length : Int) := by omega
    simp only [st_fail_Leaves, sg_fail_Leaves_6, this, decide_false, Bool.false_eq_true, if_false, hd]
    rw [G_pos trivial]
    simp [leafL, runL]
  | d + 1, i, out, hi, ho => by
    rw [iter_eq']
    obtain ⟨c, r, hL⟩ := drop_ex (show i < f.length by omega)
    obtain ⟨hc, hr, hlen⟩ := drop_cons (d := dCrack) hL
    have hlt : (i : Int) < (f.length : Int) := by omega
    have hG : 0 ≤ (i : Int) ∧ (i : Int) < (f.length : Int) := ⟨by omega, hlt⟩
    have e6 : w64 ((i : Int) + 1) = ((i + 1 : Nat) : Int) := w64_eq (by omega) (by omega)
    simp only [st_fail_Leaves, sg_fail_Leaves_6, decide_eq_true_eq, if_pos hlt, G_pos hG, Int.toNat_natCast, hc, e6]
    by_cases hq : c.2.1 = 0
    · rw [if_pos hq, G_pos trivial, G_pos trivial, G_pos (by simp only [List.length_cons, List.length_nil]; omega)]
      show iter _ _ = _
      rw [leaves_loop f hf d (i + 1) _ (by omega) (by simp; omega), hL, ← hr]
      have hcc : ((c.1, c.2.1, c.2.2.1, ()) : tCrack) = c := rfl
      rw [hcc]
      simp [leafL, hq]
    · rw [if_neg hq]
      show iter _ _ = _
      rw [leaves_loop f hf d (i + 1) _ (by omega) (by omega), hL, ← hr]
      simp [leafL, hq]
def leavesS (f : List tCrack) : List tCrack × Int := if checkS f = 0 then (leafL f, 0) else ([], checkS f)
theorem leaves_eq (f : List tCrack) : fail_Leaves f = some ((leavesS f).1.map (fun c => (true, [c])), (leavesS f).2) := by
  unfold fail_Leaves en_fail_Leaves leavesS
  rw [check_eq]
  simp only [Option.bind_some]
  by_cases h : checkS f = 0
  · obtain ⟨h1, h2⟩ := okF_check h
    simp only [h, decide_true, Bool.not_true, Bool.false_eq_true, if_false, if_true]
    show iter _ _ = _
    have := leaves_loop f h2 f.length 0 [] (by omega) (by simp)
    simpa using this
  · simp only [h, decide_false, Bool.not_false, if_true, if_false]; rfl
end Go.Eng
