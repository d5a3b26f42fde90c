/- A part of the proof: Ft5. -/
import Derived.Test.YtnkkbcofijcpbaaDoorFt4
namespace Go.Eng
set_option linter.unusedVariables false
set_option linter.unusedSimpArgs false
abbrev Rc := List UInt8 → Int → List tCrack → Int → Option FdS
abbrev XW := arrX .str gl_onceweb_fail_words
def kf (w : List UInt8) : Nat → Nat → Int → Int
  | 0, _, k => k
  | d + 1, i, k => kf w d (i + 1) (if gl_onceweb_fail_words.getD i [] = w ∧ 0 < i then (i : Int) else k)
theorem kf_eq (w : List UInt8) : kf w 12 0 0 = kindS w := by
  have e : ∀ x : List UInt8, (w = x) = (x = w) := fun x => propext eq_comm
  unfold kindS
  repeat (split; · rename_i h; subst h; rfl)
  rename_i h1 h2 h3 h4 h5 h6 h7 h8 h9 h10 h11
  rw [e] at h1 h2 h3 h4 h5 h6 h7 h8 h9 h10 h11
  have g : ∀ (d i : Nat) (x : List UInt8) (k : Int), gl_onceweb_fail_words.getD i [] = x → ¬ x = w → kf w (d + 1) i k = kf w d (i + 1) k := fun d i x k hx hn => by
    rw [kf, hx, if_neg fun h => hn h.1]
  have g0 : kf w 12 0 0 = kf w 11 1 0 := by rw [kf, if_neg (by simp)]
  rw [g0, g 10 1 [102, 97, 105, 108] 0 rfl h1, g 9 2 [112, 97, 110, 105, 99] 0 rfl h2, g 8 3 [118, 97, 108, 117, 101] 0 rfl h3, g 7 4 [110, 111, 110, 101] 0 rfl h4, g 6 5 [99, 121, 99, 108, 101] 0 rfl h5, g 5 6 [100, 101, 112, 116, 104] 0 rfl h6, g 4 7 [99, 108, 111, 115, 101, 100] 0 rfl h7, g 3 8 [116, 111, 107, 101, 110] 0 rfl h8, g 2 9 [99, 101, 108, 108] 0 rfl h9, g 1 10 [106, 111, 105, 110] 0 rfl h10, g 0 11 [108, 111, 110, 103] 0 rfl h11]
  rfl
theorem kinds_loop (rc : Rc) (s : List UInt8) (p : Int) (v : List tCrack) (dp : Int) (w : List UInt8) : ∀ (d i : Nat) (k : Int), i + d = 12 →
    iter (st_fail_reader_fail rc) (.l3 s p v dp w k XW (i : Int)) = iter (st_fail_reader_fail rc) (.l3 s p v dp w (kf w d i k) XW (12 : Int))
  | 0, i, k, h => by
    have : i = 12 := by omega
    subst this; rfl
  | d + 1, i, k, h => by
    rw [iter_eq']
    simp only [st_fail_reader_fail]
    unfold sg_fail_reader_fail_3
    have hX : ([XW.1, XW.2.1, XW.2.2.1, XW.2.2.2.1, XW.2.2.2.2.1, XW.2.2.2.2.2.1, XW.2.2.2.2.2.2.1, XW.2.2.2.2.2.2.2.1, XW.2.2.2.2.2.2.2.2.1, XW.2.2.2.2.2.2.2.2.2.1, XW.2.2.2.2.2.2.2.2.2.2.1, XW.2.2.2.2.2.2.2.2.2.2.2.1] : List (List UInt8)) = gl_onceweb_fail_words := rfl
    have e1 : w64 ((i : Int) + 1) = ((i + 1 : Nat) : Int) := w64_eq (by omega) (by omega)
    have hG : 0 ≤ (i : Int) ∧ (i : Int) < (12 : Int) := ⟨by omega, by omega⟩
    rw [if_pos (decide_eq_true hG.2), G_any hG, hX, Int.toNat_natCast, e1]
    have hc : ((decide (gl_onceweb_fail_words.getD i [] = w) && decide ((0 : Int) < (i : Int))) = true) = (gl_onceweb_fail_words.getD i [] = w ∧ 0 < i) := by
      apply propext; simp only [Bool.and_eq_true, decide_eq_true_eq]
      constructor <;> rintro ⟨h1, h2⟩ <;> exact ⟨h1, by omega⟩
    simp only [hc]
    rw [kf]
    split
    · exact kinds_loop rc s p v dp w d (i + 1) _ (by omega)
    · exact kinds_loop rc s p v dp w d (i + 1) _ (by omega)
def endP (x : Option FdS) : Option (L_fail_reader_fail ⊕ FdS) := x.bind fun t => if t.1 = true then some (.inr (true, t.2.1, ([] : List UInt8), (0 : Int), ([] : List tCrack), (0 : Int))) else some (.inr (false, ((0 : Nat), undef), t.2.2.1, t.2.2.2.1, t.2.2.2.2.1, t.2.2.2.2.2))
def okP (t : FdS) (k : Option (L_fail_reader_fail ⊕ FdS)) : Option (L_fail_reader_fail ⊕ FdS) := if t.1 = true then some (.inr (true, t.2.1, ([] : List UInt8), (0 : Int), ([] : List tCrack), (0 : Int))) else k
section
variable (rc : Rc) (s : List UInt8) (p : Int) (v : List tCrack) (dp : Int) (w : List UInt8)
theorem seg_leaf (k : Int) (hk : k = 6 ∨ k = 7 ∨ k = 11) : sg_fail_reader_fail_3 rc s p v dp w k XW 12 = endP (fail_reader_put s p v dp (k, 0, [], ())) := by
  unfold sg_fail_reader_fail_3
  rcases hk with rfl | rfl | rfl
  all_goals
    simp (config := { decide := true }) only [if_true, if_false]
    rfl
theorem seg_0 : sg_fail_reader_fail_3 rc s p v dp w 0 XW 12 = (fail_reader_need s p v dp false).bind fun t => okP t (endP (fail_reader_put t.2.2.1 t.2.2.2.1 t.2.2.2.2.1 t.2.2.2.2.2 (0, 0, [], ()))) := by
  unfold sg_fail_reader_fail_3
  simp (config := { decide := true }) only [if_true, if_false]
  rfl
theorem seg_text (k : Int) (hk : k = 1 ∨ k = 2) : sg_fail_reader_fail_3 rc s p v dp w k XW 12 = (fail_reader_take s p v dp [32]).bind fun t => okP t ((fail_reader_text t.2.2.1 t.2.2.2.1 t.2.2.2.2.1 t.2.2.2.2.2).bind fun u =>
    if u.1 = true then some (.inr (true, u.2.1, ([] : List UInt8), (0 : Int), ([] : List tCrack), (0 : Int))) else endP (fail_reader_put u.2.2.2.1 u.2.2.2.2.1 u.2.2.2.2.2.1 u.2.2.2.2.2.2 (k, 0, u.2.2.1, ()))) := by
  unfold sg_fail_reader_fail_3
  rcases hk with rfl | rfl
  all_goals
    simp (config := { decide := true }) only [if_true, if_false]
    rfl
theorem seg_8 : sg_fail_reader_fail_3 rc s p v dp w 8 XW 12 = (fail_reader_take s p v dp [32]).bind fun t => okP t ((fail_reader_text t.2.2.1 t.2.2.2.1 t.2.2.2.2.1 t.2.2.2.2.2).bind fun u =>
    if u.1 = true then some (.inr (true, u.2.1, ([] : List UInt8), (0 : Int), ([] : List tCrack), (0 : Int))) else (fail_reader_has u.2.2.2.1 u.2.2.2.2.1 u.2.2.2.2.2.1 u.2.2.2.2.2.2 [58, 32]).bind fun h =>
      if h.1 = true then ((rc h.2.1 h.2.2.1 h.2.2.2.1 h.2.2.2.2).bind fun q => okP q (endP (fail_reader_put q.2.2.1 q.2.2.2.1 q.2.2.2.2.1 q.2.2.2.2.2 (8, 1, u.2.2.1, ())))) else endP (fail_reader_put h.2.1 h.2.2.1 h.2.2.2.1 h.2.2.2.2 (8, 0, u.2.2.1, ()))) := by
  unfold sg_fail_reader_fail_3
  simp (config := { decide := true }) only [if_true, if_false, Bool.true_and]
  rfl
theorem seg_word (k : Int) (hk : k = 3 ∨ k = 4 ∨ k = 5) : sg_fail_reader_fail_3 rc s p v dp w k XW 12 = (fail_reader_take s p v dp [32]).bind fun t => okP t ((fail_reader_word t.2.2.1 t.2.2.2.1 t.2.2.2.2.1 t.2.2.2.2.2).bind fun u => endP (fail_reader_put u.2.1 u.2.2.1 u.2.2.2.1 u.2.2.2.2 (k, 0, u.1, ()))) := by
  unfold sg_fail_reader_fail_3
  rcases hk with rfl | rfl | rfl
  all_goals
    simp (config := { decide := true }) only [if_true, if_false]
    rfl
theorem seg_9 : sg_fail_reader_fail_3 rc s p v dp w 9 XW 12 = (fail_reader_take s p v dp [32]).bind fun t => okP t ((fail_reader_word t.2.2.1 t.2.2.2.1 t.2.2.2.2.1 t.2.2.2.2.2).bind fun u => (fail_reader_take u.2.1 u.2.2.1 u.2.2.2.1 u.2.2.2.2 [58, 32]).bind fun h => okP h ((rc h.2.2.1 h.2.2.2.1 h.2.2.2.2.1 h.2.2.2.2.2).bind fun q =>
    okP q (endP (fail_reader_put q.2.2.1 q.2.2.2.1 q.2.2.2.2.1 q.2.2.2.2.2 (9, 1, u.1, ()))))) := by
  unfold sg_fail_reader_fail_3
  simp (config := { decide := true }) only [if_true, if_false]
  rfl
theorem seg_10 : sg_fail_reader_fail_3 rc s p v dp w 10 XW 12 = (fail_reader_take s p v dp [40]).bind fun t => okP t (some (.inl (.l32 t.2.2.1 t.2.2.2.1 t.2.2.2.2.1 t.2.2.2.2.2 10 0 []))) := by
  unfold sg_fail_reader_fail_3
  simp (config := { decide := true }) only [if_true, if_false]
  rfl
end
def wellT (x : TF) : Prop := ∀ c ∈ flat x, crackS c = true
def wellTs (xs : List TF) : Prop := ∀ c ∈ flats xs, crackS c = true
def fdRel (s : List UInt8) (p : Nat) (v : List tCrack) (dp : Int) (o : Option (TF × Nat)) (res : FdS) : Prop := match o with
  | some (x, k) => (wellT x ∧ v.length + (flat x).length ≤ 1024 → res = okS s (p + k) (v ++ flat x) dp) ∧ (¬ (wellT x ∧ v.length + (flat x).length ≤ 1024) → res.1 = true)
  | none => res.1 = true
theorem flat_node (c : tCrack) (xs : List TF) : flat (Tr.node c xs) = flats xs ++ [c] := rfl
theorem end_put (s : List UInt8) (p p0 k : Nat) (v v0 : List tCrack) (hv : v.length ≤ 1024) (dp : Int) (c : tCrack) (xs : List TF) (hp : p = p0 + k) (hvv : v = v0 ++ flats xs) (hw : wellTs xs) :
    ∃ res, endP (fail_reader_put s (p : Int) v dp c) = some (.inr res) ∧ fdRel s p0 v0 dp (some (.node c xs, k)) res := by
  rw [put_eq s p v hv dp c]
  subst hp hvv
  have hw2 : wellT (.node c xs) ↔ crackS c = true := by
    unfold wellT
    rw [flat_node]
    constructor
    · intro h; exact h c (by simp)
    · intro h c' hc'
      rcases List.mem_append.1 hc' with h1 | h1
      · exact hw c' h1
      · rw [List.mem_singleton.1 h1]; exact h
  rw [List.length_append] at hv ⊢
  have hlen : (flat (Tr.node c xs)).length = (flats xs).length + 1 := by rw [flat_node]; simp
  by_cases hc : v0.length + (flats xs).length < 1024 ∧ crackS c = true
  · rw [if_pos hc]
    refine ⟨okS s (p0 + k) (v0 ++ flats xs ++ [c]) dp, rfl, fun _ => ?_, fun h => absurd ⟨hw2.2 hc.2, by rw [hlen]; omega⟩ h⟩
    rw [flat_node, List.append_assoc]
  · rw [if_neg hc]
    refine ⟨panS, rfl, fun h => absurd ⟨by rw [hlen] at h; omega, hw2.1 h.1⟩ hc, fun _ => rfl⟩
end Go.Eng
