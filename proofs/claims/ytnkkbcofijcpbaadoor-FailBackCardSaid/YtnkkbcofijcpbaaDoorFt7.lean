/- A part of the proof: Ft7. -/
import Derived.Test.YtnkkbcofijcpbaaDoorFt6
namespace Go.Eng
set_option linter.unusedVariables false
set_option linter.unusedSimpArgs false
theorem kindS_vals (w : List UInt8) : kindS w = 0 ∨ (kindS w = 1 ∨ kindS w = 2) ∨ (kindS w = 3 ∨ kindS w = 4 ∨ kindS w = 5) ∨ (kindS w = 6 ∨ kindS w = 7 ∨ kindS w = 11) ∨ kindS w = 8 ∨ kindS w = 9 ∨ kindS w = 10 := by
  unfold kindS
  repeat (split; · simp)
  simp
theorem pan_rel {rc : Rc} {s : List UInt8} {p : Nat} {v : List tCrack} {dp : Int} {k : Option (L_fail_reader_fail ⊕ FdS)} {res : FdS} (h : res.1 = true) : ∃ r, runL (st_fail_reader_fail rc) (okP res k) = some r ∧ fdRel s p v dp none r := by
  obtain ⟨r, e1, e2⟩ := okP_pan (k := k) h
  exact ⟨r, run_end e1, e2⟩
section
variable {s : List UInt8} (hs : s.length ≤ 65536) {rc : Rc} {val : List UInt8 → Option (TF × Nat)} {dp : Int} {p d : Nat} (hp : p ≤ s.length)
  (hrc : ∀ (p' : Nat) (v' : List tCrack), p < p' → p' ≤ s.length → v'.length ≤ 1024 → ∃ res, rc s (p' : Int) v' dp = some res ∧ fdRel s p' v' dp (val (s.drop p')) res)
  (hval : ∀ s x k, val s = some (x, k) → sizeF d s x k)
include hs hp hrc hval
theorem fail_step (v : List tCrack) (hv : v.length ≤ 1024) : ∃ res, runL (st_fail_reader_fail rc) (en_fail_reader_fail rc s (p : Int) v dp) = some res ∧ fdRel s p v dp (stepF val (s.drop p)) res := by
  unfold en_fail_reader_fail
  rw [fword_eq s hs p hp v dp, Option.bind_some]
  show ∃ res, iter _ _ = some res ∧ _
  have hkl := kinds_loop rc s ((p + wlen (s.drop p) : Nat) : Int) v dp ((s.drop p).take (wlen (s.drop p))) 12 0 0 rfl
  rw [kf_eq] at hkl
  have hkl' : iter (st_fail_reader_fail rc) (.l3 s ((p + wlen (s.drop p) : Nat) : Int) v dp ((s.drop p).take (wlen (s.drop p))) 0 (arrX .str gl_onceweb_fail_words) 0) = _ := hkl
  rw [hkl', iter_eq']
  simp only [st_fail_reader_fail]
  unfold stepF
  dsimp only
  have hn := wlen_le (s.drop p)
  rw [List.length_drop] at hn
  rw [List.drop_drop]
  have h4 : ¬ kindS ((s.drop p).take (wlen (s.drop p))) = 0 → 4 ≤ wlen (s.drop p) := kind_wlen
  generalize wlen (s.drop p) = n at *
  generalize hw : (s.drop p).take n = w at *
  have hq : p + n ≤ s.length := by omega
  have take1 : ∀ c : UInt8, fail_reader_take s ((p + n : Nat) : Int) v dp [c] = some (if (s.drop (p + n)).take 1 = [c] then okS s (p + n + 1) v dp else panS) := fun c => take_eq s hs (p + n) v dp [c] hq (by simp)
  rcases kindS_vals w with h | h | h | h | h | h | h
  · -- no kind
    rw [h, seg_0, need_eq, Option.bind_some, if_neg Bool.false_ne_true, if_neg (by decide), if_neg (by decide), if_neg (by decide), if_neg (by decide)]
    exact pan_rel rfl
  · -- fail, panic
    have h4' := h4 (by omega)
    rw [seg_text _ _ _ _ _ _ _ h, if_neg (by omega), if_neg (by omega), if_pos (by omega), take1, Option.bind_some]
    unfold txtS
    by_cases h1 : (s.drop (p + n)).take 1 = [32]
    · have hl := take_len1 h1
      rw [List.length_drop] at hl
      rw [if_pos h1, if_pos h1, okP_ok, List.drop_drop]
      show ∃ res, runL (st_fail_reader_fail rc) ((fail_reader_text s ((p + n + 1 : Nat) : Int) v dp).bind _) = some res ∧ _
      rw [text_eq s hs (p + n + 1) (by omega) v dp, Option.bind_some]
      cases hqt : qtS (s.drop (p + n + 1)) with
      | none => exact ⟨_, rfl, rfl⟩
      | some q =>
        obtain ⟨t, m⟩ := q
        simp only [Option.map_some, moreK]
        rw [if_neg (show ¬ (kindS w = 8 ∨ kindS w = 9) by omega)]
        have hml := (txtS_len (r := s.drop (p + n)) (t := t) (m := 1 + m) (by unfold txtS; rw [if_pos h1, List.drop_drop, hqt]; rfl)).2
        rw [List.length_drop] at hml
        obtain ⟨r, e1, e2⟩ := end_put s (p + n + 1 + m) p (n + (1 + m)) v v hv dp (kindS w, 0, t, ()) [] (by omega) (by simp [flats]) (fun c hc => by cases hc)
        exact ⟨r, run_end e1, e2⟩
    · rw [if_neg h1, if_neg h1]; exact pan_rel rfl
  · -- value, none, cycle
    have h4' := h4 (by omega)
    rw [seg_word _ _ _ _ _ _ _ h, if_neg (by omega), if_neg (by omega), if_neg (by omega), if_pos (by omega), take1, Option.bind_some]
    unfold wrdS
    by_cases h1 : (s.drop (p + n)).take 1 = [32]
    · have hl := take_len1 h1
      rw [List.length_drop] at hl
      rw [if_pos h1, if_pos h1, okP_ok, List.drop_drop]
      show ∃ res, runL (st_fail_reader_fail rc) ((fail_reader_word s ((p + n + 1 : Nat) : Int) v dp).bind _) = some res ∧ _
      rw [fword_eq s hs (p + n + 1) (by omega) v dp, Option.bind_some]
      unfold moreK
      dsimp only
      rw [if_neg (show ¬ (kindS w = 8 ∨ kindS w = 9) by omega)]
      obtain ⟨r, e1, e2⟩ := end_put s (p + n + 1 + wlen (s.drop (p + n + 1))) p (n + (1 + wlen (s.drop (p + n + 1)))) v v hv dp (kindS w, 0, (s.drop (p + n + 1)).take (wlen (s.drop (p + n + 1))), ()) [] (by omega) (by simp [flats]) (fun c hc => by cases hc)
      exact ⟨r, run_end e1, e2⟩
    · rw [if_neg h1, if_neg h1]; exact pan_rel rfl
  · -- depth, closed, long
    rw [seg_leaf _ _ _ _ _ _ _ h, if_pos h]
    obtain ⟨r, e1, e2⟩ := end_put s (p + n) p n v v hv dp (kindS w, 0, [], ()) [] rfl (by simp [flats]) (fun c hc => by cases hc)
    exact ⟨r, run_end e1, e2⟩
  · -- token
    have h4' := h4 (by omega)
    rw [h, if_neg (by decide), if_neg (by decide), if_pos (by decide), seg_8, take1, Option.bind_some]
    unfold txtS
    by_cases h1 : (s.drop (p + n)).take 1 = [32]
    · have hl := take_len1 h1
      rw [List.length_drop] at hl
      rw [if_pos h1, if_pos h1, okP_ok, List.drop_drop]
      show ∃ res, runL (st_fail_reader_fail rc) ((fail_reader_text s ((p + n + 1 : Nat) : Int) v dp).bind _) = some res ∧ _
      rw [text_eq s hs (p + n + 1) (by omega) v dp, Option.bind_some]
      cases hqt : qtS (s.drop (p + n + 1)) with
      | none => exact ⟨_, rfl, rfl⟩
      | some q =>
        obtain ⟨t, m⟩ := q
        rw [Option.map_some]
        unfold moreK
        dsimp only
        have hml := (txtS_len (r := s.drop (p + n)) (t := t) (m := 1 + m) (by unfold txtS; rw [if_pos h1, List.drop_drop, hqt]; rfl)).2
        rw [List.length_drop] at hml
        rw [if_neg Bool.false_ne_true, has_eq s hs (p + n + 1 + m) v dp [58, 32] (by omega) (by decide), Option.bind_some, if_pos (show (8 : Int) = 8 ∨ (8 : Int) = 9 from .inl rfl), List.drop_drop, List.drop_drop, show p + n + (1 + m) = p + n + 1 + m by omega, show p + n + (1 + m + 2) = p + n + 1 + m + 2 by omega]
        by_cases h2 : (s.drop (p + n + 1 + m)).take 2 = [58, 32]
        · have hl2 := take_len2 h2
          rw [List.length_drop] at hl2
          rw [if_pos h2, show (if List.take ([58, 32] : List UInt8).length (s.drop (p + n + 1 + m)) = [58, 32] then (true, s, ((p + n + 1 + m + ([58, 32] : List UInt8).length : Nat) : Int), v, dp) else (false, s, ((p + n + 1 + m : Nat) : Int), v, dp)) = (true, s, ((p + n + 1 + m + 2 : Nat) : Int), v, dp) from if_pos h2, if_pos (show true = true from rfl)]
          obtain ⟨res, e1, e2⟩ := hrc (p + n + 1 + m + 2) v (by omega) (by omega) hv
          dsimp only
          rw [e1, Option.bind_some]
          obtain ⟨r, e3, e4⟩ := sub_put (p := p) (n := n + (1 + m) + 2) (by omega) 8 t e2
          exact ⟨r, run_end e3, e4⟩
        · rw [if_neg h2, if_pos (show (8 : Int) = 8 from rfl), show (if List.take ([58, 32] : List UInt8).length (s.drop (p + n + 1 + m)) = [58, 32] then (true, s, ((p + n + 1 + m + ([58, 32] : List UInt8).length : Nat) : Int), v, dp) else (false, s, ((p + n + 1 + m : Nat) : Int), v, dp)) = (false, s, ((p + n + 1 + m : Nat) : Int), v, dp) from if_neg h2, if_neg Bool.false_ne_true]
          obtain ⟨r, e1, e2⟩ := end_put s (p + n + 1 + m) p (n + (1 + m)) v v hv dp (8, 0, t, ()) [] (by omega) (by simp [flats]) (fun c hc => by cases hc)
          exact ⟨r, run_end e1, e2⟩
    · rw [if_neg h1, if_neg h1]; exact pan_rel rfl
  · -- cell
    have h4' := h4 (by omega)
    rw [h, if_neg (by decide), if_neg (by decide), if_neg (by decide), if_pos (by decide), seg_9, take1, Option.bind_some]
    unfold wrdS
    by_cases h1 : (s.drop (p + n)).take 1 = [32]
    · have hl := take_len1 h1
      rw [List.length_drop] at hl
      rw [if_pos h1, if_pos h1, okP_ok, List.drop_drop]
      show ∃ res, runL (st_fail_reader_fail rc) ((fail_reader_word s ((p + n + 1 : Nat) : Int) v dp).bind _) = some res ∧ _
      rw [fword_eq s hs (p + n + 1) (by omega) v dp, Option.bind_some]
      unfold moreK
      dsimp only
      have hml := wlen_le (s.drop (p + n + 1))
      rw [List.length_drop] at hml
      generalize wlen (s.drop (p + n + 1)) = m at *
      rw [take_eq s hs (p + n + 1 + m) v dp [58, 32] (by omega) (by decide), Option.bind_some, if_pos (show (9 : Int) = 8 ∨ (9 : Int) = 9 from .inr rfl), List.drop_drop, List.drop_drop, show p + n + (1 + m) = p + n + 1 + m by omega, show p + n + (1 + m + 2) = p + n + 1 + m + 2 by omega]
      by_cases h2 : (s.drop (p + n + 1 + m)).take 2 = [58, 32]
      · have hl2 := take_len2 h2
        rw [List.length_drop] at hl2
        rw [if_pos h2, show (if List.take ([58, 32] : List UInt8).length (s.drop (p + n + 1 + m)) = [58, 32] then okS s (p + n + 1 + m + ([58, 32] : List UInt8).length) v dp else panS) = okS s (p + n + 1 + m + 2) v dp from if_pos h2, okP_ok]
        obtain ⟨res, e1, e2⟩ := hrc (p + n + 1 + m + 2) v (by omega) (by omega) hv
        show ∃ res, runL (st_fail_reader_fail rc) ((rc s ((p + n + 1 + m + 2 : Nat) : Int) v dp).bind _) = some res ∧ _
        rw [e1, Option.bind_some]
        obtain ⟨r, e3, e4⟩ := sub_put (p := p) (n := n + (1 + m) + 2) (by omega) 9 ((s.drop (p + n + 1)).take m) e2
        exact ⟨r, run_end e3, e4⟩
      · rw [if_neg h2, if_neg (show ¬ (9 : Int) = 8 by decide), show (if List.take ([58, 32] : List UInt8).length (s.drop (p + n + 1 + m)) = [58, 32] then okS s (p + n + 1 + m + ([58, 32] : List UInt8).length) v dp else panS) = panS from if_neg h2]
        exact pan_rel rfl
    · rw [if_neg h1, if_neg h1]; exact pan_rel rfl
  · -- join
    have h4' := h4 (by omega)
    rw [h, if_neg (by decide), if_pos rfl, seg_10, take1, Option.bind_some]
    unfold joinF
    by_cases h1 : (s.drop (p + n)).take 1 = [40]
    · have hl := take_len1 h1
      rw [List.length_drop] at hl
      rw [if_pos h1, if_pos h1, okP_ok, List.drop_drop]
      show ∃ res, iter (st_fail_reader_fail rc) (.l32 s ((p + n + 1 : Nat) : Int) v dp 10 0 []) = some res ∧ _
      rw [iter_eq']
      simp only [st_fail_reader_fail]
      unfold sg_fail_reader_fail_32
      rw [if_neg (by decide), if_pos (by decide)]
      obtain ⟨res, e1, e2⟩ := hrc (p + n + 1) v (by omega) (by omega) hv
      rw [e1, Option.bind_some]
      cases ho : val (s.drop (p + n + 1)) with
      | none =>
        rw [ho] at e2
        rw [if_pos (show res.1 = true from e2)]
        exact ⟨_, rfl, rfl⟩
      | some q =>
        obtain ⟨x, a⟩ := q
        rw [ho] at e2
        obtain ⟨r1, r2⟩ := e2
        obtain ⟨z1, z2, z3, z4, z5⟩ := hval _ _ _ ho
        rw [List.length_drop] at z1
        dsimp only
        rw [List.length_drop, List.drop_drop, show p + n + (1 + a) = p + n + 1 + a by omega]
        by_cases hw2 : wellT x ∧ v.length + (flat x).length ≤ 1024
        · rw [r1 hw2]
          obtain ⟨res', i1, i2⟩ := tail_rel hs hrc hval (s.length - (p + n) + 1) (p + n + 1 + a) 1 (v ++ flat x) (by omega) (by omega) (by omega) (by rw [List.length_append]; exact hw2.2) (Nat.le_refl _) (by omega)
          refine ⟨res', i1, ?_⟩
          cases ht : tailF val (s.length - (p + n) + 1) (s.drop (p + n + 1 + a)) with
          | none => rw [ht] at i2; exact i2
          | some q =>
            obtain ⟨xs, m⟩ := q
            rw [ht] at i2
            obtain ⟨j1, j2⟩ := i2
            have hfl : flat (Tr.node (10, ((xs.length + 1 : Nat) : Int), [], ()) (x :: xs)) = flat x ++ flats xs ++ [(10, ((xs.length + 1 : Nat) : Int), [], ())] := by rw [flat_node, flats]
            have hwi : wellT (Tr.node (10, ((xs.length + 1 : Nat) : Int), [], ()) (x :: xs)) ↔ wellTs xs := by
              unfold wellT wellTs
              rw [hfl]
              constructor
              · intro g c hc; exact g c (by simp [hc])
              · intro g c hc
                simp only [List.mem_append, List.mem_singleton] at hc
                rcases hc with (hc | hc) | hc
                · exact hw2.1 c hc
                · exact g c hc
                · rw [hc]; exact crack_10 _ (by omega)
            show fdRel s p v dp (some (Tr.node (10, ((xs.length + 1 : Nat) : Int), [], ()) (x :: xs), n + 1 + a + m)) res'
            refine ⟨fun ⟨g1, g2⟩ => ?_, fun hn => j2 fun ⟨g1, g2⟩ => hn ⟨hwi.2 g1, by rw [hfl]; simp only [List.length_append, List.length_cons, List.length_nil] at g2 ⊢; omega⟩⟩
            rw [hfl] at g2
            simp only [List.length_append, List.length_cons, List.length_nil] at g2
            rw [j1 ⟨hwi.1 g1, by rw [List.length_append]; omega⟩, hfl]
            simp only [List.append_assoc]
            rw [show p + n + 1 + a + m = p + (n + 1 + a + m) by omega, show 1 + xs.length = xs.length + 1 by omega]
        · rw [if_pos (r2 hw2)]
          refine ⟨_, rfl, ?_⟩
          cases ht : tailF val (s.length - (p + n) + 1) (s.drop (p + n + 1 + a)) with
          | none => exact rfl
          | some q =>
            obtain ⟨xs, m⟩ := q
            show fdRel s p v dp (some (Tr.node (10, ((xs.length + 1 : Nat) : Int), [], ()) (x :: xs), n + 1 + a + m)) _
            refine ⟨fun ⟨g1, g2⟩ => absurd ⟨fun c hc => g1 c (by rw [flat_node]; simp [flats, hc]), ?_⟩ hw2, fun _ => rfl⟩
            rw [flat_node] at g2
            simp only [flats, List.length_append] at g2; omega
    · rw [if_neg h1, if_neg h1]; exact pan_rel rfl
end
theorem fail_rel {s : List UInt8} (hs : s.length ≤ 65536) (dp : Int) : ∀ (fu p : Nat) (v : List tCrack), s.length - p < fu → p ≤ s.length → v.length ≤ 1024 → ∃ res, fail_reader_fail_n fu s (p : Int) v dp = some res ∧ fdRel s p v dp (failT fu (s.drop p)) res
  | 0, p, v, h, _, _ => by omega
  | fu + 1, p, v, h, hp, hv => by
    unfold fail_reader_fail_n
    exact fail_step hs hp (fun p' v' h1 h2 h3 => fail_rel hs dp fu p' v' (by omega) h2 h3) (failT_size fu) v hv
noncomputable def parseC (s : List UInt8) : List tCrack × Int := if 65536 < s.length then ([], 3) else match failT 1025 s with
  | some (x, k) => open Classical in if k = s.length ∧ wellT x ∧ (flat x).length ≤ 1024 then (flat x, 0) else ([], 2)
  | none => ([], 2)
theorem cParse_eq (s : List UInt8) : fail_Parse s = some (parseC s) := by
  unfold fail_Parse parseC
  by_cases hl : 65536 < s.length
  · rw [if_pos (decide_eq_true (by omega)), if_pos hl]
  · rw [if_neg (by rw [decide_eq_true_eq]; omega), if_neg hl]
    obtain ⟨res, e1, e2⟩ := fail_rel (s := s) (by omega) 0 66000 0 [] (by omega) (by omega) (by simp)
    unfold fail_reader_fail
    have e1' : fail_reader_fail_n 66000 s 0 [] 0 = some res := e1
    rw [e1', Option.bind_some]
    rw [List.drop_zero] at e2
    cases ho : failT 66000 s with
    | none =>
      rw [ho] at e2
      rw [if_pos (show res.1 = true from e2)]
      have : failT 1025 s = none := by
        cases h2 : failT 1025 s with
        | none => rfl
        | some q =>
          obtain ⟨x, k⟩ := q
          have hz := failT_size _ _ _ _ h2
          rw [failT_deep 1025 66000 s x k h2 (by have := hz.2.2.2.1; omega)] at ho; cases ho
      rw [this]
    | some q =>
      obtain ⟨x, k⟩ := q
      rw [ho] at e2
      obtain ⟨r1, r2⟩ := e2
      by_cases hw : wellT x ∧ (flat x).length ≤ 1024
      · rw [r1 ⟨hw.1, by simpa using hw.2⟩]
        have hd := tdeep_le x
        rw [failT_deep 66000 1025 s x k ho (by omega)]
        rw [if_neg (show ¬ (okS s (0 + k) ([] ++ flat x) 0).1 = true from Bool.false_ne_true)]
        dsimp only
        show (if ((0 + k : Nat) : Int) = (s.length : Int) then some ([] ++ flat x, (0 : Int)) else some ([], 2)) = _
        by_cases hk : k = s.length
        · rw [if_pos (by omega), if_pos ⟨hk, hw⟩]; rfl
        · rw [if_neg (by omega), if_neg fun h => hk h.1]
      · rw [if_pos (r2 fun h => hw ⟨h.1, by simpa using h.2⟩)]
        cases h2 : failT 1025 s with
        | none => rfl
        | some q =>
          obtain ⟨y, j⟩ := q
          have hz := failT_size _ _ _ _ h2
          rw [failT_deep 1025 66000 s y j h2 (by have := hz.2.2.2.1; omega)] at ho
          cases ho
          dsimp only
          rw [if_neg fun h => hw h.2]
end Go.Eng
