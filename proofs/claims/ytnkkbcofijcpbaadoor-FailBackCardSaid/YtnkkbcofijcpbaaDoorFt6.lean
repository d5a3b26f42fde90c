/- A part of the proof: Ft6. -/
import Derived.Test.YtnkkbcofijcpbaaDoorFt5
namespace Go.Eng
set_option linter.unusedVariables false
set_option linter.unusedSimpArgs false
theorem okP_pan {t : FdS} {k : Option (L_fail_reader_fail ⊕ FdS)} (h : t.1 = true) : ∃ r, okP t k = some (.inr r) ∧ r.1 = true := by
  unfold okP; rw [if_pos h]; exact ⟨_, rfl, rfl⟩
theorem okP_ok {s : List UInt8} {p : Nat} {v : List tCrack} {dp : Int} {k : Option (L_fail_reader_fail ⊕ FdS)} : okP (okS s p v dp) k = k := rfl
theorem wellTs_one (x : TF) : wellTs [x] ↔ wellT x := by simp [wellTs, wellT, flats]
theorem sub_put {s : List UInt8} {p n p1 : Nat} {v : List tCrack} {dp : Int} (hp : p1 = p + n) (kk : Int) (t : List UInt8) {o : Option (TF × Nat)} {res : FdS} (hr : fdRel s p1 v dp o res) :
    ∃ r, okP res (endP (fail_reader_put res.2.2.1 res.2.2.2.1 res.2.2.2.2.1 res.2.2.2.2.2 (kk, 1, t, ()))) = some (.inr r) ∧ fdRel s p v dp (oneF kk t n o) r := by
  cases o with
  | none =>
    obtain ⟨r, h1, h2⟩ := okP_pan (k := endP (fail_reader_put res.2.2.1 res.2.2.2.1 res.2.2.2.2.1 res.2.2.2.2.2 (kk, 1, t, ()))) (show res.1 = true from hr)
    exact ⟨r, h1, h2⟩
  | some q =>
    obtain ⟨x, a⟩ := q
    obtain ⟨h1, h2⟩ := hr
    by_cases hw : wellT x ∧ v.length + (flat x).length ≤ 1024
    · rw [h1 hw, okP_ok]
      have := end_put s (p1 + a) p (n + a) (v ++ flat x) v (by rw [List.length_append]; exact hw.2) dp (kk, 1, t, ()) [x] (by omega) (by simp [flats]) ((wellTs_one x).2 hw.1)
      exact this
    · obtain ⟨r, e1, e2⟩ := okP_pan (k := endP (fail_reader_put res.2.2.1 res.2.2.2.1 res.2.2.2.2.1 res.2.2.2.2.2 (kk, 1, t, ()))) (h2 hw)
      refine ⟨r, e1, fun hh => absurd ⟨fun c hc => hh.1 c ?_, ?_⟩ hw, fun _ => e2⟩
      · rw [flat_node]; simp [flats, hc]
      · have := hh.2
        rw [flat_node] at this
        simp only [flats, List.length_append, List.append_nil, List.length_cons, List.length_nil] at this; omega
def tlRel (s : List UInt8) (p : Nat) (v : List tCrack) (dp : Int) (n : Nat) (o : Option (List TF × Nat)) (res : FdS) : Prop := match o with
  | some (xs, m) => (wellTs xs ∧ v.length + (flats xs).length + 1 ≤ 1024 → res = okS s (p + m) (v ++ flats xs ++ [(10, ((n + xs.length : Nat) : Int), [], ())]) dp) ∧ (¬ (wellTs xs ∧ v.length + (flats xs).length + 1 ≤ 1024) → res.1 = true)
  | none => res.1 = true
theorem crack_10 (n : Nat) (h : 1 ≤ n) : crackS (10, (n : Int), [], ()) = true := by
  have : partS 10 (n : Int) = true := by
    unfold partS
    rw [if_neg (by decide), if_pos rfl]
    exact decide_eq_true (by omega)
  show (partS 10 (n : Int) && decide (([] : List UInt8).length ≤ 4096) && fitS 10 []) = true
  rw [this]; rfl
theorem run_end {rc : Rc} {x : Option (L_fail_reader_fail ⊕ FdS)} {r : FdS} (h : x = some (.inr r)) : runL (st_fail_reader_fail rc) x = some r := by rw [h]; rfl
section
variable {s : List UInt8} (hs : s.length ≤ 65536) {rc : Rc} {val : List UInt8 → Option (TF × Nat)} {dp : Int} {p d : Nat} (hp : p ≤ s.length)
  (hrc : ∀ (p' : Nat) (v' : List tCrack), p < p' → p' ≤ s.length → v'.length ≤ 1024 → ∃ res, rc s (p' : Int) v' dp = some res ∧ fdRel s p' v' dp (val (s.drop p')) res)
  (hval : ∀ s x k, val s = some (x, k) → sizeF d s x k)
include hs hrc hval
theorem tail_rel : ∀ (f p' n : Nat) (v : List tCrack), s.length - p' < f → p < p' → p' ≤ s.length → v.length ≤ 1024 → 1 ≤ n → n ≤ p' →
    ∃ res, iter (st_fail_reader_fail rc) (.l32 s (p' : Int) v dp 10 (n : Int) []) = some res ∧ tlRel s p' v dp n (tailF val f (s.drop p')) res
  | 0, p', n, v, hf, h0, h1, hv, hn, hnp => by omega
  | f + 1, p', n, v, hf, h0, h1, hv, hn, hnp => by
    rw [iter_eq']
    simp only [st_fail_reader_fail]
    unfold sg_fail_reader_fail_32
    have b0 : decide ((n : Int) = 0) = false := decide_eq_false (by omega)
    have en : w64 ((n : Int) + 1) = ((n + 1 : Nat) : Int) := w64_eq (by omega) (by omega)
    rw [b0, if_pos (by rfl), has_eq s hs p' v dp [59, 32] h1 (by decide), Option.bind_some, en]
    simp only [tailF]
    by_cases h2 : (s.drop p').take 2 = [59, 32]
    · have hl := take_len2 h2
      rw [List.length_drop] at hl
      rw [if_pos h2, show (if List.take ([59, 32] : List UInt8).length (s.drop p') = [59, 32] then (true, s, ((p' + ([59, 32] : List UInt8).length : Nat) : Int), v, dp) else (false, s, (p' : Int), v, dp)) = (true, s, ((p' + 2 : Nat) : Int), v, dp) from if_pos h2, if_pos (by rfl), List.drop_drop]
      obtain ⟨res, e1, e2⟩ := hrc (p' + 2) v (by omega) (by omega) hv
      dsimp only
      rw [e1, Option.bind_some]
      cases ho : val (s.drop (p' + 2)) with
      | none =>
        rw [ho] at e2
        rw [if_pos (show res.1 = true from e2)]
        exact ⟨_, rfl, rfl⟩
      | some q =>
        obtain ⟨x, k⟩ := q
        rw [ho] at e2
        obtain ⟨r1, r2⟩ := e2
        obtain ⟨z1, z2, z3, z4, z5⟩ := hval _ _ _ ho
        rw [List.length_drop] at z1
        dsimp only
        rw [List.drop_drop]
        by_cases hw : wellT x ∧ v.length + (flat x).length ≤ 1024
        · rw [r1 hw]
          obtain ⟨res', i1, i2⟩ := tail_rel f (p' + 2 + k) (n + 1) (v ++ flat x) (by omega) (by omega) (by omega) (by rw [List.length_append]; exact hw.2) (by omega) (by omega)
          refine ⟨res', i1, ?_⟩
          rw [show p' + (2 + k) = p' + 2 + k by omega]
          cases ht : tailF val f (s.drop (p' + 2 + k)) with
          | none => rw [ht] at i2; exact i2
          | some q =>
            obtain ⟨xs, m⟩ := q
            rw [ht] at i2
            obtain ⟨j1, j2⟩ := i2
            have hwi : wellTs (x :: xs) ↔ wellTs xs := by
              unfold wellTs
              simp only [flats, List.mem_append]
              exact ⟨fun h c hc => h c (.inr hc), fun h c hc => hc.elim (hw.1 c) (h c)⟩
            have hfl : (flats (x :: xs)).length = (flat x).length + (flats xs).length := by simp [flats]
            rw [Option.map_some]
            refine ⟨fun ⟨g1, g2⟩ => ?_, fun hn => j2 fun ⟨g1, g2⟩ => hn ⟨hwi.2 g1, by rw [hfl]; rw [List.length_append] at g2; omega⟩⟩
            rw [j1 ⟨hwi.1 g1, by rw [List.length_append]; rw [hfl] at g2; omega⟩]
            simp only [flats, List.append_assoc, List.length_cons]
            rw [show p' + 2 + k + m = p' + (2 + k + m) by omega, show n + 1 + xs.length = n + (xs.length + 1) by omega]
        · rw [if_pos (r2 hw)]
          refine ⟨_, rfl, ?_⟩
          cases ht : tailF val f (s.drop (p' + (2 + k))) with
          | none => exact rfl
          | some q =>
            obtain ⟨xs, m⟩ := q
            rw [Option.map_some]
            refine ⟨fun ⟨g1, g2⟩ => absurd ⟨fun c hc => g1 c (by simp [flats, hc]), ?_⟩ hw, fun _ => rfl⟩
            simp only [flats, List.length_append] at g2; omega
    · rw [if_neg h2, show (if List.take ([59, 32] : List UInt8).length (s.drop p') = [59, 32] then (true, s, ((p' + ([59, 32] : List UInt8).length : Nat) : Int), v, dp) else (false, s, (p' : Int), v, dp)) = (false, s, (p' : Int), v, dp) from if_neg h2, if_neg (by simp)]
      dsimp only
      rw [take_eq s hs p' v dp [41] h1 (by decide), Option.bind_some]
      by_cases h3 : (s.drop p').take 1 = [41]
      · rw [if_pos h3, show (if List.take ([41] : List UInt8).length (s.drop p') = [41] then okS s (p' + ([41] : List UInt8).length) v dp else panS) = okS s (p' + 1) v dp from if_pos h3]
        show ∃ res, runL (st_fail_reader_fail rc) (endP (fail_reader_put s ((p' + 1 : Nat) : Int) v dp (10, (n : Int), [], ()))) = some res ∧ _
        obtain ⟨r, e1, e2⟩ := end_put s (p' + 1) p' 1 v v hv dp (10, (n : Int), [], ()) [] rfl (by simp [flats]) (fun c hc => by cases hc)
        refine ⟨r, run_end e1, fun ⟨_, g2⟩ => ?_, fun hn => e2.2 fun ⟨g1, g2⟩ => hn ⟨fun c hc => (by cases hc), by rw [flat_node] at g2; simpa [flats] using g2⟩⟩
        have := e2.1 ⟨fun c hc => by rw [flat_node] at hc; simp only [flats, List.nil_append, List.mem_singleton] at hc; rw [hc]; exact crack_10 n hn, by rw [flat_node]; simpa [flats] using g2⟩
        rw [this, flat_node]
        simp [flats]
      · rw [if_neg h3, show (if List.take ([41] : List UInt8).length (s.drop p') = [41] then okS s (p' + ([41] : List UInt8).length) v dp else panS) = panS from if_neg h3]
        exact ⟨_, rfl, rfl⟩
end
end Go.Eng
