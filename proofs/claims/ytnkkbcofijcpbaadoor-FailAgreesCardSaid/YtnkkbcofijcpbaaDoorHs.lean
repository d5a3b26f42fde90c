/- A part of the proof: Hs. -/
import Derived.Test.YtnkkbcofijcpbaaDoorLa1
import Derived.Test.YtnkkbcofijcpbaaDoorPf2
import Derived.Test.YtnkkbcofijcpbaaDoorShf
import Derived.Test.YtnkkbcofijcpbaaDoorDvV
namespace Go.Eng
open Go.Proofs Go.RowKit Go.Shelf
set_option linter.unusedVariables false
set_option linter.unusedSimpArgs false
def encC (c : tCrack) : List Value := [.int .i64 c.1, .int .i64 c.2.1, .string (mkS c.2.2.1)]
set_option maxHeartbeats 1000000 in
theorem Has_pred (kind : Int) (B : Nat) (w : World) (hB : B < w.heap.size) (hcell : w.cell? ⟨B, 0, none⟩ = some (.int .i64 kind)) :
    PredBelow Tryd.prog 60 #[.pointer (some ⟨B, 0, none⟩)] (fun c => .agg (encC c).toArray) (fun c : tCrack => decide (c.1 = kind)) w := fun W c hb => by
  have hc : W.cell? ⟨B, 0, none⟩ = some (.int .i64 kind) := (hb.cell (p := ⟨B, 0, none⟩) hB).trans hcell
  have hBW : B < W.heap.size := Nat.lt_of_lt_of_le hB hb.size
  obtain ⟨c1, c2, c3, _⟩ := c
  show Calls Tryd.prog 60 #[.agg #[.int .i64 c1, .int .i64 c2, .string (mkS c3)], .pointer (some ⟨B, 0, none⟩)] W _
  go_enter Tryd.func60, Tryd.ntmps60
  go_wp2
  go_ret
  refine ⟨?_, hb.trans ((Below.refl _ _).alloc hb.size _)⟩
  show Ending.returned (.bool (c1 == kind)) = _
  by_cases h : c1 = kind
  · subst h; simp
  · simp [h]
theorem call_int {f : FuncId} {args : List T} {vals : List Value} {k : Int} (h : APure X0 f args (.v (.int .i64 k))) (W : World) (F : Nat → Prop) (hG : X0.G W) (hFN : ∀ b, b < X0.N → F b) (hl : LRep W F args vals (fun _ => 0)) :
    Calls X0.P f vals.toArray W fun e w' => e = .returned (.int .i64 k) ∧ Below W.heap.size W w' := by
  refine (h W vals (fun _ => 0) F hG hFN hl (fun _ => Nat.zero_le _) (fun b hb => absurd hb (by simp))).mono ?_
  rintro e w' ⟨v, cr, rfl, e1, e2, e3, e4, e5, hr, _, _⟩
  cases hr with
  | cons _ _ _ _ c1 c2 _ h1 h2 hc =>
    have := TRep.of_v h1
    subst this
    exact ⟨rfl, ⟨e1, e2, e3, e4, fun b hb => e5 b hb rfl⟩⟩
theorem any_cracks (f : List tCrack) : f.flatMap (tyCrack).cells = (f.flatMap encC).map T.v := by
  induction f with
  | nil => rfl
  | cons c f ih => rw [List.flatMap_cons, List.flatMap_cons, ih, List.map_append]; rfl
theorem get3 : ∀ (f : List tCrack) (j i : Nat) (v : Value), j < f.length → (encC f[j]!)[i]? = some v → (f.flatMap encC)[j * 3 + i]? = some v
  | [], j, i, v, h, _ => by simp at h
  | c :: f, 0, i, v, _, h => by
    have hi : i < 3 := by
      rcases Nat.lt_or_ge i 3 with h2 | h2
      · exact h2
      · rw [List.getElem?_eq_none (by show 3 ≤ i; exact h2)] at h; cases h
    rw [List.flatMap_cons, List.getElem?_append_left (by show 0 * 3 + i < 3; omega), Nat.zero_mul, Nat.zero_add]
    simpa using h
  | c :: f, j + 1, i, v, hj, h => by
    rw [List.flatMap_cons, List.getElem?_append_right (by show 3 ≤ _; omega)]
    have : (j + 1) * 3 + i - (encC c).length = j * 3 + i := by show (j + 1) * 3 + i - 3 = _; omega
    rw [this]
    exact get3 f j i v (by simpa using hj) (by simpa using h)
set_option maxHeartbeats 4000000 in
set_option maxRecDepth 100000 in
theorem ok_fail_Has (f : List tCrack) (kind : Int) (r : Bool × Int) (h : fail_Has f kind = some r) : APure X0 36 ([.s (.sl 3 tyCrack) f, .s (.int .i64) kind].map DT.toT) (resT ([.s .bool r.1, .s (.int .i64) r.2].map DT.toT)) := by
  intro w vals ca F hG hFN hl hca1 hcaN
  cases hl with
  | cons _ _ x xs c1 c2 _ h1 h2 hc =>
    cases h2 with
    | cons _ _ y ys d1 d2 _ h3 h4 hc2 =>
      cases h4 with
      | nil _ hc3 =>
        have hy := TRep.of_v (y := .int .i64 kind) h3
        subst hy
        have fin : ∀ (w' : World) (b : Bool) (e : Int), r = (b, e) → Below w.heap.size w w' → ∃ v cr, Ending.returned (.tuple #[.bool b, .int .i64 e]) = .returned v ∧ w'.os = w.os ∧ w'.tape = w.tape ∧ w'.output = w.output ∧ w.heap.size ≤ w'.heap.size ∧ (∀ b, b < w.heap.size → ca b = 0 → w'.heap[b]? = w.heap[b]?) ∧
            LRep w' (fun b => (F b ∨ 0 < ca b ∨ w.heap.size ≤ b) ∧ cr b = 0) (resT ([.s .bool r.1, .s (.int .i64) r.2].map DT.toT) :: outU 2) (v :: [x, .int .i64 kind]) cr ∧ (∀ b, cr b ≤ 1) ∧ ∀ b, 0 < cr b → 0 < ca b ∨ w.heap.size ≤ b := by
          rintro w' b e rfl hB
          refine ⟨_, fun _ => 0, rfl, hB.os, hB.tape, hB.output, hB.size, fun b hb _ => hB.block b hb, ?_, fun _ => Nat.zero_le _, fun b hb => absurd hb (by simp)⟩
          exact .cons _ _ _ _ (fun _ => 0) (fun _ => 0) _ (.tup _ _ _ (.cons _ _ _ _ (fun _ => 0) (fun _ => 0) _ (.v _ _ (fun _ => rfl)) (.cons _ _ _ _ (fun _ => 0) (fun _ => 0) _ (.v _ _ (fun _ => rfl)) (.nil _ (fun _ => rfl)) (fun _ => rfl)) (fun _ => rfl))) (.cons _ _ _ _ (fun _ => 0) (fun _ => 0) _ (.u _ _ (fun _ => rfl)) (.cons _ _ _ _ (fun _ => 0) (fun _ => 0) _ (.u _ _ (fun _ => rfl)) (.nil _ (fun _ => rfl)) (fun _ => rfl)) (fun _ => rfl)) (fun _ => rfl)
        have h1z : TRep w F (DT.s (.sl 3 tyCrack) f).toT x (fun _ => 0) := h1.zeroed rfl
        have hGs : ∀ W, Below w.heap.size w W → X0.G W := fun W hb => X0.hG w W (fun b hb' => hb.block b (Nat.lt_of_lt_of_le hb' (X0.hN w hG))) hb.size hG
        have hxs : ∀ W, Below w.heap.size w W → LRep W (fun b => b < w.heap.size ∧ F b ∨ b < X0.N) [(DT.s (.sl 3 tyCrack) f).toT] [x] (fun _ => 0) := fun W hb =>
          .cons _ _ _ _ (fun _ => 0) (fun _ => 0) _ (h1z.mono (fun b hb' hf => ⟨.inl ⟨hb', hf⟩, hb.block b hb'⟩) hb.size (fun b hb' => absurd hb' (by simp))) (.nil _ (fun _ => rfl)) (fun _ => rfl)
        obtain ⟨e, he, h⟩ := Option.bind_eq_some_iff.1 h
        have hcheck := fun W (hb : Below w.heap.size w W) => call_int (ok_fail_Check f e he) W (fun b => b < w.heap.size ∧ F b ∨ b < X0.N) (hGs W hb) (fun b hb' => .inr hb') (hxs W hb)
        change ∀ W _, Calls Tryd.prog 16 #[x] W _ at hcheck
        have hW0 : Below w.heap.size w (w.alloc (.cells #[.int .i64 kind] 3)) := (Below.refl _ w).alloc (Nat.le_refl _) _
        show Calls Tryd.prog 36 #[x, .int .i64 kind] w _
        have hcell : ∀ W : World, Below (w.alloc (.cells #[.int .i64 kind] 3)).heap.size (w.alloc (.cells #[.int .i64 kind] 3)) W → W.cell? ⟨w.heap.size, 0, none⟩ = some (.int .i64 kind) := fun W hb => (hb.cell (p := ⟨w.heap.size, 0, none⟩) (by simp)).trans (by simp)
        by_cases he0 : e = 0
        · subst he0
          rw [if_neg (by decide)] at h
          obtain ⟨t, ht, h⟩ := Option.bind_eq_some_iff.1 h
          have hsort := fun W (hb : Below w.heap.size w W) => call_int (ok_fail_sort kind t ht) W (fun b => b < X0.N) (hGs W hb) (fun b hb' => hb') (.cons _ _ _ _ (fun _ => 0) (fun _ => 0) _ (.v (.int .i64 kind) _ (fun _ => rfl)) (.nil _ (fun _ => rfl)) (fun _ => rfl))
          change ∀ W _, Calls Tryd.prog 46 #[.int .i64 kind] W _ at hsort
          by_cases ht0 : t = 0
          · subst ht0
            rw [if_pos (by decide)] at h
            cases h
            go_enter Tryd.func36, Tryd.ntmps36
            go_wp2_with (first | (go_at_call 16; refine (hcheck _ hW0).mono ?_; rintro e' w1 ⟨rfl, hb1⟩; have hc1 := hcell w1 hb1) | (go_at_call 46; refine (hsort _ (hW0.trans (hb1.mono (by simp)))).mono ?_; rintro e' w2 ⟨rfl, hb2⟩))
            go_ret2
            exact fin _ false 1 rfl ((hW0.trans (hb1.mono (by simp))).trans (hb2.mono (Nat.le_trans (by simp) hb1.size)))
          · rw [if_neg (by simpa using ht0)] at h
            cases h
            have hne : f ≠ [] := by
              rintro rfl
              rw [check_eq] at he
              cases he
            have hlen : f.length ≤ 1024 := by
              rw [check_eq] at he
              cases hq : checkS f with
              | ofNat m =>
                unfold checkS at he
                split at he
                · cases he
                · omega
              | negSucc m => rw [hq] at he; cases he
            have hx : ∃ blk off n cap, x = .slice (some ⟨blk, off, none⟩) n cap ∧ n = f.length ∧ blk < w.heap.size ∧ n ≤ 9223372036854775807 ∧ ∀ j, j < f.length → ∀ i v, (encC f[j]!)[i]? = some v → w.cell? ⟨blk, off + j * 3 + i, none⟩ = some v := by
              have h1' : TRep w F (.sl 3 (f.map tyCrack.enc)) x (fun _ => 0) := h1z
              generalize hes : f.map tyCrack.enc = es at h1'
              cases h1' with
              | slnil _ a cap _ hz => exact absurd (List.map_eq_nil_iff.1 hes) hne
              | sl _ _ b n cap vals0 c0 _ hn hcap hF hb hs hv hz hlr hone hc0 hc' =>
                obtain ⟨blk, off, spot⟩ := b
                simp only at hs hb
                subst hs
                have hfl : es.flatMap T.cells = (f.flatMap encC).map T.v := by rw [← hes, flat_cells, any_cracks]
                rw [hfl] at hlr
                have hv0 : vals0 = f.flatMap encC := by
                  have := vals_of (α := Value) (fun v => v) (l := f.flatMap encC) hlr
                  rwa [List.map_id'] at this
                have hnl : n = f.length := by rw [hn, ← hes, List.length_map]
                refine ⟨blk, off, n, cap, rfl, hnl, hb, by omega, fun j hj i v hi => ?_⟩
                have h5 := get3 f j i v hj hi
                rw [← hv0] at h5
                have := hv _ _ h5
                rw [addr_add] at this
                rw [Nat.add_assoc]; exact this
            obtain ⟨blk, off, n, cap, rfl, rfl, hblk, hbig, hcl⟩ := hx
            have hcon := fun W (hb : Below w.heap.size w W) (hc : W.cell? ⟨w.heap.size, 0, none⟩ = some (.int .i64 kind)) (hsz : w.heap.size < W.heap.size) => AnyQ.slices_ContainsFunc Tryd.has59 3 Tryd.isAgg60 Tryd.sizeOf60 encC (fun _ => rfl) (fun c : tCrack => decide (c.1 = kind)) 60 #[.pointer (some ⟨w.heap.size, 0, none⟩)] (enters_of Tryd.func60 (by kernel_rfl) rfl) blk off f.length cap f W
              (Has_pred kind w.heap.size W hsz hc) (Nat.le_refl _) hbig (Nat.lt_of_lt_of_le hblk hb.size) (fun j hj i v hv => (hb.cell (p := ⟨blk, off + j * 3 + i, none⟩) hblk).trans (hcl j hj i v hv))
            change ∀ W _ _ _, Calls Tryd.prog 59 _ W _ at hcon
            rw [List.take_length] at hcon
            go_enter Tryd.func36, Tryd.ntmps36
            go_wp2_with (first | (go_at_call 16; refine (hcheck _ hW0).mono ?_; rintro e' w1 ⟨rfl, hb1⟩; have hc1 := hcell w1 hb1) | (go_at_call 46; refine (hsort _ (hW0.trans (hb1.mono (by simp)))).mono ?_; rintro e' w2 ⟨rfl, hb2⟩) | (go_at_call 59; refine (hcon _ ((hW0.trans (hb1.mono (by simp))).trans (hb2.mono (Nat.le_trans (by simp) hb1.size))) (hcell w2 (hb1.trans (hb2.mono hb1.size))) (Nat.lt_of_lt_of_le (Nat.lt_of_lt_of_le (by simp) hb1.size) hb2.size)).mono ?_; rintro e' w3 ⟨rfl, hb3⟩))
            go_ret2
            exact fin _ _ 0 rfl (((hW0.trans (hb1.mono (by simp))).trans (hb2.mono (Nat.le_trans (by simp) hb1.size))).trans (hb3.mono (Nat.le_trans (Nat.le_trans (by simp) hb1.size) hb2.size)))
        · have hne : (!decide (e = 0)) = true := by simp [he0]
          rw [if_pos hne] at h
          cases h
          go_enter Tryd.func36, Tryd.ntmps36
          go_wp2_with (go_at_call 16; refine (hcheck _ hW0).mono ?_; rintro e' w' ⟨rfl, hb1⟩)
          go_ret2
          exact fin _ false e rfl (hW0.trans (hb1.mono (by simp)))
end Go.Eng
