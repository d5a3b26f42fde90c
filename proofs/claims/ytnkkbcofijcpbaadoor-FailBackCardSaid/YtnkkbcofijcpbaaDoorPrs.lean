/- A part of the proof: Prs. -/
import Derived.Test.YtnkkbcofijcpbaaDoorLa1
import Derived.Tactics
import Derived.Tactics2
import Derived.Defers
import Derived.Recover
import Derived.Laws.Pointers
namespace Go.Eng
open Go.Proofs Go.RowKit
set_option linter.unusedVariables false
set_option linter.unusedSimpArgs false
theorem Parse_idle (p q : Addr) (w : World) : CallsD Tryd.prog 66 #[.pointer (some p), .pointer (some q)] .returning w fun e u' w' => e = .returned (.tuple #[]) ∧ u' = .returning ∧ w' = w := by
  refine callsD_of_wpS Tryd.func66 rfl fun c₀ cs hu => ?_
  apply wpS_seq
  apply wpS_region
  simp [wpOpsS, go_sem, recoverD, hu, Tryd.ntmps66, Exit.thenS]
  apply wpS_seq
  apply wpS_region
  simp [wpOpsS, go_sem, Exit.thenS]
  refine wpS_cond (t := false) (by simp [Act.eval, Array.replicate]) ?_
  simp only [Bool.false_eq_true, if_false]
  refine wpS_of_wp (wp_skip ?_)
  cases c₀
  simp_all [bodyPostS, results, Tryd.results66]
theorem Parse_caught (p q : Addr) (x y : Value) (u : TypeId) (pv : Value) (w : World) (hp : w.cell? p = some x) (hpz : w.frozen? p = false) (hq : (w.setCell p (.slice none 0 0)).cell? q = some y) (hqz : (w.setCell p (.slice none 0 0)).frozen? q = false) :
    CallsD Tryd.prog 66 #[.pointer (some p), .pointer (some q)] (.panicking [{ v := .iface u pv, recovered := false }]) w fun e u' w' =>
      e = .returned (.tuple #[]) ∧ u' = .panicking [{ v := .iface u pv, recovered := true }] ∧ w' = (w.setCell p (.slice none 0 0)).setCell q (.int .i64 2) := by
  refine callsD_of_wpS Tryd.func66 rfl fun c₀ cs hu => ?_
  apply wpS_seq
  apply wpS_region
  simp [wpOpsS, go_sem, recoverD, hu, Tryd.ntmps66, Exit.thenS]
  apply wpS_seq
  apply wpS_region
  simp [wpOpsS, go_sem, Exit.thenS]
  refine wpS_cond (t := true) (by simp [Act.eval, Array.replicate]) ?_
  simp only [if_true]
  apply wpS_region
  simp [wpOpsS, go_sem, hp, hpz, hq, hqz, bodyPostS, results, Tryd.results66]
theorem need_false (p : Value) (w : World) : Calls Tryd.prog 68 #[p, .bool false] w fun e w' => e = .panicked [{ v := .iface 103 (.agg #[]), recovered := false }] ∧ w' = w := by
  go_enter Tryd.func68, Tryd.ntmps68
  go_wp2
  exact ⟨rfl, rfl, rfl⟩
theorem need_is (p : Value) (b : Bool) (hb : b = false) (w : World) : Calls Tryd.prog 68 #[p, .bool b] w fun e w' => e = .panicked [{ v := .iface 103 (.agg #[]), recovered := false }] ∧ w' = w := by
  subst hb; exact need_false p w
theorem need_true (p : Value) (w : World) : Calls Tryd.prog 68 #[p, .bool true] w fun e w' => e = .returned (.tuple #[]) ∧ w' = w := by
  go_enter Tryd.func68, Tryd.ntmps68
  go_wp2
  go_end0
  exact ⟨rfl, rfl⟩
theorem fail_pan (s : List UInt8) (t : Bool × (Nat × Value) × List UInt8 × Int × List tCrack × Int) (ht : fail_reader_fail s 0 [] 0 = some t) (hb : t.1 = true) (W : World) (hG : X0.G W) (B : Nat) (hN : X0.N ≤ B)
    (hB : W.heap[B]? = some (.cells #[.string (mkS s), .int .i64 0, .slice none 0 0, .int .i64 0] 79 (0, 0))) :
    Calls Tryd.prog 67 #[.pointer (some ⟨B, 0, none⟩)] W fun e w' => e = .panicked [{ v := .iface t.2.1.1 t.2.1.2, recovered := false }] ∧ w'.os = W.os ∧ w'.tape = W.tape ∧ w'.output = W.output ∧ W.heap.size ≤ w'.heap.size ∧ (∀ b, b < W.heap.size → b ≠ B → w'.heap[b]? = W.heap[b]?) := by
  have hBs : B < W.heap.size := (Array.getElem?_eq_some_iff.1 hB).1
  have hc := (ok_fail_reader_fail s 0 [] 0 t ht).2 hb W [.pointer (some ⟨B, 0, none⟩)] (fun b => if b = B then 1 else 0) (fun b => b < X0.N) hG (fun b h => h) (by
    refine .cons _ _ _ _ (fun b => if b = B then 1 else 0) (fun _ => 0) _ ?_ (.nil _ (fun _ => rfl)) (fun _ => rfl)
    refine .box 79 _ B _ (fun _ => 0) _ hB ?_ ?_ (fun _ => rfl)
    · refine .cons _ _ _ _ (fun _ => 0) (fun _ => 0) _ (.v _ _ (fun _ => rfl)) ?_ (fun _ => rfl)
      refine .cons _ _ _ _ (fun _ => 0) (fun _ => 0) _ (.v _ _ (fun _ => rfl)) ?_ (fun _ => rfl)
      refine .cons _ _ _ _ (fun _ => 0) (fun _ => 0) _ (.ownnil _ _ _ (fun _ => rfl)) ?_ (fun _ => rfl)
      exact .cons _ _ _ _ (fun _ => 0) (fun _ => 0) _ (.v _ _ (fun _ => rfl)) (.nil _ (fun _ => rfl)) (fun _ => rfl)
    · intro y hy
      simp only [List.mem_cons, List.not_mem_nil, or_false] at hy
      rcases hy with rfl | rfl | rfl | rfl <;> rfl) (fun b => by split <;> omega) (fun b hb => by
    by_cases e : b = B
    · subst e; exact ⟨hN, by omega⟩
    · simp [e] at hb)
  refine Calls.mono hc ?_
  rintro e w' ⟨rfl, o1, o2, o3, hs, hk⟩
  exact ⟨rfl, o1, o2, o3, hs, fun b hb hne => hk b hb (by simp [hne])⟩
theorem fail_call (s : List UInt8) (t : Bool × (Nat × Value) × List UInt8 × Int × List tCrack × Int) (ht : fail_reader_fail s 0 [] 0 = some t) (hb : t.1 = false) (W : World) (hG : X0.G W) (B : Nat) (hN : X0.N ≤ B)
    (hB : W.heap[B]? = some (.cells #[.string (mkS s), .int .i64 0, .slice none 0 0, .int .i64 0] 79 (0, 0))) :
    Calls Tryd.prog 67 #[.pointer (some ⟨B, 0, none⟩)] W fun e w' => e = .returned (.tuple #[]) ∧ w'.os = W.os ∧ w'.tape = W.tape ∧ w'.output = W.output ∧ W.heap.size ≤ w'.heap.size ∧ (∀ b, b < W.heap.size → b ≠ B → w'.heap[b]? = W.heap[b]?) ∧
      ∃ (a : Option Addr) (n cap : Nat) (x4 : Value), w'.heap[B]? = some (.cells #[.string (mkS t.2.2.1), .int .i64 t.2.2.2.1, .slice a n cap, x4] 79 (0, 0)) ∧ TRep w' (fun b => b = B ∨ W.heap.size ≤ b) (DT.s (.sl 3 tyCrack) t.2.2.2.2.1).toT (.slice a n cap) (fun _ => 0) := by
  have hBs : B < W.heap.size := (Array.getElem?_eq_some_iff.1 hB).1
  have hc := (ok_fail_reader_fail s 0 [] 0 t ht).1 hb W [.pointer (some ⟨B, 0, none⟩)] (fun b => if b = B then 1 else 0) (fun b => b < X0.N) hG (fun b h => h) (by
    refine .cons _ _ _ _ (fun b => if b = B then 1 else 0) (fun _ => 0) _ ?_ (.nil _ (fun _ => rfl)) (fun _ => rfl)
    refine .box 79 _ B _ (fun _ => 0) _ hB ?_ ?_ (fun _ => rfl)
    · refine .cons _ _ _ _ (fun _ => 0) (fun _ => 0) _ (.v _ _ (fun _ => rfl)) ?_ (fun _ => rfl)
      refine .cons _ _ _ _ (fun _ => 0) (fun _ => 0) _ (.v _ _ (fun _ => rfl)) ?_ (fun _ => rfl)
      refine .cons _ _ _ _ (fun _ => 0) (fun _ => 0) _ (.ownnil _ _ _ (fun _ => rfl)) ?_ (fun _ => rfl)
      exact .cons _ _ _ _ (fun _ => 0) (fun _ => 0) _ (.v _ _ (fun _ => rfl)) (.nil _ (fun _ => rfl)) (fun _ => rfl)
    · intro y hy
      simp only [List.mem_cons, List.not_mem_nil, or_false] at hy
      rcases hy with rfl | rfl | rfl | rfl <;> rfl) (fun b => by split <;> omega) (fun b hb => by
    by_cases e : b = B
    · subst e; exact ⟨hN, by omega⟩
    · simp [e] at hb)
  refine Calls.mono hc ?_
  rintro e w' ⟨v, cr, rfl, o1, o2, o3, hs, hk, hrep, hc1, hc2⟩
  cases hrep with
  | cons _ _ _ _ ca cb _ q1 q2 hcr =>
    cases q2 with
    | cons _ _ _ _ cc cd _ q3 q4 hcb =>
      have hv : v = .tuple #[] := by
        cases q1 with
        | tup _ vs _ hl =>
          have : vs.toList = [] := by cases hl' : vs.toList with
            | nil => rfl
            | cons a l => rw [hl'] at hl; cases hl
          congr 1
          exact Array.toList_eq_nil_iff.1 this
      subst hv
      refine ⟨rfl, o1, o2, o3, hs, fun b hb hne => hk b hb (by simp [hne]), ?_⟩
      generalize hcs : (DT.box 79 [DT.s Ty.str t.2.2.1, DT.s (Ty.int IntKind.i64) t.2.2.2.1, DT.own 60 tyCrack t.2.2.2.2.1, DT.s (Ty.int IntKind.i64) t.2.2.2.2.2]).toT = bt at q3
      simp only [DT.toT, all_eq, List.map_cons, List.map_nil] at hcs
      subst hcs
      cases q3 with
      | box _ _ _ cur c0 _ hg hl hone hcc =>
        cases hcur : cur.toList with
        | nil => rw [hcur] at hl; cases hl
        | cons y1 l1 =>
          rw [hcur] at hl
          cases hl with
          | cons _ _ _ _ e1 e2 _ p1 p2 he =>
            cases p2 with
            | cons _ _ y2 l2 f1 f2 _ p3 p4 hf =>
              cases p4 with
              | cons _ _ y3 l3 g1 g2 _ p5 p6 hg2 =>
                cases p6 with
                | cons _ _ y4 l4 h1 h2 _ p7 p8 hh =>
                  cases p8 with
                  | nil _ _ =>
                    have z1 := TRep.of_v (y := .string (mkS t.2.2.1)) p1
                    have z2 := TRep.of_v (y := .int .i64 t.2.2.2.1) p3
                    subst z1 z2
                    have hy3 : ∃ a n cap, y3 = .slice a n cap := by
                      have p5c : TRep w' _ (.own 60 3 (t.2.2.2.2.1.map tyCrack.enc)) y3 g1 := p5
                      generalize t.2.2.2.2.1.map tyCrack.enc = es at p5c
                      cases p5c with
                      | ownnil => exact ⟨_, _, _, rfl⟩
                      | own => exact ⟨_, _, _, rfl⟩
                    obtain ⟨sa, sn, sc, rfl⟩ := hy3
                    refine ⟨sa, sn, sc, y4, ?_, ?_⟩
                    · rw [hg]
                      have : cur = #[.string (mkS t.2.2.1), .int .i64 t.2.2.2.1, .slice sa sn sc, y4] := by
                        apply Array.ext'; rw [hcur]
                      rw [this]
                    · have p5' : TRep w' (fun _ => False) (.own 60 3 (t.2.2.2.2.1.map tyCrack.enc)) (.slice sa sn sc) g1 := TRep.anyF p5 (by
                        simp only [T.noSl]
                        exact noSl_list0 tyCrack rfl _)
                      have := p5'.fz (F' := fun b => b = B ∨ W.heap.size ≤ b) (fun b _ hf => hf.elim) (fun b hb => by
                        have : 0 < cr b := by
                          have a1 := hcr b; have a2 := hcb b; have a3 := hcc b; have a4 := he b; have a5 := hf b; have a6 := hg2 b
                          omega
                        rcases hc2 b this with h | h
                        · by_cases e : b = B
                          · exact .inl e
                          · simp [e] at h
                        · exact .inr h)
                      have e : (T.own 60 3 (t.2.2.2.2.1.map tyCrack.enc)).fz = (DT.s (.sl 3 tyCrack) t.2.2.2.2.1).toT := by
                        show T.sl 3 (T.fz.fzAll (t.2.2.2.2.1.map tyCrack.enc)) = T.sl 3 (t.2.2.2.2.1.map tyCrack.enc)
                        rw [fzAll_eq, fz_map]
                      rw [← e]; exact this
set_option maxHeartbeats 4000000 in
set_option maxRecDepth 100000 in
theorem ok_fail_Parse (s : List UInt8) (r : List tCrack × Int) (h : fail_Parse s = some r) : APure X0 42 ([.s .str s].map DT.toT) (resT ([.s (.sl 3 tyCrack) r.1, .s (.int .i64) r.2].map DT.toT)) := by
  intro w vals ca F hG hFN hl hca1 hcaN
  cases hl with
  | cons _ _ x xs c1 c2 _ h1 h2 hc =>
    cases h2 with
    | nil _ hc2 =>
      have hx := TRep.of_v (y := .string (mkS s)) h1
      subst hx
      have fin : ∀ (W : World) (x3 : Value) (f : List tCrack) (e : Int), r = (f, e) → Below w.heap.size w W → TRep W (fun b => F b ∨ 0 < ca b ∨ w.heap.size ≤ b) (DT.s (.sl 3 tyCrack) f).toT x3 (fun _ => 0) →
          ∃ v cr, Ending.returned (.tuple #[x3, .int .i64 e]) = .returned v ∧ W.os = w.os ∧ W.tape = w.tape ∧ W.output = w.output ∧ w.heap.size ≤ W.heap.size ∧ (∀ b, b < w.heap.size → ca b = 0 → W.heap[b]? = w.heap[b]?) ∧
            LRep W (fun b => (F b ∨ 0 < ca b ∨ w.heap.size ≤ b) ∧ cr b = 0) (resT ([.s (.sl 3 tyCrack) r.1, .s (.int .i64) r.2].map DT.toT) :: List.replicate ([.s .str s].map DT.toT).length T.u) [v, .string (mkS s)] cr ∧ (∀ b, cr b ≤ 1) ∧ ∀ b, 0 < cr b → 0 < ca b ∨ w.heap.size ≤ b := by
        rintro W x3 f e rfl hB hr
        refine ⟨_, fun _ => 0, rfl, hB.os, hB.tape, hB.output, hB.size, fun b hb _ => hB.block b hb, ?_, fun _ => Nat.zero_le _, fun b hb => absurd hb (by simp)⟩
        have hr' : TRep W (fun b => (F b ∨ 0 < ca b ∨ w.heap.size ≤ b) ∧ (fun _ => 0 : Cnt) b = 0) (DT.s (.sl 3 tyCrack) f).toT x3 (fun _ => 0) := TRep.mono (fun b _ hf => ⟨⟨hf, rfl⟩, rfl⟩) (Nat.le_refl _) hr (fun b hb => absurd hb (by simp))
        exact .cons _ _ _ _ (fun _ => 0) (fun _ => 0) _ (.tup _ _ _ (.cons _ _ _ _ (fun _ => 0) (fun _ => 0) _ hr' (.cons _ _ _ _ (fun _ => 0) (fun _ => 0) _ (.v _ _ (fun _ => rfl)) (.nil _ (fun _ => rfl)) (fun _ => rfl)) (fun _ => rfl))) (.cons _ _ _ _ (fun _ => 0) (fun _ => 0) _ (.u _ _ (fun _ => rfl)) (.nil _ (fun _ => rfl)) (fun _ => rfl)) (fun _ => rfl)
      suffices H : ∀ R : Ending → World → Prop, (∀ (W : World) (x3 : Value) (f : List tCrack) (e : Int), r = (f, e) → Below w.heap.size w W → TRep W (fun b => F b ∨ 0 < ca b ∨ w.heap.size ≤ b) (DT.s (.sl 3 tyCrack) f).toT x3 (fun _ => 0) → R (.returned (.tuple #[x3, .int .i64 e])) W) → Calls Tryd.prog 42 #[.string (mkS s)] w R from H _ (fun W x3 f e k1 k2 k3 => fin W x3 f e k1 k2 k3)
      clear fin
      intro R hR
      have hmf : ∀ (fn : Fn) (first cap : Array Value) (w : World), (Instr.makeFunc fn first cap).run Tryd.prog w = .ok (.func fn first cap) w := fun _ _ _ _ => rfl
      have hsz : (mkS s).size = s.length := by simp [mkS, ByteArray.size]
      have hnew : ∀ (w : World) (o : Obj), (w.alloc o).heap[w.heap.size]? = some o := fun w o => by
        show (w.heap.push o)[w.heap.size]? = some o
        simp
      unfold fail_Parse at h
      by_cases hlen : 65536 < s.length
      · rw [if_pos (decide_eq_true (by omega))] at h
        cases h
        have hsz' : (65536 : Int) < ((mkS s).size : Int) := by omega
        go_enter_defers Tryd.func42, Tryd.ntmps42
        go_wp2
        simp [bodyPostD, Leaves, results, Tryd.results42, go_sem]
        exact hR _ _ [] 3 rfl (((Below.refl _ w).alloc (Nat.le_refl _) _).alloc (by simp) _) (.slnil _ _ _ _ (fun _ => rfl))
      · rw [if_neg (by rw [decide_eq_true_eq]; omega)] at h
        obtain ⟨t, ht, h⟩ := Option.bind_eq_some_iff.1 h
        have hsz' : ¬ (65536 : Int) < ((mkS s).size : Int) := by omega
        have hNw := X0.hN w hG
        have hS1 : ∀ (w : World) (o : Obj), (w.alloc o).heap.size = w.heap.size + 1 := fun w o => by simp
        generalize hW : ((w.alloc (.cells #[.slice none 0 0] 23)).alloc (.cells #[.int .i64 0] 25)).alloc (.cells #[.string (mkS s), .int .i64 0, .slice none 0 0, .int .i64 0] 79) = W
        have hB0 : Below w.heap.size w W := by
          rw [← hW]
          exact (((Below.refl _ w).alloc (Nat.le_refl _) _).alloc (by simp) _).alloc (by simp; omega) _
        have hWs : W.heap.size = w.heap.size + 3 := by rw [← hW, hS1, hS1, hS1]
        have b0 : W.heap[w.heap.size]? = some (.cells #[.slice none 0 0] 23 (0, 0)) := by
          rw [← hW, Below.heap_alloc _ _ _ (by rw [hS1, hS1]; omega), Below.heap_alloc _ _ _ (by rw [hS1]; omega), hnew]
        have b1 : W.heap[w.heap.size + 1]? = some (.cells #[.int .i64 0] 25 (0, 0)) := by
          rw [← hW, Below.heap_alloc _ _ _ (by rw [hS1, hS1]; omega)]
          have := hnew (w.alloc (.cells #[.slice none 0 0] 23)) (.cells #[.int .i64 0] 25)
          rwa [hS1] at this
        have b2 : W.heap[w.heap.size + 1 + 1]? = some (.cells #[.string (mkS s), .int .i64 0, .slice none 0 0, .int .i64 0] 79 (0, 0)) := by
          have := hnew ((w.alloc (.cells #[.slice none 0 0] 23)).alloc (.cells #[.int .i64 0] 25)) (.cells #[.string (mkS s), .int .i64 0, .slice none 0 0, .int .i64 0] 79)
          rw [hS1, hS1, hW] at this
          exact this
        have hfinal : ∀ (w' : World) (u : TypeId) (pv : Value), w'.os = W.os → w'.tape = W.tape → w'.output = W.output → W.heap.size ≤ w'.heap.size → (∀ b, b < W.heap.size → b ≠ w.heap.size + 1 + 1 → w'.heap[b]? = W.heap[b]?) → r = ([], 2) → ∀ tm : Array Value, tm[2]? = some (.pointer (some ⟨w.heap.size, 0, none⟩)) → tm[3]? = some (.pointer (some ⟨w.heap.size + 1, 0, none⟩)) →
            Leaves Tryd.prog Tryd.f42 tm R [{ target := .fn (.func 66) #[.pointer (some ⟨w.heap.size, 0, none⟩), .pointer (some ⟨w.heap.size + 1, 0, none⟩)], args := #[] }] (.panicking [{ v := .iface u pv, recovered := false }]) w' := by
          intro w' u pv o1 o2 o3 hs1 hk1 hr tm htm1 htm2
          have hBw : Below w.heap.size w w' := hB0.trans ⟨o1, o2, o3, hs1, fun k hk => hk1 k (by omega) (by omega)⟩
          have d0 : w'.heap[w.heap.size]? = some (.cells #[.slice none 0 0] 23 (0, 0)) := ((hk1 _ (by omega) (by omega)).trans b0)
          have d1 : w'.heap[w.heap.size + 1]? = some (.cells #[.int .i64 0] 25 (0, 0)) := ((hk1 _ (by omega) (by omega)).trans b1)
          have d1' : (w'.setCell ⟨w.heap.size, 0, none⟩ (.slice none 0 0)).heap[w.heap.size + 1]? = some (.cells #[.int .i64 0] 25 (0, 0)) := by
            rw [Below.heap_setCell _ _ _ _ (by simp)]; exact d1
          refine leaves_cons (f := 66) (args := #[.pointer (some ⟨w.heap.size, 0, none⟩), .pointer (some ⟨w.heap.size + 1, 0, none⟩)]) (by simp) (by simp [go_sem]) ?_
          refine (Parse_caught ⟨w.heap.size, 0, none⟩ ⟨w.heap.size + 1, 0, none⟩ (.slice none 0 0) (.int .i64 0) u pv w' (by simp [World.cell?, d0]) (by simp [World.frozen?, d0]) (by simp [World.cell?, d1']) (by simp [World.frozen?, d1'])).mono ?_
          rintro e u' w'' ⟨rfl, rfl, hw⟩
          have q0 : w''.cell? ⟨w.heap.size, 0, none⟩ = some (.slice none 0 0) := by
            rw [hw]
            unfold World.cell?
            rw [Below.heap_setCell _ _ _ _ (by simp)]
            simp [World.setCell, Array.getElem?_modify, d0]
          have q1 : w''.cell? ⟨w.heap.size + 1, 0, none⟩ = some (.int .i64 2) := by
            rw [hw]
            unfold World.cell?
            simp [World.setCell, Array.getElem?_modify] at d1' ⊢
            simp [d1']
          simp [Leaves, settle, results, Tryd.results42, go_sem, q0, q1, htm1, htm2]
          refine hR w'' _ [] 2 hr ?_ (.slnil _ _ _ _ (fun _ => rfl))
          rw [hw]
          exact (hBw.setCell (Nat.le_refl _) _).setCell (by simp) _
        have hGW : X0.G W := X0.hG w W (fun b hb' => hB0.block b (Nat.lt_of_lt_of_le hb' hNw)) hB0.size hG
        by_cases hpb : t.1 = true
        · rw [if_pos hpb] at h
          cases h
          have hcon := fail_pan s t ht hpb W hGW (w.heap.size + 1 + 1) (by omega) b2
          go_enter_defers Tryd.func42, Tryd.ntmps42
          go_wp2_with (first | (go_at_call 67; refine hcon.mono ?_; rintro e' w1 ⟨rfl, o1, o2, o3, hs1, hk1⟩))
          refine hfinal _ _ _ o1 o2 o3 hs1 hk1 (by simp) _ ?_ ?_
          · simp
          · simp
        · rw [if_neg hpb] at h
          have hpb : t.1 = false := by simpa using hpb
          by_cases hat : t.2.2.2.1 = (s.length : Int)
          · rw [if_pos hat] at h
            cases h
            have hcon := fail_call s t ht hpb W (X0.hG w W (fun b hb' => hB0.block b (Nat.lt_of_lt_of_le hb' hNw)) hB0.size hG) (w.heap.size + 1 + 1) (by omega) b2
            go_enter_defers Tryd.func42, Tryd.ntmps42
            have hstep : ∀ (w1 : World), (∀ b, b < W.heap.size → b ≠ w.heap.size + 1 + 1 → w1.heap[b]? = W.heap[b]?) → ∀ x3 x4 : Value, w1.heap[w.heap.size + 1 + 1]? = some (.cells #[.string (mkS t.2.2.1), .int .i64 t.2.2.2.1, x3, x4] 79 (0, 0)) →
                w1.cell? ⟨w.heap.size, 0, none⟩ = some (.slice none 0 0) ∧ w1.cell? ⟨w.heap.size + 1, 0, none⟩ = some (.int .i64 0) ∧ w1.cell? ⟨w.heap.size + 1 + 1, 1, none⟩ = some (.int .i64 s.length) ∧ w1.cell? ⟨w.heap.size + 1 + 1, 2, none⟩ = some x3 ∧ w1.frozen? ⟨w.heap.size, 0, none⟩ = false ∧ w1.frozen? ⟨w.heap.size + 1, 0, none⟩ = false := by
              intro w1 hk1 x3 x4 hb1
              have d0 : w1.heap[w.heap.size]? = some (.cells #[.slice none 0 0] 23 (0, 0)) := ((hk1 _ (by omega) (by omega)).trans b0)
              have d1 : w1.heap[w.heap.size + 1]? = some (.cells #[.int .i64 0] 25 (0, 0)) := ((hk1 _ (by omega) (by omega)).trans b1)
              rw [hat] at hb1
              refine ⟨by simp [World.cell?, d0], by simp [World.cell?, d1], by simp [World.cell?, hb1], by simp [World.cell?, hb1], by simp [World.frozen?, d0], by simp [World.frozen?, d1]⟩
            go_wp2_with (first | (go_at_call 67; refine hcon.mono ?_; rintro e' w1 ⟨rfl, o1, o2, o3, hs1, hk1, sa, sn, sc, x4, hb1, hr1⟩; obtain ⟨e0, e1, e2, e3, z0, z1⟩ := hstep w1 hk1 _ x4 hb1) | (go_at_call 68; refine (need_true _ _).mono ?_; rintro e' w' ⟨rfl, rfl⟩))
            have hBw : Below w.heap.size w w' := hB0.trans ⟨o1, o2, o3, hs1, fun k hk => hk1 k (by omega) (by omega)⟩
            have hne0 : ∀ k, k ≠ w.heap.size → k ≠ w.heap.size + 1 → ((w'.setCell ⟨w.heap.size, 0, none⟩ (.slice sa sn sc)).setCell ⟨w.heap.size + 1, 0, none⟩ (.int .i64 0)).heap[k]? = w'.heap[k]? := fun k h0 h1 => by
              rw [Below.heap_setCell _ _ _ _ h1, Below.heap_setCell _ _ _ _ h0]
            have hsz2 : ∀ (w : World) (p : Addr) (v : Value), (w.setCell p v).heap.size = w.heap.size := fun w p v => by simp [World.setCell]
            have q0 : ((w'.setCell ⟨w.heap.size, 0, none⟩ (.slice sa sn sc)).setCell ⟨w.heap.size + 1, 0, none⟩ (.int .i64 0)).cell? ⟨w.heap.size, 0, none⟩ = some (.slice sa sn sc) := by
              have d0 : w'.heap[w.heap.size]? = some (.cells #[.slice none 0 0] 23 (0, 0)) := ((hk1 _ (by omega) (by omega)).trans b0)
              unfold World.cell?
              rw [Below.heap_setCell _ _ _ _ (by simp)]
              simp [World.setCell, Array.getElem?_modify, d0]
            have q1 : ((w'.setCell ⟨w.heap.size, 0, none⟩ (.slice sa sn sc)).setCell ⟨w.heap.size + 1, 0, none⟩ (.int .i64 0)).cell? ⟨w.heap.size + 1, 0, none⟩ = some (.int .i64 0) := by
              have d1 : (w'.setCell ⟨w.heap.size, 0, none⟩ (.slice sa sn sc)).heap[w.heap.size + 1]? = some (.cells #[.int .i64 0] 25 (0, 0)) := by
                rw [Below.heap_setCell _ _ _ _ (by simp)]; exact (hk1 _ (by omega) (by omega)).trans b1
              unfold World.cell?
              simp [World.setCell, Array.getElem?_modify] at d1 ⊢
              simp [d1]
            obtain ⟨Wf, hWf⟩ : ∃ Wf, (w'.setCell ⟨w.heap.size, 0, none⟩ (.slice sa sn sc)).setCell ⟨w.heap.size + 1, 0, none⟩ (.int .i64 0) = Wf := ⟨_, rfl⟩
            rw [hWf] at q0 q1 ⊢
            simp only [hWf] at hne0
            refine leaves_cons (f := 66) (args := #[.pointer (some ⟨w.heap.size, 0, none⟩), .pointer (some ⟨w.heap.size + 1, 0, none⟩)]) (by simp) (by simp [go_sem]) ?_
            refine (Parse_idle _ _ _).mono ?_
            rintro e u' w'' ⟨rfl, rfl, hw⟩
            rw [hw]
            have hfin : R (.returned (.tuple #[.slice sa sn sc, .int .i64 0])) Wf := by
              refine hR Wf _ t.2.2.2.2.1 0 rfl ?_ ?_
              · rw [← hWf]
                exact (hBw.setCell (Nat.le_refl _) _).setCell (by simp) _
              · refine TRep.mono (fun b _ hf => ⟨.inr (.inr (by rcases hf with h | h <;> omega)), ?_⟩) (by rw [← hWf, hsz2, hsz2]; exact Nat.le_refl _) hr1 (fun b hb => absurd hb (by simp))
                exact hne0 b (by rcases hf with h | h <;> omega) (by rcases hf with h | h <;> omega)
            simp [Leaves, settle, results, Tryd.results42, go_sem, q0, q1]
            exact hfin

          · rw [if_neg hat] at h
            cases h
            have hcon := fail_call s t ht hpb W hGW (w.heap.size + 1 + 1) (by omega) b2
            go_enter_defers Tryd.func42, Tryd.ntmps42
            have hstep : ∀ (w1 : World), (∀ b, b < W.heap.size → b ≠ w.heap.size + 1 + 1 → w1.heap[b]? = W.heap[b]?) → ∀ x3 x4 : Value, w1.heap[w.heap.size + 1 + 1]? = some (.cells #[.string (mkS t.2.2.1), .int .i64 t.2.2.2.1, x3, x4] 79 (0, 0)) →
                w1.cell? ⟨w.heap.size + 1 + 1, 1, none⟩ = some (.int .i64 t.2.2.2.1) := by
              intro w1 hk1 x3 x4 hb1
              simp [World.cell?, hb1]
            go_wp2_with (first | (go_at_call 67; refine hcon.mono ?_; rintro e' w1 ⟨rfl, o1, o2, o3, hs1, hk1, sa, sn, sc, x4, hb1, hr1⟩; have e2 := hstep w1 hk1 _ x4 hb1) | (go_at_call 68; refine (need_is _ _ (by simp [hat, hsz]) _).mono ?_; rintro e' w' ⟨rfl, rfl⟩))
            refine hfinal _ _ _ o1 o2 o3 hs1 hk1 (by simp) _ ?_ ?_
            · simp
            · simp
end Go.Eng
