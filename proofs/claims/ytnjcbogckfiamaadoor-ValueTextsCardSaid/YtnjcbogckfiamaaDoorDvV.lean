/- A part of the proof: DvV. -/
import Derived.Test.YtnjcbogckfiamaaDoorD4
import Derived.Shelf.Strings.OnBuilder
import Derived.Sort.Row
namespace Go.Eng
open Go.RowKit
set_option linter.unusedVariables false
set_option linter.unusedSimpArgs false

theorem vals_of {w : World} {F : Nat → Prop} {α : Type} (f : α → Value) : ∀ {l : List α} {vals : List Value} {c : Cnt}, LRep w F (l.map fun x => T.v (f x)) vals c → vals = l.map f
  | [], vals, c, h => by cases h; rfl
  | x :: l, vals, c, h => by
    rw [List.map_cons] at h
    cases h with
    | cons _ _ y ys c1 c2 _ h1 h2 _ =>
      have := TRep.of_v h1
      subst this
      rw [List.map_cons, vals_of f h2]
theorem flat_v {α : Type} (f : α → Value) : ∀ l : List α, (l.map fun x => T.v (f x)).flatMap T.cells = l.map fun x => T.v (f x)
  | [] => rfl
  | x :: l => by rw [List.map_cons, List.flatMap_cons, flat_v f l]; rfl
theorem map_bl (l : List (List UInt8)) : (l.map mkS).map (·.data.toList) = l := by
  rw [List.map_map]
  conv => rhs; rw [← List.map_id l]
  refine List.map_congr_left fun x _ => ?_
  show bl (mkS x) = x
  simp
theorem join_call {X : Ctx} {k : FuncId}
    (hnone : ∀ (a : Option Addr) (c : Nat) (sep : ByteArray) (w : World), Calls X.P k #[.slice a 0 c, .string sep] w fun e w' => e = .returned (.string ⟨#[]⟩) ∧ w' = w)
    (hjoin : ∀ (bk o c : Nat) (xs : List ByteArray) (sep : ByteArray) (w : World), (∀ (j : Nat) x, xs[j]? = some x → w.cell? ⟨bk, o + j, none⟩ = some (.string x)) → bk < w.heap.size → xs.length ≤ 140737488355328 → xs.length ≤ c → (Lib.join (xs.map (·.data.toList)) sep.data.toList).length ≤ 140737488355328 →
      Calls X.P k #[.slice (some ⟨bk, o, none⟩) xs.length c, .string sep] w fun e w' => e = .returned (.string ⟨(Lib.join (xs.map (·.data.toList)) sep.data.toList).toArray⟩) ∧ Below w.heap.size w w')
    (l : List (List UInt8)) (sep : List UInt8) (hN : l.length ≤ 140737488355328) (hlen : (Lib.join l sep).length ≤ 140737488355328) : APure X k ([DT.s (.sl 1 .str) l, .s .str sep].map DT.toT) (DT.s .str (Lib.join l sep)).toT := by
  intro w vals ca F hG hFN hl hca1 hcaN
  cases hl with
  | cons _ _ x xs c1 c2 _ h1 h2 hc =>
    cases h2 with
    | cons _ _ y ys d1 d2 _ h3 h4 hc2 =>
      cases h4 with
      | nil _ hc3 =>
        have hy := TRep.of_v (y := .string (mkS sep)) h3
        subst hy
        have fin : ∀ (w' : World), Below w.heap.size w w' → ∃ v cr, Ending.returned (.string (mkS (Lib.join l sep))) = .returned v ∧ w'.os = w.os ∧ w'.tape = w.tape ∧ w'.output = w.output ∧ w.heap.size ≤ w'.heap.size ∧ (∀ b, b < w.heap.size → ca b = 0 → w'.heap[b]? = w.heap[b]?) ∧
            LRep w' (fun b => (F b ∨ 0 < ca b ∨ w.heap.size ≤ b) ∧ cr b = 0) ((DT.s .str (Lib.join l sep)).toT :: outU 2) (v :: [x, .string (mkS sep)]) cr ∧ (∀ b, cr b ≤ 1) ∧ ∀ b, 0 < cr b → 0 < ca b ∨ w.heap.size ≤ b := by
          intro w' hB
          refine ⟨_, fun _ => 0, rfl, hB.os, hB.tape, hB.output, hB.size, fun b hb _ => hB.block b hb, ?_, fun _ => Nat.zero_le _, fun b hb => absurd hb (by simp)⟩
          exact .cons _ _ _ _ (fun _ => 0) (fun _ => 0) _ (.v _ _ (fun _ => rfl)) (.cons _ _ _ _ (fun _ => 0) (fun _ => 0) _ (.u _ _ (fun _ => rfl)) (.cons _ _ _ _ (fun _ => 0) (fun _ => 0) _ (.u _ _ (fun _ => rfl)) (.nil _ (fun _ => rfl)) (fun _ => rfl)) (fun _ => rfl)) (fun _ => rfl)
        have hD : (DT.s (.sl 1 .str) l).toT = .sl 1 (l.map fun s => T.v (.string (mkS s))) := rfl
        rw [hD] at h1
        generalize hes : (l.map fun s => T.v (Value.string (mkS s))) = es at h1
        cases h1 with
        | slnil _ a cap _ hz =>
          have hl0 : l = [] := List.map_eq_nil_iff.1 hes
          subst hl0
          refine (hnone a cap (mkS sep) w).mono ?_
          rintro e w' ⟨rfl, rfl⟩
          exact fin w' (Below.refl _ _)
        | sl _ _ b n cap vals0 c0 _ hn hcap hF hb hs hv hz hlr hone hc0 hc' =>
          obtain ⟨blk, off, spot⟩ := b
          simp only at hs hb
          subst hs
          have hv0 : vals0 = l.map fun s => Value.string (mkS s) := by
            subst hes
            rw [flat_v (fun s => Value.string (mkS s))] at hlr
            exact vals_of (fun s => Value.string (mkS s)) hlr
          have hnl : n = (l.map mkS).length := by rw [hn, ← hes]; simp
          subst hnl
          refine (hjoin blk off cap (l.map mkS) (mkS sep) w (fun j z hj => ?_) hb (by simpa using hN) hcap (by rw [map_bl]; show (Lib.join l (bl (mkS sep))).length ≤ _; rw [bl_mkS]; exact hlen)).mono ?_
          · have h5 : vals0[j]? = some (.string z) := by
              rw [hv0, List.getElem?_map]
              rw [List.getElem?_map] at hj
              cases hlj : l[j]? with
              | none => rw [hlj] at hj; cases hj
              | some s => rw [hlj] at hj; cases hj; rfl
            have := hv j _ h5
            rwa [addr_add] at this
          · rintro e w' ⟨rfl, hB⟩
            have e1 : (⟨(Lib.join ((l.map mkS).map (·.data.toList)) (mkS sep).data.toList).toArray⟩ : ByteArray) = mkS (Lib.join l sep) := by
              rw [map_bl]
              show mkS (Lib.join l (bl (mkS sep))) = _
              rw [bl_mkS]
            rw [e1]
            exact fin w' hB

def encB8 (b : UInt8) : Value := .int .u8 (b.toNat : Int)
theorem reverse_call {X : Ctx} {f : FuncId} {e : TypeId} (hnil : ∀ w, Calls X.P f #[.slice none 0 0] w fun e' w' => e' = .returned (.tuple #[]) ∧ w' = w)
    (hrev : ∀ (blk cap : Nat) (zs : List UInt8) (w : World), Sort.Holds encB8 w blk 0 zs.toArray → zs.length ≤ 9223372036854775807 → Calls X.P f #[.slice (some ⟨blk, 0, none⟩) zs.length cap] w fun e' w' => e' = .returned (.tuple #[]) ∧ ∃ n, w' = Sort.putRow encB8 (Sort.ahead w n) blk 0 zs.reverse.toArray) (l : List UInt8) :
    ACall X f [(DT.own e .u8 l).toT] (.tup []) [(DT.own e .u8 l.reverse).toT] := by
  intro w vals ca F hG hFN hl hca1 hcaN
  cases hl with
  | cons _ _ x xs c1 c2 _ h1 h2 hc =>
    cases h2 with
    | nil _ hc2 =>
      have hcc : ∀ b, ca b = c1 b := fun b => by rw [hc, hc2]; omega
      have hD : ∀ l : List UInt8, (DT.own e .u8 l).toT = .own e 1 (l.map fun b => T.v (encB8 b)) := fun _ => rfl
      rw [hD] at h1
      rw [hD]
      generalize hes : (l.map fun b => T.v (encB8 b)) = es at h1
      cases h1 with
      | ownnil _ _ _ hz =>
        have hl0 : l = [] := List.map_eq_nil_iff.1 hes
        subst hl0
        refine (hnil w).mono ?_
        rintro e' w' ⟨rfl, rfl⟩
        refine ⟨.tuple #[], fun _ => 0, rfl, rfl, rfl, rfl, Nat.le_refl _, fun _ _ _ => rfl, ?_, fun _ => Nat.zero_le _, fun b hb => absurd hb (by simp)⟩
        exact .cons _ _ _ _ (fun _ => 0) (fun _ => 0) _ (.tup _ _ _ (.nil _ (fun _ => rfl))) (.cons _ _ _ _ (fun _ => 0) (fun _ => 0) _ (.ownnil _ _ _ (fun _ => rfl)) (.nil _ (fun _ => rfl)) (fun _ => rfl)) (fun _ => rfl)
      | own _ _ _ g n cap cur c0 _ hg hn hcap hm hcur hz hlr hone hcnt =>
        have hg1 : 0 < ca g := by rw [hcc, hcnt, if_pos rfl]; omega
        have hfl : es.flatMap T.cells = es := by rw [← hes]; exact flat_v encB8 l
        rw [hfl] at hlr
        have hgb : ∀ b, ca b = if b = g then 1 else 0 := fun b => by
          rw [hcc, hcnt, all_zero (by rw [← hes]; simp [T.flat]) hlr]; rfl
        have hnl : n = l.length := by rw [hn, ← hes, List.length_map]
        have hvals : cur.toList.take (n * 1) = l.map encB8 := by rw [← hes] at hlr; exact vals_of encB8 hlr
        rw [Nat.mul_one] at hvals hcur
        subst hnl
        have hsz : l.length ≤ cur.size := by omega
        have hget : ∀ j, j < l.length → cur[j]? = some (encB8 l[j]!) := fun j hj => by
          have h5 : (cur.toList.take l.length)[j]? = (l.map encB8)[j]? := by rw [hvals]
          rw [List.getElem?_take, if_pos hj, Array.getElem?_toList, List.getElem?_map, List.getElem?_eq_getElem hj] at h5
          rw [h5, getElem!_pos l j hj]; rfl
        have hH : Sort.Holds encB8 w g 0 l.toArray := by
          intro j hj
          simp only [List.size_toArray] at hj
          refine ⟨?_, by simp [World.frozen?, hg]⟩
          rw [Nat.zero_add, cell_at hg, hget j hj]
          simp
        have hmx : l.length ≤ 9223372036854775807 := by unfold maxLen at hm; omega
        refine (hrev g cap l w hH hmx).mono ?_
        rintro e' w' ⟨rfl, m, rfl⟩
        have hheap : ∀ b, (Sort.putRow encB8 (Sort.ahead w m) g 0 l.reverse.toArray).heap[b]? = if b = g then some (.cells (Sort.putCells encB8 0 l.reverse.toArray cur) e (0, 0)) else w.heap[b]? := by
          intro b
          show (w.heap.modify g (Sort.onCells (Sort.putCells encB8 0 l.reverse.toArray)))[b]? = _
          rw [Array.getElem?_modify]
          by_cases hbg : b = g
          · subst hbg
            rw [if_pos rfl, if_pos rfl, hg]; rfl
          · rw [if_neg (fun e => hbg e.symm), if_neg hbg]
        have hsize : (Sort.putRow encB8 (Sort.ahead w m) g 0 l.reverse.toArray).heap.size = w.heap.size := by
          show (w.heap.modify g _).size = _
          rw [Array.size_modify]
        refine ⟨.tuple #[], fun b => if b = g then 1 else 0, rfl, rfl, rfl, rfl, by rw [hsize]; exact Nat.le_refl _, fun b _ h0 => by
          rw [hheap, if_neg (fun eb => by rw [eb] at h0; omega)], ?_, fun b => by
          show (if b = g then 1 else 0) ≤ 1
          split <;> omega, fun b hb => .inl (by rw [hgb]; exact hb)⟩
        refine .cons _ _ _ _ (fun _ => 0) (fun b => if b = g then 1 else 0) _ (.tup _ _ _ (.nil _ (fun _ => rfl))) (.cons _ _ _ _ (fun b => if b = g then 1 else 0) (fun _ => 0) _ ?_ (.nil _ (fun _ => rfl)) (fun _ => rfl)) (fun b => by simp)
        have hput : (Sort.putCells encB8 0 l.reverse.toArray cur).toList.take (l.length * 1) = l.reverse.map encB8 := by
          rw [Nat.mul_one]
          refine List.ext_getElem? fun j => ?_
          rw [List.getElem?_take, Array.getElem?_toList, List.getElem?_map]
          by_cases hj : j < l.length
          · rw [if_pos hj]
            unfold Sort.putCells
            rw [Array.getElem?_mapIdx, Array.getElem?_eq_getElem (show j < cur.size by omega)]
            simp only [Option.map_some, Nat.zero_le, true_and, Nat.zero_add, List.size_toArray, List.length_reverse, if_pos hj, Nat.sub_zero]
            rw [List.getElem?_eq_getElem (by simpa using hj)]
            simp [getElem!_pos, hj]
          · rw [if_neg hj, List.getElem?_eq_none (by simpa using hj)]; rfl
        refine .own e 1 _ g l.length cap _ (fun _ => 0) _ (by rw [hheap, if_pos rfl]) (by rw [List.length_map, List.length_reverse]) hcap hm (by unfold Sort.putCells; rw [Array.size_mapIdx, Nat.mul_one]; exact hcur) (fun t ht => by obtain ⟨b, _, rfl⟩ := List.mem_map.1 ht; rfl) ?_ ?_ (fun b => by simp)
        · rw [hput, flat_v encB8]
          have := zeros_rep (w := Sort.putRow encB8 (Sort.ahead w m) g 0 l.reverse.toArray) (F := fun b => (F b ∨ 0 < ca b ∨ w.heap.size ≤ b) ∧ (if b = g then 1 else 0) = 0) (l.reverse.map encB8)
          rw [List.map_map] at this
          exact this
        · intro y hy
          rw [hput] at hy
          obtain ⟨b, _, rfl⟩ := List.mem_map.1 hy
          rfl
end Go.Eng
