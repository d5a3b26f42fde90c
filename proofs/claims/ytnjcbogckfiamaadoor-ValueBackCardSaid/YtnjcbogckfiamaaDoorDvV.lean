/- A part of the proof: DvV. -/
import Derived.Test.YtnjcbogckfiamaaDoorD4
import Derived.Shelf.Strings.OnBuilder
import Derived.Sort.Row
namespace Go.Eng
open Go.RowKit
set_option linter.unusedVariables false
set_option linter.unusedSimpArgs false
theorem vals_of {w:World} {F:Nat → Prop} {α:Type} (f:α → Value):∀ {l:List α} {vals:List Value} {c:Cnt},LRep w F (l.map fun x=>T.v (f x)) vals c → vals = l.map f
 | [],vals,c,h=>by cases h; rfl
 | x :: l,vals,c,h=>by
  rw [List.map_cons] at h
  cases h with
  | cons _ _ y ys c1 c2 _ h1 h2 _ =>
   have := TRep.of_v h1
   subst this
   rw [List.map_cons,vals_of f h2]
theorem flat_v {α:Type} (f:α → Value):∀ l:List α,(l.map fun x=>T.v (f x)).flatMap T.cells = l.map fun x=>T.v (f x)
 | []=>rfl
 | x :: l=>by rw [List.map_cons,List.flatMap_cons,flat_v f l]; rfl
theorem map_bl (l:List (List UInt8)):(l.map mkS).map (·.data.toList) = l := by
 rw [List.map_map]
 conv=>rhs; rw [← List.map_id l]
 refine List.map_congr_left fun x _=>?_
 show bl (mkS x) = x
 simp
theorem join_call {X:Ctx} {k:FuncId}
  (hnone:∀ (a:Option Addr) (c:Nat) (sep:ByteArray) (w:World),Calls X.P k #[.slice a 0 c,.string sep] w fun e w'=>e = .returned (.string ⟨#[]⟩) ∧ w' = w)
  (hjoin:∀ (bk o c:Nat) (xs:List ByteArray) (sep:ByteArray) (w:World),(∀ (j:Nat) x,xs[j]? = some x → w.cell? ⟨bk,o + j,none⟩ = some (.string x)) → bk < w.heap.size → xs.length ≤ 140737488355328 → xs.length ≤ c → (Lib.join (xs.map (·.data.toList)) sep.data.toList).length ≤ 140737488355328 →
   Calls X.P k #[.slice (some ⟨bk,o,none⟩) xs.length c,.string sep] w fun e w'=>e = .returned (.string ⟨(Lib.join (xs.map (·.data.toList)) sep.data.toList).toArray⟩) ∧ Below w.heap.size w w')
  (l:List (List UInt8)) (sep:List UInt8) (hN:l.length ≤ 140737488355328) (hlen:(Lib.join l sep).length ≤ 140737488355328):APure X k ([DT.s (.sl 1 .str) l,.s .str sep].map DT.toT) (DT.s .str (Lib.join l sep)).toT := by
 intro w vals ca F hG hFN hl hca1 hcaN
 cases hl with
 | cons _ _ x xs c1 c2 _ h1 h2 hc =>
  cases h2 with
  | cons _ _ y ys d1 d2 _ h3 h4 hc2 =>
   cases h4 with
   | nil _ hc3 =>
    have hy := TRep.of_v (y := .string (mkS sep)) h3
    subst hy
    have fin:∀ (w':World),Below w.heap.size w w' → ∃ v cr,Ending.returned (.string (mkS (Lib.join l sep))) = .returned v ∧ w'.os = w.os ∧ w'.tape = w.tape ∧ w'.output = w.output ∧ w.heap.size ≤ w'.heap.size ∧ (∀ b,b < w.heap.size → ca b = 0 → w'.heap[b]? = w.heap[b]?) ∧
      LRep w' (fun b=>(F b ∨ 0 < ca b ∨ w.heap.size ≤ b) ∧ cr b = 0) ((DT.s .str (Lib.join l sep)).toT :: outU 2) (v :: [x,.string (mkS sep)]) cr ∧ (∀ b,cr b ≤ 1) ∧ ∀ b,0 < cr b → 0 < ca b ∨ w.heap.size ≤ b := by
     intro w' hB
     refine ⟨_,fun _=>0,rfl,hB.os,hB.tape,hB.output,hB.size,fun b hb _=>hB.block b hb,?_,fun _=>Nat.zero_le _,fun b hb=>absurd hb (by simp)⟩
     exact .cons _ _ _ _ (fun _=>0) (fun _=>0) _ (.v _ _ (fun _=>rfl)) (.cons _ _ _ _ (fun _=>0) (fun _=>0) _ (.u _ _ (fun _=>rfl)) (.cons _ _ _ _ (fun _=>0) (fun _=>0) _ (.u _ _ (fun _=>rfl)) (.nil _ (fun _=>rfl)) (fun _=>rfl)) (fun _=>rfl)) (fun _=>rfl)
    have hD:(DT.s (.sl 1 .str) l).toT = .sl 1 (l.map fun s=>T.v (.string (mkS s))) := rfl
    rw [hD] at h1
    generalize hes:(l.map fun s=>T.v (Value.string (mkS s))) = es at h1
    cases h1 with
    | slnil _ a cap _ hz =>
     have hl0:l = [] := List.map_eq_nil_iff.1 hes
     subst hl0
     refine (hnone a cap (mkS sep) w).mono ?_
     rintro e w' ⟨rfl,rfl⟩
     exact fin w' (Below.refl _ _)
    | sl _ _ b n cap vals0 c0 _ hn hcap hF hb hs hv hz hlr hone hc0 hc' =>
     obtain ⟨blk,off,spot⟩ := b
     simp only at hs hb
     subst hs
     have hv0:vals0 = l.map fun s=>Value.string (mkS s) := by
      subst hes
      rw [flat_v (fun s=>Value.string (mkS s))] at hlr
      exact vals_of (fun s=>Value.string (mkS s)) hlr
     have hnl:n = (l.map mkS).length := by rw [hn,← hes]; simp
     subst hnl
     refine (hjoin blk off cap (l.map mkS) (mkS sep) w (fun j z hj=>?_) hb (by simpa using hN) hcap (by rw [map_bl]; show (Lib.join l (bl (mkS sep))).length ≤ _; rw [bl_mkS]; exact hlen)).mono ?_
     ·have h5:vals0[j]? = some (.string z) := by
       rw [hv0,List.getElem?_map]
       rw [List.getElem?_map] at hj
       cases hlj:l[j]? with
       | none=>rw [hlj] at hj; cases hj
       | some s=>rw [hlj] at hj; cases hj; rfl
      have := hv j _ h5
      rwa [addr_add] at this
     ·rintro e w' ⟨rfl,hB⟩
      have e1:(⟨(Lib.join ((l.map mkS).map (·.data.toList)) (mkS sep).data.toList).toArray⟩:ByteArray) = mkS (Lib.join l sep) := by
       rw [map_bl]
       show mkS (Lib.join l (bl (mkS sep))) = _
       rw [bl_mkS]
      rw [e1]
      exact fin w' hB
end Go.Eng
