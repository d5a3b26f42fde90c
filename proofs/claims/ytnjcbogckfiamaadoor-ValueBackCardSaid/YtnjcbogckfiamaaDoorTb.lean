/- A part of the proof: Tb. -/
import Derived.Test.YtnjcbogckfiamaaDoorDvV
import Derived.Test.YtnjcbogckfiamaaDoorD4
import Derived.Lib.LaidTab
import Derived.Shelf.Strconv.Itoa3
namespace Go.Eng
open Go.RowKit Go.Sort
set_option linter.unusedVariables false
set_option linter.unusedSimpArgs false
theorem tabIs_keep {P:Program} {N g:Nat} {name:String} {k:IntKind} {zs:List Int} (hg:P.globalNamed name = some g) (hN:g < N) (w w':World) (hb:∀ b,b < N → w'.heap[b]? = w.heap[b]?) (h:Lib.TabIs P w name k zs):Lib.TabIs P w' name k zs := by
 unfold Lib.TabIs World.var? at *
 rw [hg] at h ⊢
 simp only [Option.bind_some] at h ⊢
 rw [hb g hN]; exact h
def mkCtxT (P:Program) (N:Nat) (gt:List (Nat × Glob)) (h:globsOk N gt = true) (T:World → Prop) (hT:∀ w w':World,(∀ b,b < N → w'.heap[b]? = w.heap[b]?) → T w → T w'):Ctx where
 P := P
 N := N
 G := fun w=>laidG N gt w ∧ T w
 gl := fun g=>(look gt g).map Glob.cells
 hN := fun w h=>h.1.1
 hG := fun w w' hb hs hw=>⟨(mkCtx P N gt h).hG w w' hb hs hw.1,hT w w' hb hw.2⟩
 hgl := fun g cs hg=>by
  obtain ⟨h1,h2⟩ := (mkCtx P N gt h).hgl g cs hg
  exact ⟨h1,fun w F hw hF=>h2 w F hw.1 hF⟩
theorem tabIs_laid {P:Program} {W:World} {l:List (String × DataW Unit)} {name:String} {kk:IntKind} {zs:List Int} {g:Nat} {t e:TypeId} {n:Nat} (h:laidMet P l W) (hm:(name,Lib.tabData kk zs) ∈ l)
  (hg:P.globalNamed name = some g) (hty:(P.globals[g]?).map (·.type) = some t) (ht:P.underlying t = some (.array n e)) (he:P.underlying e = some (.int kk)) (hce:P.cellsOf e = 1) (hct:P.cellsOf t = n):Lib.TabIs P W name kk zs := by
 obtain ⟨ps,h,_⟩ := h
 obtain ⟨g',t',cs,fuel,p,hg',ht',hvar,hd⟩ := laid_at h _ hm
 obtain rfl := Option.some.inj (hg.symm.trans hg')
 obtain rfl := Option.some.inj (hty.symm.trans ht')
 have hc := Lib.cells_of_tab ht he hce hct hd
 unfold Lib.TabIs
 rw [hvar,← hc]
theorem itoa_call {X:Ctx} {k:FuncId}
  (hit:∀ (n:Int) (w:World),-9223372036854775808 ≤ n → n ≤ 9223372036854775807 → X.G w → Calls X.P k #[.int .i64 n] w fun e w'=>e = .returned (.string ⟨(Lib.itoa n).toArray⟩) ∧ ∃ k os,w' = grow (w.drewN k) os)
  (n:Int) (h0 : -9223372036854775808 ≤ n) (h1:n ≤ 9223372036854775807):APure X k ([DT.s (.int .i64) n].map DT.toT) (DT.s .str (Lib.itoa n)).toT := by
 intro w vals ca F hG hFN hl hca1 hcaN
 cases hl with
 | cons _ _ x xs c1 c2 _ q1 q2 hc =>
  cases q2 with
  | nil _ hc2 =>
   have hx := TRep.of_v (y := .int .i64 n) q1
   subst hx
   refine (hit n w h0 h1 hG).mono ?_
   rintro e w' ⟨rfl,q,os,rfl⟩
   have hB:Below w.heap.size w (grow (w.drewN q) os) := by
    have h2:Below w.heap.size w (w.drewN q) := ⟨rfl,rfl,rfl,Nat.le_refl _,fun _ _=>rfl⟩
    refine ⟨h2.os,h2.tape,h2.output,Nat.le_trans h2.size (by simp [grow]),fun b hb=>?_⟩
    have hlt:b < (w.drewN q).heap.size := Nat.lt_of_lt_of_le hb h2.size
    rw [← h2.block b hb]
    simp only [grow]
    rw [Array.getElem?_append_left hlt]
   refine ⟨_,fun _=>0,rfl,hB.os,hB.tape,hB.output,hB.size,fun b hb _=>hB.block b hb,?_,fun _=>Nat.zero_le _,fun b hb=>absurd hb (by simp)⟩
   exact .cons _ _ _ _ (fun _=>0) (fun _=>0) _ (.v _ _ (fun _=>rfl)) (.cons _ _ _ _ (fun _=>0) (fun _=>0) _ (.u _ _ (fun _=>rfl)) (.nil _ (fun _=>rfl)) (fun _=>rfl)) (fun _=>rfl)
end Go.Eng
