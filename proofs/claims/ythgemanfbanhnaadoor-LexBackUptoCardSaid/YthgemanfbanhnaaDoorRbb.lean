/- LexBack: for every list of tokens and every text (together of bulk at most 1048576, as the given Upto row says) the law answers true: tokens of laid tokens are these, but for their places; what was quoted is told; what is taken is quoted. strings.Join and slices.Reverse are taken by the library's own contracts, laid in plain words at this program. Conditions: those of the given row (the listed table lex.keys lies as the program lays it; the bulk) and no others. -/
import Derived.Test.YthgemanfbanhnaaDoorPt9
import Derived.Test.YthgemanfbanhnaaDoorLy2
import Derived.Test.YthgemanfbanhnaaDoorD4
import Derived.Test.YthgemanfbanhnaaDoorCards
import Derived.Test.YthgemanfbanhnaaDoorTie
namespace Go.Proofs.YthgemanfbanhnaaDoor.lexBackUpto
open Go.ChangeShapes Go.WideShapes Go.ChangeAt Go.RowKit
open Go.Eng

theorem own : ownKnob Tryd.prog.godebug = none := by kernel_rfl
theorem lays {W : World} (h : laidMetH Tryd.prog Rows.lexBackUptoRow.laid W) : laidG 1 globs W := by
  have h : laidMet Tryd.prog [("onceweb/lex.keys", strTab gl_onceweb_lex_keys)] W := h
  have c0 := laid_strs h (.head _) (g := 0) (t := 52) (e := 9) (n := 19) (by kernel_rfl) (by kernel_rfl) (by kernel_rfl) (by kernel_rfl) (by kernel_rfl) (by kernel_rfl)
  refine ⟨cell_lt (o := 0) (c0 0 _ rfl), fun p hp k x hx => ?_⟩
  simp only [globs, List.mem_cons, List.not_mem_nil, or_false] at hp
  rcases hp with rfl
  · exact c0 k x hx

set_option maxRecDepth 100000 in
theorem contract (H : Type) (enc : TypeId × Value → H) (W : World) (base : Nat) (args : Array Value) (ds gs : List (DataW H)) (before : List MemPlace)
    (hval : ∀ (j : Nat) t v, Tryd.f7.params[j]? = some t → args[j]? = some v → Value.okWide Tryd.prog W .any base t v)
    (hW : DataW.Whole enc Tryd.prog Tryd.f7.params.toList Rows.lexBackSpec.vars false W args.toList ds gs before) (hk : ∀ k, (Rows.OpenSpec.upto Rows.lexBackSpec).cond = some k → k H (ds ++ gs) = true) (hz : (DataW.weightsEach Tryd.prog (Tryd.f7.params.toList ++ (Rows.OpenSpec.upto Rows.lexBackSpec).bare.plain.varTypes Tryd.prog) (ds ++ gs)).all (· ≤ reachBytes) = true) (hL : laidMetH Tryd.prog Rows.lexBackUptoRow.laid W) :
    Calls Tryd.prog 7 args W fun e W' => ∃ v, e = .returned v ∧ Rows.lexBackSpec.post enc Tryd.prog Tryd.f7 false true false false W args v W' := by
  have hW' := hW
  obtain ⟨p, q, hA, hV, _, _, _⟩ := hW
  obtain ⟨rfl, rfl⟩ := trodVars_none hV
  have hk2 : Rows.uptoSmall H ds = true := by have := hk _ rfl; rwa [List.append_nil] at this
  have hk3 : Rows.uptoBulkAll ds ≤ 1048576 := of_decide_eq_true hk2
  have ev : (Rows.OpenSpec.upto Rows.lexBackSpec).bare.plain.varTypes Tryd.prog = [] := rfl
  rw [ev, List.append_nil, List.append_nil] at hz
  rw [Tryd.params7] at hA hval hz
  have hval2 : ∀ (j : Nat) t v, [26, 9][j]? = some t → args.toList[j]? = some v → Value.okWide Tryd.prog W .any base t v := fun j t v ht hv => by
    rw [Array.getElem?_toList] at hv
    exact hval j t v (by rw [← ht]; exact (List.getElem?_toArray ..)) hv
  have hlen : ds.length = 2 := by rw [trodAll_len hA]; rfl
  obtain ⟨⟨x1, x2, _⟩, hs, hl, hm⟩ : ∃ (l : (rowOf [(.sl 4 tyToken), .str]).I), szOk (rowOf [(.sl 4 tyToken), .str]) l ∧ LRep W (fun _ => True) ((dts [(.sl 4 tyToken), .str] l).map DT.toT) args.toList (fun _ => 0) ∧ ∀ bk : Bulk H, msz (rowOf [(.sl 4 tyToken), .str]) l ≤ bk.BA ds := by
    obtain ⟨l, h1, h2, h3⟩ := args_tree (P := Tryd.prog) (W := W) [(.sl 4 tyToken), .str] (ts := [26, 9]) (by kernel_rfl) hval2 hA hz
    exact ⟨l, h2, h1, h3⟩
  obtain ⟨s1, s2, _⟩ := hs
  have hb := hm (⟨Rows.uptoBulk, Rows.uptoBulkAll, fun _ => by simp only [Rows.uptoBulk]; exact Nat.le_refl _, fun x => by cases x <;> (simp only [Rows.uptoBulk]; omega), by simp [Rows.uptoBulk], fun _ _ => by simp only [Rows.uptoBulk]; omega, fun _ => by simp only [Rows.uptoBulk]; omega, fun _ _ => by simp only [Rows.uptoBulkAll]; exact Nat.le_refl _⟩ : Bulk H)
  have hb := Nat.le_trans hb hk3
  simp only [msz] at hb
  have hc := walk_of (ok_law01_LexBack x1 x2 true (LexBack_pure x1 x2 (toks_sz2 (l := x1) (Nat.le_trans (Nat.le_add_right _ _) hb) s1.2).1 (toks_sz2 (l := x1) (Nat.le_trans (Nat.le_add_right _ _) hb) s1.2).2 (by omega))) (lays hL) hl
  rw [Array.toArray_toList] at hc
  refine hc.mono fun e W' ⟨he, bel⟩ => ?_
  subst he
  refine ⟨_, rfl, law_post (by kernel_rfl) (by kernel_rfl) rfl Tryd.underlying4 rfl bel hW' ?_⟩
  match ds, hlen with
  | [_, _], _ => rfl

noncomputable def laidWorld (os : Os) : World :=
  { World.holding Tryd.prog os ⟨#[], #[], []⟩ with heap := ((World.holding Tryd.prog os ⟨#[], #[], []⟩).heap.modify 0 fun
      | .cells _ t frozen => .cells (gl_onceweb_lex_keys.map fun s => Value.string (mkS s)).toArray t frozen
      | o => o) }
theorem laid_met (os : Os) : laidMet Tryd.prog Rows.lexBackUptoRow.laid ((laidWorld os).forCall (fun _ _ => 0) ⟨#[], #[.slice none 0 0, .string .empty], []⟩).memory :=
  laidMet_of_run' 8 (by kernel_rfl) (by kernel_rfl)
theorem reads (os : Os) {H : Type} (enc : TypeId × Value → H) : ∃ places, DataW.whole enc Tryd.prog ((laidWorld os).forCall (fun _ _ => 0) ⟨#[], #[.slice none 0 0, .string .empty], []⟩).memory Tryd.f7.params.toList Rows.lexBackSpec.vars false #[.slice none 0 0, .string .empty].toList 8 = some ([.nil, .lit (.string [])], [], places) :=
  ⟨[], by kernel_rfl⟩

set_option maxRecDepth 100000 in
theorem lifted (os : Os) (started : os.Started) (H : Type) (enc : TypeId × Value → H) (F : Stop.Interp) :
    ReturnsInHanded {} Tryd.checked os 7 .any ((Rows.OpenSpec.upto Rows.lexBackSpec).preRow enc Tryd.prog Tryd.f7 Rows.lexBackUptoRow.domain false Rows.lexBackUptoRow.laid) (((Rows.OpenSpec.upto Rows.lexBackSpec).at F).post enc Tryd.prog Tryd.f7 false true false false) := by
  obtain ⟨places, hx⟩ := reads os enc
  refine returnsInHanded_of_row (C := Tryd.checked) (s := Rows.OpenSpec.upto Rows.lexBackSpec) own started (by kernel_rfl) Tryd.func7
    (witness_row_at (enc := enc) (C := Tryd.checked) false (laidWorld os) #[.slice none 0 0, .string .empty] rfl (by kernel_rfl) (by kernel_rfl) (by kernel_rfl)
      (OpenSpec.preRow_of_cond 8 hx (by kernel_rfl) (fun k hk => by cases hk; rfl) (by kernel_rfl) (laid_met os))) ?_
  intro W base args ds gs before hval hW _ hk hz hL _ _
  exact contract H enc W base args ds gs before hval hW hk hz hL

theorem said : Rows.LexBackUptoSaid :=
  OpenClaim.holds_of_cond 7 Tryd.f7 rfl rfl rfl rfl rfl rfl rfl ⟨rfl, rfl, rfl, rfl, rfl⟩ rfl rfl rfl rfl rfl (by kernel_rfl) Tryd.func7 (by kernel_rfl)
    (of_decide_eq_true (by kernel_rfl)) (by unfold Func.isWrapper; first | (rw [if_pos (by decide +kernel)]; kernel_rfl) | (rw [if_neg (by decide +kernel)]; exact ⟨rfl, rfl⟩))
    (fun os started H enc _ F => by rw [OpenClaim.pre_eq_preRow]; exact lifted os started H enc F)

theorem wants : (Tryd.f7.params.toList.all fun t => !Tryd.prog.wantsStandIn t) = true := by kernel_rfl
theorem plain (f : FuncId) (fn : Func) (hf : Tryd.pinned.checked.prog.funcNamed "onceweb/onceweblaw01.LexBack" = some f) (hfn : Tryd.pinned.checked.prog.funcs[f]? = some fn) :
    false = Tryd.pinned.checked.prog.looks [] ∧ ∀ (j : Nat) t, fn.params[j]? = some t → Tryd.pinned.checked.prog.wantsStandIn t = false := by
  obtain rfl : f = 7 := Option.some.inj ((show Tryd.prog.funcNamed "onceweb/onceweblaw01.LexBack" = some 7 by kernel_rfl).symm.trans hf) |>.symm
  obtain rfl : fn = Tryd.f7 := (Option.some.inj (Tryd.func7.symm.trans hfn)).symm
  refine ⟨by kernel_rfl, fun j t ht => ?_⟩
  have := List.all_eq_true.1 wants t (Array.mem_toList_iff.2 (Array.mem_of_getElem? ht))
  exact (by simpa using this : Tryd.prog.wantsStandIn t = false)

theorem card : Rows.LexBackUptoCardSaid :=
  Claim7.holds_tied_plain_at .later [] _ _ _ _ said (fun _ h => by cases h) (by kernel_rfl) (fun _ h => by cases h) lexBackUpto_row_tie rfl ⟨rfl, rfl⟩ (by kernel_rfl) rfl plain (by kernel_rfl)
end Go.Proofs.YthgemanfbanhnaaDoor.lexBackUpto
