/- LexBegins: for every text and every number the law answers true: a beginning of a text that ends where one of its tokens begins has just the tokens that stand ahead of that place. Conditions: those of the given row (the listed table lex.keys lies as the program lays it) and no others. -/
import Derived.Test.YthgemanfbanhnaaDoorPt4
import Derived.Test.YthgemanfbanhnaaDoorLx1
import Derived.Test.YthgemanfbanhnaaDoorD4
import Derived.Test.YthgemanfbanhnaaDoorCards
import Derived.Test.YthgemanfbanhnaaDoorTie
namespace Go.Proofs.YthgemanfbanhnaaDoor.lexBegins
open Go.ChangeShapes Go.WideShapes Go.ChangeAt Go.RowKit
open Go.Eng

theorem own : ownKnob Tryd.prog.godebug = none := by kernel_rfl
theorem lays {W : World} (h : laidMetH Tryd.prog Rows.lexBeginsRow.laid W) : laidG 1 globs W := by
  have h : laidMet Tryd.prog [("onceweb/lex.keys", strTab gl_onceweb_lex_keys)] W := h
  have c0 := laid_strs h (.head _) (g := 0) (t := 52) (e := 9) (n := 19) (by kernel_rfl) (by kernel_rfl) (by kernel_rfl) (by kernel_rfl) (by kernel_rfl) (by kernel_rfl)
  refine ⟨cell_lt (o := 0) (c0 0 _ rfl), fun p hp k x hx => ?_⟩
  simp only [globs, List.mem_cons, List.not_mem_nil, or_false] at hp
  rcases hp with rfl
  · exact c0 k x hx

set_option maxRecDepth 100000 in
theorem contract (H : Type) (enc : TypeId × Value → H) (W : World) (base : Nat) (args : Array Value) (ds gs : List (DataW H)) (before : List MemPlace)
    (hval : ∀ (j : Nat) t v, Tryd.f5.params[j]? = some t → args[j]? = some v → Value.okWide Tryd.prog W .any base t v)
    (hW : DataW.Whole enc Tryd.prog Tryd.f5.params.toList Rows.lexBeginsSpec.vars false W args.toList ds gs before) (hz : (DataW.weightsEach Tryd.prog (Tryd.f5.params.toList ++ (OpenSpec.ofChange Rows.lexBeginsSpec).bare.plain.varTypes Tryd.prog) (ds ++ gs)).all (· ≤ reachBytes) = true) (hL : laidMetH Tryd.prog Rows.lexBeginsRow.laid W) :
    Calls Tryd.prog 5 args W fun e W' => ∃ v, e = .returned v ∧ Rows.lexBeginsSpec.post enc Tryd.prog Tryd.f5 false true false false W args v W' := by
  have hW' := hW
  obtain ⟨p, q, hA, hV, _, _, _⟩ := hW
  obtain ⟨rfl, rfl⟩ := trodVars_none hV
  have ev : (OpenSpec.ofChange Rows.lexBeginsSpec).bare.plain.varTypes Tryd.prog = [] := rfl
  rw [ev, List.append_nil, List.append_nil] at hz
  rw [Tryd.params5] at hA hval hz
  have hval2 : ∀ (j : Nat) t v, [9, 3][j]? = some t → args.toList[j]? = some v → Value.okWide Tryd.prog W .any base t v := fun j t v ht hv => by
    rw [Array.getElem?_toList] at hv
    exact hval j t v (by rw [← ht]; exact (List.getElem?_toArray ..)) hv
  have hlen : ds.length = 2 := by rw [trodAll_len hA]; rfl
  obtain ⟨⟨x1, x2, _⟩, hs, hl⟩ : ∃ (l : (rowOf [.str, (.int .i64)]).I), szOk (rowOf [.str, (.int .i64)]) l ∧ LRep W (fun _ => True) ((dts [.str, (.int .i64)] l).map DT.toT) args.toList (fun _ => 0) := by
    obtain ⟨l, h1, h2⟩ := args_tree (P := Tryd.prog) (W := W) [.str, (.int .i64)] (ts := [9, 3]) (by kernel_rfl) hval2 hA hz
    exact ⟨l, h2, h1⟩
  obtain ⟨s1, s2, _⟩ := hs
  have hc := walk_of (ok_law01_LexBegins x1 x2 true (LexBegins_pure x1 x2)) (lays hL) hl
  rw [Array.toArray_toList] at hc
  refine hc.mono fun e W' ⟨he, bel⟩ => ?_
  subst he
  refine ⟨_, rfl, law_post (by kernel_rfl) (by kernel_rfl) rfl Tryd.underlying4 rfl bel hW' ?_⟩
  match ds, hlen with
  | [_, _], _ => rfl

noncomputable def laidWorld (os : Os) : World :=
  { World.holding Tryd.prog os ⟨#[], #[], []⟩ with heap := ((World.holding Tryd.prog os ⟨#[], #[], []⟩).heap.modify 0 fun
      | .cells _ t frozen => .cells (gl_onceweb_lex_keys.map fun s => Value.string (mkS s)).toArray t frozen
      | o => o) }
theorem laid_met (os : Os) : laidMet Tryd.prog Rows.lexBeginsRow.laid ((laidWorld os).forCall (fun _ _ => 0) ⟨#[], #[.string .empty, .int .i64 0], []⟩).memory :=
  laidMet_of_run' 8 (by kernel_rfl) (by kernel_rfl)
theorem reads (os : Os) {H : Type} (enc : TypeId × Value → H) : ∃ places, DataW.whole enc Tryd.prog ((laidWorld os).forCall (fun _ _ => 0) ⟨#[], #[.string .empty, .int .i64 0], []⟩).memory Tryd.f5.params.toList Rows.lexBeginsSpec.vars false #[.string .empty, .int .i64 0].toList 8 = some ([.lit (.string []), .lit (.int .i64 0)], [], places) :=
  ⟨[], by kernel_rfl⟩

set_option maxRecDepth 100000 in
theorem lifted (os : Os) (started : os.Started) (H : Type) (enc : TypeId × Value → H) (F : Stop.Interp) :
    ReturnsInHanded {} Tryd.checked os 5 .any ((OpenSpec.ofChange Rows.lexBeginsSpec).preRow enc Tryd.prog Tryd.f5 Rows.lexBeginsRow.domain false Rows.lexBeginsRow.laid) (((OpenSpec.ofChange Rows.lexBeginsSpec).at F).post enc Tryd.prog Tryd.f5 false true false false) := by
  obtain ⟨places, hx⟩ := reads os enc
  refine returnsInHanded_of_row (C := Tryd.checked) (s := OpenSpec.ofChange Rows.lexBeginsSpec) own started (by kernel_rfl) Tryd.func5
    (witness_row_at (enc := enc) (C := Tryd.checked) false (laidWorld os) #[.string .empty, .int .i64 0] rfl (by kernel_rfl) (by kernel_rfl) (by kernel_rfl)
      (OpenSpec.preRow_of_cond 8 hx (by kernel_rfl) (fun k hk => by cases hk) (by kernel_rfl) (laid_met os))) ?_
  intro W base args ds gs before hval hW _ _ hz hL _ _
  exact contract H enc W base args ds gs before hval hW hz hL

theorem said : Rows.LexBeginsSaid :=
  OpenClaim.holds_of_cond 5 Tryd.f5 rfl rfl rfl rfl rfl rfl rfl ⟨rfl, rfl, rfl, rfl, rfl⟩ rfl rfl rfl rfl rfl (by kernel_rfl) Tryd.func5 (by kernel_rfl)
    (of_decide_eq_true (by kernel_rfl)) (by unfold Func.isWrapper; first | (rw [if_pos (by decide +kernel)]; kernel_rfl) | (rw [if_neg (by decide +kernel)]; exact ⟨rfl, rfl⟩))
    (fun os started H enc _ F => by rw [OpenClaim.pre_eq_preRow]; exact lifted os started H enc F)

theorem wants : (Tryd.f5.params.toList.all fun t => !Tryd.prog.wantsStandIn t) = true := by kernel_rfl
theorem plain (f : FuncId) (fn : Func) (hf : Tryd.pinned.checked.prog.funcNamed "onceweb/onceweblaw01.LexBegins" = some f) (hfn : Tryd.pinned.checked.prog.funcs[f]? = some fn) :
    false = Tryd.pinned.checked.prog.looks [] ∧ ∀ (j : Nat) t, fn.params[j]? = some t → Tryd.pinned.checked.prog.wantsStandIn t = false := by
  obtain rfl : f = 5 := Option.some.inj ((show Tryd.prog.funcNamed "onceweb/onceweblaw01.LexBegins" = some 5 by kernel_rfl).symm.trans hf) |>.symm
  obtain rfl : fn = Tryd.f5 := (Option.some.inj (Tryd.func5.symm.trans hfn)).symm
  refine ⟨by kernel_rfl, fun j t ht => ?_⟩
  have := List.all_eq_true.1 wants t (Array.mem_toList_iff.2 (Array.mem_of_getElem? ht))
  exact (by simpa using this : Tryd.prog.wantsStandIn t = false)

theorem card : Rows.LexBeginsCardSaid :=
  Claim7.holds_tied_plain_at .later [] _ _ _ _ said (fun _ h => by cases h) (by kernel_rfl) (fun _ h => by cases h) lexBegins_row_tie rfl ⟨rfl, rfl⟩ (by kernel_rfl) rfl plain (by kernel_rfl)
end Go.Proofs.YthgemanfbanhnaaDoor.lexBegins
