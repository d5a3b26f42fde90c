/- FailBack: for all arguments (any failure's parts, any text), the law answers true: a failure is read of its own text, and what is read of a text has that text; and nothing handed in is changed. Conditions: those of the given card and no others. -/
import Derived.Test.YtnkkbcofijcpbaaDoorFb3
import Derived.Test.YtnkkbcofijcpbaaDoorLa2
import Derived.Test.YtnkkbcofijcpbaaDoorD4
import Derived.Test.YtnkkbcofijcpbaaDoorCards
import Derived.Test.YtnkkbcofijcpbaaDoorTie
namespace Go.Proofs.YtnkkbcofijcpbaaDoor.failBack
open Go.ChangeShapes Go.WideShapes Go.ChangeAt Go.RowKit
open Go.Eng
theorem own : ownKnob Tryd.prog.godebug = none := by kernel_rfl
theorem lays {W : World} (h : laidMetH Tryd.prog Rows.failBackRow.laid W) : laidG 4 globs W := by
  have h : laidMet Tryd.prog [("onceweb/lex.keys", strTab gl_onceweb_lex_keys), ("onceweb/fail.sorts", Lib.tabData .i64 gl_onceweb_fail_sorts), ("onceweb/fail.values", strTab gl_onceweb_fail_values), ("onceweb/fail.words", strTab gl_onceweb_fail_words)] W := h
  have c3 := laid_strs h (.head _) (g := 3) (t := 111) (e := 9) (n := 19) (by kernel_rfl) (by kernel_rfl) (by kernel_rfl) (by kernel_rfl) (by kernel_rfl) (by kernel_rfl)
  have c1 := laid_ints h (.tail _ (.head _)) (g := 1) (t := 83) (e := 3) (n := 12) (by kernel_rfl) (by kernel_rfl) (by kernel_rfl) (by kernel_rfl) (by kernel_rfl) (by kernel_rfl)
  have c2 := laid_strs h (.tail _ (.tail _ (.head _))) (g := 2) (t := 85) (e := 9) (n := 10) (by kernel_rfl) (by kernel_rfl) (by kernel_rfl) (by kernel_rfl) (by kernel_rfl) (by kernel_rfl)
  have c0 := laid_strs h (.tail _ (.tail _ (.tail _ (.head _)))) (g := 0) (t := 74) (e := 9) (n := 12) (by kernel_rfl) (by kernel_rfl) (by kernel_rfl) (by kernel_rfl) (by kernel_rfl) (by kernel_rfl)
  refine ⟨cell_lt (o := 0) (c3 0 _ rfl), fun p hp k x hx => ?_⟩
  simp only [globs, List.mem_cons, List.not_mem_nil, or_false] at hp
  rcases hp with rfl | rfl | rfl | rfl
  · exact c0 k x hx
  · exact c1 k x hx
  · exact c2 k x hx
  · exact c3 k x hx
set_option maxRecDepth 100000 in
theorem contract (H : Type) (enc : TypeId × Value → H) (W : World) (base : Nat) (args : Array Value) (ds gs : List (DataW H)) (before : List MemPlace)
    (hval : ∀ (j : Nat) t v, Tryd.f8.params[j]? = some t → args[j]? = some v → Value.okWide Tryd.prog W .any base t v)
    (hW : DataW.Whole enc Tryd.prog Tryd.f8.params.toList Rows.failBackSpec.vars false W args.toList ds gs before) (hz : (DataW.weightsEach Tryd.prog (Tryd.f8.params.toList ++ (OpenSpec.ofChange Rows.failBackSpec).bare.plain.varTypes Tryd.prog) (ds ++ gs)).all (· ≤ reachBytes) = true) (hL : laidMetH Tryd.prog Rows.failBackRow.laid W) :
    Calls Tryd.prog 8 args W fun e W' => ∃ v, e = .returned v ∧ Rows.failBackSpec.post enc Tryd.prog Tryd.f8 false true false false W args v W' := by
  have hW' := hW
  obtain ⟨p, q, hA, hV, _, _, _⟩ := hW
  obtain ⟨rfl, rfl⟩ := trodVars_none hV
  have ev : (OpenSpec.ofChange Rows.failBackSpec).bare.plain.varTypes Tryd.prog = [] := rfl
  rw [ev, List.append_nil, List.append_nil] at hz
  rw [Tryd.params8] at hA hval hz
  have hval2 : ∀ (j : Nat) t v, [23, 9][j]? = some t → args.toList[j]? = some v → Value.okWide Tryd.prog W .any base t v := fun j t v ht hv => by
    rw [Array.getElem?_toList] at hv
    exact hval j t v (by rw [← ht]; exact (List.getElem?_toArray ..)) hv
  have hlen : ds.length = 2 := by rw [trodAll_len hA]; rfl
  obtain ⟨⟨x1, x2, _⟩, hs, hl, hm⟩ : ∃ (l : (rowOf [(.sl 3 tyCrack), .str]).I), szOk (rowOf [(.sl 3 tyCrack), .str]) l ∧ LRep W (fun _ => True) ((dts [(.sl 3 tyCrack), .str] l).map DT.toT) args.toList (fun _ => 0) ∧ ∀ bk : Bulk H, msz (rowOf [(.sl 3 tyCrack), .str]) l ≤ bk.BA ds := by
    obtain ⟨l, h1, h2, h3⟩ := args_tree (P := Tryd.prog) (W := W) [(.sl 3 tyCrack), .str] (ts := [23, 9]) (by kernel_rfl) hval2 hA hz
    exact ⟨l, h2, h1, h3⟩
  obtain ⟨s1, s2, _⟩ := hs
  have hc := walk_of (ok_law03_FailBack x1 x2 true (FailBack_pure x1 x2 (by have : x1.length * 32 ≤ 140737488351232 := s1.1; omega))) (lays hL) hl
  rw [Array.toArray_toList] at hc
  refine hc.mono fun e W' ⟨he, bel⟩ => ?_
  subst he
  refine ⟨_, rfl, law_post (by kernel_rfl) (by kernel_rfl) rfl Tryd.underlying4 rfl bel hW' ?_⟩
  match ds, hlen with
  | [_, _], _ => rfl
noncomputable def laidWorld (os : Os) : World :=
  { World.holding Tryd.prog os ⟨#[], #[], []⟩ with heap := (((((World.holding Tryd.prog os ⟨#[], #[], []⟩).heap.modify 0 fun
      | .cells _ t frozen => .cells (gl_onceweb_fail_words.map fun s => Value.string (mkS s)).toArray t frozen
      | o => o).modify 1 fun
      | .cells _ t frozen => .cells (gl_onceweb_fail_sorts.map fun z => Value.int .i64 z).toArray t frozen
      | o => o).modify 2 fun
      | .cells _ t frozen => .cells (gl_onceweb_fail_values.map fun s => Value.string (mkS s)).toArray t frozen
      | o => o).modify 3 fun
      | .cells _ t frozen => .cells (gl_onceweb_lex_keys.map fun s => Value.string (mkS s)).toArray t frozen
      | o => o) }
theorem laid_met (os : Os) : laidMet Tryd.prog Rows.failBackRow.laid ((laidWorld os).forCall (fun _ _ => 0) ⟨#[], #[.slice none 0 0, .string .empty], []⟩).memory :=
  laidMet_of_run' 8 (by kernel_rfl) (by kernel_rfl)
theorem reads (os : Os) {H : Type} (enc : TypeId × Value → H) : ∃ places, DataW.whole enc Tryd.prog ((laidWorld os).forCall (fun _ _ => 0) ⟨#[], #[.slice none 0 0, .string .empty], []⟩).memory Tryd.f8.params.toList Rows.failBackSpec.vars false #[.slice none 0 0, .string .empty].toList 8 = some ([.nil, .lit (.string [])], [], places) :=
  ⟨[], by kernel_rfl⟩
set_option maxRecDepth 100000 in
theorem lifted (os : Os) (started : os.Started) (H : Type) (enc : TypeId × Value → H) (F : Stop.Interp) :
    ReturnsInHanded {} Tryd.checked os 8 .any ((OpenSpec.ofChange Rows.failBackSpec).preRow enc Tryd.prog Tryd.f8 Rows.failBackRow.domain false Rows.failBackRow.laid) (((OpenSpec.ofChange Rows.failBackSpec).at F).post enc Tryd.prog Tryd.f8 false true false false) := by
  obtain ⟨places, hx⟩ := reads os enc
  refine returnsInHanded_of_row (C := Tryd.checked) (s := OpenSpec.ofChange Rows.failBackSpec) own started (by kernel_rfl) Tryd.func8
    (witness_row_at (enc := enc) (C := Tryd.checked) false (laidWorld os) #[.slice none 0 0, .string .empty] rfl (by kernel_rfl) (by kernel_rfl) (by kernel_rfl)
      (OpenSpec.preRow_of_cond 8 hx (by kernel_rfl) (fun k hk => by cases hk) (by kernel_rfl) (laid_met os))) ?_
  intro W base args ds gs before hval hW _ hk hz hL _ _
  exact contract H enc W base args ds gs before hval hW hz hL
theorem said : Rows.FailBackSaid :=
  OpenClaim.holds_of_cond 8 Tryd.f8 rfl rfl rfl rfl rfl rfl rfl ⟨rfl, rfl, rfl, rfl, rfl⟩ rfl rfl rfl rfl rfl (by kernel_rfl) Tryd.func8 (by kernel_rfl)
    (of_decide_eq_true (by kernel_rfl)) (by unfold Func.isWrapper; first | (rw [if_pos (by decide +kernel)]; kernel_rfl) | (rw [if_neg (by decide +kernel)]; exact ⟨rfl, rfl⟩))
    (fun os started H enc _ F => by rw [OpenClaim.pre_eq_preRow]; exact lifted os started H enc F)
theorem wants : (Tryd.f8.params.toList.all fun t => !Tryd.prog.wantsStandIn t) = true := by kernel_rfl
theorem plain (f : FuncId) (fn : Func) (hf : Tryd.pinned.checked.prog.funcNamed "onceweb/onceweblaw03.FailBack" = some f) (hfn : Tryd.pinned.checked.prog.funcs[f]? = some fn) :
    false = Tryd.pinned.checked.prog.looks [] ∧ ∀ (j : Nat) t, fn.params[j]? = some t → Tryd.pinned.checked.prog.wantsStandIn t = false := by
  obtain rfl : f = 8 := Option.some.inj ((show Tryd.prog.funcNamed "onceweb/onceweblaw03.FailBack" = some 8 by kernel_rfl).symm.trans hf) |>.symm
  obtain rfl : fn = Tryd.f8 := (Option.some.inj (Tryd.func8.symm.trans hfn)).symm
  refine ⟨by kernel_rfl, fun j t ht => ?_⟩
  have := List.all_eq_true.1 wants t (Array.mem_toList_iff.2 (Array.mem_of_getElem? ht))
  exact (by simpa using this : Tryd.prog.wantsStandIn t = false)
theorem card : Rows.FailBackCardSaid :=
  Claim7.holds_tied_plain_at .later [] _ _ _ _ said (fun _ h => by cases h) (by kernel_rfl) (fun _ h => by cases h) failBack_row_tie rfl ⟨rfl, rfl⟩ (by kernel_rfl) rfl plain (by kernel_rfl)
end Go.Proofs.YtnkkbcofijcpbaaDoor.failBack
