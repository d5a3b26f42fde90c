/- ValueBack: for all arguments (any value's parts, any text, any slice of such), the law answers true: a value is read of its text, what is read has that text, a list is the list of its members, and what Sort hands back is in order and all that there was. Conditions: those of the given row and no others. -/
import Derived.Test.YtnjcbogckfiamaaDoorVb2
import Derived.Test.YtnjcbogckfiamaaDoorLv2
import Derived.Test.YtnjcbogckfiamaaDoorD4
import Derived.Test.YtnjcbogckfiamaaDoorCards
import Derived.Test.YtnjcbogckfiamaaDoorTie
namespace Go.Proofs.YtnjcbogckfiamaaDoor.valueBack
open Go.ChangeShapes Go.WideShapes Go.ChangeAt Go.RowKit
open Go.Eng
def gl_math_bits_deBruijn32tab : List Int := [0, 1, 28, 2, 29, 14, 24, 3, 30, 22, 20, 15, 25, 17, 4, 8, 31, 27, 13, 23, 21, 19, 16, 7, 26, 12, 18, 6, 11, 5, 10, 9]
def gl_math_bits_deBruijn64tab : List Int := [0, 1, 56, 2, 57, 49, 28, 3, 61, 58, 42, 50, 38, 29, 17, 4, 62, 47, 59, 36, 45, 43, 51, 22, 53, 39, 33, 30, 24, 18, 12, 5, 63, 55, 48, 27, 60, 41, 37, 16, 46, 35, 44, 21, 52, 32, 23, 11, 54, 26, 40, 15, 34, 20, 31, 10, 25, 14, 19, 9, 13, 8, 7, 6]
theorem own : ownKnob Tryd.prog.godebug = none := by kernel_rfl
theorem lays {W : World} (h : laidMetH Tryd.prog Rows.valueBackRow.laid W) : X0.G W := by
  have h : laidMet Tryd.prog [("math/bits.deBruijn32tab", Lib.tabData .u8 gl_math_bits_deBruijn32tab), ("math/bits.deBruijn64tab", Lib.tabData .u8 gl_math_bits_deBruijn64tab), ("internal/strconv.uint64pow10", Lib.tabData .u64 Lib.pow10Tab)] W := h
  have c1 := laid_ints h (.tail _ (.tail _ (.head _))) (g := 1) (t := 129) (e := 104) (n := 20) (by kernel_rfl) (by kernel_rfl) (by kernel_rfl) (by kernel_rfl) (by kernel_rfl) (by kernel_rfl)
  exact ⟨⟨cell_lt (o := 0) (c1 0 _ rfl), fun p hp => by cases hp⟩, tabIs_laid h (.tail _ (.tail _ (.head _))) (g := 1) (t := 129) (e := 104) (n := 20) (by kernel_rfl) (by kernel_rfl) (by kernel_rfl) (by kernel_rfl) (by kernel_rfl) (by kernel_rfl)⟩
set_option maxRecDepth 100000 in
theorem contract (H : Type) (enc : TypeId × Value → H) (W : World) (base : Nat) (args : Array Value) (ds gs : List (DataW H)) (before : List MemPlace)
    (hval : ∀ (j : Nat) t v, Tryd.f6.params[j]? = some t → args[j]? = some v → Value.okWide Tryd.prog W .any base t v)
    (hW : DataW.Whole enc Tryd.prog Tryd.f6.params.toList Rows.valueBackSpec.vars false W args.toList ds gs before) (hz : (DataW.weightsEach Tryd.prog (Tryd.f6.params.toList ++ (OpenSpec.ofChange Rows.valueBackSpec).bare.plain.varTypes Tryd.prog) (ds ++ gs)).all (· ≤ reachBytes) = true) (hL : laidMetH Tryd.prog Rows.valueBackRow.laid W) :
    Calls Tryd.prog 6 args W fun e W' => ∃ v, e = .returned v ∧ Rows.valueBackSpec.post enc Tryd.prog Tryd.f6 false true false false W args v W' := by
  have hW' := hW
  obtain ⟨p, q, hA, hV, _, _, _⟩ := hW
  obtain ⟨rfl, rfl⟩ := trodVars_none hV
  have ev : (OpenSpec.ofChange Rows.valueBackSpec).bare.plain.varTypes Tryd.prog = [] := rfl
  rw [ev, List.append_nil, List.append_nil] at hz
  rw [Tryd.params6] at hA hval hz
  have hval2 : ∀ (j : Nat) t v, [23, 9, 42][j]? = some t → args.toList[j]? = some v → Value.okWide Tryd.prog W .any base t v := fun j t v ht hv => by
    rw [Array.getElem?_toList] at hv
    exact hval j t v (by rw [← ht]; exact (List.getElem?_toArray ..)) hv
  have hlen : ds.length = 3 := by rw [trodAll_len hA]; rfl
  obtain ⟨⟨x1, x2, x3, _⟩, hs, hl, hm⟩ : ∃ (l : (rowOf [(.sl 4 tyAtom), .str, (.sl 1 (.sl 4 tyAtom))]).I), szOk (rowOf [(.sl 4 tyAtom), .str, (.sl 1 (.sl 4 tyAtom))]) l ∧ LRep W (fun _ => True) ((dts [(.sl 4 tyAtom), .str, (.sl 1 (.sl 4 tyAtom))] l).map DT.toT) args.toList (fun _ => 0) ∧ ∀ bk : Bulk H, msz (rowOf [(.sl 4 tyAtom), .str, (.sl 1 (.sl 4 tyAtom))]) l ≤ bk.BA ds := by
    obtain ⟨l, h1, h2, h3⟩ := args_tree (P := Tryd.prog) (W := W) [(.sl 4 tyAtom), .str, (.sl 1 (.sl 4 tyAtom))] (ts := [23, 9, 42]) (by kernel_rfl) hval2 hA hz
    exact ⟨l, h2, h1, h3⟩
  obtain ⟨s1, s2, s3, _⟩ := hs
  have hc := walk_of (ok_law07_ValueBack x1 x2 x3 true (ValueBack_pure x1 x2 x3 ⟨s3.1, fun f hf => (s3.2 f hf).1⟩)) (lays hL) hl
  rw [Array.toArray_toList] at hc
  refine hc.mono fun e W' ⟨he, bel⟩ => ?_
  subst he
  refine ⟨_, rfl, law_post (by kernel_rfl) (by kernel_rfl) rfl Tryd.underlying4 rfl bel hW' ?_⟩
  match ds, hlen with
  | [_, _, _], _ => rfl
noncomputable def laidWorld (os : Os) : World :=
  { World.holding Tryd.prog os ⟨#[], #[], []⟩ with heap := ((((World.holding Tryd.prog os ⟨#[], #[], []⟩).heap.modify 1 fun
      | .cells _ t frozen => .cells (Lib.pow10Tab.map fun z => Value.int .u64 z).toArray t frozen
      | o => o).modify 2 fun
      | .cells _ t frozen => .cells (gl_math_bits_deBruijn32tab.map fun z => Value.int .u8 z).toArray t frozen
      | o => o).modify 3 fun
      | .cells _ t frozen => .cells (gl_math_bits_deBruijn64tab.map fun z => Value.int .u8 z).toArray t frozen
      | o => o) }
theorem laid_met (os : Os) : laidMet Tryd.prog Rows.valueBackRow.laid ((laidWorld os).forCall (fun _ _ => 0) ⟨#[], #[.slice none 0 0, .string .empty, .slice none 0 0], []⟩).memory :=
  laidMet_of_run' 8 (by kernel_rfl) (by kernel_rfl)
theorem reads (os : Os) {H : Type} (enc : TypeId × Value → H) : ∃ places, DataW.whole enc Tryd.prog ((laidWorld os).forCall (fun _ _ => 0) ⟨#[], #[.slice none 0 0, .string .empty, .slice none 0 0], []⟩).memory Tryd.f6.params.toList Rows.valueBackSpec.vars false #[.slice none 0 0, .string .empty, .slice none 0 0].toList 8 = some ([.nil, .lit (.string []), .nil], [], places) :=
  ⟨[], by kernel_rfl⟩
set_option maxRecDepth 100000 in
theorem lifted (os : Os) (started : os.Started) (H : Type) (enc : TypeId × Value → H) (F : Stop.Interp) :
    ReturnsInHanded {} Tryd.checked os 6 .any ((OpenSpec.ofChange Rows.valueBackSpec).preRow enc Tryd.prog Tryd.f6 Rows.valueBackRow.domain false Rows.valueBackRow.laid) (((OpenSpec.ofChange Rows.valueBackSpec).at F).post enc Tryd.prog Tryd.f6 false true false false) := by
  obtain ⟨places, hx⟩ := reads os enc
  refine returnsInHanded_of_row (C := Tryd.checked) (s := OpenSpec.ofChange Rows.valueBackSpec) own started (by kernel_rfl) Tryd.func6
    (witness_row_at (enc := enc) (C := Tryd.checked) false (laidWorld os) #[.slice none 0 0, .string .empty, .slice none 0 0] rfl (by kernel_rfl) (by kernel_rfl) (by kernel_rfl)
      (OpenSpec.preRow_of_cond 8 hx (by kernel_rfl) (fun k hk => by cases hk) (by kernel_rfl) (laid_met os))) ?_
  intro W base args ds gs before hval hW _ hk hz hL _ _
  exact contract H enc W base args ds gs before hval hW hz hL
theorem said : Rows.ValueBackSaid :=
  OpenClaim.holds_of_cond 6 Tryd.f6 rfl rfl rfl rfl rfl rfl rfl ⟨rfl, rfl, rfl, rfl, rfl⟩ rfl rfl rfl rfl rfl (by kernel_rfl) Tryd.func6 (by kernel_rfl)
    (of_decide_eq_true (by kernel_rfl)) (by unfold Func.isWrapper; first | (rw [if_pos (by decide +kernel)]; kernel_rfl) | (rw [if_neg (by decide +kernel)]; exact ⟨rfl, rfl⟩))
    (fun os started H enc _ F => by rw [OpenClaim.pre_eq_preRow]; exact lifted os started H enc F)
theorem wants : (Tryd.f6.params.toList.all fun t => !Tryd.prog.wantsStandIn t) = true := by kernel_rfl
theorem plain (f : FuncId) (fn : Func) (hf : Tryd.pinned.checked.prog.funcNamed "onceweb/onceweblaw07.ValueBack" = some f) (hfn : Tryd.pinned.checked.prog.funcs[f]? = some fn) :
    false = Tryd.pinned.checked.prog.looks [] ∧ ∀ (j : Nat) t, fn.params[j]? = some t → Tryd.pinned.checked.prog.wantsStandIn t = false := by
  obtain rfl : f = 6 := Option.some.inj ((show Tryd.prog.funcNamed "onceweb/onceweblaw07.ValueBack" = some 6 by kernel_rfl).symm.trans hf) |>.symm
  obtain rfl : fn = Tryd.f6 := (Option.some.inj (Tryd.func6.symm.trans hfn)).symm
  refine ⟨by kernel_rfl, fun j t ht => ?_⟩
  have := List.all_eq_true.1 wants t (Array.mem_toList_iff.2 (Array.mem_of_getElem? ht))
  exact (by simpa using this : Tryd.prog.wantsStandIn t = false)
theorem card : Rows.ValueBackCardSaid :=
  Claim7.holds_tied_plain_at .later [] _ _ _ _ said (fun _ h => by cases h) (by kernel_rfl) (fun _ h => by cases h) valueBack_row_tie rfl ⟨rfl, rfl⟩ (by kernel_rfl) rfl plain (by kernel_rfl)
end Go.Proofs.YtnjcbogckfiamaaDoor.valueBack
