/- ValueOrders: for all arguments (any two slices of a value's parts, any slice of such), the law answers true: Compare and Sort answer the document's order and failure, and writing over what Sort handed back changes nothing else. Conditions: those of the given row and no others. -/
import Derived.Test.YtnjcbogckfiamaaSo8
import Derived.Test.YtnjcbogckfiamaaLv1
import Derived.Test.YtnjcbogckfiamaaD4
namespace Go.Proofs.Ytnjcbogckfiamaa.valueOrders
open Go.ChangeShapes Go.WideShapes Go.ChangeAt Go.RowKit
open Go.Eng
theorem own : ownKnob Try.prog.godebug = none := by kernel_rfl
theorem lays {W : World} (_ : laidMetH Try.prog Rows.valueOrdersRow.laid W) : laidG 0 globs W := ⟨Nat.zero_le _, fun p hp => by cases hp⟩
set_option maxRecDepth 100000 in
theorem contract (H : Type) (enc : TypeId × Value → H) (W : World) (base : Nat) (args : Array Value) (ds gs : List (DataW H)) (before : List MemPlace)
    (hval : ∀ (j : Nat) t v, Try.f4.params[j]? = some t → args[j]? = some v → Value.okWide Try.prog W .any base t v)
    (hW : DataW.Whole enc Try.prog Try.f4.params.toList Rows.valueOrdersSpec.vars false W args.toList ds gs before) (hz : (DataW.weightsEach Try.prog (Try.f4.params.toList ++ (OpenSpec.ofChange Rows.valueOrdersSpec).bare.plain.varTypes Try.prog) (ds ++ gs)).all (· ≤ reachBytes) = true) (hL : laidMetH Try.prog Rows.valueOrdersRow.laid W) :
    Calls Try.prog 4 args W fun e W' => ∃ v, e = .returned v ∧ Rows.valueOrdersSpec.post enc Try.prog Try.f4 false true false false W args v W' := by
  have hW' := hW
  obtain ⟨p, q, hA, hV, _, _, _⟩ := hW
  obtain ⟨rfl, rfl⟩ := trodVars_none hV
  have ev : (OpenSpec.ofChange Rows.valueOrdersSpec).bare.plain.varTypes Try.prog = [] := rfl
  rw [ev, List.append_nil, List.append_nil] at hz
  rw [Try.params4] at hA hval hz
  have hval2 : ∀ (j : Nat) t v, [24, 24, 22][j]? = some t → args.toList[j]? = some v → Value.okWide Try.prog W .any base t v := fun j t v ht hv => by
    rw [Array.getElem?_toList] at hv
    exact hval j t v (by rw [← ht]; exact (List.getElem?_toArray ..)) hv
  have hlen : ds.length = 3 := by rw [trodAll_len hA]; rfl
  obtain ⟨⟨x1, x2, x3, _⟩, hs, hl, hm⟩ : ∃ (l : (rowOf [(.sl 4 tyAtom), (.sl 4 tyAtom), (.sl 1 (.sl 4 tyAtom))]).I), szOk (rowOf [(.sl 4 tyAtom), (.sl 4 tyAtom), (.sl 1 (.sl 4 tyAtom))]) l ∧ LRep W (fun _ => True) ((dts [(.sl 4 tyAtom), (.sl 4 tyAtom), (.sl 1 (.sl 4 tyAtom))] l).map DT.toT) args.toList (fun _ => 0) ∧ ∀ bk : Bulk H, msz (rowOf [(.sl 4 tyAtom), (.sl 4 tyAtom), (.sl 1 (.sl 4 tyAtom))]) l ≤ bk.BA ds := by
    obtain ⟨l, h1, h2, h3⟩ := args_tree (P := Try.prog) (W := W) [(.sl 4 tyAtom), (.sl 4 tyAtom), (.sl 1 (.sl 4 tyAtom))] (ts := [24, 24, 22]) (by kernel_rfl) hval2 hA hz
    exact ⟨l, h2, h1, h3⟩
  obtain ⟨s1, s2, s3, _⟩ := hs
  have hc := walk_of (ok_law07_ValueOrders x1 x2 x3 true (ValueOrders_pure x1 x2 x3 s1.1 s2.1 ⟨s3.1, fun f hf => (s3.2 f hf).1⟩)) (lays hL) hl
  rw [Array.toArray_toList] at hc
  refine hc.mono fun e W' ⟨he, bel⟩ => ?_
  subst he
  refine ⟨_, rfl, law_post (by kernel_rfl) (by kernel_rfl) rfl Try.underlying4 rfl bel hW' ?_⟩
  match ds, hlen with
  | [_, _, _], _ => rfl
noncomputable def laidWorld (os : Os) : World :=
  { World.holding Try.prog os ⟨#[], #[], []⟩ with heap := (World.holding Try.prog os ⟨#[], #[], []⟩).heap }
theorem laid_met (os : Os) : laidMet Try.prog Rows.valueOrdersRow.laid ((laidWorld os).forCall (fun _ _ => 0) ⟨#[], #[.slice none 0 0, .slice none 0 0, .slice none 0 0], []⟩).memory :=
  laidMet_of_run' 8 (by kernel_rfl) (by kernel_rfl)
theorem reads (os : Os) {H : Type} (enc : TypeId × Value → H) : ∃ places, DataW.whole enc Try.prog ((laidWorld os).forCall (fun _ _ => 0) ⟨#[], #[.slice none 0 0, .slice none 0 0, .slice none 0 0], []⟩).memory Try.f4.params.toList Rows.valueOrdersSpec.vars false #[.slice none 0 0, .slice none 0 0, .slice none 0 0].toList 8 = some ([.nil, .nil, .nil], [], places) :=
  ⟨[], by kernel_rfl⟩
set_option maxRecDepth 100000 in
theorem lifted (os : Os) (started : os.Started) (H : Type) (enc : TypeId × Value → H) (F : Stop.Interp) :
    ReturnsInHanded {} Try.checked os 4 .any ((OpenSpec.ofChange Rows.valueOrdersSpec).preRow enc Try.prog Try.f4 Rows.valueOrdersRow.domain false Rows.valueOrdersRow.laid) (((OpenSpec.ofChange Rows.valueOrdersSpec).at F).post enc Try.prog Try.f4 false true false false) := by
  obtain ⟨places, hx⟩ := reads os enc
  refine returnsInHanded_of_row (C := Try.checked) (s := OpenSpec.ofChange Rows.valueOrdersSpec) own started (by kernel_rfl) Try.func4
    (witness_row_at (enc := enc) (C := Try.checked) false (laidWorld os) #[.slice none 0 0, .slice none 0 0, .slice none 0 0] rfl (by kernel_rfl) (by kernel_rfl) (by kernel_rfl)
      (OpenSpec.preRow_of_cond 8 hx (by kernel_rfl) (fun k hk => by cases hk) (by kernel_rfl) (laid_met os))) ?_
  intro W base args ds gs before hval hW _ hk hz hL _ _
  exact contract H enc W base args ds gs before hval hW hz hL
theorem said : Rows.ValueOrdersSaid :=
  OpenClaim.holds_of_cond 4 Try.f4 rfl rfl rfl rfl rfl rfl rfl ⟨rfl, rfl, rfl, rfl, rfl⟩ rfl rfl rfl rfl rfl (by kernel_rfl) Try.func4 (by kernel_rfl)
    (of_decide_eq_true (by kernel_rfl)) (by unfold Func.isWrapper; first | (rw [if_pos (by decide +kernel)]; kernel_rfl) | (rw [if_neg (by decide +kernel)]; exact ⟨rfl, rfl⟩))
    (fun os started H enc _ F => by rw [OpenClaim.pre_eq_preRow]; exact lifted os started H enc F)
end Go.Proofs.Ytnjcbogckfiamaa.valueOrders
