/- For all texts s and t of together at most 1048576 letters the law LexQuotes answers true and leaves its arguments as they were: Quote and Unquote of the program and of the reference agree. Conditions: those of the row LexQuotesUpto alone. -/
import Derived.Test.YthgemanfbanhnaaT7
namespace Go.Proofs.Ythgemanfbanhnaa.lexQuotes
open Go.ChangeShapes Go.WideShapes Go.ChangeAt Go.RowKit
open Go.ChangeMaps (open_string shut_string)
open Go.Eng

theorem own : ownKnob Try.prog.godebug = none := by kernel_rfl

/-- WHAT THE BOUND GIVES: the texts' lengths. -/
theorem short {H : Type} {s t : ByteArray} (hk : Rows.uptoSmall H [.lit (.string s.data.toList), .lit (.string t.data.toList)] = true) : (bl s).length ≤ 1048576 ∧ (bl t).length ≤ 1048576 := by
  have h : Rows.uptoBulkAll [DataW.lit (H := H) (.string s.data.toList), DataW.lit (H := H) (.string t.data.toList)] ≤ 1048576 := of_decide_eq_true hk
  simp only [Rows.uptoBulkAll, Rows.uptoBulk] at h
  have e1 : (bl s).length = s.data.toList.length := rfl
  have e2 : (bl t).length = t.data.toList.length := rfl
  omega

theorem walk (s t : ByteArray) (w : World) (hs : (bl s).length ≤ 1048576) (ht : (bl t).length ≤ 1048576) :
    Calls Try.prog 3 #[.string s, .string t] w fun e w' => e = .returned (.bool true) ∧ Below w.heap.size w w' := by
  have hl : LRep w (fun _ => True) [.v (.string s), .v (.string t)] [.string s, .string t] (fun _ => 0) :=
    .cons _ _ _ _ (fun _ => 0) (fun _ => 0) _ (.v _ _ (fun _ => rfl)) (.cons _ _ _ _ (fun _ => 0) (fun _ => 0) _ (.v _ _ (fun _ => rfl)) (.nil _ (fun _ => rfl)) (fun _ => rfl)) (fun _ => rfl)
  refine (law s t (by omega) (by omega) w [.string s, .string t] (fun _ => 0) (fun _ => True) trivial (fun _ _ => trivial) hl (fun _ => Nat.zero_le _) (fun b hb => absurd hb (by simp))).mono ?_
  rintro e w' ⟨v, cr, rfl, e1, e2, e3, e4, e5, h1, _, _⟩
  cases h1 with
  | cons _ _ _ _ _ _ _ q1 _ _ =>
    have := TRep.of_v q1
    subst this
    exact ⟨rfl, ⟨e1, e2, e3, e4, fun b hb => e5 b hb rfl⟩⟩

theorem contract (H : Type) (enc : TypeId × Value → H) (W : World) (base : Nat) (args : Array Value) (ds gs : List (DataW H)) (before : List MemPlace)
    (hval : ∀ (j : Nat) t v, Try.f3.params[j]? = some t → args[j]? = some v → Value.okWide Try.prog W .any base t v)
    (hW : DataW.Whole enc Try.prog Try.f3.params.toList Rows.lexQuotesSpec.vars false W args.toList ds gs before) (hk : Rows.uptoSmall H (ds ++ gs) = true) :
    Calls Try.prog 3 args W fun e W' => ∃ v, e = .returned v ∧ Rows.lexQuotesSpec.post enc Try.prog Try.f3 false true false false W args v W' := by
  have hW' := hW
  obtain ⟨p, q, hA0, hV, rfl, hfz, hnd⟩ := hW
  have hA : DataW.TrodAll enc Try.prog W 0 (fun _ => true) true Try.f3.params.toList args.toList ds p := hA0
  rw [Try.params3] at hA hval
  obtain ⟨v0, vs0, d0, ds0, p0, q0, hargs, rfl, rfl, h0, r0⟩ := trodAll_cons hA
  obtain ⟨v1, vs1, d1, ds1, p1, q1, rfl, rfl, rfl, h1, r1⟩ := trodAll_cons r0
  obtain ⟨rfl, rfl, rfl⟩ := trodAll_nil r1
  obtain rfl : args = #[v0, v1] := by cases args; simp_all
  obtain ⟨rfl, rfl⟩ := trodVars_none hV
  obtain ⟨s, rfl, rfl, rfl, hmax⟩ := open_string Try.underlying9 (hval 0 9 v0 rfl rfl) h0
  obtain ⟨t, rfl, rfl, rfl, hmax2⟩ := open_string Try.underlying9 (hval 1 9 v1 rfl rfl) h1
  clear hA0
  simp only [List.append_nil] at hW' hk
  obtain ⟨k1, k2⟩ := short hk
  refine (walk s t W k1 k2).mono fun e W' ⟨he, bel⟩ => ?_
  subst he
  exact ⟨_, rfl, _, _, _, [], _, [], hW', trodAll_mk1 (shut_bool Try.underlying4 _), trodAll_cons_mk (shut_string Try.underlying9 hmax) (trodAll_cons_mk (shut_string Try.underlying9 hmax2) trodAll_mk0), rfl, bel.frame _, fun h => by cases h⟩

set_option maxRecDepth 100000 in
theorem lifted (os : Os) (started : os.Started) (H : Type) (enc : TypeId × Value → H) (F : Stop.Interp) :
    ReturnsInHanded {} Try.checked os 3 .any ((Rows.OpenSpec.upto Rows.lexQuotesSpec).pre6 enc Try.prog Try.f3 Rows.lexQuotesUptoRow.domain false) (((Rows.OpenSpec.upto Rows.lexQuotesSpec).at F).post enc Try.prog Try.f3 false true false false) := by
  refine returnsInHanded_of_cond (C := Try.checked) (s := Rows.OpenSpec.upto Rows.lexQuotesSpec) (k := Rows.uptoSmall) rfl own started (by kernel_rfl) Try.func3
    (OpenSpec.witness (enc := enc) (C := Try.checked) (s := Rows.OpenSpec.upto Rows.lexQuotesSpec) (k := Rows.uptoSmall) rfl false ⟨#[], #[.string .empty, .string .empty], []⟩ 8 (by kernel_rfl) (by kernel_rfl) (by kernel_rfl)
      (x := ([.lit (.string []), .lit (.string [])], [], [])) (by kernel_rfl) rfl (by kernel_rfl)) ?_
  intro W base args ds gs before hval hW _ hk _
  exact contract H enc W base args ds gs before hval hW hk

theorem proved : Rows.LexQuotesUptoSaid :=
  OpenClaim.holds_of_cond 3 Try.f3 rfl rfl rfl rfl rfl rfl rfl ⟨rfl, rfl, rfl, rfl, rfl⟩ rfl rfl rfl rfl rfl (by kernel_rfl) Try.func3 (by kernel_rfl)
    (of_decide_eq_true (by kernel_rfl)) (by unfold Func.isWrapper; first | (rw [if_pos (by decide +kernel)]; kernel_rfl) | (rw [if_neg (by decide +kernel)]; exact ⟨rfl, rfl⟩))
    (fun os started H enc _ F => lifted os started H enc F)
end Go.Proofs.Ythgemanfbanhnaa.lexQuotes
