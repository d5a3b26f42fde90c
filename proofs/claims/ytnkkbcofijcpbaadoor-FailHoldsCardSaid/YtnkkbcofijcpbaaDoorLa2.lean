/- A part of the proof: La2. -/
import Derived.Test.YtnkkbcofijcpbaaDoorLa1
import Derived.Test.YtnkkbcofijcpbaaDoorHs
import Derived.Test.YtnkkbcofijcpbaaDoorPrs
namespace Go.Eng
open Go.Proofs Go.RowKit
set_option linter.unusedVariables false
set_option linter.unusedSimpArgs false
set_option maxRecDepth 8000
noncomputable def e_fail_Parse : List DT → Option CallRes
  | [.s t0 y0] => (castT (b := .str) y0).bind fun s_ => some ⟨((List tCrack) × Int), fail_Parse s_, fun r => .tup [.s (.sl 3 tyCrack) r.1, .s (.int .i64) r.2], (([] : List tCrack), (0 : Int)), false⟩
  | _ => none
noncomputable def E_fail_Parse : Env := Env.add 42 e_fail_Parse E_fail_reader_fail
theorem E_fail_Parse_ok : EnvOk X0 E_fail_Parse := by
  refine EnvOk.add E_fail_reader_fail_ok (fun args c h => ?_)
  unfold e_fail_Parse at h
  split at h
  · obtain ⟨v0, c0, h⟩ := Option.bind_eq_some_iff.1 h
    obtain ⟨rfl, rfl⟩ := castT_some c0
    cases h
    exact ⟨fun r hr => .inl ⟨by kernel_rfl, ok_fail_Parse _ r hr⟩, fun hb => by cases hb⟩
  · cases h
def F_law03_works : FnD := { n := 51, rs := [0] }
set_option maxRecDepth 100000 in
theorem ok_law03_works  (r : Bool) (h : law03_works  = some r) : APure X0 44 ([].map DT.toT) (resT ([.s .bool r].map DT.toT)) := by
  refine APure_of_straight (F := F_law03_works) (fuel := 3000) (E := E_fail_Parse) Yok E_fail_Parse_ok mixed Tryd.func44 rfl rfl rfl (by decide) (args := []) (Nat.le_of_ble_eq_true rfl) (by kernel_rfl) (fun r => [.s .bool r]) ?_ h
  intro goto ret
  unfold law03_works
  simp only [bnd_G, bnd_ite, bnd_bind, bnd_some, -eq_self]
  kernel_rfl
noncomputable def e_law03_works : List DT → Option CallRes
  | [] => some ⟨Bool, law03_works , fun r => .s .bool r, false, true⟩
  | _ => none
noncomputable def E_law03_works : Env := Env.add 44 e_law03_works E_fail_Parse
theorem E_law03_works_ok : EnvOk X0 E_law03_works := by
  refine EnvOk.add E_fail_Parse_ok (fun args c h => ?_)
  unfold e_law03_works at h
  split at h
  · cases h
    exact ⟨fun r hr => .inl ⟨by kernel_rfl, ok_law03_works r hr⟩, fun hb => fun r => noSl_res (by rfl)⟩
  · cases h
def F_law03_is : FnD := { n := 18, rs := [4] }
set_option maxRecDepth 100000 in
theorem ok_law03_is (f : (List tCrack)) (g : (List tCrack)) (r : Bool) (h : law03_is f g = some r) : APure X0 45 ([.s (.sl 3 tyCrack) f, .s (.sl 3 tyCrack) g].map DT.toT) (resT ([.s .bool r].map DT.toT)) := by
  refine APure_of_straight (F := F_law03_is) (fuel := 3000) (E := E_law03_works) Yok E_law03_works_ok mixed Tryd.func45 rfl rfl rfl (by decide) (args := [.s (.sl 3 tyCrack) f, .s (.sl 3 tyCrack) g]) (Nat.le_of_ble_eq_true rfl) (by kernel_rfl) (fun r => [.s .bool r]) ?_ h
  intro goto ret
  unfold law03_is
  simp only [bnd_G, bnd_ite, bnd_bind, bnd_some, -eq_self]
  kernel_rfl
noncomputable def e_law03_is : List DT → Option CallRes
  | [.s t0 y0, .s t1 y1] => (castT (b := (.sl 3 tyCrack)) y0).bind fun f => (castT (b := (.sl 3 tyCrack)) y1).bind fun g => some ⟨Bool, law03_is f g, fun r => .s .bool r, false, true⟩
  | _ => none
noncomputable def E_law03_is : Env := Env.add 45 e_law03_is E_law03_works
theorem E_law03_is_ok : EnvOk X0 E_law03_is := by
  refine EnvOk.add E_law03_works_ok (fun args c h => ?_)
  unfold e_law03_is at h
  split at h
  · obtain ⟨v0, c0, h⟩ := Option.bind_eq_some_iff.1 h
    obtain ⟨rfl, rfl⟩ := castT_some c0
    obtain ⟨v1, c1, h⟩ := Option.bind_eq_some_iff.1 h
    obtain ⟨rfl, rfl⟩ := castT_some c1
    cases h
    exact ⟨fun r hr => .inl ⟨by kernel_rfl, ok_law03_is _ _ r hr⟩, fun hb => fun r => noSl_res (by rfl)⟩
  · cases h
def F_law03_FailHolds : FnD := { n := 109, rs := [6] }
set_option maxRecDepth 100000 in
theorem ok_law03_FailHolds (f : (List tCrack)) (g : (List tCrack)) (name : (List UInt8)) (r : Bool) (h : law03_FailHolds f g name = some r) : APure X0 9 ([.s (.sl 3 tyCrack) f, .s (.sl 3 tyCrack) g, .s .str name].map DT.toT) (resT ([.s .bool r].map DT.toT)) := by
  refine APure_of_straight (F := F_law03_FailHolds) (fuel := 3000) (E := E_law03_is) Yok E_law03_is_ok mixed Tryd.func9 rfl rfl rfl (by decide) (args := [.s (.sl 3 tyCrack) f, .s (.sl 3 tyCrack) g, .s .str name]) (Nat.le_of_ble_eq_true rfl) (by kernel_rfl) (fun r => [.s .bool r]) ?_ h
  intro goto ret
  unfold law03_FailHolds
  simp only [bnd_G, bnd_ite, bnd_bind, bnd_some, -eq_self]
  kernel_rfl
end Go.Eng
