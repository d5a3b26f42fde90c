/- A part of the proof: Lv1. -/
import Derived.Test.YtnjcbogckfiamaaLvd
import Derived.Test.YtnjcbogckfiamaaD4
import Derived.Test.YtnjcbogckfiamaaRows
namespace Go.Eng
open Go.Proofs Go.RowKit
set_option linter.unusedVariables false
set_option linter.unusedSimpArgs false
def globs : List (Nat × Glob) := []
noncomputable def X0 : Ctx := mkCtx Try.prog 0 globs (by kernel_rfl)
theorem mixed : X0.P.follows .mixedOrders = true := by kernel_rfl
def Y0 : DX := { tab := [(3, { ty := (.int .i64) }), (4, { ty := .bool }), (9, { ty := .str }), (22, { ty := (.sl 1 (.sl 4 tyAtom)), sl := some (24, (.sl 4 tyAtom), 24) }), (24, { ty := (.sl 4 tyAtom), sl := some (48, tyAtom, 40) }), (48, { ty := tyAtom, fs := [(.int .i64), (.int .i64), (.int .i64), .str], eq := true }), (52, { ty := (.sl 2 tywhole), sl := some (68, tywhole, 16) }), (55, { ty := (.sl 1 (.int .i64)), sl := some (3, (.int .i64), 8) }), (68, { ty := tywhole, fs := [(.int .i64), (.int .i64)], eq := true }), (82, { ty := (.int .u64) })], gl := globs }
theorem td_3 : TDOk Try.prog 3 { ty := (.int .i64) } where
  row := .inr (by kernel_rfl)
  und := .inr (by kernel_rfl)
  sli := .inl rfl
  slt := by kernel_rfl
  bye := .inl rfl
  fld := .inl rfl
  lay := .inl rfl
  rowT := .inl rfl
  arr := .inl rfl
  arv := .inl rfl
  fsz := by kernel_rfl
  eqv := .inl rfl
  zer := .inr (by kernel_rfl)
  fnv := .inl rfl
  emp := .inl rfl
  mki := .inl rfl
theorem td_4 : TDOk Try.prog 4 { ty := .bool } where
  row := .inr (by kernel_rfl)
  und := .inr (by kernel_rfl)
  sli := .inl rfl
  slt := by kernel_rfl
  bye := .inl rfl
  fld := .inl rfl
  lay := .inl rfl
  rowT := .inl rfl
  arr := .inl rfl
  arv := .inl rfl
  fsz := by kernel_rfl
  eqv := .inl rfl
  zer := .inr (by kernel_rfl)
  fnv := .inl rfl
  emp := .inl rfl
  mki := .inl rfl
theorem td_9 : TDOk Try.prog 9 { ty := .str } where
  row := .inr (by kernel_rfl)
  und := .inr (by kernel_rfl)
  sli := .inl rfl
  slt := by kernel_rfl
  bye := .inl rfl
  fld := .inl rfl
  lay := .inl rfl
  rowT := .inl rfl
  arr := .inl rfl
  arv := .inl rfl
  fsz := by kernel_rfl
  eqv := .inl rfl
  zer := .inr (by kernel_rfl)
  fnv := .inl rfl
  emp := .inl rfl
  mki := .inl rfl
theorem td_22 : TDOk Try.prog 22 { ty := (.sl 1 (.sl 4 tyAtom)), sl := some (24, (.sl 4 tyAtom), 24) } where
  row := .inr (by kernel_rfl)
  und := .inl rfl
  sli := .inr (by kernel_rfl)
  slt := by kernel_rfl
  bye := .inl rfl
  fld := .inl rfl
  lay := .inl rfl
  rowT := .inl rfl
  arr := .inl rfl
  arv := .inl rfl
  fsz := by kernel_rfl
  eqv := .inl rfl
  zer := .inr (by kernel_rfl)
  fnv := .inl rfl
  emp := .inl rfl
  mki := .inl rfl
theorem td_24 : TDOk Try.prog 24 { ty := (.sl 4 tyAtom), sl := some (48, tyAtom, 40) } where
  row := .inr (by kernel_rfl)
  und := .inl rfl
  sli := .inr (by kernel_rfl)
  slt := by kernel_rfl
  bye := .inl rfl
  fld := .inl rfl
  lay := .inl rfl
  rowT := .inl rfl
  arr := .inl rfl
  arv := .inl rfl
  fsz := by kernel_rfl
  eqv := .inl rfl
  zer := .inr (by kernel_rfl)
  fnv := .inl rfl
  emp := .inl rfl
  mki := .inl rfl
theorem td_48 : TDOk Try.prog 48 { ty := tyAtom, fs := [(.int .i64), (.int .i64), (.int .i64), .str], eq := true } where
  row := .inr (by kernel_rfl)
  und := .inl rfl
  sli := .inl rfl
  slt := by kernel_rfl
  bye := .inl rfl
  fld := .inr (by kernel_rfl)
  lay := .inr (by kernel_rfl)
  rowT := .inr rfl
  arr := .inl rfl
  arv := .inl rfl
  fsz := by kernel_rfl
  eqv := .inr (by kernel_rfl)
  zer := .inr (by kernel_rfl)
  fnv := .inl rfl
  emp := .inl rfl
  mki := .inl rfl
theorem td_52 : TDOk Try.prog 52 { ty := (.sl 2 tywhole), sl := some (68, tywhole, 16) } where
  row := .inr (by kernel_rfl)
  und := .inl rfl
  sli := .inr (by kernel_rfl)
  slt := by kernel_rfl
  bye := .inl rfl
  fld := .inl rfl
  lay := .inl rfl
  rowT := .inl rfl
  arr := .inl rfl
  arv := .inl rfl
  fsz := by kernel_rfl
  eqv := .inl rfl
  zer := .inr (by kernel_rfl)
  fnv := .inl rfl
  emp := .inl rfl
  mki := .inl rfl
theorem td_55 : TDOk Try.prog 55 { ty := (.sl 1 (.int .i64)), sl := some (3, (.int .i64), 8) } where
  row := .inr (by kernel_rfl)
  und := .inl rfl
  sli := .inr (by kernel_rfl)
  slt := by kernel_rfl
  bye := .inl rfl
  fld := .inl rfl
  lay := .inl rfl
  rowT := .inl rfl
  arr := .inl rfl
  arv := .inl rfl
  fsz := by kernel_rfl
  eqv := .inl rfl
  zer := .inr (by kernel_rfl)
  fnv := .inl rfl
  emp := .inl rfl
  mki := .inl rfl
theorem td_68 : TDOk Try.prog 68 { ty := tywhole, fs := [(.int .i64), (.int .i64)], eq := true } where
  row := .inr (by kernel_rfl)
  und := .inl rfl
  sli := .inl rfl
  slt := by kernel_rfl
  bye := .inl rfl
  fld := .inr (by kernel_rfl)
  lay := .inr (by kernel_rfl)
  rowT := .inr rfl
  arr := .inl rfl
  arv := .inl rfl
  fsz := by kernel_rfl
  eqv := .inr (by kernel_rfl)
  zer := .inr (by kernel_rfl)
  fnv := .inl rfl
  emp := .inl rfl
  mki := .inl rfl
theorem td_82 : TDOk Try.prog 82 { ty := (.int .u64) } where
  row := .inr (by kernel_rfl)
  und := .inr (by kernel_rfl)
  sli := .inl rfl
  slt := by kernel_rfl
  bye := .inl rfl
  fld := .inl rfl
  lay := .inl rfl
  rowT := .inl rfl
  arr := .inl rfl
  arv := .inl rfl
  fsz := by kernel_rfl
  eqv := .inl rfl
  zer := .inr (by kernel_rfl)
  fnv := .inl rfl
  emp := .inl rfl
  mki := .inl rfl
theorem Yok : DXOk Y0 X0 where
  tab := List.forall_mem_cons.2 ⟨td_3, List.forall_mem_cons.2 ⟨td_4, List.forall_mem_cons.2 ⟨td_9, List.forall_mem_cons.2 ⟨td_22, List.forall_mem_cons.2 ⟨td_24, List.forall_mem_cons.2 ⟨td_48, List.forall_mem_cons.2 ⟨td_52, List.forall_mem_cons.2 ⟨td_55, List.forall_mem_cons.2 ⟨td_68, List.forall_mem_cons.2 ⟨td_82, (fun _ h => by cases h)⟩⟩⟩⟩⟩⟩⟩⟩⟩⟩
  gl := fun _ => rfl
def F_base_CopyValue : FnD := { n := 6, rs := [2] }
set_option maxRecDepth 100000 in
theorem ok_base_CopyValue (v : (List tAtom)) (r : (List tAtom)) (h : base_CopyValue v = some r) : APure X0 21 ([.s (.sl 4 tyAtom) v].map DT.toT) (resT ([.own 48 tyAtom r].map DT.toT)) := by
  refine APure_of_straight (F := F_base_CopyValue) (fuel := 3000) (E := E_0) Yok E_0_ok mixed Try.func21 rfl rfl rfl (by decide) (args := [.s (.sl 4 tyAtom) v]) (Nat.le_of_ble_eq_true rfl) (by kernel_rfl) (fun r => [.own 48 tyAtom r]) ?_ h
  intro goto ret
  unfold base_CopyValue
  simp only [bnd_G, bnd_ite, bnd_bind, bnd_some, -eq_self]
  kernel_rfl
noncomputable def e_base_CopyValue : List DT → Option CallRes
  | [.s t0 y0] => (castT (b := (.sl 4 tyAtom)) y0).bind fun v => some ⟨(List tAtom), base_CopyValue v, fun r => .own 48 tyAtom r, ([] : List tAtom), true⟩
  | _ => none
noncomputable def E_base_CopyValue : Env := Env.add 21 e_base_CopyValue E_0
theorem E_base_CopyValue_ok : EnvOk X0 E_base_CopyValue := by
  refine EnvOk.add E_0_ok (fun args c h => ?_)
  unfold e_base_CopyValue at h
  split at h
  · obtain ⟨v0, c0, h⟩ := Option.bind_eq_some_iff.1 h
    obtain ⟨rfl, rfl⟩ := castT_some c0
    cases h
    exact ⟨fun r hr => .inl ⟨by kernel_rfl, ok_base_CopyValue _ r hr⟩, fun hb => fun r => noSl_res (by rfl)⟩
  · cases h
def F_law07_copied : FnD := { n := 21, rs := [2], labels := [(3, [0, 3, 4])] }
def lab_law07_copied : L_law07_copied → Nat × DSt
  | .l3 l out i => (3, [(0, .t (.s (.sl 1 (.sl 4 tyAtom)) l)), (3, .t (.own 24 (.sl 4 tyAtom) out)), (4, .t (.s (.int .i64) i))])
set_option maxRecDepth 100000 in
theorem ok_law07_copied (l : (List (List tAtom))) (r : (List (List tAtom))) (h : law07_copied l = some r) : APure X0 11 ([.s (.sl 1 (.sl 4 tyAtom)) l].map DT.toT) (resT ([.own 24 (.sl 4 tyAtom) r].map DT.toT)) := by
  refine APure_of_machine (F := F_law07_copied) (fuel := 3000) (E := E_base_CopyValue) Yok E_base_CopyValue_ok mixed Try.func11 rfl rfl rfl (by decide) (args := [.s (.sl 1 (.sl 4 tyAtom)) l]) (Nat.le_of_ble_eq_true rfl) (by kernel_rfl) lab_law07_copied st_law07_copied (fun r => [.own 24 (.sl 4 tyAtom) r]) ?_ ?_ ?_ h
  · intro l; cases l
    · exact WF_list ⟨trivial, trivial, trivial, trivial⟩
  · intro l goto ret; cases l with
    | l3 l out i =>
      show _ = push (sg_law07_copied_3 l out i) (fun l' => goto (lab_law07_copied l').1 (lab_law07_copied l').2) (fun r => ret [.own 24 (.sl 4 tyAtom) r])
      unfold sg_law07_copied_3
      simp only [push_G, push_ite, push_bind, push_inl, push_inr, -eq_self]
      kernel_rfl
  · intro goto ret
    show _ = push (en_law07_copied l) (fun l' => goto (lab_law07_copied l').1 (lab_law07_copied l').2) (fun r => ret [.own 24 (.sl 4 tyAtom) r])
    unfold en_law07_copied
    simp only [push_G, push_ite, push_bind, push_inl, push_inr, -eq_self]
    kernel_rfl
noncomputable def e_law07_copied : List DT → Option CallRes
  | [.s t0 y0] => (castT (b := (.sl 1 (.sl 4 tyAtom))) y0).bind fun l => some ⟨(List (List tAtom)), law07_copied l, fun r => .own 24 (.sl 4 tyAtom) r, ([] : List (List tAtom)), false⟩
  | _ => none
noncomputable def E_law07_copied : Env := Env.add 11 e_law07_copied E_base_CopyValue
theorem E_law07_copied_ok : EnvOk X0 E_law07_copied := by
  refine EnvOk.add E_base_CopyValue_ok (fun args c h => ?_)
  unfold e_law07_copied at h
  split at h
  · obtain ⟨v0, c0, h⟩ := Option.bind_eq_some_iff.1 h
    obtain ⟨rfl, rfl⟩ := castT_some c0
    cases h
    exact ⟨fun r hr => .inl ⟨by kernel_rfl, ok_law07_copied _ r hr⟩, fun hb => by cases hb⟩
  · cases h
def c_law07_spoil : List Value := valsT tyAtom (((-7 : Int), (0 : Int), (0 : Int), ([] : List UInt8), ()) : tAtom)
theorem info_law07_spoil : ∃ inf, Try.prog.info? 48 = some inf ∧ inf.size = c_law07_spoil.length := by
  refine ⟨(Try.prog.info? 48).getD default, ?_, by kernel_rfl⟩
  kernel_rfl
set_option maxRecDepth 100000 in
theorem walk_law07_spoil (w : World) (g n cap : Nat) (cur : Array Value) (e : TypeId) (hg : w.heap[g]? = some (.cells cur e (0, 0))) (hcur : cur.size = cap * c_law07_spoil.length) (hn : n ≤ cap) (hcap : cap ≤ maxLen) :
    Calls Try.prog 14 #[.slice (some ⟨g, 0, none⟩) n cap] w fun e' w' => e' = .returned (.tuple #[]) ∧ But g w w' ∧ ∃ cur' : Array Value, w'.heap[g]? = some (.cells cur' e (0, 0)) ∧ cur'.toList = rowsOf c_law07_spoil cap := by
  obtain ⟨inf, hinf, hsz⟩ := info_law07_spoil
  have hcm : (cap : Int) ≤ 9223372036854775807 := by unfold maxLen at hcap; omega
  go_enter Try.func14, Try.ntmps14
  go_wp2
  refine spoil_loop (n := 17) (s0 := 0) (s2 := 2) (c := 10) (g := g) (cap := cap) (cs := c_law07_spoil) (e := e) ?_ ?_ ?_ ⟨rfl, rfl, rfl⟩ hg hcur ?_
  · intro tmps w i Q hs hQ
    refine spoil_head (ts := 24) (te := 48) (ti := 3) (s0 := 0) (s2 := 2) (d1 := 7) (d2 := 8) (d3 := 9) (d4 := 10) rfl rfl rfl rfl rfl rfl rfl rfl rfl rfl rfl rfl (by rw [hs.size]; decide) hs.sl hs.ix (by kernel_rfl) (fun t' h1 h2 h3 => hQ t' ⟨by rw [h1, hs.size], by rw [h3 0 (by decide) (by decide) (by decide) (by decide), hs.sl], by rw [h3 2 (by decide) (by decide) (by decide) (by decide), hs.ix]⟩ h2)
  · intro tmps w i Q cur hs hi hg hcur hQ
    refine spoil_body (ts := 24) (te := 48) (s0 := 0) (s2 := 2) (d1 := 13) (d2 := 14) (d3 := 15) (d4 := 16) rfl rfl rfl rfl rfl rfl rfl rfl rfl rfl rfl rfl rfl rfl rfl (by rw [hs.size]; decide) hs.sl hs.ix hi (by kernel_rfl) hinf hsz (by kernel_rfl) (by decide) (fun ev w => by kernel_rfl) hg hcur (fun t' h1 h2 => hQ t' ⟨by rw [h1, hs.size], by rw [h2 0 (by decide) (by decide) (by decide) (by decide), hs.sl], by rw [h2 2 (by decide) (by decide) (by decide) (by decide), hs.ix]⟩)
  · intro tmps w i Q hs hi hQ
    refine spoil_tail (s2 := 2) (d1 := 11) (d2 := 12) rfl rfl rfl rfl rfl rfl rfl rfl rfl (by rw [hs.size]; decide) hs.ix (by omega) (fun t' h1 h2 h3 => hQ t' ⟨by rw [h1, hs.size], by rw [h3 0 (by decide) (by decide) (by decide), hs.sl], h2⟩)
  · intro tmps' cur' w' h1 h2 h3 h4
    simp only [Exit.inBlock, if_true]
    exact ⟨rfl, .tuple #[], by kernel_rfl, rfl, h1, cur', h2, h3⟩
set_option maxRecDepth 100000 in
theorem nil_law07_spoil (w : World) : Calls Try.prog 14 #[.slice none 0 0] w fun e' w' => e' = .returned (.tuple #[]) ∧ w' = w := by
  go_enter Try.func14, Try.ntmps14
  go_wp2
  refine wp_loop_once ?_
  go_wp2
  exact ⟨rfl, .tuple #[], by kernel_rfl, rfl, rfl⟩
theorem ok_law07_spoil (l : List tAtom) : ACall X0 14 [(DT.own 48 tyAtom l).toT] (.tup []) [(DT.own 48 tyAtom (List.replicate l.length (((-7 : Int), (0 : Int), (0 : Int), ([] : List UInt8), ()) : tAtom))).toT] :=
  spoil_call (X := X0) (t := tyAtom) (((-7 : Int), (0 : Int), (0 : Int), ([] : List UInt8), ()) : tAtom) rfl rfl nil_law07_spoil (fun w g n cap cur hg hcur hn hcap => walk_law07_spoil w g n cap cur 48 hg hcur hn hcap) l
noncomputable def e_law07_spoil : List DT → Option CallRes
  | [.tup [.own e t l]] => (castT (a := .sl 1 t) (b := .sl 1 tyAtom) l).bind fun l => match Nat.beq e 48 with
    | true => some ⟨List tAtom, some (List.replicate (l : List tAtom).length (((-7 : Int), (0 : Int), (0 : Int), ([] : List UInt8), ()) : tAtom)), fun r => .own 48 tyAtom r, [], false⟩
    | false => none
  | _ => none
noncomputable def E_law07_spoil : Env := Env.add 14 e_law07_spoil E_law07_copied
theorem E_law07_spoil_ok : EnvOk X0 E_law07_spoil := by
  refine EnvOk.add E_law07_copied_ok (fun args c h => ?_)
  unfold e_law07_spoil at h
  split at h
  · rename_i e t l
    obtain ⟨l1, c1, h⟩ := Option.bind_eq_some_iff.1 h
    obtain ⟨q0, q1⟩ := castT_some c1
    injection q0 with _ q0
    subst q0
    subst q1
    split at h
    · rename_i h0
      have h0 := Nat.eq_of_beq_eq_true h0
      subst h0
      cases h
      intro r hr l' hl'
      cases hr
      cases hl'
      exact ⟨by kernel_rfl, ok_law07_spoil _, rfl⟩
    · cases h
  · cases h
def F_base_SameValue : FnD := { n := 26, rs := [4], labels := [(4, [0, 1, 5])] }
def lab_base_SameValue : L_base_SameValue → Nat × DSt
  | .l4 a b i => (4, [(0, .t (.s (.sl 4 tyAtom) a)), (1, .t (.s (.sl 4 tyAtom) b)), (5, .t (.s (.int .i64) i))])
set_option maxRecDepth 100000 in
theorem ok_base_SameValue (a : (List tAtom)) (b : (List tAtom)) (r : Bool) (h : base_SameValue a b = some r) : APure X0 8 ([.s (.sl 4 tyAtom) a, .s (.sl 4 tyAtom) b].map DT.toT) (resT ([.s .bool r].map DT.toT)) := by
  refine APure_of_machine (F := F_base_SameValue) (fuel := 3000) (E := E_law07_spoil) Yok E_law07_spoil_ok mixed Try.func8 rfl rfl rfl (by decide) (args := [.s (.sl 4 tyAtom) a, .s (.sl 4 tyAtom) b]) (Nat.le_of_ble_eq_true rfl) (by kernel_rfl) lab_base_SameValue st_base_SameValue (fun r => [.s .bool r]) ?_ ?_ ?_ h
  · intro l; cases l
    · exact WF_list ⟨trivial, trivial, trivial, trivial⟩
  · intro l goto ret; cases l with
    | l4 a b i =>
      show _ = push (sg_base_SameValue_4 a b i) (fun l' => goto (lab_base_SameValue l').1 (lab_base_SameValue l').2) (fun r => ret [.s .bool r])
      unfold sg_base_SameValue_4
      simp only [push_G, push_ite, push_bind, push_inl, push_inr, -eq_self]
      kernel_rfl
  · intro goto ret
    show _ = push (en_base_SameValue a b) (fun l' => goto (lab_base_SameValue l').1 (lab_base_SameValue l').2) (fun r => ret [.s .bool r])
    unfold en_base_SameValue
    simp only [push_G, push_ite, push_bind, push_inl, push_inr, -eq_self]
    kernel_rfl
noncomputable def e_base_SameValue : List DT → Option CallRes
  | [.s t0 y0, .s t1 y1] => (castT (b := (.sl 4 tyAtom)) y0).bind fun a => (castT (b := (.sl 4 tyAtom)) y1).bind fun b => some ⟨Bool, base_SameValue a b, fun r => .s .bool r, false, true⟩
  | _ => none
noncomputable def E_base_SameValue : Env := Env.add 8 e_base_SameValue E_law07_spoil
theorem E_base_SameValue_ok : EnvOk X0 E_base_SameValue := by
  refine EnvOk.add E_law07_spoil_ok (fun args c h => ?_)
  unfold e_base_SameValue at h
  split at h
  · obtain ⟨v0, c0, h⟩ := Option.bind_eq_some_iff.1 h
    obtain ⟨rfl, rfl⟩ := castT_some c0
    obtain ⟨v1, c1, h⟩ := Option.bind_eq_some_iff.1 h
    obtain ⟨rfl, rfl⟩ := castT_some c1
    cases h
    exact ⟨fun r hr => .inl ⟨by kernel_rfl, ok_base_SameValue _ _ r hr⟩, fun hb => fun r => noSl_res (by rfl)⟩
  · cases h
def F_law07_values : FnD := { n := 27, rs := [4], labels := [(4, [0, 1, 5])] }
def lab_law07_values : L_law07_values → Nat × DSt
  | .l4 a b i => (4, [(0, .t (.s (.sl 1 (.sl 4 tyAtom)) a)), (1, .t (.s (.sl 1 (.sl 4 tyAtom)) b)), (5, .t (.s (.int .i64) i))])
set_option maxRecDepth 100000 in
theorem ok_law07_values (a : (List (List tAtom))) (b : (List (List tAtom))) (r : Bool) (h : law07_values a b = some r) : APure X0 19 ([.s (.sl 1 (.sl 4 tyAtom)) a, .s (.sl 1 (.sl 4 tyAtom)) b].map DT.toT) (resT ([.s .bool r].map DT.toT)) := by
  refine APure_of_machine (F := F_law07_values) (fuel := 3000) (E := E_base_SameValue) Yok E_base_SameValue_ok mixed Try.func19 rfl rfl rfl (by decide) (args := [.s (.sl 1 (.sl 4 tyAtom)) a, .s (.sl 1 (.sl 4 tyAtom)) b]) (Nat.le_of_ble_eq_true rfl) (by kernel_rfl) lab_law07_values st_law07_values (fun r => [.s .bool r]) ?_ ?_ ?_ h
  · intro l; cases l
    · exact WF_list ⟨trivial, trivial, trivial, trivial⟩
  · intro l goto ret; cases l with
    | l4 a b i =>
      show _ = push (sg_law07_values_4 a b i) (fun l' => goto (lab_law07_values l').1 (lab_law07_values l').2) (fun r => ret [.s .bool r])
      unfold sg_law07_values_4
      simp only [push_G, push_ite, push_bind, push_inl, push_inr, -eq_self]
      kernel_rfl
  · intro goto ret
    show _ = push (en_law07_values a b) (fun l' => goto (lab_law07_values l').1 (lab_law07_values l').2) (fun r => ret [.s .bool r])
    unfold en_law07_values
    simp only [push_G, push_ite, push_bind, push_inl, push_inr, -eq_self]
    kernel_rfl
noncomputable def e_law07_values : List DT → Option CallRes
  | [.s t0 y0, .s t1 y1] => (castT (b := (.sl 1 (.sl 4 tyAtom))) y0).bind fun a => (castT (b := (.sl 1 (.sl 4 tyAtom))) y1).bind fun b => some ⟨Bool, law07_values a b, fun r => .s .bool r, false, true⟩
  | _ => none
noncomputable def E_law07_values : Env := Env.add 19 e_law07_values E_base_SameValue
theorem E_law07_values_ok : EnvOk X0 E_law07_values := by
  refine EnvOk.add E_base_SameValue_ok (fun args c h => ?_)
  unfold e_law07_values at h
  split at h
  · obtain ⟨v0, c0, h⟩ := Option.bind_eq_some_iff.1 h
    obtain ⟨rfl, rfl⟩ := castT_some c0
    obtain ⟨v1, c1, h⟩ := Option.bind_eq_some_iff.1 h
    obtain ⟨rfl, rfl⟩ := castT_some c1
    cases h
    exact ⟨fun r hr => .inl ⟨by kernel_rfl, ok_law07_values _ _ r hr⟩, fun hb => fun r => noSl_res (by rfl)⟩
  · cases h
def F_value_well : FnD := { n := 56, rs := [2] }
set_option maxRecDepth 100000 in
theorem ok_value_well (a : tAtom) (r : Bool) (h : value_well a = some r) : APure X0 45 ([.s tyAtom a].map DT.toT) (resT ([.s .bool r].map DT.toT)) := by
  refine APure_of_straight (F := F_value_well) (fuel := 3000) (E := E_law07_values) Yok E_law07_values_ok mixed Try.func45 rfl rfl rfl (by decide) (args := [.s tyAtom a]) (Nat.le_of_ble_eq_true rfl) (by kernel_rfl) (fun r => [.s .bool r]) ?_ h
  intro goto ret
  unfold value_well
  simp only [bnd_G, bnd_ite, bnd_bind, bnd_some, -eq_self]
  kernel_rfl
noncomputable def e_value_well : List DT → Option CallRes
  | [.s t0 y0] => (castT (b := tyAtom) y0).bind fun a => some ⟨Bool, value_well a, fun r => .s .bool r, false, true⟩
  | _ => none
noncomputable def E_value_well : Env := Env.add 45 e_value_well E_law07_values
theorem E_value_well_ok : EnvOk X0 E_value_well := by
  refine EnvOk.add E_law07_values_ok (fun args c h => ?_)
  unfold e_value_well at h
  split at h
  · obtain ⟨v0, c0, h⟩ := Option.bind_eq_some_iff.1 h
    obtain ⟨rfl, rfl⟩ := castT_some c0
    cases h
    exact ⟨fun r hr => .inl ⟨by kernel_rfl, ok_value_well _ r hr⟩, fun hb => fun r => noSl_res (by rfl)⟩
  · cases h
def F_value_wholes : FnD := { n := 80, rs := [2, 3], labels := [(3, [4, 5, 16, 17, 18]), (10, [4, 5, 6, 8, 9, 16, 17, 18, 42, 43, 44])] }
def lab_value_wholes : L_value_wholes → Nat × DSt
  | .l3 out stack x16 x17 x18 => (3, [(4, .t (.own 68 tywhole out)), (5, .t (.own 68 tywhole stack)), (16, .t (.s (.sl 4 tyAtom) x16)), (17, .t (.s (.int .i64) x17)), (18, .t (.s (.int .i64) x18))])
  | .l10 out stack i k w w' x16 x17 x18 x42 x42' x43 x44 => (10, [(4, .t (.own 68 tywhole out)), (5, .t (.own 68 tywhole stack)), (6, .t (.s (.int .i64) i)), (8, .t (.s (.int .i64) k)), (9, .t (.box 68 [.s (.int .i64) w, .s (.int .i64) w'])), (16, .t (.s (.sl 4 tyAtom) x16)), (17, .t (.s (.int .i64) x17)), (18, .t (.s (.int .i64) x18)), (42, .ref 5 none x42 x42' .mid), (43, .t (.s (.int .i64) x43)), (44, .t (.s (.int .i64) x44))])
set_option maxRecDepth 100000 in
theorem ok_value_wholes (v : (List tAtom)) (r : ((List twhole) × Bool)) (h : value_wholes v = some r) : APure X0 33 ([.s (.sl 4 tyAtom) v].map DT.toT) (resT ([.own 68 tywhole r.1, .s .bool r.2].map DT.toT)) := by
  refine APure_of_machine (F := F_value_wholes) (fuel := 3000) (E := E_value_well) Yok E_value_well_ok mixed Try.func33 rfl rfl rfl (by decide) (args := [.s (.sl 4 tyAtom) v]) (Nat.le_of_ble_eq_true rfl) (by kernel_rfl) lab_value_wholes st_value_wholes (fun r => [.own 68 tywhole r.1, .s .bool r.2]) ?_ ?_ ?_ h
  · intro l; cases l
    · exact WF_list ⟨trivial, trivial, trivial, trivial, trivial, trivial⟩
    · exact WF_list ⟨trivial, trivial, trivial, trivial, trivial, trivial, trivial, trivial, .inl rfl, trivial, trivial, trivial⟩
  · intro l goto ret; cases l with
    | l3 out stack x16 x17 x18 =>
      show _ = push (sg_value_wholes_3 out stack x16 x17 x18) (fun l' => goto (lab_value_wholes l').1 (lab_value_wholes l').2) (fun r => ret [.own 68 tywhole r.1, .s .bool r.2])
      unfold sg_value_wholes_3
      simp only [push_G, push_ite, push_bind, push_inl, push_inr, -eq_self]
      kernel_rfl
    | l10 out stack i k w w' x16 x17 x18 x42 x42' x43 x44 =>
      show _ = push (sg_value_wholes_10 out stack i k w w' x16 x17 x18 x42 x42' x43 x44) (fun l' => goto (lab_value_wholes l').1 (lab_value_wholes l').2) (fun r => ret [.own 68 tywhole r.1, .s .bool r.2])
      unfold sg_value_wholes_10
      simp only [push_G, push_ite, push_bind, push_inl, push_inr, -eq_self]
      kernel_rfl
  · intro goto ret
    show _ = push (en_value_wholes v) (fun l' => goto (lab_value_wholes l').1 (lab_value_wholes l').2) (fun r => ret [.own 68 tywhole r.1, .s .bool r.2])
    unfold en_value_wholes
    simp only [push_G, push_ite, push_bind, push_inl, push_inr, -eq_self]
    kernel_rfl
noncomputable def e_value_wholes : List DT → Option CallRes
  | [.s t0 y0] => (castT (b := (.sl 4 tyAtom)) y0).bind fun v => some ⟨((List twhole) × Bool), value_wholes v, fun r => .tup [.own 68 tywhole r.1, .s .bool r.2], (([] : List twhole), false), true⟩
  | _ => none
noncomputable def E_value_wholes : Env := Env.add 33 e_value_wholes E_value_well
theorem E_value_wholes_ok : EnvOk X0 E_value_wholes := by
  refine EnvOk.add E_value_well_ok (fun args c h => ?_)
  unfold e_value_wholes at h
  split at h
  · obtain ⟨v0, c0, h⟩ := Option.bind_eq_some_iff.1 h
    obtain ⟨rfl, rfl⟩ := castT_some c0
    cases h
    exact ⟨fun r hr => .inl ⟨by kernel_rfl, ok_value_wholes _ r hr⟩, fun hb => fun r => noSl_res (by rfl)⟩
  · cases h
def F_value_Check : FnD := { n := 15, rs := [2] }
set_option maxRecDepth 100000 in
theorem ok_value_Check (v : (List tAtom)) (r : Int) (h : value_Check v = some r) : APure X0 15 ([.s (.sl 4 tyAtom) v].map DT.toT) (resT ([.s (.int .i64) r].map DT.toT)) := by
  refine APure_of_straight (F := F_value_Check) (fuel := 3000) (E := E_value_wholes) Yok E_value_wholes_ok mixed Try.func15 rfl rfl rfl (by decide) (args := [.s (.sl 4 tyAtom) v]) (Nat.le_of_ble_eq_true rfl) (by kernel_rfl) (fun r => [.s (.int .i64) r]) ?_ h
  intro goto ret
  unfold value_Check
  simp only [bnd_G, bnd_ite, bnd_bind, bnd_some, -eq_self]
  kernel_rfl
noncomputable def e_value_Check : List DT → Option CallRes
  | [.s t0 y0] => (castT (b := (.sl 4 tyAtom)) y0).bind fun v => some ⟨Int, value_Check v, fun r => .s (.int .i64) r, (0 : Int), true⟩
  | _ => none
noncomputable def E_value_Check : Env := Env.add 15 e_value_Check E_value_wholes
theorem E_value_Check_ok : EnvOk X0 E_value_Check := by
  refine EnvOk.add E_value_wholes_ok (fun args c h => ?_)
  unfold e_value_Check at h
  split at h
  · obtain ⟨v0, c0, h⟩ := Option.bind_eq_some_iff.1 h
    obtain ⟨rfl, rfl⟩ := castT_some c0
    cases h
    exact ⟨fun r hr => .inl ⟨by kernel_rfl, ok_value_Check _ r hr⟩, fun hb => fun r => noSl_res (by rfl)⟩
  · cases h
def F_value_top : FnD := { n := 9, rs := [2], cl := [(2, 48)] }
set_option maxRecDepth 100000 in
theorem ok_value_top (v : (List tAtom)) (r : tAtom) (h : value_top v = some r) : APure X0 35 ([.s (.sl 4 tyAtom) v].map DT.toT) (resT ([.s tyAtom r].map DT.toT)) := by
  refine APure_of_straight (F := F_value_top) (fuel := 3000) (E := E_value_Check) Yok E_value_Check_ok mixed Try.func35 rfl rfl rfl (by decide) (args := [.s (.sl 4 tyAtom) v]) (Nat.le_of_ble_eq_true rfl) (by kernel_rfl) (fun r => [.s tyAtom r]) ?_ h
  intro goto ret
  unfold value_top
  simp only [bnd_G, bnd_ite, bnd_bind, bnd_some, -eq_self]
  kernel_rfl
noncomputable def e_value_top : List DT → Option CallRes
  | [.s t0 y0] => (castT (b := (.sl 4 tyAtom)) y0).bind fun v => some ⟨tAtom, value_top v, fun r => .s tyAtom r, dAtom, true⟩
  | _ => none
noncomputable def E_value_top : Env := Env.add 35 e_value_top E_value_Check
theorem E_value_top_ok : EnvOk X0 E_value_top := by
  refine EnvOk.add E_value_Check_ok (fun args c h => ?_)
  unfold e_value_top at h
  split at h
  · obtain ⟨v0, c0, h⟩ := Option.bind_eq_some_iff.1 h
    obtain ⟨rfl, rfl⟩ := castT_some c0
    cases h
    exact ⟨fun r hr => .inl ⟨by kernel_rfl, ok_value_top _ r hr⟩, fun hb => fun r => noSl_res (by rfl)⟩
  · cases h
def F_value_members : FnD := { n := 44, rs := [2], labels := [(5, [0, 3, 5, 6, 7])] }
def lab_value_members : L_value_members → Nat × DSt
  | .l5 v w out end_ i => (5, [(0, .t (.s (.sl 4 tyAtom) v)), (3, .t (.own 68 tywhole w)), (5, .t (.own 24 (.sl 4 tyAtom) out)), (6, .t (.s (.int .i64) end_)), (7, .t (.s (.int .i64) i))])
set_option maxRecDepth 100000 in
theorem ok_value_members (v : (List tAtom)) (r : (List (List tAtom))) (h : value_members v = some r) : APure X0 36 ([.s (.sl 4 tyAtom) v].map DT.toT) (resT ([.own 24 (.sl 4 tyAtom) r].map DT.toT)) := by
  refine APure_of_machine (F := F_value_members) (fuel := 3000) (E := E_value_top) Yok E_value_top_ok mixed Try.func36 rfl rfl rfl (by decide) (args := [.s (.sl 4 tyAtom) v]) (Nat.le_of_ble_eq_true rfl) (by kernel_rfl) lab_value_members st_value_members (fun r => [.own 24 (.sl 4 tyAtom) r]) ?_ ?_ ?_ h
  · intro l; cases l
    · exact WF_list ⟨trivial, trivial, trivial, trivial, trivial, trivial⟩
  · intro l goto ret; cases l with
    | l5 v w out end_ i =>
      show _ = push (sg_value_members_5 v w out end_ i) (fun l' => goto (lab_value_members l').1 (lab_value_members l').2) (fun r => ret [.own 24 (.sl 4 tyAtom) r])
      unfold sg_value_members_5
      simp only [push_G, push_ite, push_bind, push_inl, push_inr, -eq_self]
      kernel_rfl
  · intro goto ret
    show _ = push (en_value_members v) (fun l' => goto (lab_value_members l').1 (lab_value_members l').2) (fun r => ret [.own 24 (.sl 4 tyAtom) r])
    unfold en_value_members
    simp only [push_G, push_ite, push_bind, push_inl, push_inr, -eq_self]
    kernel_rfl
noncomputable def e_value_members : List DT → Option CallRes
  | [.s t0 y0] => (castT (b := (.sl 4 tyAtom)) y0).bind fun v => some ⟨(List (List tAtom)), value_members v, fun r => .own 24 (.sl 4 tyAtom) r, ([] : List (List tAtom)), false⟩
  | _ => none
noncomputable def E_value_members : Env := Env.add 36 e_value_members E_value_top
theorem E_value_members_ok : EnvOk X0 E_value_members := by
  refine EnvOk.add E_value_top_ok (fun args c h => ?_)
  unfold e_value_members at h
  split at h
  · obtain ⟨v0, c0, h⟩ := Option.bind_eq_some_iff.1 h
    obtain ⟨rfl, rfl⟩ := castT_some c0
    cases h
    exact ⟨fun r hr => .inl ⟨by kernel_rfl, ok_value_members _ r hr⟩, fun hb => by cases hb⟩
  · cases h
def F_cmp_isNaN : FnD := { n := 6, rs := [2] }
set_option maxRecDepth 100000 in
theorem ok_cmp_isNaN (x : Int) (r : Bool) (h : cmp_isNaN x = some r) : APure X0 63 ([.s (.int .i64) x].map DT.toT) (resT ([.s .bool r].map DT.toT)) := by
  refine APure_of_straight (F := F_cmp_isNaN) (fuel := 3000) (E := E_value_members) Yok E_value_members_ok mixed Try.func63 rfl rfl rfl (by decide) (args := [.s (.int .i64) x]) (Nat.le_of_ble_eq_true rfl) (by kernel_rfl) (fun r => [.s .bool r]) ?_ h
  intro goto ret
  unfold cmp_isNaN
  simp only [bnd_G, bnd_ite, bnd_bind, bnd_some, -eq_self]
  kernel_rfl
noncomputable def e_cmp_isNaN : List DT → Option CallRes
  | [.s t0 y0] => (castT (b := (.int .i64)) y0).bind fun x => some ⟨Bool, cmp_isNaN x, fun r => .s .bool r, false, true⟩
  | _ => none
noncomputable def E_cmp_isNaN : Env := Env.add 63 e_cmp_isNaN E_value_members
theorem E_cmp_isNaN_ok : EnvOk X0 E_cmp_isNaN := by
  refine EnvOk.add E_value_members_ok (fun args c h => ?_)
  unfold e_cmp_isNaN at h
  split at h
  · obtain ⟨v0, c0, h⟩ := Option.bind_eq_some_iff.1 h
    obtain ⟨rfl, rfl⟩ := castT_some c0
    cases h
    exact ⟨fun r hr => .inl ⟨by kernel_rfl, ok_cmp_isNaN _ r hr⟩, fun hb => fun r => noSl_res (by rfl)⟩
  · cases h
def F_cmp_Compare : FnD := { n := 20, rs := [4] }
set_option maxRecDepth 100000 in
theorem ok_cmp_Compare (x : Int) (y : Int) (r : Int) (h : cmp_Compare x y = some r) : APure X0 47 ([.s (.int .i64) x, .s (.int .i64) y].map DT.toT) (resT ([.s (.int .i64) r].map DT.toT)) := by
  refine APure_of_straight (F := F_cmp_Compare) (fuel := 3000) (E := E_cmp_isNaN) Yok E_cmp_isNaN_ok mixed Try.func47 rfl rfl rfl (by decide) (args := [.s (.int .i64) x, .s (.int .i64) y]) (Nat.le_of_ble_eq_true rfl) (by kernel_rfl) (fun r => [.s (.int .i64) r]) ?_ h
  intro goto ret
  unfold cmp_Compare
  simp only [bnd_G, bnd_ite, bnd_bind, bnd_some, -eq_self]
  kernel_rfl
noncomputable def e_cmp_Compare : List DT → Option CallRes
  | [.s t0 y0, .s t1 y1] => (castT (b := (.int .i64)) y0).bind fun x => (castT (b := (.int .i64)) y1).bind fun y => some ⟨Int, cmp_Compare x y, fun r => .s (.int .i64) r, (0 : Int), true⟩
  | _ => none
noncomputable def E_cmp_Compare : Env := Env.add 47 e_cmp_Compare E_cmp_isNaN
theorem E_cmp_Compare_ok : EnvOk X0 E_cmp_Compare := by
  refine EnvOk.add E_cmp_isNaN_ok (fun args c h => ?_)
  unfold e_cmp_Compare at h
  split at h
  · obtain ⟨v0, c0, h⟩ := Option.bind_eq_some_iff.1 h
    obtain ⟨rfl, rfl⟩ := castT_some c0
    obtain ⟨v1, c1, h⟩ := Option.bind_eq_some_iff.1 h
    obtain ⟨rfl, rfl⟩ := castT_some c1
    cases h
    exact ⟨fun r hr => .inl ⟨by kernel_rfl, ok_cmp_Compare _ _ r hr⟩, fun hb => fun r => noSl_res (by rfl)⟩
  · cases h
set_option maxRecDepth 100000 in
theorem ok_bytealg_abigen_runtime_cmpstring (a b : List UInt8) (r : Int) (h : bytealg_abigen_runtime_cmpstring a b = some r) : AExt X0 71 ([.s .str a, .s .str b].map DT.toT) (DT.s (.int .i64) r).toT := by
  cases h
  have := AExt_compareString (X := X0) (f := 71) Try.func71 (by decide +kernel) (by decide +kernel) (by kernel_rfl) (by kernel_rfl) (mkS a) (mkS b)
  rw [bl_mkS, bl_mkS] at this
  exact this
noncomputable def e_bytealg_abigen_runtime_cmpstring : List DT → Option CallRes
  | [.s t0 y0, .s t1 y1] => (castT (b := .str) y0).bind fun a => (castT (b := .str) y1).bind fun b => some ⟨Int, bytealg_abigen_runtime_cmpstring a b, fun r => .s (.int .i64) r, (0 : Int), false⟩
  | _ => none
noncomputable def E_bytealg_abigen_runtime_cmpstring : Env := Env.add 71 e_bytealg_abigen_runtime_cmpstring E_cmp_Compare
theorem E_bytealg_abigen_runtime_cmpstring_ok : EnvOk X0 E_bytealg_abigen_runtime_cmpstring := by
  refine EnvOk.add E_cmp_Compare_ok (fun args c h => ?_)
  unfold e_bytealg_abigen_runtime_cmpstring at h
  split at h
  · obtain ⟨v0, c0, h⟩ := Option.bind_eq_some_iff.1 h
    obtain ⟨rfl, rfl⟩ := castT_some c0
    obtain ⟨v1, c1, h⟩ := Option.bind_eq_some_iff.1 h
    obtain ⟨rfl, rfl⟩ := castT_some c1
    cases h
    exact ⟨fun r hr => .inr ⟨rfl, ok_bytealg_abigen_runtime_cmpstring _ _ r hr⟩, fun hb => by cases hb⟩
  · cases h
def F_bytealg_CompareString : FnD := { n := 8, rs := [4] }
set_option maxRecDepth 100000 in
theorem ok_bytealg_CompareString (a : (List UInt8)) (b : (List UInt8)) (r : Int) (h : bytealg_CompareString a b = some r) : APure X0 64 ([.s .str a, .s .str b].map DT.toT) (resT ([.s (.int .i64) r].map DT.toT)) := by
  refine APure_of_straight (F := F_bytealg_CompareString) (fuel := 3000) (E := E_bytealg_abigen_runtime_cmpstring) Yok E_bytealg_abigen_runtime_cmpstring_ok mixed Try.func64 rfl rfl rfl (by decide) (args := [.s .str a, .s .str b]) (Nat.le_of_ble_eq_true rfl) (by kernel_rfl) (fun r => [.s (.int .i64) r]) ?_ h
  intro goto ret
  unfold bytealg_CompareString
  simp only [bnd_G, bnd_ite, bnd_bind, bnd_some, -eq_self]
  kernel_rfl
noncomputable def e_bytealg_CompareString : List DT → Option CallRes
  | [.s t0 y0, .s t1 y1] => (castT (b := .str) y0).bind fun a => (castT (b := .str) y1).bind fun b => some ⟨Int, bytealg_CompareString a b, fun r => .s (.int .i64) r, (0 : Int), true⟩
  | _ => none
noncomputable def E_bytealg_CompareString : Env := Env.add 64 e_bytealg_CompareString E_bytealg_abigen_runtime_cmpstring
theorem E_bytealg_CompareString_ok : EnvOk X0 E_bytealg_CompareString := by
  refine EnvOk.add E_bytealg_abigen_runtime_cmpstring_ok (fun args c h => ?_)
  unfold e_bytealg_CompareString at h
  split at h
  · obtain ⟨v0, c0, h⟩ := Option.bind_eq_some_iff.1 h
    obtain ⟨rfl, rfl⟩ := castT_some c0
    obtain ⟨v1, c1, h⟩ := Option.bind_eq_some_iff.1 h
    obtain ⟨rfl, rfl⟩ := castT_some c1
    cases h
    exact ⟨fun r hr => .inl ⟨by kernel_rfl, ok_bytealg_CompareString _ _ r hr⟩, fun hb => fun r => noSl_res (by rfl)⟩
  · cases h
def F_strings_Compare : FnD := { n := 8, rs := [4] }
set_option maxRecDepth 100000 in
theorem ok_strings_Compare (a : (List UInt8)) (b : (List UInt8)) (r : Int) (h : strings_Compare a b = some r) : APure X0 48 ([.s .str a, .s .str b].map DT.toT) (resT ([.s (.int .i64) r].map DT.toT)) := by
  refine APure_of_straight (F := F_strings_Compare) (fuel := 3000) (E := E_bytealg_CompareString) Yok E_bytealg_CompareString_ok mixed Try.func48 rfl rfl rfl (by decide) (args := [.s .str a, .s .str b]) (Nat.le_of_ble_eq_true rfl) (by kernel_rfl) (fun r => [.s (.int .i64) r]) ?_ h
  intro goto ret
  unfold strings_Compare
  simp only [bnd_G, bnd_ite, bnd_bind, bnd_some, -eq_self]
  kernel_rfl
noncomputable def e_strings_Compare : List DT → Option CallRes
  | [.s t0 y0, .s t1 y1] => (castT (b := .str) y0).bind fun a => (castT (b := .str) y1).bind fun b => some ⟨Int, strings_Compare a b, fun r => .s (.int .i64) r, (0 : Int), true⟩
  | _ => none
noncomputable def E_strings_Compare : Env := Env.add 48 e_strings_Compare E_bytealg_CompareString
theorem E_strings_Compare_ok : EnvOk X0 E_strings_Compare := by
  refine EnvOk.add E_bytealg_CompareString_ok (fun args c h => ?_)
  unfold e_strings_Compare at h
  split at h
  · obtain ⟨v0, c0, h⟩ := Option.bind_eq_some_iff.1 h
    obtain ⟨rfl, rfl⟩ := castT_some c0
    obtain ⟨v1, c1, h⟩ := Option.bind_eq_some_iff.1 h
    obtain ⟨rfl, rfl⟩ := castT_some c1
    cases h
    exact ⟨fun r hr => .inl ⟨by kernel_rfl, ok_strings_Compare _ _ r hr⟩, fun hb => fun r => noSl_res (by rfl)⟩
  · cases h
def F_slices_CompareFunc : FnD := { n := 39, rs := [6], labels := [(2, [0, 1, 2, 11, 12, 13])] }
def lab_slices_CompareFunc : L_slices_CompareFunc → Nat × DSt
  | .l2 s1 s2 cmp x11 x12 x13 => (2, [(0, .t (.s (.sl 1 (.sl 4 tyAtom)) s1)), (1, .t (.s (.sl 1 (.sl 4 tyAtom)) s2)), (2, .t (.s .opq cmp)), (11, .t (.s (.sl 1 (.sl 4 tyAtom)) x11)), (12, .t (.s (.int .i64) x12)), (13, .t (.s (.int .i64) x13))])
noncomputable def ed_slices_CompareFunc (dyn : Value → (List tAtom) → (List tAtom) → Option Int) : List DT → Option CallRes
  | [.tup [.u, .s tv yv], .s t0 y0, .s t1 y1] => (castT (b := .opq) yv).bind fun v_ => (castT (b := (.sl 4 tyAtom)) y0).bind fun a0 => (castT (b := (.sl 4 tyAtom)) y1).bind fun a1 => some ⟨Int, dyn v_ a0 a1, fun r_ => (.s (.int .i64) r_ : DT), (0 : Int), true⟩
  | _ => none
theorem ed_slices_CompareFunc_ok (dyn : Value → (List tAtom) → (List tAtom) → Option Int) (hd : ∀ (v_ : Value) (a0 : (List tAtom)) (a1 : (List tAtom)) (r_ : Int), dyn v_ a0 a1 = some r_ → DynC X0 v_ (([.s (.sl 4 tyAtom) a0, .s (.sl 4 tyAtom) a1] : List DT).map DT.toT) (.s (.int .i64) r_ : DT).toT) : ∀ (g : FuncId) (args : List DT) (c : CallRes), ed_slices_CompareFunc dyn args = some c → CallOk X0 g args c := by
  intro g args c h
  unfold ed_slices_CompareFunc at h
  split at h
  · obtain ⟨vv, cv, h⟩ := Option.bind_eq_some_iff.1 h
    obtain ⟨rfl, rfl⟩ := castT_some cv
    obtain ⟨v0, c0, h⟩ := Option.bind_eq_some_iff.1 h
    obtain ⟨rfl, rfl⟩ := castT_some c0
    obtain ⟨v1, c1, h⟩ := Option.bind_eq_some_iff.1 h
    obtain ⟨rfl, rfl⟩ := castT_some c1
    cases h
    exact ⟨fun r hr => hd _ _ _ r hr, fun hb => fun r => noSl_res (by rfl)⟩
  · cases h
set_option maxRecDepth 100000 in
theorem ok_slices_CompareFunc (dyn : Value → (List tAtom) → (List tAtom) → Option Int) (hd : ∀ (v_ : Value) (a0 : (List tAtom)) (a1 : (List tAtom)) (r_ : Int), dyn v_ a0 a1 = some r_ → DynC X0 v_ (([.s (.sl 4 tyAtom) a0, .s (.sl 4 tyAtom) a1] : List DT).map DT.toT) (.s (.int .i64) r_ : DT).toT) (s1 : (List (List tAtom))) (s2 : (List (List tAtom))) (cmp : Value) (r : Int) (h : slices_CompareFunc dyn s1 s2 cmp = some r) : APure X0 49 ([.s (.sl 1 (.sl 4 tyAtom)) s1, .s (.sl 1 (.sl 4 tyAtom)) s2, .s .opq cmp].map DT.toT) (resT ([.s (.int .i64) r].map DT.toT)) := by
  unfold slices_CompareFunc at h
  refine APure_of_machine (F := F_slices_CompareFunc) (fuel := 3000) (E := (Env.addD (ed_slices_CompareFunc dyn) E_strings_Compare)) Yok (EnvOk.addD E_strings_Compare_ok (ed_slices_CompareFunc_ok dyn hd)) mixed Try.func49 rfl rfl rfl (by decide) (args := [.s (.sl 1 (.sl 4 tyAtom)) s1, .s (.sl 1 (.sl 4 tyAtom)) s2, .s .opq cmp]) (Nat.le_of_ble_eq_true rfl) (by kernel_rfl) lab_slices_CompareFunc (st_slices_CompareFunc dyn) (fun r => [.s (.int .i64) r]) ?_ ?_ ?_ h
  · intro l; cases l
    · exact WF_list ⟨trivial, trivial, trivial, trivial, trivial, trivial, trivial⟩
  · intro l goto ret; cases l with
    | l2 s1 s2 cmp x11 x12 x13 =>
      show _ = push (sg_slices_CompareFunc_2 dyn s1 s2 cmp x11 x12 x13) (fun l' => goto (lab_slices_CompareFunc l').1 (lab_slices_CompareFunc l').2) (fun r => ret [.s (.int .i64) r])
      unfold sg_slices_CompareFunc_2
      simp only [push_G, push_ite, push_bind, push_inl, push_inr, -eq_self]
      kernel_rfl
  · intro goto ret
    show _ = push (en_slices_CompareFunc dyn s1 s2 cmp) (fun l' => goto (lab_slices_CompareFunc l').1 (lab_slices_CompareFunc l').2) (fun r => ret [.s (.int .i64) r])
    unfold en_slices_CompareFunc
    simp only [push_G, push_ite, push_bind, push_inl, push_inr, -eq_self]
    kernel_rfl
noncomputable def e_slices_CompareFunc (dyn : Value → (List tAtom) → (List tAtom) → Option Int) : List DT → Option CallRes
  | [.s t0 y0, .s t1 y1, .s t2 y2] => (castT (b := (.sl 1 (.sl 4 tyAtom))) y0).bind fun s1 => (castT (b := (.sl 1 (.sl 4 tyAtom))) y1).bind fun s2 => (castT (b := .opq) y2).bind fun cmp => some ⟨Int, slices_CompareFunc dyn s1 s2 cmp, fun r => .s (.int .i64) r, (0 : Int), true⟩
  | _ => none
theorem he_slices_CompareFunc (dyn : Value → (List tAtom) → (List tAtom) → Option Int) (hd : ∀ (v_ : Value) (a0 : (List tAtom)) (a1 : (List tAtom)) (r_ : Int), dyn v_ a0 a1 = some r_ → DynC X0 v_ (([.s (.sl 4 tyAtom) a0, .s (.sl 4 tyAtom) a1] : List DT).map DT.toT) (.s (.int .i64) r_ : DT).toT) : ∀ (args : List DT) (c : CallRes), e_slices_CompareFunc dyn args = some c → CallOk X0 49 args c := by
  intro args c h
  unfold e_slices_CompareFunc at h
  split at h
  · replace h := Option.bind_eq_some_iff.1 h
    obtain ⟨v0, c0, h⟩ := h
    obtain ⟨rfl, rfl⟩ := castT_some c0
    replace h := Option.bind_eq_some_iff.1 h
    obtain ⟨v1, c1, h⟩ := h
    obtain ⟨rfl, rfl⟩ := castT_some c1
    replace h := Option.bind_eq_some_iff.1 h
    obtain ⟨v2, c2, h⟩ := h
    obtain ⟨rfl, rfl⟩ := castT_some c2
    cases h
    exact ⟨fun r hr => .inl ⟨by kernel_rfl, ok_slices_CompareFunc dyn hd _ _ _ r hr⟩, fun hb => fun r => noSl_res (by rfl)⟩
  · cases h
def F_value_compare : FnD := { n := 45, rs := [4] }
noncomputable def e_value_compare_n (fu_ : Nat) : List DT → Option CallRes
  | [.s t0 y0, .s t1 y1] => (castT (b := (.sl 4 tyAtom)) y0).bind fun a => (castT (b := (.sl 4 tyAtom)) y1).bind fun b => some ⟨Int, value_compare_n fu_ a b, fun r => .s (.int .i64) r, (0 : Int), true⟩
  | _ => none
noncomputable def E_value_compare_n (fu_ : Nat) : Env := Env.add 40 (e_value_compare_n fu_) E_strings_Compare
theorem E_value_compare_n_ok (fu_ : Nat) (ih : ∀ (a : (List tAtom)) (b : (List tAtom)) (r : Int), value_compare_n fu_ a b = some r → APure X0 40 ([.s (.sl 4 tyAtom) a, .s (.sl 4 tyAtom) b].map DT.toT) (resT ([.s (.int .i64) r].map DT.toT))) : EnvOk X0 (E_value_compare_n fu_) := by
  refine EnvOk.add E_strings_Compare_ok (fun args c h => ?_)
  unfold e_value_compare_n at h
  split at h
  · replace h := Option.bind_eq_some_iff.1 h
    obtain ⟨v0, c0, h⟩ := h
    obtain ⟨rfl, rfl⟩ := castT_some c0
    replace h := Option.bind_eq_some_iff.1 h
    obtain ⟨v1, c1, h⟩ := h
    obtain ⟨rfl, rfl⟩ := castT_some c1
    cases h
    exact ⟨fun r hr => .inl ⟨by kernel_rfl, ih _ _ r hr⟩, fun hb => fun r => noSl_res (by rfl)⟩
  · cases h
set_option maxRecDepth 100000 in
theorem ok_value_compare_n : ∀ (fu_ : Nat) (a : (List tAtom)) (b : (List tAtom)) (r : Int) (h : value_compare_n fu_ a b = some r), APure X0 40 ([.s (.sl 4 tyAtom) a, .s (.sl 4 tyAtom) b].map DT.toT) (resT ([.s (.int .i64) r].map DT.toT))
  | 0, a, b, r, h => by unfold value_compare_n at h; cases h
  | fu_ + 1, a, b, r, h => by
    unfold value_compare_n at h
    refine APure_of_straight (F := F_value_compare) (fuel := 3000) (E := (Env.add 49 (e_slices_CompareFunc (fun v_ a0 a1 => if fnIs v_ 40 = true then (value_compare_n fu_) a0 a1 else none)) (E_value_compare_n fu_))) Yok (EnvOk.add (E_value_compare_n_ok fu_ (ok_value_compare_n fu_)) (he_slices_CompareFunc (fun v_ a0 a1 => if fnIs v_ 40 = true then (value_compare_n fu_) a0 a1 else none) (fun v_ a0 a1 r_ h => dyn_or h (fun hv hx => ⟨40, fnIs_spec hv, by kernel_rfl, ok_value_compare_n fu_ a0 a1 r_ hx⟩) (fun h => by cases h)))) mixed Try.func40 rfl rfl rfl (by decide) (args := [.s (.sl 4 tyAtom) a, .s (.sl 4 tyAtom) b]) (Nat.le_of_ble_eq_true rfl) (by kernel_rfl) (fun r => [.s (.int .i64) r]) ?_ h
    intro goto ret
    unfold en_value_compare
    simp only [bnd_G, bnd_ite, bnd_bind, bnd_some, -eq_self]
    kernel_rfl
theorem ok_value_compare (a : (List tAtom)) (b : (List tAtom)) (r : Int) (h : value_compare a b = some r) : APure X0 40 ([.s (.sl 4 tyAtom) a, .s (.sl 4 tyAtom) b].map DT.toT) (resT ([.s (.int .i64) r].map DT.toT)) := ok_value_compare_n 64 a b r h
noncomputable def e_value_compare : List DT → Option CallRes
  | [.s t0 y0, .s t1 y1] => (castT (b := (.sl 4 tyAtom)) y0).bind fun a => (castT (b := (.sl 4 tyAtom)) y1).bind fun b => some ⟨Int, value_compare a b, fun r => .s (.int .i64) r, (0 : Int), true⟩
  | _ => none
noncomputable def E_value_compare : Env := Env.add 40 (e_value_compare) E_strings_Compare
theorem E_value_compare_ok : EnvOk X0 (E_value_compare) := by
  refine EnvOk.add E_strings_Compare_ok (fun args c h => ?_)
  unfold e_value_compare at h
  split at h
  · replace h := Option.bind_eq_some_iff.1 h
    obtain ⟨v0, c0, h⟩ := h
    obtain ⟨rfl, rfl⟩ := castT_some c0
    replace h := Option.bind_eq_some_iff.1 h
    obtain ⟨v1, c1, h⟩ := h
    obtain ⟨rfl, rfl⟩ := castT_some c1
    cases h
    exact ⟨fun r hr => .inl ⟨by kernel_rfl, ok_value_compare _ _ r hr⟩, fun hb => fun r => noSl_res (by rfl)⟩
  · cases h
def F_value_Compare : FnD := { n := 21, rs := [4, 5] }
set_option maxRecDepth 100000 in
theorem ok_value_Compare (a : (List tAtom)) (b : (List tAtom)) (r : (Int × Int)) (h : value_Compare a b = some r) : APure X0 20 ([.s (.sl 4 tyAtom) a, .s (.sl 4 tyAtom) b].map DT.toT) (resT ([.s (.int .i64) r.1, .s (.int .i64) r.2].map DT.toT)) := by
  refine APure_of_straight (F := F_value_Compare) (fuel := 3000) (E := E_value_compare) Yok E_value_compare_ok mixed Try.func20 rfl rfl rfl (by decide) (args := [.s (.sl 4 tyAtom) a, .s (.sl 4 tyAtom) b]) (Nat.le_of_ble_eq_true rfl) (by kernel_rfl) (fun r => [.s (.int .i64) r.1, .s (.int .i64) r.2]) ?_ h
  intro goto ret
  unfold value_Compare
  simp only [bnd_G, bnd_ite, bnd_bind, bnd_some, -eq_self]
  kernel_rfl
noncomputable def e_value_Compare : List DT → Option CallRes
  | [.s t0 y0, .s t1 y1] => (castT (b := (.sl 4 tyAtom)) y0).bind fun a => (castT (b := (.sl 4 tyAtom)) y1).bind fun b => some ⟨(Int × Int), value_Compare a b, fun r => .tup [.s (.int .i64) r.1, .s (.int .i64) r.2], ((0 : Int), (0 : Int)), true⟩
  | _ => none
noncomputable def E_value_Compare : Env := Env.add 20 e_value_Compare E_value_compare
theorem E_value_Compare_ok : EnvOk X0 E_value_Compare := by
  refine EnvOk.add E_value_compare_ok (fun args c h => ?_)
  unfold e_value_Compare at h
  split at h
  · obtain ⟨v0, c0, h⟩ := Option.bind_eq_some_iff.1 h
    obtain ⟨rfl, rfl⟩ := castT_some c0
    obtain ⟨v1, c1, h⟩ := Option.bind_eq_some_iff.1 h
    obtain ⟨rfl, rfl⟩ := castT_some c1
    cases h
    exact ⟨fun r hr => .inl ⟨by kernel_rfl, ok_value_Compare _ _ r hr⟩, fun hb => fun r => noSl_res (by rfl)⟩
  · cases h
def F_ref07_atom : FnD := { n := 56, rs := [2] }
set_option maxRecDepth 100000 in
theorem ok_ref07_atom (a : tAtom) (r : Bool) (h : ref07_atom a = some r) : APure X0 46 ([.s tyAtom a].map DT.toT) (resT ([.s .bool r].map DT.toT)) := by
  refine APure_of_straight (F := F_ref07_atom) (fuel := 3000) (E := E_value_Compare) Yok E_value_Compare_ok mixed Try.func46 rfl rfl rfl (by decide) (args := [.s tyAtom a]) (Nat.le_of_ble_eq_true rfl) (by kernel_rfl) (fun r => [.s .bool r]) ?_ h
  intro goto ret
  unfold ref07_atom
  simp only [bnd_G, bnd_ite, bnd_bind, bnd_some, -eq_self]
  kernel_rfl
noncomputable def e_ref07_atom : List DT → Option CallRes
  | [.s t0 y0] => (castT (b := tyAtom) y0).bind fun a => some ⟨Bool, ref07_atom a, fun r => .s .bool r, false, true⟩
  | _ => none
noncomputable def E_ref07_atom : Env := Env.add 46 e_ref07_atom E_value_Compare
theorem E_ref07_atom_ok : EnvOk X0 E_ref07_atom := by
  refine EnvOk.add E_value_Compare_ok (fun args c h => ?_)
  unfold e_ref07_atom at h
  split at h
  · obtain ⟨v0, c0, h⟩ := Option.bind_eq_some_iff.1 h
    obtain ⟨rfl, rfl⟩ := castT_some c0
    cases h
    exact ⟨fun r hr => .inl ⟨by kernel_rfl, ok_ref07_atom _ r hr⟩, fun hb => fun r => noSl_res (by rfl)⟩
  · cases h
def F_ref07_begins : FnD := { n := 96, rs := [2, 3, 4], labels := [(5, [0, 5, 6, 7, 8]), (15, [0, 5, 6, 7, 8, 9, 10, 11, 12]), (20, [0, 5, 6, 7, 8, 10, 11])] }
def lab_ref07_begins : L_ref07_begins → Nat × DSt
  | .l5 v from_ stack deep i => (5, [(0, .t (.s (.sl 4 tyAtom) v)), (5, .t (.own 3 (.int .i64) from_)), (6, .t (.own 3 (.int .i64) stack)), (7, .t (.own 3 (.int .i64) deep)), (8, .t (.s (.int .i64) i))])
  | .l15 v from_ stack deep i n b d k => (15, [(0, .t (.s (.sl 4 tyAtom) v)), (5, .t (.own 3 (.int .i64) from_)), (6, .t (.own 3 (.int .i64) stack)), (7, .t (.own 3 (.int .i64) deep)), (8, .t (.s (.int .i64) i)), (9, .t (.s (.int .i64) n)), (10, .t (.s (.int .i64) b)), (11, .t (.s (.int .i64) d)), (12, .t (.s (.int .i64) k))])
  | .l20 v from_ stack deep i b d => (20, [(0, .t (.s (.sl 4 tyAtom) v)), (5, .t (.own 3 (.int .i64) from_)), (6, .t (.own 3 (.int .i64) stack)), (7, .t (.own 3 (.int .i64) deep)), (8, .t (.s (.int .i64) i)), (10, .t (.s (.int .i64) b)), (11, .t (.s (.int .i64) d))])
set_option maxRecDepth 100000 in
theorem ok_ref07_begins (v : (List tAtom)) (r : ((List Int) × Int × Bool)) (h : ref07_begins v = some r) : APure X0 34 ([.s (.sl 4 tyAtom) v].map DT.toT) (resT ([.own 3 (.int .i64) r.1, .s (.int .i64) r.2.1, .s .bool r.2.2].map DT.toT)) := by
  refine APure_of_machine (F := F_ref07_begins) (fuel := 3000) (E := E_ref07_atom) Yok E_ref07_atom_ok mixed Try.func34 rfl rfl rfl (by decide) (args := [.s (.sl 4 tyAtom) v]) (Nat.le_of_ble_eq_true rfl) (by kernel_rfl) lab_ref07_begins st_ref07_begins (fun r => [.own 3 (.int .i64) r.1, .s (.int .i64) r.2.1, .s .bool r.2.2]) ?_ ?_ ?_ h
  · intro l; cases l
    · exact WF_list ⟨trivial, trivial, trivial, trivial, trivial, trivial⟩
    · exact WF_list ⟨trivial, trivial, trivial, trivial, trivial, trivial, trivial, trivial, trivial, trivial⟩
    · exact WF_list ⟨trivial, trivial, trivial, trivial, trivial, trivial, trivial, trivial⟩
  · intro l goto ret; cases l with
    | l5 v from_ stack deep i =>
      show _ = push (sg_ref07_begins_5 v from_ stack deep i) (fun l' => goto (lab_ref07_begins l').1 (lab_ref07_begins l').2) (fun r => ret [.own 3 (.int .i64) r.1, .s (.int .i64) r.2.1, .s .bool r.2.2])
      unfold sg_ref07_begins_5
      simp only [push_G, push_ite, push_bind, push_inl, push_inr, -eq_self]
      kernel_rfl
    | l15 v from_ stack deep i n b d k =>
      show _ = push (sg_ref07_begins_15 v from_ stack deep i n b d k) (fun l' => goto (lab_ref07_begins l').1 (lab_ref07_begins l').2) (fun r => ret [.own 3 (.int .i64) r.1, .s (.int .i64) r.2.1, .s .bool r.2.2])
      unfold sg_ref07_begins_15
      simp only [push_G, push_ite, push_bind, push_inl, push_inr, -eq_self]
      kernel_rfl
    | l20 v from_ stack deep i b d =>
      show _ = push (sg_ref07_begins_20 v from_ stack deep i b d) (fun l' => goto (lab_ref07_begins l').1 (lab_ref07_begins l').2) (fun r => ret [.own 3 (.int .i64) r.1, .s (.int .i64) r.2.1, .s .bool r.2.2])
      unfold sg_ref07_begins_20
      simp only [push_G, push_ite, push_bind, push_inl, push_inr, -eq_self]
      kernel_rfl
  · intro goto ret
    show _ = push (en_ref07_begins v) (fun l' => goto (lab_ref07_begins l').1 (lab_ref07_begins l').2) (fun r => ret [.own 3 (.int .i64) r.1, .s (.int .i64) r.2.1, .s .bool r.2.2])
    unfold en_ref07_begins
    simp only [push_G, push_ite, push_bind, push_inl, push_inr, -eq_self]
    kernel_rfl
noncomputable def e_ref07_begins : List DT → Option CallRes
  | [.s t0 y0] => (castT (b := (.sl 4 tyAtom)) y0).bind fun v => some ⟨((List Int) × Int × Bool), ref07_begins v, fun r => .tup [.own 3 (.int .i64) r.1, .s (.int .i64) r.2.1, .s .bool r.2.2], (([] : List Int), (0 : Int), false), true⟩
  | _ => none
noncomputable def E_ref07_begins : Env := Env.add 34 e_ref07_begins E_ref07_atom
theorem E_ref07_begins_ok : EnvOk X0 E_ref07_begins := by
  refine EnvOk.add E_ref07_atom_ok (fun args c h => ?_)
  unfold e_ref07_begins at h
  split at h
  · obtain ⟨v0, c0, h⟩ := Option.bind_eq_some_iff.1 h
    obtain ⟨rfl, rfl⟩ := castT_some c0
    cases h
    exact ⟨fun r hr => .inl ⟨by kernel_rfl, ok_ref07_begins _ r hr⟩, fun hb => fun r => noSl_res (by rfl)⟩
  · cases h
def F_ref07_Check : FnD := { n := 21, rs := [2] }
set_option maxRecDepth 100000 in
theorem ok_ref07_Check (v : (List tAtom)) (r : Int) (h : ref07_Check v = some r) : APure X0 16 ([.s (.sl 4 tyAtom) v].map DT.toT) (resT ([.s (.int .i64) r].map DT.toT)) := by
  refine APure_of_straight (F := F_ref07_Check) (fuel := 3000) (E := E_ref07_begins) Yok E_ref07_begins_ok mixed Try.func16 rfl rfl rfl (by decide) (args := [.s (.sl 4 tyAtom) v]) (Nat.le_of_ble_eq_true rfl) (by kernel_rfl) (fun r => [.s (.int .i64) r]) ?_ h
  intro goto ret
  unfold ref07_Check
  simp only [bnd_G, bnd_ite, bnd_bind, bnd_some, -eq_self]
  kernel_rfl
noncomputable def e_ref07_Check : List DT → Option CallRes
  | [.s t0 y0] => (castT (b := (.sl 4 tyAtom)) y0).bind fun v => some ⟨Int, ref07_Check v, fun r => .s (.int .i64) r, (0 : Int), true⟩
  | _ => none
noncomputable def E_ref07_Check : Env := Env.add 16 e_ref07_Check E_ref07_begins
theorem E_ref07_Check_ok : EnvOk X0 E_ref07_Check := by
  refine EnvOk.add E_ref07_begins_ok (fun args c h => ?_)
  unfold e_ref07_Check at h
  split at h
  · obtain ⟨v0, c0, h⟩ := Option.bind_eq_some_iff.1 h
    obtain ⟨rfl, rfl⟩ := castT_some c0
    cases h
    exact ⟨fun r hr => .inl ⟨by kernel_rfl, ok_ref07_Check _ r hr⟩, fun hb => fun r => noSl_res (by rfl)⟩
  · cases h
def F_ref07_whole : FnD := { n := 9, rs := [2], cl := [(2, 48)] }
set_option maxRecDepth 100000 in
theorem ok_ref07_whole (v : (List tAtom)) (r : tAtom) (h : ref07_whole v = some r) : APure X0 38 ([.s (.sl 4 tyAtom) v].map DT.toT) (resT ([.s tyAtom r].map DT.toT)) := by
  refine APure_of_straight (F := F_ref07_whole) (fuel := 3000) (E := E_ref07_Check) Yok E_ref07_Check_ok mixed Try.func38 rfl rfl rfl (by decide) (args := [.s (.sl 4 tyAtom) v]) (Nat.le_of_ble_eq_true rfl) (by kernel_rfl) (fun r => [.s tyAtom r]) ?_ h
  intro goto ret
  unfold ref07_whole
  simp only [bnd_G, bnd_ite, bnd_bind, bnd_some, -eq_self]
  kernel_rfl
noncomputable def e_ref07_whole : List DT → Option CallRes
  | [.s t0 y0] => (castT (b := (.sl 4 tyAtom)) y0).bind fun v => some ⟨tAtom, ref07_whole v, fun r => .s tyAtom r, dAtom, true⟩
  | _ => none
noncomputable def E_ref07_whole : Env := Env.add 38 e_ref07_whole E_ref07_Check
theorem E_ref07_whole_ok : EnvOk X0 E_ref07_whole := by
  refine EnvOk.add E_ref07_Check_ok (fun args c h => ?_)
  unfold e_ref07_whole at h
  split at h
  · obtain ⟨v0, c0, h⟩ := Option.bind_eq_some_iff.1 h
    obtain ⟨rfl, rfl⟩ := castT_some c0
    cases h
    exact ⟨fun r hr => .inl ⟨by kernel_rfl, ok_ref07_whole _ r hr⟩, fun hb => fun r => noSl_res (by rfl)⟩
  · cases h
def F_ref07_members : FnD := { n := 48, rs := [2], labels := [(6, [0, 3, 7, 8, 9])] }
def lab_ref07_members : L_ref07_members → Nat × DSt
  | .l6 v from_ out k i => (6, [(0, .t (.s (.sl 4 tyAtom) v)), (3, .t (.own 3 (.int .i64) from_)), (7, .t (.own 24 (.sl 4 tyAtom) out)), (8, .t (.s (.int .i64) k)), (9, .t (.s (.int .i64) i))])
set_option maxRecDepth 100000 in
theorem ok_ref07_members (v : (List tAtom)) (r : (List (List tAtom))) (h : ref07_members v = some r) : APure X0 39 ([.s (.sl 4 tyAtom) v].map DT.toT) (resT ([.own 24 (.sl 4 tyAtom) r].map DT.toT)) := by
  refine APure_of_machine (F := F_ref07_members) (fuel := 3000) (E := E_ref07_whole) Yok E_ref07_whole_ok mixed Try.func39 rfl rfl rfl (by decide) (args := [.s (.sl 4 tyAtom) v]) (Nat.le_of_ble_eq_true rfl) (by kernel_rfl) lab_ref07_members st_ref07_members (fun r => [.own 24 (.sl 4 tyAtom) r]) ?_ ?_ ?_ h
  · intro l; cases l
    · exact WF_list ⟨trivial, trivial, trivial, trivial, trivial, trivial⟩
  · intro l goto ret; cases l with
    | l6 v from_ out k i =>
      show _ = push (sg_ref07_members_6 v from_ out k i) (fun l' => goto (lab_ref07_members l').1 (lab_ref07_members l').2) (fun r => ret [.own 24 (.sl 4 tyAtom) r])
      unfold sg_ref07_members_6
      simp only [push_G, push_ite, push_bind, push_inl, push_inr, -eq_self]
      kernel_rfl
  · intro goto ret
    show _ = push (en_ref07_members v) (fun l' => goto (lab_ref07_members l').1 (lab_ref07_members l').2) (fun r => ret [.own 24 (.sl 4 tyAtom) r])
    unfold en_ref07_members
    simp only [push_G, push_ite, push_bind, push_inl, push_inr, -eq_self]
    kernel_rfl
noncomputable def e_ref07_members : List DT → Option CallRes
  | [.s t0 y0] => (castT (b := (.sl 4 tyAtom)) y0).bind fun v => some ⟨(List (List tAtom)), ref07_members v, fun r => .own 24 (.sl 4 tyAtom) r, ([] : List (List tAtom)), false⟩
  | _ => none
noncomputable def E_ref07_members : Env := Env.add 39 e_ref07_members E_ref07_whole
theorem E_ref07_members_ok : EnvOk X0 E_ref07_members := by
  refine EnvOk.add E_ref07_whole_ok (fun args c h => ?_)
  unfold e_ref07_members at h
  split at h
  · obtain ⟨v0, c0, h⟩ := Option.bind_eq_some_iff.1 h
    obtain ⟨rfl, rfl⟩ := castT_some c0
    cases h
    exact ⟨fun r hr => .inl ⟨by kernel_rfl, ok_ref07_members _ r hr⟩, fun hb => by cases hb⟩
  · cases h
def F_ref07_sign : FnD := { n := 7, rs := [2] }
set_option maxRecDepth 100000 in
theorem ok_ref07_sign (n : Int) (r : Int) (h : ref07_sign n = some r) : APure X0 50 ([.s (.int .i64) n].map DT.toT) (resT ([.s (.int .i64) r].map DT.toT)) := by
  refine APure_of_straight (F := F_ref07_sign) (fuel := 3000) (E := E_ref07_members) Yok E_ref07_members_ok mixed Try.func50 rfl rfl rfl (by decide) (args := [.s (.int .i64) n]) (Nat.le_of_ble_eq_true rfl) (by kernel_rfl) (fun r => [.s (.int .i64) r]) ?_ h
  intro goto ret
  unfold ref07_sign
  simp only [bnd_G, bnd_ite, bnd_bind, bnd_some, -eq_self]
  kernel_rfl
noncomputable def e_ref07_sign : List DT → Option CallRes
  | [.s t0 y0] => (castT (b := (.int .i64)) y0).bind fun n => some ⟨Int, ref07_sign n, fun r => .s (.int .i64) r, (0 : Int), true⟩
  | _ => none
noncomputable def E_ref07_sign : Env := Env.add 50 e_ref07_sign E_ref07_members
theorem E_ref07_sign_ok : EnvOk X0 E_ref07_sign := by
  refine EnvOk.add E_ref07_members_ok (fun args c h => ?_)
  unfold e_ref07_sign at h
  split at h
  · obtain ⟨v0, c0, h⟩ := Option.bind_eq_some_iff.1 h
    obtain ⟨rfl, rfl⟩ := castT_some c0
    cases h
    exact ⟨fun r hr => .inl ⟨by kernel_rfl, ok_ref07_sign _ r hr⟩, fun hb => fun r => noSl_res (by rfl)⟩
  · cases h
def F_ref07_compare : FnD := { n := 82, rs := [4], labels := [(15, [7, 8, 9])] }
def lab_ref07_compare : L_ref07_compare → Nat × DSt
  | .l15 p q i => (15, [(7, .t (.own 24 (.sl 4 tyAtom) p)), (8, .t (.own 24 (.sl 4 tyAtom) q)), (9, .t (.s (.int .i64) i))])
noncomputable def e_ref07_compare_n (fu_ : Nat) : List DT → Option CallRes
  | [.s t0 y0, .s t1 y1] => (castT (b := (.sl 4 tyAtom)) y0).bind fun a => (castT (b := (.sl 4 tyAtom)) y1).bind fun b => some ⟨Int, ref07_compare_n fu_ a b, fun r => .s (.int .i64) r, (0 : Int), true⟩
  | _ => none
noncomputable def E_ref07_compare_n (fu_ : Nat) : Env := Env.add 41 (e_ref07_compare_n fu_) E_ref07_sign
theorem E_ref07_compare_n_ok (fu_ : Nat) (ih : ∀ (a : (List tAtom)) (b : (List tAtom)) (r : Int), ref07_compare_n fu_ a b = some r → APure X0 41 ([.s (.sl 4 tyAtom) a, .s (.sl 4 tyAtom) b].map DT.toT) (resT ([.s (.int .i64) r].map DT.toT))) : EnvOk X0 (E_ref07_compare_n fu_) := by
  refine EnvOk.add E_ref07_sign_ok (fun args c h => ?_)
  unfold e_ref07_compare_n at h
  split at h
  · replace h := Option.bind_eq_some_iff.1 h
    obtain ⟨v0, c0, h⟩ := h
    obtain ⟨rfl, rfl⟩ := castT_some c0
    replace h := Option.bind_eq_some_iff.1 h
    obtain ⟨v1, c1, h⟩ := h
    obtain ⟨rfl, rfl⟩ := castT_some c1
    cases h
    exact ⟨fun r hr => .inl ⟨by kernel_rfl, ih _ _ r hr⟩, fun hb => fun r => noSl_res (by rfl)⟩
  · cases h
set_option maxRecDepth 100000 in
theorem ok_ref07_compare_n : ∀ (fu_ : Nat) (a : (List tAtom)) (b : (List tAtom)) (r : Int) (h : ref07_compare_n fu_ a b = some r), APure X0 41 ([.s (.sl 4 tyAtom) a, .s (.sl 4 tyAtom) b].map DT.toT) (resT ([.s (.int .i64) r].map DT.toT))
  | 0, a, b, r, h => by unfold ref07_compare_n at h; cases h
  | fu_ + 1, a, b, r, h => by
    unfold ref07_compare_n at h
    refine APure_of_machine (F := F_ref07_compare) (fuel := 3000) (E := (E_ref07_compare_n fu_)) Yok (E_ref07_compare_n_ok fu_ (ok_ref07_compare_n fu_)) mixed Try.func41 rfl rfl rfl (by decide) (args := [.s (.sl 4 tyAtom) a, .s (.sl 4 tyAtom) b]) (Nat.le_of_ble_eq_true rfl) (by kernel_rfl) lab_ref07_compare (st_ref07_compare (ref07_compare_n fu_)) (fun r => [.s (.int .i64) r]) ?_ ?_ ?_ h
    · intro l; cases l
      · exact WF_list ⟨trivial, trivial, trivial, trivial⟩
    · intro l goto ret; cases l with
      | l15 p q i =>
        show _ = push (sg_ref07_compare_15 (ref07_compare_n fu_) p q i) (fun l' => goto (lab_ref07_compare l').1 (lab_ref07_compare l').2) (fun r => ret [.s (.int .i64) r])
        unfold sg_ref07_compare_15
        simp only [push_G, push_ite, push_bind, push_inl, push_inr, -eq_self]
        kernel_rfl
    · intro goto ret
      show _ = push (en_ref07_compare (ref07_compare_n fu_) a b) (fun l' => goto (lab_ref07_compare l').1 (lab_ref07_compare l').2) (fun r => ret [.s (.int .i64) r])
      unfold en_ref07_compare
      simp only [push_G, push_ite, push_bind, push_inl, push_inr, -eq_self]
      kernel_rfl
theorem ok_ref07_compare (a : (List tAtom)) (b : (List tAtom)) (r : Int) (h : ref07_compare a b = some r) : APure X0 41 ([.s (.sl 4 tyAtom) a, .s (.sl 4 tyAtom) b].map DT.toT) (resT ([.s (.int .i64) r].map DT.toT)) := ok_ref07_compare_n 64 a b r h
noncomputable def e_ref07_compare : List DT → Option CallRes
  | [.s t0 y0, .s t1 y1] => (castT (b := (.sl 4 tyAtom)) y0).bind fun a => (castT (b := (.sl 4 tyAtom)) y1).bind fun b => some ⟨Int, ref07_compare a b, fun r => .s (.int .i64) r, (0 : Int), true⟩
  | _ => none
noncomputable def E_ref07_compare : Env := Env.add 41 (e_ref07_compare) E_ref07_sign
theorem E_ref07_compare_ok : EnvOk X0 (E_ref07_compare) := by
  refine EnvOk.add E_ref07_sign_ok (fun args c h => ?_)
  unfold e_ref07_compare at h
  split at h
  · replace h := Option.bind_eq_some_iff.1 h
    obtain ⟨v0, c0, h⟩ := h
    obtain ⟨rfl, rfl⟩ := castT_some c0
    replace h := Option.bind_eq_some_iff.1 h
    obtain ⟨v1, c1, h⟩ := h
    obtain ⟨rfl, rfl⟩ := castT_some c1
    cases h
    exact ⟨fun r hr => .inl ⟨by kernel_rfl, ok_ref07_compare _ _ r hr⟩, fun hb => fun r => noSl_res (by rfl)⟩
  · cases h
def F_ref07_Compare : FnD := { n := 19, rs := [4, 5], labels := [(4, [0, 1, 6])] }
def lab_ref07_Compare : L_ref07_Compare → Nat × DSt
  | .l4 a b e => (4, [(0, .t (.s (.sl 4 tyAtom) a)), (1, .t (.s (.sl 4 tyAtom) b)), (6, .t (.s (.int .i64) e))])
set_option maxRecDepth 100000 in
theorem ok_ref07_Compare (a : (List tAtom)) (b : (List tAtom)) (r : (Int × Int)) (h : ref07_Compare a b = some r) : APure X0 22 ([.s (.sl 4 tyAtom) a, .s (.sl 4 tyAtom) b].map DT.toT) (resT ([.s (.int .i64) r.1, .s (.int .i64) r.2].map DT.toT)) := by
  refine APure_of_machine (F := F_ref07_Compare) (fuel := 3000) (E := E_ref07_compare) Yok E_ref07_compare_ok mixed Try.func22 rfl rfl rfl (by decide) (args := [.s (.sl 4 tyAtom) a, .s (.sl 4 tyAtom) b]) (Nat.le_of_ble_eq_true rfl) (by kernel_rfl) lab_ref07_Compare st_ref07_Compare (fun r => [.s (.int .i64) r.1, .s (.int .i64) r.2]) ?_ ?_ ?_ h
  · intro l; cases l
    · exact WF_list ⟨trivial, trivial, trivial, trivial⟩
  · intro l goto ret; cases l with
    | l4 a b e =>
      show _ = push (sg_ref07_Compare_4 a b e) (fun l' => goto (lab_ref07_Compare l').1 (lab_ref07_Compare l').2) (fun r => ret [.s (.int .i64) r.1, .s (.int .i64) r.2])
      unfold sg_ref07_Compare_4
      simp only [push_G, push_ite, push_bind, push_inl, push_inr, -eq_self]
      kernel_rfl
  · intro goto ret
    show _ = push (en_ref07_Compare a b) (fun l' => goto (lab_ref07_Compare l').1 (lab_ref07_Compare l').2) (fun r => ret [.s (.int .i64) r.1, .s (.int .i64) r.2])
    unfold en_ref07_Compare
    simp only [push_G, push_ite, push_bind, push_inl, push_inr, -eq_self]
    kernel_rfl
noncomputable def e_ref07_Compare : List DT → Option CallRes
  | [.s t0 y0, .s t1 y1] => (castT (b := (.sl 4 tyAtom)) y0).bind fun a => (castT (b := (.sl 4 tyAtom)) y1).bind fun b => some ⟨(Int × Int), ref07_Compare a b, fun r => .tup [.s (.int .i64) r.1, .s (.int .i64) r.2], ((0 : Int), (0 : Int)), true⟩
  | _ => none
noncomputable def E_ref07_Compare : Env := Env.add 22 e_ref07_Compare E_ref07_compare
theorem E_ref07_Compare_ok : EnvOk X0 E_ref07_Compare := by
  refine EnvOk.add E_ref07_compare_ok (fun args c h => ?_)
  unfold e_ref07_Compare at h
  split at h
  · obtain ⟨v0, c0, h⟩ := Option.bind_eq_some_iff.1 h
    obtain ⟨rfl, rfl⟩ := castT_some c0
    obtain ⟨v1, c1, h⟩ := Option.bind_eq_some_iff.1 h
    obtain ⟨rfl, rfl⟩ := castT_some c1
    cases h
    exact ⟨fun r hr => .inl ⟨by kernel_rfl, ok_ref07_Compare _ _ r hr⟩, fun hb => fun r => noSl_res (by rfl)⟩
  · cases h
def F_value_first : FnD := { n := 18, rs := [2], labels := [(2, [6, 7, 8])] }
def lab_value_first : L_value_first → Nat × DSt
  | .l2 x6 x7 x8 => (2, [(6, .t (.s (.sl 1 (.sl 4 tyAtom)) x6)), (7, .t (.s (.int .i64) x7)), (8, .t (.s (.int .i64) x8))])
set_option maxRecDepth 100000 in
theorem ok_value_first (l : (List (List tAtom))) (r : Int) (h : value_first l = some r) : APure X0 29 ([.s (.sl 1 (.sl 4 tyAtom)) l].map DT.toT) (resT ([.s (.int .i64) r].map DT.toT)) := by
  refine APure_of_machine (F := F_value_first) (fuel := 3000) (E := E_ref07_Compare) Yok E_ref07_Compare_ok mixed Try.func29 rfl rfl rfl (by decide) (args := [.s (.sl 1 (.sl 4 tyAtom)) l]) (Nat.le_of_ble_eq_true rfl) (by kernel_rfl) lab_value_first st_value_first (fun r => [.s (.int .i64) r]) ?_ ?_ ?_ h
  · intro l; cases l
    · exact WF_list ⟨trivial, trivial, trivial, trivial⟩
  · intro l goto ret; cases l with
    | l2 x6 x7 x8 =>
      show _ = push (sg_value_first_2 x6 x7 x8) (fun l' => goto (lab_value_first l').1 (lab_value_first l').2) (fun r => ret [.s (.int .i64) r])
      unfold sg_value_first_2
      simp only [push_G, push_ite, push_bind, push_inl, push_inr, -eq_self]
      kernel_rfl
  · intro goto ret
    show _ = push (en_value_first l) (fun l' => goto (lab_value_first l').1 (lab_value_first l').2) (fun r => ret [.s (.int .i64) r])
    unfold en_value_first
    simp only [push_G, push_ite, push_bind, push_inl, push_inr, -eq_self]
    kernel_rfl
noncomputable def e_value_first : List DT → Option CallRes
  | [.s t0 y0] => (castT (b := (.sl 1 (.sl 4 tyAtom))) y0).bind fun l => some ⟨Int, value_first l, fun r => .s (.int .i64) r, (0 : Int), true⟩
  | _ => none
noncomputable def E_value_first : Env := Env.add 29 e_value_first E_ref07_Compare
theorem E_value_first_ok : EnvOk X0 E_value_first := by
  refine EnvOk.add E_ref07_Compare_ok (fun args c h => ?_)
  unfold e_value_first at h
  split at h
  · obtain ⟨v0, c0, h⟩ := Option.bind_eq_some_iff.1 h
    obtain ⟨rfl, rfl⟩ := castT_some c0
    cases h
    exact ⟨fun r hr => .inl ⟨by kernel_rfl, ok_value_first _ r hr⟩, fun hb => fun r => noSl_res (by rfl)⟩
  · cases h
def F_slices_Clone : FnD := { n := 8, rs := [2], labels := [(1, [0])] }
set_option maxRecDepth 100000 in
theorem ok_slices_Clone (s_ : List tAtom) (r : List tAtom) (h : slices_Clone s_ = some r) : APure X0 37 ([.s (.sl 4 tyAtom) s_].map DT.toT) (resT ([.own 48 tyAtom r].map DT.toT)) := by
  obtain ⟨hG, h⟩ := G_some h
  cases h
  refine APure_of_nil (e := 48) (F := F_slices_Clone) (fuel := 3000) (E := E_0) (ty := tyAtom) (l := s_) (id := 1) (s0 := 0) (d1 := 3) (d2 := 4) (st1 := [(0, .t (.s (.sl 4 tyAtom) s_))]) Yok E_0_ok mixed Try.func37 rfl rfl rfl (by decide) (args := [.s (.sl 4 tyAtom) s_]) (Nat.le_of_ble_eq_true rfl) (by kernel_rfl) rfl rfl rfl rfl rfl rfl rfl (by kernel_rfl) rfl (by kernel_rfl) (by kernel_rfl) (WF_list ⟨trivial, trivial⟩) (fun goto ret => by kernel_rfl) (fun b hb goto ret hret => ?_)
  cases b with
  | false =>
    refine Eq.trans (b := G ((([] : List tAtom).length + s_.length) * 40 ≤ 140737488355328) (ret [.own 48 tyAtom s_])) (by kernel_rfl) ?_
    rw [G_pos hG, hret]
  | true =>
    obtain rfl := hb rfl
    exact Eq.trans (b := ret [.own 48 tyAtom []]) (by kernel_rfl) hret
noncomputable def e_slices_Clone : List DT → Option CallRes
  | [.s t0 y0] => (castT (b := (.sl 4 tyAtom)) y0).bind fun s_ => some ⟨List tAtom, slices_Clone s_, fun r => .own 48 tyAtom r, [], true⟩
  | _ => none
noncomputable def E_slices_Clone : Env := Env.add 37 e_slices_Clone E_value_first
theorem E_slices_Clone_ok : EnvOk X0 E_slices_Clone := by
  refine EnvOk.add E_value_first_ok (fun args c h => ?_)
  unfold e_slices_Clone at h
  split at h
  · obtain ⟨v0, c0, h⟩ := Option.bind_eq_some_iff.1 h
    obtain ⟨rfl, rfl⟩ := castT_some c0
    cases h
    exact ⟨fun r hr => .inl ⟨by kernel_rfl, ok_slices_Clone _ r hr⟩, fun hb => fun r => noSl_res (by rfl)⟩
  · cases h
def F_slices_insertionSortCmpFunc : FnD := { n := 53, rs := [], Z := [0], labels := [(1, [0, 1, 2, 3, 8]), (4, [0, 1, 2, 3, 8, 9])] }
def Y_slices_insertionSortCmpFunc : DX := { Y0 with o2 := [46, 50] }
theorem Yok_slices_insertionSortCmpFunc : DXOk Y_slices_insertionSortCmpFunc X0 := ⟨Yok.tab, Yok.gl⟩
def lab_slices_insertionSortCmpFunc : L_slices_insertionSortCmpFunc → Nat × DSt
  | .l1 data a b cmp i => (1, [(0, .t (.own2 24 48 tyAtom data)), (1, .t (.s (.int .i64) a)), (2, .t (.s (.int .i64) b)), (3, .t (.s .opq cmp)), (8, .t (.s (.int .i64) i))])
  | .l4 data a b cmp i j => (4, [(0, .t (.own2 24 48 tyAtom data)), (1, .t (.s (.int .i64) a)), (2, .t (.s (.int .i64) b)), (3, .t (.s .opq cmp)), (8, .t (.s (.int .i64) i)), (9, .t (.s (.int .i64) j))])
theorem dyn_slices_insertionSortCmpFunc_ok : ∀ (v_ : Value) (a0 : (List tAtom)) (a1 : (List tAtom)) (r_ : Int), dyn_slices_insertionSortCmpFunc v_ a0 a1 = some r_ → DynC X0 v_ (([.s (.sl 4 tyAtom) a0, .s (.sl 4 tyAtom) a1] : List DT).map DT.toT) (.s (.int .i64) r_ : DT).toT := by
  intro v_ a0 a1 r_ h
  unfold dyn_slices_insertionSortCmpFunc at h
  refine dyn_or h (fun hv hx => ⟨40, fnIs_spec hv, by kernel_rfl, ok_value_compare a0 a1 r_ hx⟩) (fun h => ?_)
  cases h
noncomputable def ed_slices_insertionSortCmpFunc : List DT → Option CallRes
  | [.tup [.u, .s tv yv], .s t0 y0, .s t1 y1] => (castT (b := .opq) yv).bind fun v_ => (castT (b := (.sl 4 tyAtom)) y0).bind fun a0 => (castT (b := (.sl 4 tyAtom)) y1).bind fun a1 => some ⟨Int, dyn_slices_insertionSortCmpFunc v_ a0 a1, fun r_ => (.s (.int .i64) r_ : DT), (0 : Int), true⟩
  | _ => none
theorem ed_slices_insertionSortCmpFunc_ok : ∀ (g : FuncId) (args : List DT) (c : CallRes), ed_slices_insertionSortCmpFunc args = some c → CallOk X0 g args c := by
  intro g args c h
  unfold ed_slices_insertionSortCmpFunc at h
  split at h
  · obtain ⟨vv, cv, h⟩ := Option.bind_eq_some_iff.1 h
    obtain ⟨rfl, rfl⟩ := castT_some cv
    obtain ⟨v0, c0, h⟩ := Option.bind_eq_some_iff.1 h
    obtain ⟨rfl, rfl⟩ := castT_some c0
    obtain ⟨v1, c1, h⟩ := Option.bind_eq_some_iff.1 h
    obtain ⟨rfl, rfl⟩ := castT_some c1
    cases h
    exact ⟨fun r hr => dyn_slices_insertionSortCmpFunc_ok _ _ _ r hr, fun hb => fun r => noSl_res (by rfl)⟩
  · cases h
set_option maxRecDepth 100000 in
theorem ok_slices_insertionSortCmpFunc (data : (List (Bool × List tAtom))) (a : Int) (b : Int) (cmp : Value) (r : (List (Bool × List tAtom))) (h : slices_insertionSortCmpFunc data a b cmp = some r) : ACall X0 65 ([.own2 24 48 tyAtom data, .s (.int .i64) a, .s (.int .i64) b, .s .opq cmp].map DT.toT) (resT ([].map DT.toT)) (outsL 0 (.own2 24 48 tyAtom r : DT).toT 0 4) := by
  unfold slices_insertionSortCmpFunc at h
  refine ALend_of_machine (F := F_slices_insertionSortCmpFunc) (fuel := 3000) (E := (Env.addD (ed_slices_insertionSortCmpFunc) E_slices_Clone)) (z := 0) Yok_slices_insertionSortCmpFunc (EnvOk.addD E_slices_Clone_ok (ed_slices_insertionSortCmpFunc_ok)) mixed Try.func65 rfl rfl rfl (by decide) rfl rfl (by decide) (args := [.own2 24 48 tyAtom data, .s (.int .i64) a, .s (.int .i64) b, .s .opq cmp]) (Nat.le_of_ble_eq_true rfl) (Nat.le_of_ble_eq_true rfl) (by kernel_rfl) lab_slices_insertionSortCmpFunc (st_slices_insertionSortCmpFunc) (fun r => []) (fun r => .own2 24 48 tyAtom r) ?_ ?_ ?_ h rfl
  · intro l; cases l
    · exact WF_list ⟨trivial, trivial, trivial, trivial, trivial, trivial⟩
    · exact WF_list ⟨trivial, trivial, trivial, trivial, trivial, trivial, trivial⟩
  · intro l goto ret; cases l with
    | l1 data a b cmp i =>
      show _ = push (sg_slices_insertionSortCmpFunc_1 data a b cmp i) (fun l' => goto (lab_slices_insertionSortCmpFunc l').1 (lab_slices_insertionSortCmpFunc l').2) (fun r => ret [.own2 24 48 tyAtom r])
      unfold sg_slices_insertionSortCmpFunc_1
      simp only [push_G, push_ite, push_bind, push_inl, push_inr, -eq_self]
      kernel_rfl
    | l4 data a b cmp i j =>
      show _ = push (sg_slices_insertionSortCmpFunc_4 data a b cmp i j) (fun l' => goto (lab_slices_insertionSortCmpFunc l').1 (lab_slices_insertionSortCmpFunc l').2) (fun r => ret [.own2 24 48 tyAtom r])
      unfold sg_slices_insertionSortCmpFunc_4
      simp only [push_G, push_ite, push_bind, push_inl, push_inr, -eq_self]
      kernel_rfl
  · intro goto ret
    show _ = push (en_slices_insertionSortCmpFunc data a b cmp) (fun l' => goto (lab_slices_insertionSortCmpFunc l').1 (lab_slices_insertionSortCmpFunc l').2) (fun r => ret [.own2 24 48 tyAtom r])
    unfold en_slices_insertionSortCmpFunc
    simp only [push_G, push_ite, push_bind, push_inl, push_inr, -eq_self]
    kernel_rfl
noncomputable def e_slices_insertionSortCmpFunc : List DT → Option CallRes
  | [.tup [.u], .own2 e0 f0 t0 y0, .s t1 y1, .s t2 y2, .s t3 y3] => (castL (a := t0) (b := tyAtom) y0).bind fun data => (beqO e0 24).bind fun _ => (beqO f0 48).bind fun _ => (castT (b := (.int .i64)) y1).bind fun a => (castT (b := (.int .i64)) y2).bind fun b => (castT (b := .opq) y3).bind fun cmp => some ⟨(List (Bool × List tAtom)), allR (slices_insertionSortCmpFunc data a b cmp), fun r => .tup [.tup [], .own2 24 48 tyAtom r], [], false⟩
  | _ => none
noncomputable def E_slices_insertionSortCmpFunc : Env := Env.add2 65 (e_slices_insertionSortCmpFunc) E_slices_Clone
theorem E_slices_insertionSortCmpFunc_ok : EnvOk X0 (E_slices_insertionSortCmpFunc) := by
  refine EnvOk.add2 E_slices_Clone_ok (fun args c h => ?_)
  unfold e_slices_insertionSortCmpFunc at h
  split at h
  · replace h := Option.bind_eq_some_iff.1 h
    obtain ⟨v0, c0, h⟩ := h
    obtain ⟨rfl, rfl⟩ := castL_some c0
    replace h := Option.bind_eq_some_iff.1 h
    obtain ⟨u0, b0, h⟩ := h
    obtain rfl := beqO_some b0
    replace h := Option.bind_eq_some_iff.1 h
    obtain ⟨z0, d0, h⟩ := h
    obtain rfl := beqO_some d0
    replace h := Option.bind_eq_some_iff.1 h
    obtain ⟨v1, c1, h⟩ := h
    obtain ⟨rfl, rfl⟩ := castT_some c1
    replace h := Option.bind_eq_some_iff.1 h
    obtain ⟨v2, c2, h⟩ := h
    obtain ⟨rfl, rfl⟩ := castT_some c2
    replace h := Option.bind_eq_some_iff.1 h
    obtain ⟨v3, c3, h⟩ := h
    obtain ⟨rfl, rfl⟩ := castT_some c3
    cases h
    intro r hr res out hwr
    obtain ⟨hr, ha⟩ := allR_some hr
    cases hwr
    exact ⟨by kernel_rfl, ok_slices_insertionSortCmpFunc _ _ _ _ r hr, noSl_res (d := .tup []) (by rfl), noSl_own2 ha (by rfl), rfl⟩
  · cases h
def F_slices_swapRangeCmpFunc : FnD := { n := 38, rs := [], Z := [0], labels := [(1, [0, 1, 2, 3, 10])] }
def Y_slices_swapRangeCmpFunc : DX := { Y0 with o2 := [29, 35] }
theorem Yok_slices_swapRangeCmpFunc : DXOk Y_slices_swapRangeCmpFunc X0 := ⟨Yok.tab, Yok.gl⟩
def lab_slices_swapRangeCmpFunc : L_slices_swapRangeCmpFunc → Nat × DSt
  | .l1 data a b n i => (1, [(0, .t (.own2 24 48 tyAtom data)), (1, .t (.s (.int .i64) a)), (2, .t (.s (.int .i64) b)), (3, .t (.s (.int .i64) n)), (10, .t (.s (.int .i64) i))])
set_option maxRecDepth 100000 in
theorem ok_slices_swapRangeCmpFunc (data : (List (Bool × List tAtom))) (a : Int) (b : Int) (n : Int) (cmp : Value) (r : (List (Bool × List tAtom))) (h : slices_swapRangeCmpFunc data a b n cmp = some r) : ACall X0 75 ([.own2 24 48 tyAtom data, .s (.int .i64) a, .s (.int .i64) b, .s (.int .i64) n, .s .opq cmp].map DT.toT) (resT ([].map DT.toT)) (outsL 0 (.own2 24 48 tyAtom r : DT).toT 0 5) := by
  unfold slices_swapRangeCmpFunc at h
  refine ALend_of_machine (F := F_slices_swapRangeCmpFunc) (fuel := 3000) (E := E_slices_insertionSortCmpFunc) (z := 0) Yok_slices_swapRangeCmpFunc E_slices_insertionSortCmpFunc_ok mixed Try.func75 rfl rfl rfl (by decide) rfl rfl (by decide) (args := [.own2 24 48 tyAtom data, .s (.int .i64) a, .s (.int .i64) b, .s (.int .i64) n, .s .opq cmp]) (Nat.le_of_ble_eq_true rfl) (Nat.le_of_ble_eq_true rfl) (by kernel_rfl) lab_slices_swapRangeCmpFunc (st_slices_swapRangeCmpFunc) (fun r => []) (fun r => .own2 24 48 tyAtom r) ?_ ?_ ?_ h rfl
  · intro l; cases l
    · exact WF_list ⟨trivial, trivial, trivial, trivial, trivial, trivial⟩
  · intro l goto ret; cases l with
    | l1 data a b n i =>
      show _ = push (sg_slices_swapRangeCmpFunc_1 data a b n i) (fun l' => goto (lab_slices_swapRangeCmpFunc l').1 (lab_slices_swapRangeCmpFunc l').2) (fun r => ret [.own2 24 48 tyAtom r])
      unfold sg_slices_swapRangeCmpFunc_1
      simp only [push_G, push_ite, push_bind, push_inl, push_inr, -eq_self]
      kernel_rfl
  · intro goto ret
    show _ = push (en_slices_swapRangeCmpFunc data a b n cmp) (fun l' => goto (lab_slices_swapRangeCmpFunc l').1 (lab_slices_swapRangeCmpFunc l').2) (fun r => ret [.own2 24 48 tyAtom r])
    unfold en_slices_swapRangeCmpFunc
    simp only [push_G, push_ite, push_bind, push_inl, push_inr, -eq_self]
    kernel_rfl
noncomputable def e_slices_swapRangeCmpFunc : List DT → Option CallRes
  | [.tup [.u], .own2 e0 f0 t0 y0, .s t1 y1, .s t2 y2, .s t3 y3, .s t4 y4] => (castL (a := t0) (b := tyAtom) y0).bind fun data => (beqO e0 24).bind fun _ => (beqO f0 48).bind fun _ => (castT (b := (.int .i64)) y1).bind fun a => (castT (b := (.int .i64)) y2).bind fun b => (castT (b := (.int .i64)) y3).bind fun n => (castT (b := .opq) y4).bind fun cmp => some ⟨(List (Bool × List tAtom)), allR (slices_swapRangeCmpFunc data a b n cmp), fun r => .tup [.tup [], .own2 24 48 tyAtom r], [], false⟩
  | _ => none
noncomputable def E_slices_swapRangeCmpFunc : Env := Env.add2 75 (e_slices_swapRangeCmpFunc) E_slices_insertionSortCmpFunc
theorem E_slices_swapRangeCmpFunc_ok : EnvOk X0 (E_slices_swapRangeCmpFunc) := by
  refine EnvOk.add2 E_slices_insertionSortCmpFunc_ok (fun args c h => ?_)
  unfold e_slices_swapRangeCmpFunc at h
  split at h
  · replace h := Option.bind_eq_some_iff.1 h
    obtain ⟨v0, c0, h⟩ := h
    obtain ⟨rfl, rfl⟩ := castL_some c0
    replace h := Option.bind_eq_some_iff.1 h
    obtain ⟨u0, b0, h⟩ := h
    obtain rfl := beqO_some b0
    replace h := Option.bind_eq_some_iff.1 h
    obtain ⟨z0, d0, h⟩ := h
    obtain rfl := beqO_some d0
    replace h := Option.bind_eq_some_iff.1 h
    obtain ⟨v1, c1, h⟩ := h
    obtain ⟨rfl, rfl⟩ := castT_some c1
    replace h := Option.bind_eq_some_iff.1 h
    obtain ⟨v2, c2, h⟩ := h
    obtain ⟨rfl, rfl⟩ := castT_some c2
    replace h := Option.bind_eq_some_iff.1 h
    obtain ⟨v3, c3, h⟩ := h
    obtain ⟨rfl, rfl⟩ := castT_some c3
    replace h := Option.bind_eq_some_iff.1 h
    obtain ⟨v4, c4, h⟩ := h
    obtain ⟨rfl, rfl⟩ := castT_some c4
    cases h
    intro r hr res out hwr
    obtain ⟨hr, ha⟩ := allR_some hr
    cases hwr
    exact ⟨by kernel_rfl, ok_slices_swapRangeCmpFunc _ _ _ _ _ r hr, noSl_res (d := .tup []) (by rfl), noSl_own2 ha (by rfl), rfl⟩
  · cases h
def F_slices_rotateCmpFunc : FnD := { n := 58, rs := [], Z := [0], labels := [(2, [0, 2, 4, 10, 11])] }
def Y_slices_rotateCmpFunc : DX := { Y0 with o2 := [31, 46, 57] }
theorem Yok_slices_rotateCmpFunc : DXOk Y_slices_rotateCmpFunc X0 := ⟨Yok.tab, Yok.gl⟩
def lab_slices_rotateCmpFunc : L_slices_rotateCmpFunc → Nat × DSt
  | .l2 data m cmp i j => (2, [(0, .t (.own2 24 48 tyAtom data)), (2, .t (.s (.int .i64) m)), (4, .t (.s .opq cmp)), (10, .t (.s (.int .i64) i)), (11, .t (.s (.int .i64) j))])
set_option maxRecDepth 100000 in
theorem ok_slices_rotateCmpFunc (data : (List (Bool × List tAtom))) (a : Int) (m : Int) (b : Int) (cmp : Value) (r : (List (Bool × List tAtom))) (h : slices_rotateCmpFunc data a m b cmp = some r) : ACall X0 72 ([.own2 24 48 tyAtom data, .s (.int .i64) a, .s (.int .i64) m, .s (.int .i64) b, .s .opq cmp].map DT.toT) (resT ([].map DT.toT)) (outsL 0 (.own2 24 48 tyAtom r : DT).toT 0 5) := by
  unfold slices_rotateCmpFunc at h
  refine ALend_of_machine (F := F_slices_rotateCmpFunc) (fuel := 3000) (E := E_slices_swapRangeCmpFunc) (z := 0) Yok_slices_rotateCmpFunc E_slices_swapRangeCmpFunc_ok mixed Try.func72 rfl rfl rfl (by decide) rfl rfl (by decide) (args := [.own2 24 48 tyAtom data, .s (.int .i64) a, .s (.int .i64) m, .s (.int .i64) b, .s .opq cmp]) (Nat.le_of_ble_eq_true rfl) (Nat.le_of_ble_eq_true rfl) (by kernel_rfl) lab_slices_rotateCmpFunc (st_slices_rotateCmpFunc) (fun r => []) (fun r => .own2 24 48 tyAtom r) ?_ ?_ ?_ h rfl
  · intro l; cases l
    · exact WF_list ⟨trivial, trivial, trivial, trivial, trivial, trivial⟩
  · intro l goto ret; cases l with
    | l2 data m cmp i j =>
      show _ = push (sg_slices_rotateCmpFunc_2 data m cmp i j) (fun l' => goto (lab_slices_rotateCmpFunc l').1 (lab_slices_rotateCmpFunc l').2) (fun r => ret [.own2 24 48 tyAtom r])
      unfold sg_slices_rotateCmpFunc_2
      simp only [push_G, push_ite, push_bind, push_inl, push_inr, -eq_self]
      kernel_rfl
  · intro goto ret
    show _ = push (en_slices_rotateCmpFunc data a m b cmp) (fun l' => goto (lab_slices_rotateCmpFunc l').1 (lab_slices_rotateCmpFunc l').2) (fun r => ret [.own2 24 48 tyAtom r])
    unfold en_slices_rotateCmpFunc
    simp only [push_G, push_ite, push_bind, push_inl, push_inr, -eq_self]
    kernel_rfl
noncomputable def e_slices_rotateCmpFunc : List DT → Option CallRes
  | [.tup [.u], .own2 e0 f0 t0 y0, .s t1 y1, .s t2 y2, .s t3 y3, .s t4 y4] => (castL (a := t0) (b := tyAtom) y0).bind fun data => (beqO e0 24).bind fun _ => (beqO f0 48).bind fun _ => (castT (b := (.int .i64)) y1).bind fun a => (castT (b := (.int .i64)) y2).bind fun m => (castT (b := (.int .i64)) y3).bind fun b => (castT (b := .opq) y4).bind fun cmp => some ⟨(List (Bool × List tAtom)), allR (slices_rotateCmpFunc data a m b cmp), fun r => .tup [.tup [], .own2 24 48 tyAtom r], [], false⟩
  | _ => none
noncomputable def E_slices_rotateCmpFunc : Env := Env.add2 72 (e_slices_rotateCmpFunc) E_slices_swapRangeCmpFunc
theorem E_slices_rotateCmpFunc_ok : EnvOk X0 (E_slices_rotateCmpFunc) := by
  refine EnvOk.add2 E_slices_swapRangeCmpFunc_ok (fun args c h => ?_)
  unfold e_slices_rotateCmpFunc at h
  split at h
  · replace h := Option.bind_eq_some_iff.1 h
    obtain ⟨v0, c0, h⟩ := h
    obtain ⟨rfl, rfl⟩ := castL_some c0
    replace h := Option.bind_eq_some_iff.1 h
    obtain ⟨u0, b0, h⟩ := h
    obtain rfl := beqO_some b0
    replace h := Option.bind_eq_some_iff.1 h
    obtain ⟨z0, d0, h⟩ := h
    obtain rfl := beqO_some d0
    replace h := Option.bind_eq_some_iff.1 h
    obtain ⟨v1, c1, h⟩ := h
    obtain ⟨rfl, rfl⟩ := castT_some c1
    replace h := Option.bind_eq_some_iff.1 h
    obtain ⟨v2, c2, h⟩ := h
    obtain ⟨rfl, rfl⟩ := castT_some c2
    replace h := Option.bind_eq_some_iff.1 h
    obtain ⟨v3, c3, h⟩ := h
    obtain ⟨rfl, rfl⟩ := castT_some c3
    replace h := Option.bind_eq_some_iff.1 h
    obtain ⟨v4, c4, h⟩ := h
    obtain ⟨rfl, rfl⟩ := castT_some c4
    cases h
    intro r hr res out hwr
    obtain ⟨hr, ha⟩ := allR_some hr
    cases hwr
    exact ⟨by kernel_rfl, ok_slices_rotateCmpFunc _ _ _ _ _ r hr, noSl_res (d := .tup []) (by rfl), noSl_own2 ha (by rfl), rfl⟩
  · cases h
def F_slices_symMergeCmpFunc : FnD := { n := 220, rs := [], Z := [0], labels := [(3, [0, 1, 4, 10, 11]), (15, [0, 2, 4, 14, 15]), (32, [0, 1, 2, 3, 4, 18, 19, 20, 21]), (9, [0, 10, 13]), (21, [0, 14, 17]), (33, [0, 1, 2, 3, 4, 18, 19, 20, 21, 22]), (41, [0, 1, 3, 4, 18, 20, 24]), (43, [0, 3, 4, 18, 24])] }
def Y_slices_symMergeCmpFunc : DX := { Y0 with o2 := [44, 48, 70, 74, 96, 100, 122, 126, 164, 168, 191, 205, 219] }
theorem Yok_slices_symMergeCmpFunc : DXOk Y_slices_symMergeCmpFunc X0 := ⟨Yok.tab, Yok.gl⟩
def lab_slices_symMergeCmpFunc : L_slices_symMergeCmpFunc → Nat × DSt
  | .l3 data a cmp i j => (3, [(0, .t (.own2 24 48 tyAtom data)), (1, .t (.s (.int .i64) a)), (4, .t (.s .opq cmp)), (10, .t (.s (.int .i64) i)), (11, .t (.s (.int .i64) j))])
  | .l15 data m cmp i j => (15, [(0, .t (.own2 24 48 tyAtom data)), (2, .t (.s (.int .i64) m)), (4, .t (.s .opq cmp)), (14, .t (.s (.int .i64) i)), (15, .t (.s (.int .i64) j))])
  | .l32 data a m b cmp mid n start r_ => (32, [(0, .t (.own2 24 48 tyAtom data)), (1, .t (.s (.int .i64) a)), (2, .t (.s (.int .i64) m)), (3, .t (.s (.int .i64) b)), (4, .t (.s .opq cmp)), (18, .t (.s (.int .i64) mid)), (19, .t (.s (.int .i64) n)), (20, .t (.s (.int .i64) start)), (21, .t (.s (.int .i64) r_))])
  | .l9 data i k => (9, [(0, .t (.own2 24 48 tyAtom data)), (10, .t (.s (.int .i64) i)), (13, .t (.s (.int .i64) k))])
  | .l21 data i k => (21, [(0, .t (.own2 24 48 tyAtom data)), (14, .t (.s (.int .i64) i)), (17, .t (.s (.int .i64) k))])
  | .l33 data a m b cmp mid n start r_ p => (33, [(0, .t (.own2 24 48 tyAtom data)), (1, .t (.s (.int .i64) a)), (2, .t (.s (.int .i64) m)), (3, .t (.s (.int .i64) b)), (4, .t (.s .opq cmp)), (18, .t (.s (.int .i64) mid)), (19, .t (.s (.int .i64) n)), (20, .t (.s (.int .i64) start)), (21, .t (.s (.int .i64) r_)), (22, .t (.s (.int .i64) p))])
  | .l41 data a b cmp mid start end_ => (41, [(0, .t (.own2 24 48 tyAtom data)), (1, .t (.s (.int .i64) a)), (3, .t (.s (.int .i64) b)), (4, .t (.s .opq cmp)), (18, .t (.s (.int .i64) mid)), (20, .t (.s (.int .i64) start)), (24, .t (.s (.int .i64) end_))])
  | .l43 data b cmp mid end_ => (43, [(0, .t (.own2 24 48 tyAtom data)), (3, .t (.s (.int .i64) b)), (4, .t (.s .opq cmp)), (18, .t (.s (.int .i64) mid)), (24, .t (.s (.int .i64) end_))])
theorem dyn_slices_symMergeCmpFunc_ok : ∀ (v_ : Value) (a0 : (List tAtom)) (a1 : (List tAtom)) (r_ : Int), dyn_slices_symMergeCmpFunc v_ a0 a1 = some r_ → DynC X0 v_ (([.s (.sl 4 tyAtom) a0, .s (.sl 4 tyAtom) a1] : List DT).map DT.toT) (.s (.int .i64) r_ : DT).toT := by
  intro v_ a0 a1 r_ h
  unfold dyn_slices_symMergeCmpFunc at h
  refine dyn_or h (fun hv hx => ⟨40, fnIs_spec hv, by kernel_rfl, ok_value_compare a0 a1 r_ hx⟩) (fun h => ?_)
  cases h
noncomputable def ed_slices_symMergeCmpFunc : List DT → Option CallRes
  | [.tup [.u, .s tv yv], .s t0 y0, .s t1 y1] => (castT (b := .opq) yv).bind fun v_ => (castT (b := (.sl 4 tyAtom)) y0).bind fun a0 => (castT (b := (.sl 4 tyAtom)) y1).bind fun a1 => some ⟨Int, dyn_slices_symMergeCmpFunc v_ a0 a1, fun r_ => (.s (.int .i64) r_ : DT), (0 : Int), true⟩
  | _ => none
theorem ed_slices_symMergeCmpFunc_ok : ∀ (g : FuncId) (args : List DT) (c : CallRes), ed_slices_symMergeCmpFunc args = some c → CallOk X0 g args c := by
  intro g args c h
  unfold ed_slices_symMergeCmpFunc at h
  split at h
  · obtain ⟨vv, cv, h⟩ := Option.bind_eq_some_iff.1 h
    obtain ⟨rfl, rfl⟩ := castT_some cv
    obtain ⟨v0, c0, h⟩ := Option.bind_eq_some_iff.1 h
    obtain ⟨rfl, rfl⟩ := castT_some c0
    obtain ⟨v1, c1, h⟩ := Option.bind_eq_some_iff.1 h
    obtain ⟨rfl, rfl⟩ := castT_some c1
    cases h
    exact ⟨fun r hr => dyn_slices_symMergeCmpFunc_ok _ _ _ r hr, fun hb => fun r => noSl_res (by rfl)⟩
  · cases h
noncomputable def e_slices_symMergeCmpFunc_n (fu_ : Nat) : List DT → Option CallRes
  | [.tup [.u], .own2 e0 f0 t0 y0, .s t1 y1, .s t2 y2, .s t3 y3, .s t4 y4] => (castL (a := t0) (b := tyAtom) y0).bind fun data => (beqO e0 24).bind fun _ => (beqO f0 48).bind fun _ => (castT (b := (.int .i64)) y1).bind fun a => (castT (b := (.int .i64)) y2).bind fun m => (castT (b := (.int .i64)) y3).bind fun b => (castT (b := .opq) y4).bind fun cmp => some ⟨(List (Bool × List tAtom)), allR (slices_symMergeCmpFunc_n fu_ data a m b cmp), fun r => .tup [.tup [], .own2 24 48 tyAtom r], [], false⟩
  | _ => none
noncomputable def E_slices_symMergeCmpFunc_n (fu_ : Nat) : Env := Env.add2 66 (e_slices_symMergeCmpFunc_n fu_) E_slices_rotateCmpFunc
theorem E_slices_symMergeCmpFunc_n_ok (fu_ : Nat) (ih : ∀ (data : (List (Bool × List tAtom))) (a : Int) (m : Int) (b : Int) (cmp : Value) (r : (List (Bool × List tAtom))), slices_symMergeCmpFunc_n fu_ data a m b cmp = some r → ACall X0 66 ([.own2 24 48 tyAtom data, .s (.int .i64) a, .s (.int .i64) m, .s (.int .i64) b, .s .opq cmp].map DT.toT) (resT ([].map DT.toT)) (outsL 0 (.own2 24 48 tyAtom r : DT).toT 0 5)) : EnvOk X0 (E_slices_symMergeCmpFunc_n fu_) := by
  refine EnvOk.add2 E_slices_rotateCmpFunc_ok (fun args c h => ?_)
  unfold e_slices_symMergeCmpFunc_n at h
  split at h
  · replace h := Option.bind_eq_some_iff.1 h
    obtain ⟨v0, c0, h⟩ := h
    obtain ⟨rfl, rfl⟩ := castL_some c0
    replace h := Option.bind_eq_some_iff.1 h
    obtain ⟨u0, b0, h⟩ := h
    obtain rfl := beqO_some b0
    replace h := Option.bind_eq_some_iff.1 h
    obtain ⟨z0, d0, h⟩ := h
    obtain rfl := beqO_some d0
    replace h := Option.bind_eq_some_iff.1 h
    obtain ⟨v1, c1, h⟩ := h
    obtain ⟨rfl, rfl⟩ := castT_some c1
    replace h := Option.bind_eq_some_iff.1 h
    obtain ⟨v2, c2, h⟩ := h
    obtain ⟨rfl, rfl⟩ := castT_some c2
    replace h := Option.bind_eq_some_iff.1 h
    obtain ⟨v3, c3, h⟩ := h
    obtain ⟨rfl, rfl⟩ := castT_some c3
    replace h := Option.bind_eq_some_iff.1 h
    obtain ⟨v4, c4, h⟩ := h
    obtain ⟨rfl, rfl⟩ := castT_some c4
    cases h
    intro r hr res out hwr
    obtain ⟨hr, ha⟩ := allR_some hr
    cases hwr
    exact ⟨by kernel_rfl, ih _ _ _ _ _ r hr, noSl_res (d := .tup []) (by rfl), noSl_own2 ha (by rfl), rfl⟩
  · cases h
set_option maxRecDepth 100000 in
theorem ok_slices_symMergeCmpFunc_n : ∀ (fu_ : Nat) (data : (List (Bool × List tAtom))) (a : Int) (m : Int) (b : Int) (cmp : Value) (r : (List (Bool × List tAtom))) (h : slices_symMergeCmpFunc_n fu_ data a m b cmp = some r), ACall X0 66 ([.own2 24 48 tyAtom data, .s (.int .i64) a, .s (.int .i64) m, .s (.int .i64) b, .s .opq cmp].map DT.toT) (resT ([].map DT.toT)) (outsL 0 (.own2 24 48 tyAtom r : DT).toT 0 5)
  | 0, data, a, m, b, cmp, r, h => by unfold slices_symMergeCmpFunc_n at h; cases h
  | fu_ + 1, data, a, m, b, cmp, r, h => by
    unfold slices_symMergeCmpFunc_n at h
    refine ALend_of_machine (F := F_slices_symMergeCmpFunc) (fuel := 3000) (E := (Env.addD (ed_slices_symMergeCmpFunc) (E_slices_symMergeCmpFunc_n fu_))) (z := 0) Yok_slices_symMergeCmpFunc (EnvOk.addD (E_slices_symMergeCmpFunc_n_ok fu_ (ok_slices_symMergeCmpFunc_n fu_)) (ed_slices_symMergeCmpFunc_ok)) mixed Try.func66 rfl rfl rfl (by decide) rfl rfl (by decide) (args := [.own2 24 48 tyAtom data, .s (.int .i64) a, .s (.int .i64) m, .s (.int .i64) b, .s .opq cmp]) (Nat.le_of_ble_eq_true rfl) (Nat.le_of_ble_eq_true rfl) (by kernel_rfl) lab_slices_symMergeCmpFunc (st_slices_symMergeCmpFunc (slices_symMergeCmpFunc_n fu_)) (fun r => []) (fun r => .own2 24 48 tyAtom r) ?_ ?_ ?_ h rfl
    · intro l; cases l
      · exact WF_list ⟨trivial, trivial, trivial, trivial, trivial, trivial⟩
      · exact WF_list ⟨trivial, trivial, trivial, trivial, trivial, trivial⟩
      · exact WF_list ⟨trivial, trivial, trivial, trivial, trivial, trivial, trivial, trivial, trivial, trivial⟩
      · exact WF_list ⟨trivial, trivial, trivial, trivial⟩
      · exact WF_list ⟨trivial, trivial, trivial, trivial⟩
      · exact WF_list ⟨trivial, trivial, trivial, trivial, trivial, trivial, trivial, trivial, trivial, trivial, trivial⟩
      · exact WF_list ⟨trivial, trivial, trivial, trivial, trivial, trivial, trivial, trivial⟩
      · exact WF_list ⟨trivial, trivial, trivial, trivial, trivial, trivial⟩
    · intro l goto ret; cases l with
      | l3 data a cmp i j =>
        show _ = push (sg_slices_symMergeCmpFunc_3 (slices_symMergeCmpFunc_n fu_) data a cmp i j) (fun l' => goto (lab_slices_symMergeCmpFunc l').1 (lab_slices_symMergeCmpFunc l').2) (fun r => ret [.own2 24 48 tyAtom r])
        unfold sg_slices_symMergeCmpFunc_3
        simp only [push_G, push_ite, push_bind, push_inl, push_inr, -eq_self]
        kernel_rfl
      | l15 data m cmp i j =>
        show _ = push (sg_slices_symMergeCmpFunc_15 (slices_symMergeCmpFunc_n fu_) data m cmp i j) (fun l' => goto (lab_slices_symMergeCmpFunc l').1 (lab_slices_symMergeCmpFunc l').2) (fun r => ret [.own2 24 48 tyAtom r])
        unfold sg_slices_symMergeCmpFunc_15
        simp only [push_G, push_ite, push_bind, push_inl, push_inr, -eq_self]
        kernel_rfl
      | l32 data a m b cmp mid n start r_ =>
        show _ = push (sg_slices_symMergeCmpFunc_32 (slices_symMergeCmpFunc_n fu_) data a m b cmp mid n start r_) (fun l' => goto (lab_slices_symMergeCmpFunc l').1 (lab_slices_symMergeCmpFunc l').2) (fun r => ret [.own2 24 48 tyAtom r])
        unfold sg_slices_symMergeCmpFunc_32
        simp only [push_G, push_ite, push_bind, push_inl, push_inr, -eq_self]
        kernel_rfl
      | l9 data i k =>
        show _ = push (sg_slices_symMergeCmpFunc_9 (slices_symMergeCmpFunc_n fu_) data i k) (fun l' => goto (lab_slices_symMergeCmpFunc l').1 (lab_slices_symMergeCmpFunc l').2) (fun r => ret [.own2 24 48 tyAtom r])
        unfold sg_slices_symMergeCmpFunc_9
        simp only [push_G, push_ite, push_bind, push_inl, push_inr, -eq_self]
        kernel_rfl
      | l21 data i k =>
        show _ = push (sg_slices_symMergeCmpFunc_21 (slices_symMergeCmpFunc_n fu_) data i k) (fun l' => goto (lab_slices_symMergeCmpFunc l').1 (lab_slices_symMergeCmpFunc l').2) (fun r => ret [.own2 24 48 tyAtom r])
        unfold sg_slices_symMergeCmpFunc_21
        simp only [push_G, push_ite, push_bind, push_inl, push_inr, -eq_self]
        kernel_rfl
      | l33 data a m b cmp mid n start r_ p =>
        show _ = push (sg_slices_symMergeCmpFunc_33 (slices_symMergeCmpFunc_n fu_) data a m b cmp mid n start r_ p) (fun l' => goto (lab_slices_symMergeCmpFunc l').1 (lab_slices_symMergeCmpFunc l').2) (fun r => ret [.own2 24 48 tyAtom r])
        unfold sg_slices_symMergeCmpFunc_33
        simp only [push_G, push_ite, push_bind, push_inl, push_inr, -eq_self]
        kernel_rfl
      | l41 data a b cmp mid start end_ =>
        show _ = push (sg_slices_symMergeCmpFunc_41 (slices_symMergeCmpFunc_n fu_) data a b cmp mid start end_) (fun l' => goto (lab_slices_symMergeCmpFunc l').1 (lab_slices_symMergeCmpFunc l').2) (fun r => ret [.own2 24 48 tyAtom r])
        unfold sg_slices_symMergeCmpFunc_41
        simp only [push_G, push_ite, push_bind, push_inl, push_inr, -eq_self]
        kernel_rfl
      | l43 data b cmp mid end_ =>
        show _ = push (sg_slices_symMergeCmpFunc_43 (slices_symMergeCmpFunc_n fu_) data b cmp mid end_) (fun l' => goto (lab_slices_symMergeCmpFunc l').1 (lab_slices_symMergeCmpFunc l').2) (fun r => ret [.own2 24 48 tyAtom r])
        unfold sg_slices_symMergeCmpFunc_43
        simp only [push_G, push_ite, push_bind, push_inl, push_inr, -eq_self]
        kernel_rfl
    · intro goto ret
      show _ = push (en_slices_symMergeCmpFunc (slices_symMergeCmpFunc_n fu_) data a m b cmp) (fun l' => goto (lab_slices_symMergeCmpFunc l').1 (lab_slices_symMergeCmpFunc l').2) (fun r => ret [.own2 24 48 tyAtom r])
      unfold en_slices_symMergeCmpFunc
      simp only [push_G, push_ite, push_bind, push_inl, push_inr, -eq_self]
      kernel_rfl
theorem ok_slices_symMergeCmpFunc (data : (List (Bool × List tAtom))) (a : Int) (m : Int) (b : Int) (cmp : Value) (r : (List (Bool × List tAtom))) (h : slices_symMergeCmpFunc data a m b cmp = some r) : ACall X0 66 ([.own2 24 48 tyAtom data, .s (.int .i64) a, .s (.int .i64) m, .s (.int .i64) b, .s .opq cmp].map DT.toT) (resT ([].map DT.toT)) (outsL 0 (.own2 24 48 tyAtom r : DT).toT 0 5) := ok_slices_symMergeCmpFunc_n 200 data a m b cmp r h
noncomputable def e_slices_symMergeCmpFunc : List DT → Option CallRes
  | [.tup [.u], .own2 e0 f0 t0 y0, .s t1 y1, .s t2 y2, .s t3 y3, .s t4 y4] => (castL (a := t0) (b := tyAtom) y0).bind fun data => (beqO e0 24).bind fun _ => (beqO f0 48).bind fun _ => (castT (b := (.int .i64)) y1).bind fun a => (castT (b := (.int .i64)) y2).bind fun m => (castT (b := (.int .i64)) y3).bind fun b => (castT (b := .opq) y4).bind fun cmp => some ⟨(List (Bool × List tAtom)), allR (slices_symMergeCmpFunc data a m b cmp), fun r => .tup [.tup [], .own2 24 48 tyAtom r], [], false⟩
  | _ => none
noncomputable def E_slices_symMergeCmpFunc : Env := Env.add2 66 (e_slices_symMergeCmpFunc) E_slices_rotateCmpFunc
theorem E_slices_symMergeCmpFunc_ok : EnvOk X0 (E_slices_symMergeCmpFunc) := by
  refine EnvOk.add2 E_slices_rotateCmpFunc_ok (fun args c h => ?_)
  unfold e_slices_symMergeCmpFunc at h
  split at h
  · replace h := Option.bind_eq_some_iff.1 h
    obtain ⟨v0, c0, h⟩ := h
    obtain ⟨rfl, rfl⟩ := castL_some c0
    replace h := Option.bind_eq_some_iff.1 h
    obtain ⟨u0, b0, h⟩ := h
    obtain rfl := beqO_some b0
    replace h := Option.bind_eq_some_iff.1 h
    obtain ⟨z0, d0, h⟩ := h
    obtain rfl := beqO_some d0
    replace h := Option.bind_eq_some_iff.1 h
    obtain ⟨v1, c1, h⟩ := h
    obtain ⟨rfl, rfl⟩ := castT_some c1
    replace h := Option.bind_eq_some_iff.1 h
    obtain ⟨v2, c2, h⟩ := h
    obtain ⟨rfl, rfl⟩ := castT_some c2
    replace h := Option.bind_eq_some_iff.1 h
    obtain ⟨v3, c3, h⟩ := h
    obtain ⟨rfl, rfl⟩ := castT_some c3
    replace h := Option.bind_eq_some_iff.1 h
    obtain ⟨v4, c4, h⟩ := h
    obtain ⟨rfl, rfl⟩ := castT_some c4
    cases h
    intro r hr res out hwr
    obtain ⟨hr, ha⟩ := allR_some hr
    cases hwr
    exact ⟨by kernel_rfl, ok_slices_symMergeCmpFunc _ _ _ _ _ r hr, noSl_res (d := .tup []) (by rfl), noSl_own2 ha (by rfl), rfl⟩
  · cases h
def F_slices_stableCmpFunc : FnD := { n := 63, rs := [], Z := [0], labels := [(2, [0, 1, 2, 6, 7, 8]), (7, [0, 1, 2, 6]), (9, [0, 1, 2, 6, 7, 8])] }
def Y_slices_stableCmpFunc : DX := { Y0 with o2 := [18, 27, 43, 60] }
theorem Yok_slices_stableCmpFunc : DXOk Y_slices_stableCmpFunc X0 := ⟨Yok.tab, Yok.gl⟩
def lab_slices_stableCmpFunc : L_slices_stableCmpFunc → Nat × DSt
  | .l2 data n cmp blockSize a b => (2, [(0, .t (.own2 24 48 tyAtom data)), (1, .t (.s (.int .i64) n)), (2, .t (.s .opq cmp)), (6, .t (.s (.int .i64) blockSize)), (7, .t (.s (.int .i64) a)), (8, .t (.s (.int .i64) b))])
  | .l7 data n cmp blockSize => (7, [(0, .t (.own2 24 48 tyAtom data)), (1, .t (.s (.int .i64) n)), (2, .t (.s .opq cmp)), (6, .t (.s (.int .i64) blockSize))])
  | .l9 data n cmp blockSize a b => (9, [(0, .t (.own2 24 48 tyAtom data)), (1, .t (.s (.int .i64) n)), (2, .t (.s .opq cmp)), (6, .t (.s (.int .i64) blockSize)), (7, .t (.s (.int .i64) a)), (8, .t (.s (.int .i64) b))])
set_option maxRecDepth 100000 in
theorem ok_slices_stableCmpFunc (data : (List (Bool × List tAtom))) (n : Int) (cmp : Value) (r : (List (Bool × List tAtom))) (h : slices_stableCmpFunc data n cmp = some r) : ACall X0 51 ([.own2 24 48 tyAtom data, .s (.int .i64) n, .s .opq cmp].map DT.toT) (resT ([].map DT.toT)) (outsL 0 (.own2 24 48 tyAtom r : DT).toT 0 3) := by
  unfold slices_stableCmpFunc at h
  refine ALend_of_machine (F := F_slices_stableCmpFunc) (fuel := 3000) (E := E_slices_symMergeCmpFunc) (z := 0) Yok_slices_stableCmpFunc E_slices_symMergeCmpFunc_ok mixed Try.func51 rfl rfl rfl (by decide) rfl rfl (by decide) (args := [.own2 24 48 tyAtom data, .s (.int .i64) n, .s .opq cmp]) (Nat.le_of_ble_eq_true rfl) (Nat.le_of_ble_eq_true rfl) (by kernel_rfl) lab_slices_stableCmpFunc (st_slices_stableCmpFunc) (fun r => []) (fun r => .own2 24 48 tyAtom r) ?_ ?_ ?_ h rfl
  · intro l; cases l
    · exact WF_list ⟨trivial, trivial, trivial, trivial, trivial, trivial, trivial⟩
    · exact WF_list ⟨trivial, trivial, trivial, trivial, trivial⟩
    · exact WF_list ⟨trivial, trivial, trivial, trivial, trivial, trivial, trivial⟩
  · intro l goto ret; cases l with
    | l2 data n cmp blockSize a b =>
      show _ = push (sg_slices_stableCmpFunc_2 data n cmp blockSize a b) (fun l' => goto (lab_slices_stableCmpFunc l').1 (lab_slices_stableCmpFunc l').2) (fun r => ret [.own2 24 48 tyAtom r])
      unfold sg_slices_stableCmpFunc_2
      simp only [push_G, push_ite, push_bind, push_inl, push_inr, -eq_self]
      kernel_rfl
    | l7 data n cmp blockSize =>
      show _ = push (sg_slices_stableCmpFunc_7 data n cmp blockSize) (fun l' => goto (lab_slices_stableCmpFunc l').1 (lab_slices_stableCmpFunc l').2) (fun r => ret [.own2 24 48 tyAtom r])
      unfold sg_slices_stableCmpFunc_7
      simp only [push_G, push_ite, push_bind, push_inl, push_inr, -eq_self]
      kernel_rfl
    | l9 data n cmp blockSize a b =>
      show _ = push (sg_slices_stableCmpFunc_9 data n cmp blockSize a b) (fun l' => goto (lab_slices_stableCmpFunc l').1 (lab_slices_stableCmpFunc l').2) (fun r => ret [.own2 24 48 tyAtom r])
      unfold sg_slices_stableCmpFunc_9
      simp only [push_G, push_ite, push_bind, push_inl, push_inr, -eq_self]
      kernel_rfl
  · intro goto ret
    show _ = push (en_slices_stableCmpFunc data n cmp) (fun l' => goto (lab_slices_stableCmpFunc l').1 (lab_slices_stableCmpFunc l').2) (fun r => ret [.own2 24 48 tyAtom r])
    unfold en_slices_stableCmpFunc
    simp only [push_G, push_ite, push_bind, push_inl, push_inr, -eq_self]
    kernel_rfl
noncomputable def e_slices_stableCmpFunc : List DT → Option CallRes
  | [.tup [.u], .own2 e0 f0 t0 y0, .s t1 y1, .s t2 y2] => (castL (a := t0) (b := tyAtom) y0).bind fun data => (beqO e0 24).bind fun _ => (beqO f0 48).bind fun _ => (castT (b := (.int .i64)) y1).bind fun n => (castT (b := .opq) y2).bind fun cmp => some ⟨(List (Bool × List tAtom)), allR (slices_stableCmpFunc data n cmp), fun r => .tup [.tup [], .own2 24 48 tyAtom r], [], false⟩
  | _ => none
noncomputable def E_slices_stableCmpFunc : Env := Env.add2 51 (e_slices_stableCmpFunc) E_slices_symMergeCmpFunc
theorem E_slices_stableCmpFunc_ok : EnvOk X0 (E_slices_stableCmpFunc) := by
  refine EnvOk.add2 E_slices_symMergeCmpFunc_ok (fun args c h => ?_)
  unfold e_slices_stableCmpFunc at h
  split at h
  · replace h := Option.bind_eq_some_iff.1 h
    obtain ⟨v0, c0, h⟩ := h
    obtain ⟨rfl, rfl⟩ := castL_some c0
    replace h := Option.bind_eq_some_iff.1 h
    obtain ⟨u0, b0, h⟩ := h
    obtain rfl := beqO_some b0
    replace h := Option.bind_eq_some_iff.1 h
    obtain ⟨z0, d0, h⟩ := h
    obtain rfl := beqO_some d0
    replace h := Option.bind_eq_some_iff.1 h
    obtain ⟨v1, c1, h⟩ := h
    obtain ⟨rfl, rfl⟩ := castT_some c1
    replace h := Option.bind_eq_some_iff.1 h
    obtain ⟨v2, c2, h⟩ := h
    obtain ⟨rfl, rfl⟩ := castT_some c2
    cases h
    intro r hr res out hwr
    obtain ⟨hr, ha⟩ := allR_some hr
    cases hwr
    exact ⟨by kernel_rfl, ok_slices_stableCmpFunc _ _ _ r hr, noSl_res (d := .tup []) (by rfl), noSl_own2 ha (by rfl), rfl⟩
  · cases h
def F_slices_SortStableFunc : FnD := { n := 9, rs := [], Z := [0] }
def Y_slices_SortStableFunc : DX := { Y0 with o2 := [8] }
theorem Yok_slices_SortStableFunc : DXOk Y_slices_SortStableFunc X0 := ⟨Yok.tab, Yok.gl⟩
set_option maxRecDepth 100000 in
theorem ok_slices_SortStableFunc (x : (List (Bool × List tAtom))) (cmp : Value) (r : (List (Bool × List tAtom))) (h : slices_SortStableFunc x cmp = some r) : ACall X0 42 ([.own2 24 48 tyAtom x, .s .opq cmp].map DT.toT) (resT ([].map DT.toT)) (outsL 0 (.own2 24 48 tyAtom r : DT).toT 0 2) := by
  unfold slices_SortStableFunc at h
  refine ALend_of_straight (F := F_slices_SortStableFunc) (fuel := 3000) (E := E_slices_stableCmpFunc) (z := 0) Yok_slices_SortStableFunc E_slices_stableCmpFunc_ok mixed Try.func42 rfl rfl rfl (by decide) rfl rfl (by decide) (args := [.own2 24 48 tyAtom x, .s .opq cmp]) (Nat.le_of_ble_eq_true rfl) (Nat.le_of_ble_eq_true rfl) (by kernel_rfl) (fun r => []) (fun r => .own2 24 48 tyAtom r) ?_ h rfl
  intro goto ret
  unfold en_slices_SortStableFunc
  simp only [bnd_G, bnd_ite, bnd_bind, bnd_some, -eq_self]
  kernel_rfl
noncomputable def e_slices_SortStableFunc : List DT → Option CallRes
  | [.tup [.u], .own2 e0 f0 t0 y0, .s t1 y1] => (castL (a := t0) (b := tyAtom) y0).bind fun x => (beqO e0 24).bind fun _ => (beqO f0 48).bind fun _ => (castT (b := .opq) y1).bind fun cmp => some ⟨(List (Bool × List tAtom)), allR (slices_SortStableFunc x cmp), fun r => .tup [.tup [], .own2 24 48 tyAtom r], [], false⟩
  | _ => none
noncomputable def E_slices_SortStableFunc : Env := Env.add2 42 (e_slices_SortStableFunc) E_slices_stableCmpFunc
theorem E_slices_SortStableFunc_ok : EnvOk X0 (E_slices_SortStableFunc) := by
  refine EnvOk.add2 E_slices_stableCmpFunc_ok (fun args c h => ?_)
  unfold e_slices_SortStableFunc at h
  split at h
  · replace h := Option.bind_eq_some_iff.1 h
    obtain ⟨v0, c0, h⟩ := h
    obtain ⟨rfl, rfl⟩ := castL_some c0
    replace h := Option.bind_eq_some_iff.1 h
    obtain ⟨u0, b0, h⟩ := h
    obtain rfl := beqO_some b0
    replace h := Option.bind_eq_some_iff.1 h
    obtain ⟨z0, d0, h⟩ := h
    obtain rfl := beqO_some d0
    replace h := Option.bind_eq_some_iff.1 h
    obtain ⟨v1, c1, h⟩ := h
    obtain ⟨rfl, rfl⟩ := castT_some c1
    cases h
    intro r hr res out hwr
    obtain ⟨hr, ha⟩ := allR_some hr
    cases hwr
    exact ⟨by kernel_rfl, ok_slices_SortStableFunc _ _ r hr, noSl_res (d := .tup []) (by rfl), noSl_own2 ha (by rfl), rfl⟩
  · cases h
def F_value_Sort : FnD := { n := 35, rs := [2, 3], labels := [(8, [0, 5, 19, 20])] }
def Y_value_Sort : DX := { Y0 with o2 := [2, 5, 33] }
theorem Yok_value_Sort : DXOk Y_value_Sort X0 := ⟨Yok.tab, Yok.gl⟩
def lab_value_Sort : L_value_Sort → Nat × DSt
  | .l8 l out x19 x20 => (8, [(0, .t (.s (.sl 1 (.sl 4 tyAtom)) l)), (5, .t (.own2 24 48 tyAtom out)), (19, .t (.s (.int .i64) x19)), (20, .t (.s (.int .i64) x20))])
set_option maxRecDepth 100000 in
theorem ok_value_Sort (l : (List (List tAtom))) (r : ((List (Bool × List tAtom)) × Int)) (h : value_Sort l = some r) : APure X0 23 ([.s (.sl 1 (.sl 4 tyAtom)) l].map DT.toT) (resT ([.own2 24 48 tyAtom r.1, .s (.int .i64) r.2].map DT.toT)) := by
  refine APure_of_machine (F := F_value_Sort) (fuel := 3000) (E := E_slices_SortStableFunc) Yok_value_Sort E_slices_SortStableFunc_ok mixed Try.func23 rfl rfl rfl (by decide) (args := [.s (.sl 1 (.sl 4 tyAtom)) l]) (Nat.le_of_ble_eq_true rfl) (by kernel_rfl) lab_value_Sort st_value_Sort (fun r => [.own2 24 48 tyAtom r.1, .s (.int .i64) r.2]) ?_ ?_ ?_ h
  · intro l; cases l
    · exact WF_list ⟨trivial, trivial, trivial, trivial, trivial⟩
  · intro l goto ret; cases l with
    | l8 l out x19 x20 =>
      show _ = push (sg_value_Sort_8 l out x19 x20) (fun l' => goto (lab_value_Sort l').1 (lab_value_Sort l').2) (fun r => ret [.own2 24 48 tyAtom r.1, .s (.int .i64) r.2])
      unfold sg_value_Sort_8
      simp only [push_G, push_ite, push_bind, push_inl, push_inr, -eq_self]
      kernel_rfl
  · intro goto ret
    show _ = push (en_value_Sort l) (fun l' => goto (lab_value_Sort l').1 (lab_value_Sort l').2) (fun r => ret [.own2 24 48 tyAtom r.1, .s (.int .i64) r.2])
    unfold en_value_Sort
    simp only [push_G, push_ite, push_bind, push_inl, push_inr, -eq_self]
    kernel_rfl
noncomputable def e_value_Sort : List DT → Option CallRes
  | [.s t0 y0] => (castT (b := (.sl 1 (.sl 4 tyAtom))) y0).bind fun l => some ⟨((List (Bool × List tAtom)) × Int), value_Sort l, fun r => .tup [.own2 24 48 tyAtom r.1, .s (.int .i64) r.2], ([], (0 : Int)), false⟩
  | _ => none
noncomputable def E_value_Sort : Env := Env.add 23 e_value_Sort E_slices_SortStableFunc
theorem E_value_Sort_ok : EnvOk X0 E_value_Sort := by
  refine EnvOk.add E_slices_SortStableFunc_ok (fun args c h => ?_)
  unfold e_value_Sort at h
  split at h
  · obtain ⟨v0, c0, h⟩ := Option.bind_eq_some_iff.1 h
    obtain ⟨rfl, rfl⟩ := castT_some c0
    cases h
    exact ⟨fun r hr => .inl ⟨by kernel_rfl, ok_value_Sort _ r hr⟩, fun hb => by cases hb⟩
  · cases h
def F_ref07_first : FnD := { n := 19, rs := [2], labels := [(2, [0, 3])] }
def lab_ref07_first : L_ref07_first → Nat × DSt
  | .l2 l i => (2, [(0, .t (.s (.sl 1 (.sl 4 tyAtom)) l)), (3, .t (.s (.int .i64) i))])
set_option maxRecDepth 100000 in
theorem ok_ref07_first (l : (List (List tAtom))) (r : Int) (h : ref07_first l = some r) : APure X0 31 ([.s (.sl 1 (.sl 4 tyAtom)) l].map DT.toT) (resT ([.s (.int .i64) r].map DT.toT)) := by
  refine APure_of_machine (F := F_ref07_first) (fuel := 3000) (E := E_value_Sort) Yok E_value_Sort_ok mixed Try.func31 rfl rfl rfl (by decide) (args := [.s (.sl 1 (.sl 4 tyAtom)) l]) (Nat.le_of_ble_eq_true rfl) (by kernel_rfl) lab_ref07_first st_ref07_first (fun r => [.s (.int .i64) r]) ?_ ?_ ?_ h
  · intro l; cases l
    · exact WF_list ⟨trivial, trivial, trivial⟩
  · intro l goto ret; cases l with
    | l2 l i =>
      show _ = push (sg_ref07_first_2 l i) (fun l' => goto (lab_ref07_first l').1 (lab_ref07_first l').2) (fun r => ret [.s (.int .i64) r])
      unfold sg_ref07_first_2
      simp only [push_G, push_ite, push_bind, push_inl, push_inr, -eq_self]
      kernel_rfl
  · intro goto ret
    show _ = push (en_ref07_first l) (fun l' => goto (lab_ref07_first l').1 (lab_ref07_first l').2) (fun r => ret [.s (.int .i64) r])
    unfold en_ref07_first
    simp only [push_G, push_ite, push_bind, push_inl, push_inr, -eq_self]
    kernel_rfl
noncomputable def e_ref07_first : List DT → Option CallRes
  | [.s t0 y0] => (castT (b := (.sl 1 (.sl 4 tyAtom))) y0).bind fun l => some ⟨Int, ref07_first l, fun r => .s (.int .i64) r, (0 : Int), true⟩
  | _ => none
noncomputable def E_ref07_first : Env := Env.add 31 e_ref07_first E_value_Sort
theorem E_ref07_first_ok : EnvOk X0 E_ref07_first := by
  refine EnvOk.add E_value_Sort_ok (fun args c h => ?_)
  unfold e_ref07_first at h
  split at h
  · obtain ⟨v0, c0, h⟩ := Option.bind_eq_some_iff.1 h
    obtain ⟨rfl, rfl⟩ := castT_some c0
    cases h
    exact ⟨fun r hr => .inl ⟨by kernel_rfl, ok_ref07_first _ r hr⟩, fun hb => fun r => noSl_res (by rfl)⟩
  · cases h
def F_ref07_Sort : FnD := { n := 71, rs := [2, 3], labels := [(8, [0, 5, 6]), (11, [0, 5, 6, 7]), (15, [0, 5, 6, 7, 8])] }
def lab_ref07_Sort : L_ref07_Sort → Nat × DSt
  | .l8 l out i => (8, [(0, .t (.s (.sl 1 (.sl 4 tyAtom)) l)), (5, .t (.own 24 (.sl 4 tyAtom) out)), (6, .t (.s (.int .i64) i))])
  | .l11 l out i at_ => (11, [(0, .t (.s (.sl 1 (.sl 4 tyAtom)) l)), (5, .t (.own 24 (.sl 4 tyAtom) out)), (6, .t (.s (.int .i64) i)), (7, .t (.s (.int .i64) at_))])
  | .l15 l out i at_ k => (15, [(0, .t (.s (.sl 1 (.sl 4 tyAtom)) l)), (5, .t (.own 24 (.sl 4 tyAtom) out)), (6, .t (.s (.int .i64) i)), (7, .t (.s (.int .i64) at_)), (8, .t (.s (.int .i64) k))])
set_option maxRecDepth 100000 in
theorem ok_ref07_Sort (l : (List (List tAtom))) (r : ((List (List tAtom)) × Int)) (h : ref07_Sort l = some r) : APure X0 24 ([.s (.sl 1 (.sl 4 tyAtom)) l].map DT.toT) (resT ([.own 24 (.sl 4 tyAtom) r.1, .s (.int .i64) r.2].map DT.toT)) := by
  refine APure_of_machine (F := F_ref07_Sort) (fuel := 3000) (E := E_ref07_first) Yok E_ref07_first_ok mixed Try.func24 rfl rfl rfl (by decide) (args := [.s (.sl 1 (.sl 4 tyAtom)) l]) (Nat.le_of_ble_eq_true rfl) (by kernel_rfl) lab_ref07_Sort st_ref07_Sort (fun r => [.own 24 (.sl 4 tyAtom) r.1, .s (.int .i64) r.2]) ?_ ?_ ?_ h
  · intro l; cases l
    · exact WF_list ⟨trivial, trivial, trivial, trivial⟩
    · exact WF_list ⟨trivial, trivial, trivial, trivial, trivial⟩
    · exact WF_list ⟨trivial, trivial, trivial, trivial, trivial, trivial⟩
  · intro l goto ret; cases l with
    | l8 l out i =>
      show _ = push (sg_ref07_Sort_8 l out i) (fun l' => goto (lab_ref07_Sort l').1 (lab_ref07_Sort l').2) (fun r => ret [.own 24 (.sl 4 tyAtom) r.1, .s (.int .i64) r.2])
      unfold sg_ref07_Sort_8
      simp only [push_G, push_ite, push_bind, push_inl, push_inr, -eq_self]
      kernel_rfl
    | l11 l out i at_ =>
      show _ = push (sg_ref07_Sort_11 l out i at_) (fun l' => goto (lab_ref07_Sort l').1 (lab_ref07_Sort l').2) (fun r => ret [.own 24 (.sl 4 tyAtom) r.1, .s (.int .i64) r.2])
      unfold sg_ref07_Sort_11
      simp only [push_G, push_ite, push_bind, push_inl, push_inr, -eq_self]
      kernel_rfl
    | l15 l out i at_ k =>
      show _ = push (sg_ref07_Sort_15 l out i at_ k) (fun l' => goto (lab_ref07_Sort l').1 (lab_ref07_Sort l').2) (fun r => ret [.own 24 (.sl 4 tyAtom) r.1, .s (.int .i64) r.2])
      unfold sg_ref07_Sort_15
      simp only [push_G, push_ite, push_bind, push_inl, push_inr, -eq_self]
      kernel_rfl
  · intro goto ret
    show _ = push (en_ref07_Sort l) (fun l' => goto (lab_ref07_Sort l').1 (lab_ref07_Sort l').2) (fun r => ret [.own 24 (.sl 4 tyAtom) r.1, .s (.int .i64) r.2])
    unfold en_ref07_Sort
    simp only [push_G, push_ite, push_bind, push_inl, push_inr, -eq_self]
    kernel_rfl
noncomputable def e_ref07_Sort : List DT → Option CallRes
  | [.s t0 y0] => (castT (b := (.sl 1 (.sl 4 tyAtom))) y0).bind fun l => some ⟨((List (List tAtom)) × Int), ref07_Sort l, fun r => .tup [.own 24 (.sl 4 tyAtom) r.1, .s (.int .i64) r.2], (([] : List (List tAtom)), (0 : Int)), false⟩
  | _ => none
noncomputable def E_ref07_Sort : Env := Env.add 24 e_ref07_Sort E_ref07_first
theorem E_ref07_Sort_ok : EnvOk X0 E_ref07_Sort := by
  refine EnvOk.add E_ref07_first_ok (fun args c h => ?_)
  unfold e_ref07_Sort at h
  split at h
  · obtain ⟨v0, c0, h⟩ := Option.bind_eq_some_iff.1 h
    obtain ⟨rfl, rfl⟩ := castT_some c0
    cases h
    exact ⟨fun r hr => .inl ⟨by kernel_rfl, ok_ref07_Sort _ r hr⟩, fun hb => by cases hb⟩
  · cases h
def F_law07_ValueOrders : FnD := { n := 72, rs := [6], labels := [(11, [2, 11, 12, 14])] }
def Y_law07_ValueOrders : DX := { Y0 with o2 := [67] }
theorem Yok_law07_ValueOrders : DXOk Y_law07_ValueOrders X0 := ⟨Yok.tab, Yok.gl⟩
def lab_law07_ValueOrders : L_law07_ValueOrders → Nat × DSt
  | .l11 l own x i => (11, [(2, .t (.s (.sl 1 (.sl 4 tyAtom)) l)), (11, .t (.s (.sl 1 (.sl 4 tyAtom)) own)), (12, .t (.own2 24 48 tyAtom x)), (14, .t (.s (.int .i64) i))])
set_option maxRecDepth 100000 in
theorem ok_law07_ValueOrders (a : (List tAtom)) (b : (List tAtom)) (l : (List (List tAtom))) (r : Bool) (h : law07_ValueOrders a b l = some r) : APure X0 4 ([.s (.sl 4 tyAtom) a, .s (.sl 4 tyAtom) b, .s (.sl 1 (.sl 4 tyAtom)) l].map DT.toT) (resT ([.s .bool r].map DT.toT)) := by
  refine APure_of_machine (F := F_law07_ValueOrders) (fuel := 3000) (E := E_ref07_Sort) Yok_law07_ValueOrders E_ref07_Sort_ok mixed Try.func4 rfl rfl rfl (by decide) (args := [.s (.sl 4 tyAtom) a, .s (.sl 4 tyAtom) b, .s (.sl 1 (.sl 4 tyAtom)) l]) (Nat.le_of_ble_eq_true rfl) (by kernel_rfl) lab_law07_ValueOrders st_law07_ValueOrders (fun r => [.s .bool r]) ?_ ?_ ?_ h
  · intro l; cases l
    · exact WF_list ⟨trivial, trivial, trivial, trivial, trivial⟩
  · intro l goto ret; cases l with
    | l11 l own x i =>
      show _ = push (sg_law07_ValueOrders_11 l own x i) (fun l' => goto (lab_law07_ValueOrders l').1 (lab_law07_ValueOrders l').2) (fun r => ret [.s .bool r])
      unfold sg_law07_ValueOrders_11
      simp only [push_G, push_ite, push_bind, push_inl, push_inr, -eq_self]
      kernel_rfl
  · intro goto ret
    show _ = push (en_law07_ValueOrders a b l) (fun l' => goto (lab_law07_ValueOrders l').1 (lab_law07_ValueOrders l').2) (fun r => ret [.s .bool r])
    unfold en_law07_ValueOrders
    simp only [push_G, push_ite, push_bind, push_inl, push_inr, -eq_self]
    kernel_rfl
end Go.Eng
