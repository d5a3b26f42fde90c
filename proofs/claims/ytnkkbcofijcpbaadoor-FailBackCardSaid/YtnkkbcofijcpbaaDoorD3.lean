/- A part of the proof: D3. -/
import Derived.Test.YtnkkbcofijcpbaaDoorD2
import Derived.Test.YtnkkbcofijcpbaaDoorE3
import Derived.Control
import Derived.Scope
namespace Go.Eng
open Go.RowKit (Below)
set_option linter.unusedVariables false
set_option linter.unusedSimpArgs false
set_option linter.unusedSectionVars false
variable {X : Ctx} {Y : DX} {n : Nat} {Z : List Nat} {st : DSt} {E : Env} {ρ : Type} {r : ρ} {Q : Exit → St → Prop}
def lateOkB (loc mid tl : List Oper) (tab hd : List (List Nat)) : Bool :=
  ancOk (loc ++ mid ++ tl) tab && (hideOk2 (loc ++ mid ++ tl) loc tab hd && ((List.range (loc ++ mid ++ tl).length).all fun k => decide (k < loc.length) || (List.range k).all fun j => (j == 0 && decide (k < (loc ++ mid).length)) || (tab.getD k []).contains j))
theorem AW_late {id : Nat} {ops : Array Oper} {st : St} (o0 : Oper) (loc mid tl : List Oper) (tab hd : List (List Nat)) {rr d : Nat} (hops : ops.toList = loc ++ mid ++ tl) (hm : X.P.follows .mixedOrders = true) (hok : lateOkB loc mid tl tab hd = true) (hL : LateOk n Z (loc ++ mid ++ tl) o0 rr d) (hlp : 0 < loc.length)
    (hn : st.find n = none) (hg0 : stG n st d = .t .u) {sts : Nat → St} {bs : Nat → A} (q1 : sts 0 = st) (hb0 : bs 0 = .t .u)
    (hK : MidP X n Z (loc ++ mid ++ tl) d mid (sts loc.length) (fun s => ∃ e cs, stG n s rr = .t (.box e cs) ∧ RegP X n Z (loc ++ mid ++ tl) tl (s.put d (.pref rr none 0)) (Q .normal)))
    (q3 : ∀ k o, loc[k]? = some o → ∃ d, o.dst = some d ∧ dstOk n Z (sts k) d ∧ bs k ≠ .ghost ∧ LG X (loc ++ mid ++ tl) (stG n ((sts k).hide (hd.getD k []))) o (bs k) ∧ sts (k + 1) = (sts k).put d (bs k)) : AW X n Z (.region id ops true) st Q := by
  intro D gc v0 w0 tmps w hI
  refine wp_region_any hm ?_
  simp only [lateOkB, Bool.and_eq_true] at hok
  obtain ⟨o1, o2, o3⟩ := hok
  have hI2 := hI.drawn (w.drawn + 1)
  have hoa : ops = (loc ++ mid ++ tl).toArray := by rw [← hops]
  subst hoa
  simp only [List.all_eq_true, List.mem_range, Bool.or_eq_true, Bool.and_eq_true, decide_eq_true_eq, List.contains_iff_mem, beq_iff_eq] at o3
  refine late_sound (K := Q .normal) rfl o1 o2 hL hlp (fun k h1 h2 j hj0 hj => ?_) (fun k h1 h2 j hj => ?_) (fun st' tmps' w' hK hI' => ⟨rfl, st', hK, hI'⟩) (by rw [q1]; exact hn) hb0 (by rw [q1]; exact hg0) hK q3 _ _ tmps _ (by simp) (fun j o hj hl => ?_) (fun k hl => ?_) (fun hl => ?_) (by simp) ?_
  · rcases o3 k h2 with e | e
    · omega
    · rcases e j hj with e | e
      · omega
      · exact e
  · have hle : loc.length ≤ (loc ++ mid).length := by simp
    rcases o3 k h2 with e | e
    · omega
    · rcases e j hj with e | e
      · omega
      · exact e
  · exact absurd hl (lst_repl _ _)
  · exact absurd hl (lst_repl _ _)
  · exact absurd hl (lst_repl _ _)
  · have : mixG loc bs (Lst (Array.replicate (loc ++ mid ++ tl).toArray.size false)) (stG n (sts 0)) = stG n st := by
      funext i
      unfold mixG
      cases which loc i with
      | none => rw [q1]
      | some k =>
        simp only
        rw [if_neg (lst_repl _ _), q1]
    rw [this]; exact hI2
theorem late_LG {all : List Oper} {o0 : Oper} {rr d : Nat} {g : Nat → A} (hL : LateOk n Z all o0 rr d) : LG X all g o0 (.t .u) := by
  intro tmps ds w c hG hf next Q hn
  rw [if_pos (by simp [Region.wanted, hL.grd])]
  refine wp_of_run (v := tmps.getD rr undef) (w' := w) ?_ (hn _ w (Below.refl _ _) ⟨fun _ => 0, .u _ _ (fun _ => rfl), fun b hb => absurd hb (by simp), fun b => by simp⟩)
  unfold execOp
  simp only [hL.op]; rfl
def isU (st : DSt) (d : Nat) : Bool := match st.find d with
  | some (.t .u) => true
  | _ => false
def isBox (st : DSt) (d : Nat) : Bool := match st.find d with
  | some (.t (.box _ _)) => true
  | _ => false
def midD (Y : DX) (n : Nat) (Z : List Nat) (E : Env) (all : List Oper) (d : Nat) : List Oper → DSt → (DSt → Option ρ) → Option ρ
  | [], st, K => tst (isU st d) (K st)
  | o :: rest, st, K => tst (isU st d) (@gopD ρ noPan Y n (d :: Z) E all st o fun st' => midD Y n Z E all d rest st' K)
theorem isU_spec {d : Nat} (h : isU st d = true) : stG n st.toSt d = .t .u := by
  unfold isU at h
  rw [stG_toSt]
  split at h
  · rename_i e; rw [e]; rfl
  · cases h
theorem midD_sound (hY : DXOk Y X) (hE : EnvOk X E) {all : List Oper} {d : Nat} {K : DSt → Option ρ} : ∀ (rest : List Oper) (st : DSt), WF st → midD Y n Z E all d rest st K = some r →
    MidP X n Z all d rest st.toSt (fun s => ∃ st', s = st'.toSt ∧ WF st' ∧ K st' = some r)
  | [], st, hw, h => by
    obtain ⟨h0, h⟩ := tst_some h
    exact ⟨isU_spec h0, st, rfl, hw, h⟩
  | o :: rest, st, hw, h => by
    obtain ⟨h0, h⟩ := tst_some h
    rcases @gopD_sound X Y n (d :: Z) st E ρ noPan r hY hE hw _ _ _ h with ⟨st', h1, h2, h3⟩ | ⟨pv, st', h1, h2⟩
    case inr => cases h2
    exact ⟨isU_spec h0, st'.toSt, h1, midD_sound hY hE rest st' h2 h3⟩
theorem MidP_mono {all : List Oper} {d : Nat} {K K' : St → Prop} (hk : ∀ s, K s → K' s) : ∀ (rest : List Oper) (s : St), MidP X n Z all d rest s K → MidP X n Z all d rest s K'
  | [], s, h => ⟨h.1, hk s h.2⟩
  | o :: rest, s, h => by
    obtain ⟨h1, st', h2, h3⟩ := h
    exact ⟨h1, st', h2, MidP_mono hk rest st' h3⟩
def lateO (ops : List Oper) : Option (Nat × Nat) := match ops with
  | o :: _ => match o.guard, o.op, o.dst with
    | none, .move (.tmp rr), some d => some (rr, d)
    | _, _, _ => none
  | [] => none
def cutLL (tab : List (List Nat)) : Nat → Nat
  | 0 => 1
  | k + 1 => match (List.range k).all fun j => j == 0 || (tab.getD k []).contains j with
    | true => cutLL tab k
    | false => k + 1
def cutN (tab : List (List Nat)) : Nat → Nat
  | 0 => 0
  | k + 1 => match (List.range k).all fun j => (tab.getD k []).contains j with
    | true => cutN tab k
    | false => k + 1
def lateA (ops : List Oper) : List Oper := ops.take (cutLL (ancTab ops []) ops.length)
def lateR (ops : List Oper) : List Oper := ops.drop (cutLL (ancTab ops []) ops.length)
def lateM (ops : List Oper) : List Oper := (lateR ops).take (cutN (ancTab ops []) ops.length - cutLL (ancTab ops []) ops.length)
def lateT (ops : List Oper) : List Oper := (lateR ops).drop (cutN (ancTab ops []) ops.length - cutLL (ancTab ops []) ops.length)
theorem late_split (ops : List Oper) : lateA ops ++ lateM ops ++ lateT ops = ops := by
  unfold lateA lateM lateT
  rw [List.append_assoc, List.take_append_drop]
  unfold lateR
  exact List.take_append_drop _ _
def isApp (o : Oper) : Bool := match o.op with
  | .call { callee := .builtin .append, .. } => true
  | _ => false
def freshD (st : DSt) (d : Nat) : Bool := match st.find d with
  | none => true
  | some (.t .u) => true
  | _ => false
def lateD (Y : DX) (n : Nat) (Z : List Nat) (E : Env) (ops : List Oper) (st : DSt) (K : DSt → Option ρ) : Option ρ := match lateO ops with
  | some (rr, d) =>
    tst (memN Z rr && (lateOkB (lateA ops) (lateM ops) (lateT ops) (ancTab ops []) (hideT (lateA ops) (ancTab ops [])) && ((st.find n).isNone && (freshD st d && (dstD n Z st d && Nat.blt 0 (lateA ops).length)))))
      (drawD Y n Z E ops ((hideT (lateA ops) (ancTab ops [])).drop 1) ((lateA ops).drop 1) (st.put d (.t .u)) fun s => midD Y n Z E ops d (lateM ops) s fun s1 => tst (isBox s1 rr && dstD n Z s1 d) (@regD ρ noPan Y n Z E ops (lateT ops) (s1.put d (.pref rr none 0)) K))
  | none => none
theorem late_D_sound (hY : DXOk Y X) (hE : EnvOk X E) (hm : X.P.follows .mixedOrders = true) (hw : WF st) {id : Nat} {ops : Array Oper} {K : DSt → Option ρ} (h : lateD Y n Z E ops.toList st K = some r)
    (hQ : ∀ st', WF st' → K st' = some r → Q .normal st'.toSt) : AW X n Z (.region id ops true) st.toSt Q := by
  unfold lateD at h
  split at h
  · rename_i rr d hlo
    obtain ⟨h0, h⟩ := tst_some h
    simp only [Bool.and_eq_true, Option.isNone_iff_eq_none, Nat.blt_eq] at h0
    obtain ⟨hrz, hok, hn, hfr, hds, hlp⟩ := h0
    obtain ⟨k1, k2, k3⟩ := dstD_spec hds
    have hw1 : WF (st.put d (.t .u)) := hw.put k2 k3 trivial rfl
    obtain ⟨sts, bs, q1, q2, q3, q4⟩ := drawD_sound (n := n) (Z := Z) hY hE _ _ _ hw1 h
    have hmid := midD_sound (n := n) (Z := Z) hY hE _ _ q2 q3
    obtain ⟨o0, hat, hop, hgd, hdst⟩ : ∃ o0, ops.toList[0]? = some o0 ∧ o0.op = .move (.tmp rr) ∧ o0.guard = none ∧ o0.dst = some d := by
      unfold lateO at hlo
      split at hlo
      · rename_i o rest ho
        split at hlo
        · rename_i r2 d2 g1 g2 g3
          cases hlo
          exact ⟨o, by rw [ho]; rfl, g2, g1, g3⟩
        · cases hlo
      · cases hlo
    have hsp := late_split ops.toList
    have hL : LateOk n Z (lateA ops.toList ++ lateM ops.toList ++ lateT ops.toList) o0 rr d := ⟨by rw [hsp]; exact hat, hop, hdst, hgd, k1.1, k1.2.1, memN_spec.1 hrz⟩
    have hA0 : (lateA ops.toList)[0]? = some o0 := by
      have := hL.at0
      rw [List.append_assoc, List.getElem?_append_left hlp] at this; exact this
    refine AW_late o0 (lateA ops.toList) (lateM ops.toList) (lateT ops.toList) _ _ hsp.symm hm hok hL hlp ?_ ?_ (sts := fun k => match k with | 0 => st.toSt | k + 1 => (sts k).toSt) (bs := fun k => match k with | 0 => .t .u | k + 1 => bs k) rfl rfl ?_ ?_
    · rw [find_toSt, hn]; rfl
    · rw [stG_toSt]
      unfold freshD at hfr
      have : ¬ d = n := by have := k1.1; omega
      cases hf : st.find d with
      | none => simp only [if_neg this]
      | some a =>
        rw [hf] at hfr
        split at hfr
        · rename_i e; cases e
        · rename_i e; cases e; rfl
        · cases hfr
    · obtain ⟨m, hm2⟩ : ∃ m, (lateA ops.toList).length = m + 1 := ⟨(lateA ops.toList).length - 1, by omega⟩
      rw [List.length_drop, hm2, Nat.add_sub_cancel] at hmid
      rw [hm2, hsp]
      refine MidP_mono (fun s hs => ?_) _ _ hmid
      obtain ⟨s1, rfl, w1, hs⟩ := hs
      obtain ⟨h5, hs⟩ := tst_some hs
      simp only [Bool.and_eq_true] at h5
      obtain ⟨c1, c2, c3⟩ := dstD_spec h5.2
      have hb := h5.1
      unfold isBox at hb
      split at hb
      · rename_i e cs hf
        refine ⟨e, cs.map DT.toT, by rw [stG_toSt, hf]; simp only [DA.toA, DT.toT, all_eq], ?_⟩
        have := RegQ_P (fun pv s hp => by cases hp.1) _ _ (@regD_sound X Y n Z E ρ noPan r hY hE _ _ _ _ (w1.put (a := .pref rr none 0) c2 c3 trivial rfl) hs)
        rw [put_toSt] at this
        exact RegP_mono _ _ (fun s hs => by obtain ⟨st', rfl, h1, h2⟩ := hs; exact hQ st' h1 h2) this
      · cases hb
    · rw [hsp]
      intro k o hk
      cases k with
      | zero =>
        rw [hA0] at hk; cases hk
        refine ⟨d, hdst, k1, (fun e => by cases e), late_LG (n := n) (Z := Z) (rr := rr) (d := d) (show LateOk n Z ops.toList o0 rr d by rw [hsp] at hL; exact hL), ?_⟩
        show (sts 0).toSt = _
        rw [q1, put_toSt]; rfl
      | succ k =>
        obtain ⟨d', e1, e2, e3, e4, e5⟩ := q4 k o (by rw [List.getElem?_drop, Nat.add_comm]; exact hk)
        refine ⟨d', e1, e2, e3, ?_, e5⟩
        have : ((hideT (lateA ops.toList) (ancTab ops.toList [])).drop 1).getD k [] = (hideT (lateA ops.toList) (ancTab ops.toList [])).getD (k + 1) [] := by
          rw [List.getD_eq_getElem?_getD, List.getD_eq_getElem?_getD, List.getElem?_drop, Nat.add_comm]
        rw [this] at e4
        exact e4
  · cases h
def useLate (ops : List Oper) : Bool := (lateO ops).isSome && (lateM ops).any isApp
variable [Pan ρ]
def regionL (Y : DX) (n : Nat) (Z : List Nat) (E : Env) (ops : Array Oper) (op : Bool) (st : DSt) (K : DSt → Option ρ) : Option ρ := match op && useLate ops.toList with
  | true => lateD Y n Z E ops.toList st K
  | false => regionD Y n Z E ops op st K
theorem regionL_sound (hY : DXOk Y X) (hE : EnvOk X E) (hm : X.P.follows .mixedOrders = true) (hw : WF st) {id : Nat} {ops : Array Oper} {op : Bool} {K : DSt → Option ρ} (h : regionL Y n Z E ops op st K = some r)
    (hP : ∀ pv (st' : DSt), (Pan.pan pv : Option ρ) = some r → Q (.panic [{ v := pv, recovered := false }]) st'.toSt) (hQ : ∀ st', WF st' → K st' = some r → Q .normal st'.toSt) : AW X n Z (.region id ops op) st.toSt Q := by
  unfold regionL at h
  split at h
  · rename_i hb
    simp only [Bool.and_eq_true] at hb
    rw [hb.1]
    exact late_D_sound hY hE hm hw h hQ
  · exact region_sound hY hE hm hw h hP hQ
end Go.Eng

/- Code, results, loops, in typed trees. -/
namespace Go.Eng
open Go.RowKit (Below)
set_option linter.unusedVariables false
set_option linter.unusedSimpArgs false
section
variable {L R : Type}
def iterN (step : L → Option (L ⊕ R)) : Nat → L → Option R
  | 0, _ => none
  | k + 1, l => match step l with
    | some (.inl l') => iterN step k l'
    | some (.inr r) => some r
    | none => none
theorem iterN_mono {step : L → Option (L ⊕ R)} : ∀ {k : Nat} {l : L} {r : R}, iterN step k l = some r → ∀ {j : Nat}, k ≤ j → iterN step j l = some r
  | 0, _, _, h, _, _ => by cases h
  | k + 1, l, r, h, j, hj => by
    obtain ⟨j, rfl⟩ : ∃ m, j = m + 1 := ⟨j - 1, by omega⟩
    simp only [iterN] at h ⊢
    split at h
    · exact iterN_mono h (by omega)
    · exact h
    · cases h
open Classical in
noncomputable def iter (step : L → Option (L ⊕ R)) (l : L) : Option R := if h : ∃ k r, iterN step k l = some r then some (Classical.choose (Classical.choose_spec h)) else none
theorem iter_of {step : L → Option (L ⊕ R)} {k : Nat} {l : L} {r : R} (h : iterN step k l = some r) : iter step l = some r := by
  have hx : ∃ k r, iterN step k l = some r := ⟨k, r, h⟩
  unfold iter
  rw [dif_pos hx]
  have h2 := Classical.choose_spec (Classical.choose_spec hx)
  have h3 := iterN_mono h2 (Nat.le_max_left _ k)
  have h4 := iterN_mono h (Nat.le_max_right (Classical.choose hx) k)
  rw [h3] at h4; exact h4
theorem iter_some {step : L → Option (L ⊕ R)} {l : L} {r : R} (h : iter step l = some r) : ∃ k, iterN step k l = some r := by
  unfold iter at h
  split at h
  · rename_i hx
    cases h
    exact ⟨_, Classical.choose_spec (Classical.choose_spec hx)⟩
  · cases h
def again (step : L → Option (L ⊕ R)) (k : L → Option R) (l : L) : Option R := match step l with
  | some (.inl l') => k l'
  | some (.inr r) => some r
  | none => none
theorem iter_eq (step : L → Option (L ⊕ R)) (l : L) : iter step l = again step (iter step) l := by
  unfold again
  cases h : step l with
  | none =>
    simp only
    cases hi : iter step l with
    | none => rfl
    | some r =>
      obtain ⟨k, hk⟩ := iter_some hi
      cases k with
      | zero => cases hk
      | succ k => simp only [iterN, h] at hk; cases hk
  | some x =>
    cases x with
    | inr r => exact iter_of (k := 1) (by simp only [iterN, h])
    | inl l' =>
      simp only
      cases hi : iter step l' with
      | some r =>
        obtain ⟨k, hk⟩ := iter_some hi
        exact iter_of (k := k + 1) (by simp only [iterN, h]; exact hk)
      | none =>
        cases hi2 : iter step l with
        | none => rfl
        | some r =>
          obtain ⟨k, hk⟩ := iter_some hi2
          cases k with
          | zero => cases hk
          | succ k =>
            simp only [iterN, h] at hk
            rw [iter_of hk] at hi; cases hi
noncomputable def runL (step : L → Option (L ⊕ R)) (e : Option (L ⊕ R)) : Option R := match e with
  | some (.inl l) => iter step l
  | some (.inr r) => some r
  | none => none
theorem runL_some {step : L → Option (L ⊕ R)} {e : Option (L ⊕ R)} {r : R} (h : runL step e = some r) : ∃ x, e = some x ∧ ((∃ l, x = .inl l ∧ iter step l = some r) ∨ x = .inr r) := by
  unfold runL at h
  split at h
  · exact ⟨_, rfl, .inl ⟨_, rfl, h⟩⟩
  · cases h; exact ⟨_, rfl, .inr rfl⟩
  · cases h
theorem iter_eq' (step : L → Option (L ⊕ R)) (l : L) : iter step l = runL step (step l) := by
  rw [iter_eq]; unfold again runL
  cases step l with
  | none => rfl
  | some x => cases x <;> rfl
end
def Code.wpL (P : Program) (c : Code) (Q : Exit → Act → World → Prop) (a : Act) (w : World) : Prop :=
  ∀ (b : Frame) (k : List Item) (cs : List Frame), ∃ e a' w', Q e a' w' ∧ Arrives P (lone (b.at a (.code c :: .inLoop c :: k)) cs w) b k cs e a' w'
theorem wpL_of {P : Program} {c : Code} {Q : Exit → Act → World → Prop} {a : Act} {w : World} (h : c.wp P (Exit.then (Code.wpL P c Q) Q) a w) : Code.wpL P c Q a w := by
  intro b k cs
  obtain ⟨e, a₁, w₁, hq, harr⟩ := h b (.inLoop c :: k) cs
  cases e with
  | normal =>
    obtain ⟨e₂, a₂, w₂, hq₂, harr₂⟩ := hq b k cs
    exact ⟨e₂, a₂, w₂, hq₂, .of_steps (Steps.trans harr (.one step_inLoop)) harr₂⟩
  | exit id => exact ⟨_, a₁, w₁, hq, .pass (x := .inLoop c) rfl (fun _ _ => .inl (by simp)) harr⟩
  | goto l => exact ⟨_, a₁, w₁, hq, .pass (x := .inLoop c) rfl (fun _ _ => .inl (by simp)) harr⟩
  | ret => exact ⟨_, a₁, w₁, hq, .pass (x := .inLoop c) rfl (fun _ _ => .inl (by simp)) harr⟩
  | panic ch => exact ⟨_, a₁, w₁, hq, .pass (x := .inLoop c) rfl (fun _ _ => .inl (by simp)) harr⟩
  | outgrown => exact ⟨_, a₁, w₁, hq, .pass (x := .inLoop c) rfl (fun _ _ => .inl (by simp)) harr⟩
theorem wp_loop_of {P : Program} {c : Code} {Q : Exit → Act → World → Prop} {a : Act} {w : World} (h : Code.wpL P c Q a w) : (Code.loop c).wp P Q a w := by
  intro b k cs
  obtain ⟨e, a', w', hq, harr⟩ := h b k cs
  exact ⟨e, a', w', hq, .of_steps (.one step_loop) harr⟩
section
variable {X : Ctx} {n : Nat} {Z : List Nat} {Q : Exit → St → Prop} {st : St}
def AWL (X : Ctx) (n : Nat) (Z : List Nat) (c : Code) (st : St) (Q : Exit → St → Prop) : Prop :=
  ∀ (D : Nat → Prop) (gc : Cnt) (v0 : Nat → Value) (w0 : World) (tmps : Array Value) (w : World), Inv X n Z D gc v0 w0 (stG n st) tmps w →
    Code.wpL X.P c (fun ex a' w' => a'.defers = [] ∧ ∃ st', Q ex st' ∧ Inv X n Z D gc v0 w0 (stG n st') a'.tmps w') ⟨tmps, []⟩ w
def loopQ (X : Ctx) (n : Nat) (Z : List Nat) (c : Code) (Q : Exit → St → Prop) : Exit → St → Prop
  | .normal, s => AWL X n Z c s Q
  | e, s => Q e s
theorem AWL_of {c : Code} (h : AW X n Z c st (loopQ X n Z c Q)) : AWL X n Z c st Q := by
  intro D gc v0 w0 tmps w hI
  refine wpL_of (wp_mono (h D gc v0 w0 tmps w hI) ?_)
  rintro ex ⟨tm, df⟩ w' ⟨h1, s, h2, h3⟩
  simp only at h1; subst h1
  cases ex with
  | normal => exact h2 D gc v0 w0 tm w' h3
  | _ => exact ⟨rfl, s, h2, h3⟩
theorem AW_loopL {c : Code} (h : AWL X n Z c st Q) : AW X n Z (.loop c) st Q := fun D gc v0 w0 tmps w hI => wp_loop_of (h D gc v0 w0 tmps w hI)
def Code.wpS (P : Program) (c r : Code) (Q : Exit → Act → World → Prop) (a : Act) (w : World) : Prop :=
  ∀ (b : Frame) (k : List Item) (cs : List Frame), ∃ e a' w', Q e a' w' ∧ Arrives P (lone (b.at a (.code r :: .inScope c :: k)) cs w) b k cs e a' w'
def scopeE (P : Program) (c : Code) (Q : Exit → Act → World → Prop) : Exit → Act → World → Prop
  | .goto l, a, w => match findLabel c l with
    | some r => Code.wpS P c r Q a w
    | none => Q (.goto l) a w
  | e, a, w => Q e a w
theorem wpS_of {P : Program} {c r : Code} {Q : Exit → Act → World → Prop} {a : Act} {w : World} (h : r.wp P (scopeE P c Q) a w) : Code.wpS P c r Q a w := by
  intro b k cs
  obtain ⟨e, a₁, w₁, hq, harr⟩ := h b (.inScope c :: k) cs
  cases e with
  | normal => exact ⟨.normal, a₁, w₁, hq, Steps.trans harr (.one step_inScope)⟩
  | exit id => exact ⟨.exit id, a₁, w₁, hq, fun k' hk => harr k' (by simp [exitTo, hk])⟩
  | goto l =>
    simp only [scopeE] at hq
    cases hf : findLabel c l with
    | some r2 =>
      rw [hf] at hq
      obtain ⟨e₂, a₂, w₂, hq₂, harr₂⟩ := hq b k cs
      exact ⟨e₂, a₂, w₂, hq₂, .of_steps (harr _ (by simp [gotoIn, hf])) harr₂⟩
    | none =>
      rw [hf] at hq
      exact ⟨.goto l, a₁, w₁, hq, fun k' hk => harr k' (by simp [gotoIn, hf, hk])⟩
  | ret => exact ⟨_, a₁, w₁, hq, harr⟩
  | panic ch => exact ⟨_, a₁, w₁, hq, harr⟩
  | outgrown => exact ⟨_, a₁, w₁, hq, harr⟩
theorem wp_scope_of {P : Program} {c : Code} {Q : Exit → Act → World → Prop} {a : Act} {w : World} (h : Code.wpS P c c Q a w) : (Code.scope c).wp P Q a w := by
  intro b k cs
  obtain ⟨e, a', w', hq, harr⟩ := h b k cs
  exact ⟨e, a', w', hq, .of_steps (.one step_scope) harr⟩
def AWS (X : Ctx) (n : Nat) (Z : List Nat) (c r : Code) (st : St) (Q : Exit → St → Prop) : Prop :=
  ∀ (D : Nat → Prop) (gc : Cnt) (v0 : Nat → Value) (w0 : World) (tmps : Array Value) (w : World), Inv X n Z D gc v0 w0 (stG n st) tmps w →
    Code.wpS X.P c r (fun ex a' w' => a'.defers = [] ∧ ∃ st', Q ex st' ∧ Inv X n Z D gc v0 w0 (stG n st') a'.tmps w') ⟨tmps, []⟩ w
def scopeQ (X : Ctx) (n : Nat) (Z : List Nat) (c : Code) (Q : Exit → St → Prop) : Exit → St → Prop
  | .goto l, s => match findLabel c l with
    | some r => AWS X n Z c r s Q
    | none => Q (.goto l) s
  | e, s => Q e s
theorem AWS_of {c r : Code} (h : AW X n Z r st (scopeQ X n Z c Q)) : AWS X n Z c r st Q := by
  intro D gc v0 w0 tmps w hI
  refine wpS_of (wp_mono (h D gc v0 w0 tmps w hI) ?_)
  rintro ex ⟨tm, df⟩ w' ⟨h1, s, h2, h3⟩
  simp only at h1; subst h1
  cases ex with
  | goto l =>
    simp only [scopeQ] at h2
    simp only [scopeE]
    cases hf : findLabel c l with
    | some r2 => rw [hf] at h2; exact h2 D gc v0 w0 tm w' h3
    | none => rw [hf] at h2; exact ⟨trivial, s, h2, h3⟩
  | _ => exact ⟨rfl, s, h2, h3⟩
theorem AW_scopeS {c : Code} (h : AWS X n Z c c st Q) : AW X n Z (.scope c) st Q := fun D gc v0 w0 tmps w hI => wp_scope_of (h D gc v0 w0 tmps w hI)
theorem AW_label {l : Nat} (h : Q .normal st) : AW X n Z (.label l) st Q := fun D gc v0 w0 tmps w hI => wp_label ⟨rfl, st, h, hI⟩
theorem AW_goto {l : Nat} (h : Q (.goto l) st) : AW X n Z (.goto l) st Q := fun D gc v0 w0 tmps w hI => wp_goto ⟨rfl, st, h, hI⟩
theorem AW.from {c : Code} {t : St} (hg : GhostTo X n Z st t) (h : AW X n Z c t Q) : AW X n Z c st Q := fun D gc v0 w0 tmps w hI => h D gc v0 w0 tmps w (hg D gc v0 w0 tmps w hI)
theorem AW.to {c : Code} (h : AW X n Z c st (fun ex s => ∃ s', GhostTo X n Z s s' ∧ Q ex s')) : AW X n Z c st Q := fun D gc v0 w0 tmps w hI =>
  wp_mono (h D gc v0 w0 tmps w hI) (fun ex a w ⟨h1, s, ⟨s', h2, h3⟩, h4⟩ => ⟨h1, s', h3, h2 D gc v0 w0 _ w h4⟩)
end
def keepD (n : Nat) (sl : List Nat) (st : DSt) : List Nat → Option DSt
  | [] => some []
  | k :: ks => match st.find k with
    | some a => match Nat.blt k n && !a.isOpt && (match a with
      | .ref r _ _ _ _ => memN sl r
      | .eptr r _ _ _ => memN sl r
      | .pref r _ _ => memN sl r
      | _ => true) with
      | true => match keepD n sl st ks with
        | some st' => some ((k, a) :: st')
        | none => none
      | false => none
    | none => none
def wv : DA → DA
  | .ref r p off len v => .ref r p off len (match v with
    | .all => .all
    | _ => .mid)
  | a => a
def pruneD (n : Nat) (sl : List Nat) (st : DSt) : Option DSt := match st.find n with
  | none => match keepD n sl st sl with
    | some st' => some (st'.mapA wv)
    | none => none
  | some _ => none
def retDS (n : Nat) (Z : List Nat) : List Nat → List Bool → DSt → Option DSt
  | [], _, st => some st
  | r :: rs, fz, st => match st.find r, fz.headD false with
    | some (.t (.own _ _ _)), true => match shareDS st r with
      | some st' => retDS n Z rs fz.tail st'
      | none => none
    | some (.t (.tup _)), _ => none
    | some (.t _), _ => retDS n Z rs fz.tail st
    | some (.ref s none _ _ _), true => match shareDS st s with
      | some st' => retDS n Z rs fz.tail st'
      | none => none
    | some (.ref s none _ _ .all), false => match st.find s with
      | some (.t (.own e t l)) => match dstD n Z st r && !Nat.beq r s with
        | true => retDS n Z rs fz.tail (moveDS st s r (.own e t l))
        | false => none
      | _ => none
    | _, _ => none
def cellD (Y : DX) (t : TypeId) : DT → Option DT
  | .box _ cs => match tyT Y t with
    | some w => match w.row && w.fine && flatsD (cs.take w.sz) with
      | true => match gatherD w cs with
        | some x => some (.s w x)
        | none => none
      | false => none
    | none => none
  | _ => none
def resultsD (Y : DX) (cl : List (Nat × TypeId)) (st : DSt) : List Nat → Option (List DT)
  | [] => some []
  | r :: rs => match lookC cl r with
    | some t => match st.find r, resultsD Y cl st rs with
      | some (.t y), some xs => match cellD Y t y with
        | some x => some (x :: xs)
        | none => none
      | _, _ => none
    | none => match st.find r, resultsD Y cl st rs with
      | some (.t (.tup _)), _ => none
      | some (.t x), some xs => some (x :: xs)
      | _, _ => none
def keysOk (n : Nat) : DSt → Bool
  | [] => true
  | (k, _) :: r => Nat.blt k n && keysOk n r
inductive Fr where
  | seq (b : Code)
  | block (id : Nat)
  | loop (c : Code)
  | scope (c : Code)
inductive Tk where
  | code (c : Code) (fs : List Fr)
  | norm (fs : List Fr)
  | exit (id : Nat) (fs : List Fr)
  | goto (l : Nat) (fs : List Fr)
structure FnD where
  n : Nat
  rs : List Nat
  fz : List Bool := []
  labels : List (Nat × List Nat) := []
  shares : List (Nat × List Nat) := []
  cl : List (Nat × TypeId) := []
  Z : List Nat := []
section
variable {ρ : Type} [Pan ρ]
def retD (Y : DX) (F : FnD) (ret : List DT → Option ρ) (st : DSt) : Option ρ := match noOpt (cleanD st) && keysOk F.n (cleanD st) with
  | true => match retDS F.n F.Z F.rs F.fz (cleanD st) with
    | some st' => match resultsD Y F.cl st' (F.rs ++ F.Z) with
      | some xs => ret xs
      | none => none
    | none => none
  | false => none
def regionF (Y : DX) (E : Env) (F : FnD) (id : Nat) (ops : Array Oper) (op : Bool) (st : DSt) (K : DSt → Option ρ) : Option ρ := match look F.shares id with
  | none => regionL Y F.n F.Z E ops op st K
  | some sl => match sharesD sl (cleanD st) with
    | some st' => regionL Y F.n F.Z E ops op st' K
    | none => none
def runD (Y : DX) (E : Env) (F : FnD) (goto : Nat → DSt → Option ρ) (ret : List DT → Option ρ) : Nat → Tk → DSt → Option ρ
  | 0, _, _ => none
  | fuel + 1, .code c fs, st => match c with
    | .skip => runD Y E F goto ret fuel (.norm fs) st
    | .exit id => runD Y E F goto ret fuel (.exit id fs) st
    | .ret => retD Y F ret st
    | .region id ops op => match look F.labels id with
      | some sl => match pruneD F.n sl st with
        | some st' => goto id st'
        | none => none
      | none => regionF Y E F id ops op st fun st' => runD Y E F goto ret fuel (.norm fs) st'
    | .seq a b => runD Y E F goto ret fuel (.code a (.seq b :: fs)) st
    | .block id c => runD Y E F goto ret fuel (.code c (.block id :: fs)) st
    | .loop c => runD Y E F goto ret fuel (.code c (.loop c :: fs)) st
    | .scope c => runD Y E F goto ret fuel (.code c (.scope c :: fs)) st
    | .label _ => runD Y E F goto ret fuel (.norm fs) st
    | .goto l => runD Y E F goto ret fuel (.goto l fs) st
    | .cond x a b => match rdD Y none st x with
      | some (.t (.s .bool t)) => if t = true then runD Y E F goto ret fuel (.code a fs) st else runD Y E F goto ret fuel (.code b fs) st
      | _ => none
    | _ => none
  | fuel + 1, .norm fs, st => match fs with
    | [] => retD Y F ret st
    | .seq b :: fs => runD Y E F goto ret fuel (.code b fs) st
    | .block _ :: fs => runD Y E F goto ret fuel (.norm fs) st
    | .loop c :: fs => runD Y E F goto ret fuel (.code c (.loop c :: fs)) st
    | .scope _ :: fs => runD Y E F goto ret fuel (.norm fs) st
  | fuel + 1, .exit id fs, st => match fs with
    | [] => none
    | .block j :: fs => match Nat.beq id j with
      | true => runD Y E F goto ret fuel (.norm fs) st
      | false => runD Y E F goto ret fuel (.exit id fs) st
    | _ :: fs => runD Y E F goto ret fuel (.exit id fs) st
  | fuel + 1, .goto l fs, st => match fs with
    | [] => none
    | .scope c :: fs => match findLabel c l with
      | some r => runD Y E F goto ret fuel (.code r (.scope c :: fs)) st
      | none => runD Y E F goto ret fuel (.goto l fs) st
    | _ :: fs => runD Y E F goto ret fuel (.goto l fs) st
def subsC : Code → List Fr → List (Nat × List Fr × Array Oper × Bool)
  | .region id ops op, fs => [(id, fs, ops, op)]
  | .seq a b, fs => subsC a (.seq b :: fs) ++ subsC b fs
  | .block id c, fs => subsC c (.block id :: fs)
  | .loop c, fs => subsC c (.loop c :: fs)
  | .scope c, fs => subsC c (.scope c :: fs)
  | .cond _ a b, fs => subsC a fs ++ subsC b fs
  | _, _ => []
def segD (Y : DX) (E : Env) (F : FnD) (body : Code) (fuel : Nat) (id : Nat) (st : DSt) (goto : Nat → DSt → Option ρ) (ret : List DT → Option ρ) : Option ρ := match look (subsC body []) id with
  | some (fs, ops, op) => regionF Y E F id ops op st fun st' => runD Y E F goto ret fuel (.norm fs) st'
  | none => none
end
def entryD : Nat → List DT → DSt
  | _, [] => []
  | k, x :: xs => (k, .t x) :: entryD (k + 1) xs
end Go.Eng

/- Sharing, forgetting, results: that it is so. -/
namespace Go.Eng
open Go.RowKit (Below)
set_option linter.unusedVariables false
set_option linter.unusedSimpArgs false
variable {X : Ctx} {Y : DX} {n : Nat} {Z : List Nat} {st : DSt} {E : Env}
theorem keepD_spec {sl : List Nat} : ∀ {ks : List Nat} {st' : DSt}, keepD n sl st ks = some st' →
    (∀ i, st'.find i = if i ∈ ks then st.find i else none) ∧ (∀ k ∈ ks, k < n ∧ ∃ a, st.find k = some a ∧ a.isOpt = false ∧ ∀ r, a.toA.at = some r → r ∈ sl)
  | [], st', h => by cases h; exact ⟨fun i => by simp [DSt.find], fun k hk => by cases hk⟩
  | k :: ks, st', h => by
    simp only [keepD] at h
    split at h
    · rename_i a ha
      split at h
      · rename_i hb
        split at h
        · rename_i s1 hs
          cases h
          obtain ⟨h1, h2⟩ := keepD_spec hs
          simp only [Bool.and_eq_true, Nat.blt_eq, Bool.not_eq_true'] at hb
          refine ⟨fun i => ?_, fun k' hk' => ?_⟩
          · simp only [DSt.find, h1, List.mem_cons]
            by_cases hi : i = k
            · subst hi; simp [ha]
            · rw [beq_ne hi]; simp [hi]
          · rcases List.mem_cons.1 hk' with e | hk'
            · subst e
              refine ⟨hb.1.1, a, ha, hb.1.2, fun r hr => ?_⟩
              have hb2 := hb.2
              cases a with
              | ref r' q off len v => simp only [DA.toA, A.at, Option.some.injEq] at hr; subst hr; exact memN_spec.1 hb2
              | eptr r' q i j => simp only [DA.toA, A.at, Option.some.injEq] at hr; subst hr; exact memN_spec.1 hb2
              | pref r' q off => simp only [DA.toA, A.at, Option.some.injEq] at hr; subst hr; exact memN_spec.1 hb2
              | opt => cases hb.1.2
              | _ => cases hr
            · exact h2 k' hk'
        · cases h
      · cases h
    · cases h
theorem pruneK_sound (hw : WF st) {sl : List Nat} {st' : DSt} (hn : st.find n = none) (h : keepD n sl st sl = some st') : GhostTo X n Z st.toSt st'.toSt ∧ WF st' ∧ ∀ k a, st'.find k = some a → a.isOpt = false := by
  obtain ⟨h1, h2⟩ := keepD_spec h
  refine ⟨fun D gc v0 w0 tmps w hI => hI.less ?_, ?_, fun k x hx => ?_⟩
  · intro i
    rw [stG_toSt, stG_toSt, h1]
    by_cases hi : i ∈ sl
    · obtain ⟨_, a, ha, _, hat⟩ := h2 i hi
      left
      rw [if_pos hi]
      refine ⟨rfl, fun r hr => ?_⟩
      rw [ha] at hr
      have hrs := hat r hr
      rw [stG_toSt, stG_toSt, h1, if_pos hrs]
    · rw [if_neg hi]
      by_cases hin : i = n
      · subst hin
        left
        rw [hn]
        exact ⟨rfl, fun r hr => by simp only [if_true] at hr; cases hr⟩
      · right
        simp only [if_neg hin, true_and]
        cases st.find i with
        | none => simp only; intro h; cases h
        | some a => exact toA_ne_ghost a
  · intro k x hx
    rw [h1] at hx
    split at hx
    · rename_i hk
      obtain ⟨_, a, ha, hopt, hat⟩ := h2 k hk
      rw [ha] at hx
      simp only [Option.some.injEq] at hx
      subst hx
      have hwf := hw k a ha
      refine slotWF_of hopt ?_
      cases a with
      | ref r' q off len v =>
        rcases (show viewOk st (.ref r' q off len v) from hwf) with h3 | ⟨e2, t2, l2, q1, q2⟩
        · exact .inl h3
        · refine .inr ⟨e2, t2, l2, ?_, q2⟩
          have hm := hat r' rfl
          cases q <;> simp only [rootD, h1, if_pos hm] at q1 ⊢ <;> exact q1
      | opt => cases hopt
      | _ => trivial
    · cases hx
  · rw [h1] at hx
    split at hx
    · rename_i hk
      obtain ⟨_, a, ha, hopt, hat⟩ := h2 k hk
      rw [ha] at hx; cases hx; exact hopt
    · cases hx
theorem wv_toA (a : DA) : (wv a).toA = a.toA := by cases a <;> rfl
theorem wv_toSt : ∀ st : DSt, (st.mapA wv).toSt = st.toSt
  | [] => rfl
  | (k, a) :: r => by
    show (k, (wv a).toA) :: DSt.toSt (DSt.mapA wv r) = (k, a.toA) :: DSt.toSt r
    rw [wv_toA, show DSt.toSt (DSt.mapA wv r) = DSt.toSt r from wv_toSt r]
theorem wv_wf (hw : WF st) (hno : ∀ k a, st.find k = some a → a.isOpt = false) : WF (st.mapA wv) := by
  intro k x hx
  rw [find_dmap] at hx
  cases hq : st.find k with
  | none => rw [hq] at hx; cases hx
  | some a =>
    rw [hq] at hx
    simp only [Option.map_some, Option.some.injEq] at hx
    subst hx
    have hwf := hw k a hq
    have ho := hno k a hq
    cases a with
    | opt => cases ho
    | ref r' q off len v =>
      refine slotWF_of rfl ?_
      rcases (show viewOk st (.ref r' q off len v) from hwf) with h3 | ⟨e2, t2, l2, q1, q2⟩
      · subst h3; exact .inl rfl
      · cases v with
        | all =>
          refine .inr ⟨e2, t2, l2, ?_, q2⟩
          cases q with
          | none =>
            simp only [rootD, find_dmap] at q1 ⊢
            split at q1
            · rename_i y hy; rw [hy]; exact q1
            · cases q1
          | some j =>
            simp only [rootD, find_dmap] at q1 ⊢
            split at q1
            · rename_i e3 cs hy; rw [hy]; exact q1
            · cases q1
        | _ => exact .inl rfl
    | _ => trivial
theorem pruneD_sound (hw : WF st) {sl : List Nat} {st' : DSt} (h : pruneD n sl st = some st') : GhostTo X n Z st.toSt st'.toSt ∧ WF st' := by
  unfold pruneD at h
  split at h
  · rename_i hn
    split at h
    · rename_i stk hkeep
      cases h
      obtain ⟨p1, p2, p3⟩ := pruneK_sound (X := X) (n := n) (Z := Z) hw hn hkeep
      exact ⟨by rw [wv_toSt]; exact p1, wv_wf p2 p3⟩
    · cases h
  · cases h
theorem retDS_sound : ∀ {rs : List Nat} {fz : List Bool} {st st' : DSt}, WF st → noOpt st = true → retDS n Z rs fz st = some st' → GhostTo X n Z st.toSt st'.toSt
  | [], fz, st, st', hw, hno, h => by cases h; exact GhostTo.refl
  | r :: rs, fz, st, st', hw, hno, h => by
    simp only [retDS] at h
    split at h
    · split at h
      · rename_i s1 hs
        obtain ⟨h1, h2, h3⟩ := shareDS_sound (X := X) (n := n) (Z := Z) hw hno hs
        exact h1.trans (retDS_sound h2 h3 h)
      · cases h
    · cases h
    · exact retDS_sound hw hno h
    · split at h
      · rename_i s1 hs
        obtain ⟨h1, h2, h3⟩ := shareDS_sound (X := X) (n := n) (Z := Z) hw hno hs
        exact h1.trans (retDS_sound h2 h3 h)
      · cases h
    · rename_i s off len hr hfz
      split at h
      · rename_i e t l hs
        split at h
        · rename_i hb0
          have hb := hb0
          simp only [Bool.and_eq_true, Bool.not_eq_true'] at hb
          obtain ⟨k1, k2, k3⟩ := dstD_spec hb.1
          have hds : r ≠ s := by rintro rfl; rw [Nat.beq_refl] at hb; cases hb.2
          have hview := viewOk_vw (show viewOk st (.ref s none off len .all) from hw r _ hr) (e := e) (t := t) (l := l) (by simp only [rootD, hs])
          obtain ⟨rfl, rfl⟩ := hview
          have hfind : ∀ k, (moveDS st s r (.own e t l)).find k = if k = r then some (.t (.own e t l)) else if k = s then some (aliasD r (.own e t l)) else (st.find k).map (redirD s r) := fun k => by
            unfold moveDS; rw [find_dput, find_dput, find_dmap]
          have hno' : noOpt (moveDS st s r (.own e t l)) = true := by
            unfold moveDS
            refine noOpt_put rfl r (noOpt_put rfl s (noOpt_map (fun a ha => ?_) hno))
            cases a <;> first | rfl | cases ha
          refine GhostTo.trans ?_ (retDS_sound (st := moveDS st s r (.own e t l)) ?_ hno' h)
          · intro D gc v0 w0 tmps w hI
            have := hI.swap (d := r) (s := s) (e := e) (sz := t.sz) (es := l.map t.enc) k1.1 (by rw [stG_toSt, hs]; rfl) (by rw [stG_toSt, hr]; simp only [DA.toA, List.length_map])
            rw [moveDS_toSt, stG_moveSt]
            exact this
          · obtain ⟨st2, _, hw2, hk⟩ := moveD_sound (X := X) (n := n) (Z := Z) (K := fun s' => some s') hw (o := { dst := some r, op := .assign (.tmp s), type := 0, pos := default, after := #[], guard := none }) (s := s) (x := .own e t l) (.inl rfl) hs (by
              show tst (dstD n Z st r && !Nat.beq r s) (some (moveDS st s r (.own e t l))) = some (moveDS st s r (.own e t l))
              rw [hb0]; rfl)
            cases hk; exact hw2
        · cases h
      · cases h
    · cases h
theorem toT_ne_tup {x : DT} (h : ∀ cs, x ≠ .tup cs) (cs : List T) : x.toT ≠ .tup cs := by
  cases x with
  | s t y => intro e; have := enc_flat t y; simp only [DT.toT] at e; rw [e] at this; cases this
  | tup cs => exact absurd rfl (h cs)
  | _ => intro e; cases e
theorem flatsD_take : ∀ {cs : List DT}, flatsD cs = true → (cs.map DT.toT).all T.flat = true
  | [], _ => rfl
  | c :: cs, h => by
    have h2 : flatD c = true ∧ flatsD cs = true := by
      simp only [flatsD] at h
      cases hc : flatD c with
      | true => rw [hc] at h; exact ⟨rfl, h⟩
      | false => rw [hc] at h; cases h
    have hc : c.toT.flat = true := by
      cases c with
      | s t y => exact enc_flat t y
      | u => rfl
      | _ => cases h2.1
    simp only [List.map_cons, List.all_cons, hc, flatsD_take h2.2, Bool.and_self]
theorem resultsD_spec (hY : DXOk Y X) {cl : List (Nat × TypeId)} : ∀ {rs : List Nat} {xs : List DT}, resultsD Y cl st rs = some xs → slotsOk X.P cl n st.toSt rs (xs.map DT.toT) ∧ ∀ t ∈ xs.map DT.toT, ∀ cs, t ≠ .tup cs
  | [], xs, h => by cases h; exact ⟨trivial, by simp⟩
  | r :: rs, xs, h => by
    simp only [resultsD] at h
    split at h
    · rename_i ty hl
      split at h
      · rename_i y xs' hx hxs
        split at h
        · rename_i x hcx
          cases h
          obtain ⟨h1, h2⟩ := resultsD_spec hY hxs
          unfold cellD at hcx
          split at hcx
          · rename_i e cs
            split at hcx
            · rename_i w hw
              split at hcx
              · rename_i hb
                simp only [Bool.and_eq_true] at hb
                obtain ⟨⟨b1, b2⟩, b3⟩ := hb
                split at hcx
                · rename_i z hz
                  cases hcx
                  obtain ⟨g1, g2⟩ := gatherD_spec w cs z hz
                  have henc : (DT.s w z).toT = .ag (w.cells z) := enc_row w z b1
                  refine ⟨⟨?_, h1⟩, fun t ht => ?_⟩
                  · unfold valOk
                    simp only [hl]
                    refine ⟨e, cs.map DT.toT, w.sz, ?_, ?_, by rw [List.length_map]; exact g2, ?_, ?_⟩
                    · rw [stG_toSt, hx]; simp only [DA.toA, DT.toT, all_eq]
                    · have := tyT_row hY hw b2
                      rw [b1] at this; exact this
                    · rw [← List.map_take]; exact flatsD_take b3
                    · rw [henc, g1]
                  · rw [List.map_cons, List.mem_cons] at ht
                    rcases ht with rfl | ht
                    · rw [henc]; intro cs e; cases e
                    · exact h2 t ht
                · cases hcx
              · cases hcx
            · cases hcx
          · cases hcx
        · cases h
      · cases h
    · rename_i hl
      split at h
      · cases h
      · rename_i x xs' hnt hx hxs
        cases h
        obtain ⟨h1, h2⟩ := resultsD_spec hY hxs
        refine ⟨⟨by unfold valOk; simp only [hl]; rw [stG_toSt, hx]; rfl, h1⟩, fun t ht => ?_⟩
        rw [List.map_cons, List.mem_cons] at ht
        rcases ht with rfl | ht
        · exact toT_ne_tup (fun cs e => by subst e; exact hnt cs rfl)
        · exact h2 t ht
      · cases h
theorem keysOk_spec : ∀ {st : DSt}, keysOk n st = true → noGhost n st.toSt
  | [], _ => trivial
  | (k, a) :: r, h => by
    simp only [keysOk, Bool.and_eq_true, Nat.blt_eq] at h
    have := keysOk_spec h.2
    simp only [DSt.toSt]
    have hne := toA_ne_ghost a
    cases hq : a.toA with
    | ghost => exact absurd hq hne
    | _ => exact ⟨by omega, this⟩
end Go.Eng

/- From the machine's answers to the call. -/
namespace Go.Eng
open Go.RowKit (Below)
set_option linter.unusedVariables false
set_option linter.unusedSimpArgs false
set_option linter.unusedSectionVars false
variable {X : Ctx} {Y : DX} {E : Env} {F : FnD} {ρ : Type} [Pan ρ] {r : ρ}
def Qf (X : Ctx) (n : Nat) (Z : List Nat) (Q : Exit → St → Prop) : List Fr → Exit → St → Prop
  | [] => Q
  | .seq b :: fs => thenC (fun s => AW X n Z b s (Qf X n Z Q fs)) (Qf X n Z Q fs)
  | .block id :: fs => blockC id (Qf X n Z Q fs)
  | .loop c :: fs => loopQ X n Z c (Qf X n Z Q fs)
  | .scope c :: fs => scopeQ X n Z c (Qf X n Z Q fs)
theorem Qf_ret {n : Nat} {Z : List Nat} {Q : Exit → St → Prop} {s : St} (h : Q .ret s) : ∀ fs, Qf X n Z Q fs .ret s
  | [] => h
  | .seq b :: fs => Qf_ret h fs
  | .block id :: fs => Qf_ret h fs
  | .loop c :: fs => Qf_ret h fs
  | .scope c :: fs => Qf_ret h fs
theorem Qf_panic {n : Nat} {Z : List Nat} {Q : Exit → St → Prop} {s : St} {ch : List PanicEntry} (h : Q (.panic ch) s) : ∀ fs, Qf X n Z Q fs (.panic ch) s
  | [] => h
  | .seq b :: fs => Qf_panic h fs
  | .block id :: fs => Qf_panic h fs
  | .loop c :: fs => Qf_panic h fs
  | .scope c :: fs => Qf_panic h fs
def Claim (X : Ctx) (n : Nat) (Z : List Nat) (Q : Exit → St → Prop) : Tk → DSt → Prop
  | .code c fs, st => AW X n Z c st.toSt (Qf X n Z Q fs)
  | .norm fs, st => Qf X n Z Q fs .normal st.toSt
  | .exit id fs, st => Qf X n Z Q fs (.exit id) st.toSt
  | .goto l fs, st => Qf X n Z Q fs (.goto l) st.toSt
abbrev Pos := List (Nat × List Fr × Array Oper × Bool)
def CovC (S : Pos) (c : Code) (fs : List Fr) : Prop := ∀ p ∈ subsC c fs, p ∈ S
def CovF (S : Pos) : List Fr → Prop
  | [] => True
  | .seq b :: fs => CovC S b fs ∧ CovF S fs
  | .block _ :: fs => CovF S fs
  | .loop c :: fs => CovC S c (.loop c :: fs) ∧ CovF S fs
  | .scope c :: fs => CovC S c (.scope c :: fs) ∧ CovF S fs
def CovT (S : Pos) : Tk → Prop
  | .code c fs => CovC S c fs ∧ CovF S fs
  | .norm fs => CovF S fs
  | .exit _ fs => CovF S fs
  | .goto _ fs => CovF S fs
theorem findLabel_subs : ∀ {c : Code} {l : Nat} {r : Code} (fs : List Fr), findLabel c l = some r → ∀ p ∈ subsC r fs, p ∈ subsC c fs := by
  intro c
  induction c with
  | seq a b iha ihb =>
    intro l r fs h p hp
    simp only [findLabel] at h
    split at h
    · rename_i r' hr
      cases h
      simp only [subsC, List.mem_append] at hp ⊢
      rcases hp with hp | hp
      · exact .inl (iha _ hr p hp)
      · exact .inr hp
    · simp only [subsC, List.mem_append]
      exact .inr (ihb fs h p hp)
  | label l' =>
    intro l r fs h p hp
    simp only [findLabel] at h
    split at h
    · cases h; cases hp
    · cases h
  | _ => intro l r fs h; cases h
def EndQ (X : Ctx) (F : FnD) (ok : List DT → Prop) (ex : Exit) (s : St) : Prop := (ex = .normal ∨ ex = .ret) ∧ ∃ (s' : DSt) (xs : List DT), GhostTo X F.n F.Z s s'.toSt ∧ noGhost F.n s'.toSt ∧ slotsOk X.P F.cl F.n s'.toSt (F.rs ++ F.Z) (xs.map DT.toT) ∧ (∀ t ∈ xs.map DT.toT, ∀ cs, t ≠ .tup cs) ∧ ok xs
theorem keys_put {n : Nat} (a : DA) (k : Nat) (hk : k < n) : ∀ {st : DSt}, keysOk n st = true → keysOk n (st.put k a) = true
  | [], _ => by simp [DSt.put, keysOk, hk]
  | (i, x) :: r, h => by
    simp only [keysOk, Bool.and_eq_true] at h
    simp only [DSt.put]
    cases Nat.beq k i <;> simp only [cond_true, cond_false, keysOk, Bool.and_eq_true]
    · exact ⟨h.1, keys_put a k hk h.2⟩
    · exact h
theorem keys_map {n : Nat} (f : DA → DA) : ∀ {st : DSt}, keysOk n st = true → keysOk n (st.mapA f) = true
  | [], _ => rfl
  | (i, x) :: r, h => by
    simp only [keysOk, Bool.and_eq_true] at h
    simp only [DSt.mapA, keysOk, Bool.and_eq_true]
    exact ⟨h.1, keys_map f h.2⟩
theorem keys_find {n : Nat} : ∀ {st : DSt}, keysOk n st = true → ∀ {k : Nat} {a : DA}, st.find k = some a → k < n
  | [], _, _, _, h => by cases h
  | (i, x) :: r, h, k, a, hf => by
    simp only [keysOk, Bool.and_eq_true, Nat.blt_eq] at h
    simp only [DSt.find] at hf
    by_cases hk : k = i
    · subst hk; exact h.1
    · rw [beq_ne hk] at hf; exact keys_find h.2 hf
theorem keys_share {n : Nat} {st st' : DSt} {r : Nat} (h : keysOk n st = true) (hs : shareDS st r = some st') : keysOk n st' = true := by
  unfold shareDS at hs
  split at hs
  · rename_i e t l hr
    cases hs
    exact keys_put _ _ (keys_find h hr) (keys_map _ h)
  · cases hs
theorem keys_ret {n : Nat} {Z : List Nat} : ∀ {rs : List Nat} {fz : List Bool} {st st' : DSt}, keysOk n st = true → retDS n Z rs fz st = some st' → keysOk n st' = true
  | [], fz, st, st', hk, h => by cases h; exact hk
  | r :: rs, fz, st, st', hk, h => by
    simp only [retDS] at h
    split at h
    · split at h
      · rename_i s1 hs; exact keys_ret (keys_share hk hs) h
      · cases h
    · cases h
    · exact keys_ret hk h
    · split at h
      · rename_i s1 hs; exact keys_ret (keys_share hk hs) h
      · cases h
    · rename_i s off len hr hfz
      split at h
      · rename_i e t l hs
        split at h
        · refine keys_ret (st := moveDS st s r (.own e t l)) ?_ h
          unfold moveDS
          exact keys_put _ _ (keys_find hk hr) (keys_put _ _ (keys_find hk hs) (keys_map _ hk))
        · cases h
      · cases h
    · cases h
theorem retD_sound (hY : DXOk Y X) {st : DSt} (hw : WF st) {ret : List DT → Option ρ} (h : retD Y F ret st = some r) {ex : Exit} (hex : ex = .normal ∨ ex = .ret) : EndQ X F (fun xs => ret xs = some r) ex st.toSt := by
  unfold retD at h
  split at h
  · rename_i hb
    simp only [Bool.and_eq_true] at hb
    split at h
    · rename_i st' hs
      split at h
      · rename_i xs hx
        obtain ⟨c1, c2⟩ := clean_sound (X := X) (n := F.n) (Z := F.Z) hw
        exact ⟨hex, st', xs, c1.trans (retDS_sound c2 hb.1 hs), keysOk_spec (keys_ret hb.2 hs), (resultsD_spec (n := F.n) hY hx).1, (resultsD_spec (n := F.n) hY hx).2, h⟩
      · cases h
    · cases h
  · cases h
theorem regionF_sound (hY : DXOk Y X) (hE : EnvOk X E) (hm : X.P.follows .mixedOrders = true) {st : DSt} (hw : WF st) {id : Nat} {ops : Array Oper} {op : Bool} {K : DSt → Option ρ} (h : regionF Y E F id ops op st K = some r) {Q : Exit → St → Prop}
    (hP : ∀ pv (st' : DSt), (Pan.pan pv : Option ρ) = some r → Q (.panic [{ v := pv, recovered := false }]) st'.toSt) (hQ : ∀ st', WF st' → K st' = some r → Q .normal st'.toSt) : AW X F.n F.Z (.region id ops op) st.toSt Q := by
  unfold regionF at h
  split at h
  · exact regionL_sound hY hE hm hw h hP hQ
  · split at h
    · rename_i st' hs
      obtain ⟨c1, c2⟩ := clean_sound (X := X) (n := F.n) (Z := F.Z) hw
      obtain ⟨h1, h2⟩ := sharesD_sound (X := X) (n := F.n) (Z := F.Z) c2 hs
      exact AW.from (c1.trans h1) (regionL_sound hY hE hm h2 h hP hQ)
    · cases h
theorem runD_sound (hY : DXOk Y X) (hE : EnvOk X E) (hm : X.P.follows .mixedOrders = true) {S : Pos} {goto : Nat → DSt → Option ρ} {ret : List DT → Option ρ} {Q : Exit → St → Prop}
    (hQ : ∀ ex s, EndQ X F (fun xs => ret xs = some r) ex s → Q ex s)
    (hP : ∀ pv (st' : DSt), (Pan.pan pv : Option ρ) = some r → Q (.panic [{ v := pv, recovered := false }]) st'.toSt)
    (hG : ∀ id st' fs ops op, WF st' → goto id st' = some r → (id, fs, ops, op) ∈ S → AW X F.n F.Z (.region id ops op) st'.toSt (Qf X F.n F.Z Q fs)) :
    ∀ (fuel : Nat) (tk : Tk) (st : DSt), WF st → CovT S tk → runD Y E F goto ret fuel tk st = some r → Claim X F.n F.Z Q tk st
  | 0, _, _, _, _, h => by cases h
  | fuel + 1, .code c fs, st, hw, hcov, h => by
    have ih := runD_sound hY hE hm hQ hP hG fuel
    obtain ⟨hc, hf⟩ := hcov
    cases c with
    | skip => exact AW_skip (ih (.norm fs) st hw hf h)
    | exit id => exact AW_exit (ih (.exit id fs) st hw hf h)
    | ret => exact AW_ret (Qf_ret (hQ _ _ (retD_sound hY hw h (.inr rfl))) fs)
    | region id ops op =>
      simp only [runD] at h
      split at h
      · split at h
        · rename_i st' hp
          obtain ⟨h1, h2⟩ := pruneD_sound (X := X) (Z := F.Z) hw hp
          exact AW.from h1 (hG id st' fs ops op h2 h (hc _ (by simp [subsC])))
        · cases h
      · exact regionF_sound hY hE hm hw h (fun pv st' hp => Qf_panic (hP pv st' hp) fs) (fun st' hw' hk => ih (.norm fs) st' hw' hf hk)
    | seq a b =>
      refine AW_seq (ih (.code a (.seq b :: fs)) st hw ⟨fun p hp => hc p (List.mem_append_left _ hp), fun p hp => hc p (List.mem_append_right _ hp), hf⟩ h)
    | block id c => exact AW_block (ih (.code c (.block id :: fs)) st hw ⟨hc, hf⟩ h)
    | loop c => exact AW_loopL (AWL_of (ih (.code c (.loop c :: fs)) st hw ⟨hc, hc, hf⟩ h))
    | scope c => exact AW_scopeS (AWS_of (ih (.code c (.scope c :: fs)) st hw ⟨hc, hc, hf⟩ h))
    | label l => exact AW_label (ih (.norm fs) st hw hf h)
    | goto l => exact AW_goto (ih (.goto l fs) st hw hf h)
    | cond x a b =>
      simp only [runD] at h
      split at h
      · rename_i t hx
        obtain ⟨x1, x2⟩ := rdT_spec (n := F.n) (X := X) hY hw (γ := none) trivial hx
        refine AW_cond (x2 trivial) x1 (fun ht => ?_) (fun ht => ?_)
        · rw [if_pos ht] at h
          exact ih (.code a fs) st hw ⟨fun p hp => hc p (List.mem_append_left _ hp), hf⟩ h
        · rw [if_neg (by rw [ht]; simp)] at h
          exact ih (.code b fs) st hw ⟨fun p hp => hc p (List.mem_append_right _ hp), hf⟩ h
      · cases h
    | _ => cases h
  | fuel + 1, .norm fs, st, hw, hcov, h => by
    have ih := runD_sound hY hE hm hQ hP hG fuel
    cases fs with
    | nil => exact hQ _ _ (retD_sound hY hw h (.inl rfl))
    | cons f fs =>
      cases f with
      | seq b => exact ih (.code b fs) st hw ⟨hcov.1, hcov.2⟩ h
      | block id => exact ih (.norm fs) st hw hcov h
      | loop c => exact AWL_of (ih (.code c (.loop c :: fs)) st hw ⟨hcov.1, hcov⟩ h)
      | scope c => exact ih (.norm fs) st hw hcov.2 h
  | fuel + 1, .exit id fs, st, hw, hcov, h => by
    have ih := runD_sound hY hE hm hQ hP hG fuel
    cases fs with
    | nil => cases h
    | cons f fs =>
      cases f with
      | seq b => exact ih (.exit id fs) st hw hcov.2 h
      | block j =>
        simp only [runD] at h
        simp only [Claim, Qf, blockC]
        split at h
        · rename_i hb
          rw [if_pos (Nat.eq_of_beq_eq_true hb)]
          exact ih (.norm fs) st hw hcov h
        · rename_i hb
          rw [if_neg (by rintro rfl; rw [Nat.beq_refl] at hb; cases hb)]
          exact ih (.exit id fs) st hw hcov h
      | loop c => exact ih (.exit id fs) st hw hcov.2 h
      | scope c => exact ih (.exit id fs) st hw hcov.2 h
  | fuel + 1, .goto l fs, st, hw, hcov, h => by
    have ih := runD_sound hY hE hm hQ hP hG fuel
    cases fs with
    | nil => cases h
    | cons f fs =>
      cases f with
      | seq b => exact ih (.goto l fs) st hw hcov.2 h
      | block j => exact ih (.goto l fs) st hw hcov h
      | loop c => exact ih (.goto l fs) st hw hcov.2 h
      | scope c =>
        simp only [runD] at h
        simp only [Claim, Qf, scopeQ]
        cases hf : findLabel c l with
        | some r => rw [hf] at h; exact AWS_of (ih (.code r (.scope c :: fs)) st hw ⟨fun p hp => hcov.1 p (findLabel_subs _ hf p hp), hcov⟩ h)
        | none => rw [hf] at h; exact ih (.goto l fs) st hw hcov.2 h
def nodupN : List Nat → Bool
  | [] => true
  | k :: r => !memN r k && nodupN r
theorem look_of : ∀ {S : Pos} {id : Nat} {v : List Fr × Array Oper × Bool}, nodupN (S.map (·.1)) = true → (id, v) ∈ S → look S id = some v
  | [], _, _, _, h => by cases h
  | (k, w) :: r, id, v, hn, h => by
    simp only [List.map_cons, nodupN, Bool.and_eq_true, Bool.not_eq_true'] at hn
    simp only [look]
    rcases List.mem_cons.1 h with e | h2
    · cases e; simp
    · have hne : id ≠ k := by
        rintro rfl
        have : memN (r.map (·.1)) id = true := memN_spec.2 (List.mem_map.2 ⟨(id, v), h2, rfl⟩)
        rw [this] at hn; cases hn.1
      rw [beq_ne hne]; exact look_of hn.2 h2
theorem segD_sound (hY : DXOk Y X) (hE : EnvOk X E) (hm : X.P.follows .mixedOrders = true) {body : Code} {fuel : Nat} (hnd : nodupN ((subsC body []).map (·.1)) = true) {goto : Nat → DSt → Option ρ} {ret : List DT → Option ρ} {Q : Exit → St → Prop}
    (hcov : ∀ id fs ops op, (id, fs, ops, op) ∈ subsC body [] → CovF (subsC body []) fs)
    (hQ : ∀ ex s, EndQ X F (fun xs => ret xs = some r) ex s → Q ex s)
    (hP : ∀ pv (st' : DSt), (Pan.pan pv : Option ρ) = some r → Q (.panic [{ v := pv, recovered := false }]) st'.toSt)
    (hG : ∀ id st' fs ops op, WF st' → goto id st' = some r → (id, fs, ops, op) ∈ subsC body [] → AW X F.n F.Z (.region id ops op) st'.toSt (Qf X F.n F.Z Q fs)) {id : Nat} {st : DSt} (hw : WF st)
    (h : segD Y E F body fuel id st goto ret = some r) {fs : List Fr} {ops : Array Oper} {op : Bool} (hp : (id, fs, ops, op) ∈ subsC body []) : AW X F.n F.Z (.region id ops op) st.toSt (Qf X F.n F.Z Q fs) := by
  unfold segD at h
  rw [look_of hnd hp] at h
  exact regionF_sound hY hE hm hw h (fun pv st' hq => Qf_panic (hP pv st' hq) fs) (fun st' hw' hk => runD_sound hY hE hm hQ hP hG fuel (.norm fs) st' hw' (hcov _ _ _ _ hp) hk)
theorem covF_of (S : Pos) : ∀ (c : Code) (fs : List Fr), CovC S c fs → CovF S fs → ∀ id gs ops op, (id, gs, ops, op) ∈ subsC c fs → CovF S gs := by
  intro c
  induction c with
  | region id ops op =>
    intro fs hc hf id' gs ops' op' h
    simp only [subsC, List.mem_singleton, Prod.mk.injEq] at h
    obtain ⟨_, rfl, _⟩ := h; exact hf
  | seq a b iha ihb =>
    intro fs hc hf id gs ops op h
    simp only [subsC, List.mem_append] at h
    have ha : CovC S a (.seq b :: fs) := fun p hp => hc p (List.mem_append_left _ hp)
    have hb : CovC S b fs := fun p hp => hc p (List.mem_append_right _ hp)
    rcases h with h | h
    · exact iha _ ha ⟨hb, hf⟩ id gs ops op h
    · exact ihb _ hb hf id gs ops op h
  | block id c ih => intro fs hc hf id gs ops op h; exact ih (.block _ :: fs) hc hf id gs ops op h
  | loop c ih => intro fs hc hf id gs ops op h; exact ih (.loop c :: fs) hc ⟨hc, hf⟩ id gs ops op h
  | scope c ih => intro fs hc hf id gs ops op h; exact ih (.scope c :: fs) hc ⟨hc, hf⟩ id gs ops op h
  | cond x a b iha ihb =>
    intro fs hc hf id gs ops op h
    simp only [subsC, List.mem_append] at h
    rcases h with h | h
    · exact iha _ (fun p hp => hc p (List.mem_append_left _ hp)) hf id gs ops op h
    · exact ihb _ (fun p hp => hc p (List.mem_append_right _ hp)) hf id gs ops op h
  | _ => intro fs hc hf id gs ops op h; cases h
def resT : List T → T
  | [x] => x
  | xs => .tup xs
def outU (n : Nat) : List T := List.replicate n .u
theorem entryD_toSt : ∀ (k : Nat) (xs : List DT), (entryD k xs).toSt = entry k (xs.map DT.toT)
  | _, [] => rfl
  | k, x :: xs => by simp only [entryD, DSt.toSt, List.map_cons, entry, entryD_toSt (k + 1) xs]; rfl
theorem entryD_wf : ∀ (k : Nat) (xs : List DT), WF (entryD k xs)
  | _, [] => fun i a h => by cases h
  | k, x :: xs => by
    intro i a h
    have key : ∀ (k : Nat) (xs : List DT) (i : Nat) (a : DA), (entryD k xs).find i = some a → ∃ x, a = .t x := by
      intro k xs
      induction xs generalizing k with
      | nil => intro i a h; cases h
      | cons x xs ih =>
        intro i a h
        simp only [entryD, DSt.find] at h
        cases hb : Nat.beq i k with
        | true => rw [hb] at h; cases h; exact ⟨x, rfl⟩
        | false => rw [hb] at h; exact ih _ i a h
    obtain ⟨y, rfl⟩ := key _ _ _ _ h
    trivial
theorem APure_of_AW (hZ : F.Z = [] := by rfl) {f : FuncId} {fn : Func} {body : Code} (hf : X.P.funcs[f]? = some fn) (hb : fn.body = some body) (hn : fn.ntmps = F.n) (hrs : fn.results = (F.rs.map (resVar F.cl)).toArray) (hndr : F.rs.Nodup)
    {args : List DT} (hlen : args.length ≤ F.n) {xs0 : List DT} (hbody : AW X F.n F.Z body (entry 0 (args.map DT.toT)) (EndQ X F (fun xs => xs = xs0))) : APure X f (args.map DT.toT) (resT (xs0.map DT.toT)) := by
  rw [hZ] at hbody
  refine ACall_of_body (n := F.n) (Z := []) (rs := F.rs) (cl := F.cl) hf hb hn hrs (by rw [List.length_map]; exact hlen) (by simp) hndr (by simp) (by simp) (AW.to (hbody.mono ?_))
  rintro ex s ⟨hex, s', xs, h1, h2, h3, h5, h4⟩
  rw [hZ] at h1 h3
  rw [List.append_nil] at h3
  refine ⟨s'.toSt, h1, ?_⟩
  subst h4
  have houts : ∀ (m i : Nat), outsOk F.n s'.toSt [] i (List.replicate m .u) := by
    intro m
    induction m with
    | zero => intro i; trivial
    | succ m ih => intro i; exact ⟨by simp, ih (i + 1)⟩
  have hnt : ∀ (rs : List Nat) (ts : List T), slotsOk X.P F.cl F.n s'.toSt rs ts → (∀ t ∈ ts, ∀ cs, t ≠ .tup cs) → ∀ K : St → Prop, K s'.toSt → retGo F.n rs s'.toSt K := by
    intro rs
    induction rs with
    | nil => intro ts _ _ K hK; exact hK
    | cons q qs ih =>
      intro ts h ht K hK
      cases ts with
      | nil => exact h.elim
      | cons t ts =>
        obtain ⟨e1, e2⟩ := h
        have hrest := ih ts e2 (fun t ht' => ht t (by simp [ht'])) K hK
        unfold valOk at e1
        split at e1
        · simp only [retGo, e1]
          cases t with
          | tup cs => exact absurd rfl (ht _ (by simp) cs)
          | _ => exact hrest
        · obtain ⟨e, cs, k, e3, _⟩ := e1
          simp only [retGo, e3]
          exact hrest
  have hends : ∀ e : Exit, e = .normal ∨ e = .ret → retGo F.n F.rs s'.toSt (fun s => noGhost F.n s ∧ resOk X.P F.cl F.n s F.rs (resT ((xs).map DT.toT)) ∧ outsOk F.n s [] 0 (List.replicate (args.map DT.toT).length .u)) := by
    intro e he
    refine hnt _ _ h3 h5 _ ⟨h2, ?_, houts _ _⟩
    unfold resOk
    cases hrs' : F.rs with
    | nil =>
      rw [hrs'] at h3
      cases hx : (xs).map DT.toT with
      | nil => trivial
      | cons => rw [hx] at h3; exact h3.elim
    | cons q qs =>
      rw [hrs'] at h3
      cases hx : (xs).map DT.toT with
      | nil => rw [hx] at h3; exact h3.elim
      | cons x xs =>
        rw [hx] at h3
        cases qs with
        | nil =>
          cases xs with
          | nil => exact h3.1
          | cons => exact h3.2.elim
        | cons q2 qs =>
          cases xs with
          | nil => exact h3.2.elim
          | cons x2 xs => exact h3
  rcases hex with rfl | rfl
  · exact hends _ (.inl rfl)
  · exact hends _ (.inr rfl)
theorem AW_of_machine (hY : DXOk Y X) (hE : EnvOk X E) (hm : X.P.follows .mixedOrders = true) {body : Code}
    {args : List DT} (hnd : nodupN ((subsC body []).map (·.1)) = true) {fuel : Nat} {L R : Type} (lab : L → Nat × DSt) (step : L → Option (L ⊕ R)) (encR : R → List DT) (hwf : ∀ l, WF (lab l).2)
    (hseg : ∀ (l : L) (goto : Nat → DSt → Option Unit) (ret : List DT → Option Unit), segD Y E F body fuel (lab l).1 (lab l).2 goto ret = (step l).bind (Sum.elim (fun l' => goto (lab l').1 (lab l').2) (fun r => ret (encR r))))
    {ent : Option (L ⊕ R)} (hent : ∀ (goto : Nat → DSt → Option Unit) (ret : List DT → Option Unit), runD Y E F goto ret fuel (.code body []) (entryD 0 args) = ent.bind (Sum.elim (fun l' => goto (lab l').1 (lab l').2) (fun r => ret (encR r))))
    {r : R} (hr : runL step ent = some r) : AW X F.n F.Z body (entry 0 (args.map DT.toT)) (EndQ X F (fun xs => xs = encR r)) := by
  classical
  let S := subsC body []
  let ret : List DT → Option Unit := fun xs => if xs = encR r then some () else none
  let Q : Exit → St → Prop := EndQ X F (fun xs => ret xs = some ())
  have hcovS : CovC S body [] := fun p hp => hp
  have hcov : ∀ id fs ops op, (id, fs, ops, op) ∈ subsC body [] → CovF (subsC body []) fs := covF_of S body [] hcovS trivial
  have hlab : ∀ (k : Nat) (l : L), iterN step k l = some r → ∀ fs ops op, ((lab l).1, fs, ops, op) ∈ subsC body [] → AW X F.n F.Z (.region (lab l).1 ops op) (lab l).2.toSt (Qf X F.n F.Z Q fs) := by
    intro k
    induction k with
    | zero => intro l h; cases h
    | succ k ih =>
      intro l h fs ops op hp
      let goto : Nat → DSt → Option Unit := fun id st => if ∃ l', lab l' = (id, st) ∧ iterN step k l' = some r then some () else none
      refine segD_sound (r := ()) (goto := goto) (ret := ret) (fuel := fuel) hY hE hm hnd hcov (fun ex s h => h) (fun pv st' hp => by cases hp) (fun id st' fs ops op hw hg hp => ?_) (hwf l) ?_ hp
      · by_cases hx : ∃ l', lab l' = (id, st') ∧ iterN step k l' = some r
        · obtain ⟨l', e, hk⟩ := hx
          have := ih l' hk fs ops op
          rw [e] at this
          exact this hp
        · simp only [goto, if_neg hx] at hg; cases hg
      · rw [hseg]
        simp only [iterN] at h
        split at h
        · rename_i l' hl'
          rw [hl']
          simp only [Option.bind_some, Sum.elim_inl, goto]
          rw [if_pos ⟨l', rfl, h⟩]
        · rename_i r' hr'
          rw [hr']
          cases h
          simp only [Option.bind_some, Sum.elim_inr, ret, if_true]
        · cases h
  have hbody : AW X F.n F.Z body (entry 0 (args.map DT.toT)) Q := by
    rw [← entryD_toSt]
    obtain ⟨x, hx, hcase⟩ := runL_some hr
    let goto : Nat → DSt → Option Unit := fun id st => if ∃ l', lab l' = (id, st) ∧ iter step l' = some r then some () else none
    refine runD_sound (r := ()) (goto := goto) (ret := ret) (S := S) hY hE hm (fun ex s h => h) (fun pv st' hp => by cases hp) (fun id st' fs ops op hw hg hp => ?_) fuel (.code body []) _ (entryD_wf 0 args) ⟨hcovS, trivial⟩ ?_
    · by_cases hx : ∃ l', lab l' = (id, st') ∧ iter step l' = some r
      · obtain ⟨l', e, hk⟩ := hx
        obtain ⟨k, hk⟩ := iter_some hk
        have := hlab k l' hk fs ops op
        rw [e] at this
        exact this hp
      · simp only [goto, if_neg hx] at hg; cases hg
    · rw [hent, hx]
      rcases hcase with ⟨l, rfl, hl⟩ | rfl
      · simp only [Option.bind_some, Sum.elim_inl, goto]
        rw [if_pos ⟨l, rfl, hl⟩]
      · simp only [Option.bind_some, Sum.elim_inr, ret, if_true]
  refine hbody.mono ?_
  rintro ex s ⟨hex, s', xs, h1, h2, h3, h5, h4⟩
  refine ⟨hex, s', xs, h1, h2, h3, h5, ?_⟩
  by_cases e : xs = encR r
  · exact e
  · simp only [ret, if_neg e] at h4; cases h4
theorem AWP_of_machine (hY : DXOk Y X) (hE : EnvOk X E) (hm : X.P.follows .mixedOrders = true) {body : Code}
    {args : List DT} (hnd : nodupN ((subsC body []).map (·.1)) = true) {fuel : Nat} {L R : Type} (lab : L → Nat × DSt) (step : L → Option (L ⊕ R)) (encR : R → List DT) (pb : R → Bool) (pv : R → Value) (hwf : ∀ l, WF (lab l).2)
    (hseg : ∀ (pn : Pan Unit) (l : L) (goto : Nat → DSt → Option Unit) (ret : List DT → Option Unit), segD Y E F body fuel (lab l).1 (lab l).2 goto ret = (step l).bind (Sum.elim (fun l' => goto (lab l').1 (lab l').2) (fun r => if pb r = true then @Pan.pan Unit pn (pv r) else ret (encR r))))
    {ent : Option (L ⊕ R)} (hent : ∀ (pn : Pan Unit) (goto : Nat → DSt → Option Unit) (ret : List DT → Option Unit), runD Y E F goto ret fuel (.code body []) (entryD 0 args) = ent.bind (Sum.elim (fun l' => goto (lab l').1 (lab l').2) (fun r => if pb r = true then @Pan.pan Unit pn (pv r) else ret (encR r))))
    {r : R} (hr : runL step ent = some r) : AW X F.n F.Z body (entry 0 (args.map DT.toT)) (fun ex s => (pb r = false ∧ EndQ X F (fun xs => xs = encR r) ex s) ∨ (pb r = true ∧ ex = .panic [{ v := pv r, recovered := false }])) := by
  classical
  let S := subsC body []
  let ret : List DT → Option Unit := fun xs => if pb r = false ∧ xs = encR r then some () else none
  let pn : Pan Unit := ⟨fun v => if pb r = true ∧ v = pv r then some () else none⟩
  have hfin : (if pb r = true then @Pan.pan Unit pn (pv r) else ret (encR r)) = some () := by
    cases hb : pb r with
    | true => rw [if_pos rfl]; show (if pb r = true ∧ pv r = pv r then some () else none) = some (); rw [if_pos ⟨hb, rfl⟩]
    | false => rw [if_neg (by simp)]; show (if pb r = false ∧ encR r = encR r then some () else none) = some (); rw [if_pos ⟨hb, rfl⟩]
  let Q : Exit → St → Prop := fun ex s => EndQ X F (fun xs => ret xs = some ()) ex s ∨ (pb r = true ∧ ex = .panic [{ v := pv r, recovered := false }])
  have hpan : ∀ v (st' : DSt), @Pan.pan Unit pn v = some () → Q (.panic [{ v := v, recovered := false }]) st'.toSt := fun v st' h => by
    by_cases hx : pb r = true ∧ v = pv r
    · obtain ⟨h1, rfl⟩ := hx; exact .inr ⟨h1, rfl⟩
    · have h' : (if pb r = true ∧ v = pv r then some () else none) = some () := h
      rw [if_neg hx] at h'; cases h'
  have hcovS : CovC S body [] := fun p hp => hp
  have hcov : ∀ id fs ops op, (id, fs, ops, op) ∈ subsC body [] → CovF (subsC body []) fs := covF_of S body [] hcovS trivial
  have hlab : ∀ (k : Nat) (l : L), iterN step k l = some r → ∀ fs ops op, ((lab l).1, fs, ops, op) ∈ subsC body [] → AW X F.n F.Z (.region (lab l).1 ops op) (lab l).2.toSt (Qf X F.n F.Z Q fs) := by
    intro k
    induction k with
    | zero => intro l h; cases h
    | succ k ih =>
      intro l h fs ops op hp
      let goto : Nat → DSt → Option Unit := fun id st => if ∃ l', lab l' = (id, st) ∧ iterN step k l' = some r then some () else none
      refine @segD_sound X Y E F Unit pn () hY hE hm body fuel hnd goto ret _ hcov (fun ex s h => .inl h) hpan (fun id st' fs ops op hw hg hp => ?_) (lab l).1 (lab l).2 (hwf l) ?_ fs ops op hp -- (goto := goto) (ret := ret) (fuel := fuel) hY hE hm hnd hcov (fun ex s h => .inl h) hpan (fun id st' fs ops op hw hg hp => ?_) (hwf l) ?_ hp
      · by_cases hx : ∃ l', lab l' = (id, st') ∧ iterN step k l' = some r
        · obtain ⟨l', e, hk⟩ := hx
          have := ih l' hk fs ops op
          rw [e] at this
          exact this hp
        · simp only [goto, if_neg hx] at hg; cases hg
      · rw [hseg pn]
        simp only [iterN] at h
        split at h
        · rename_i l' hl'
          rw [hl']
          simp only [Option.bind_some, Sum.elim_inl, goto]
          rw [if_pos ⟨l', rfl, h⟩]
        · rename_i r' hr'
          rw [hr']
          cases h
          simp only [Option.bind_some, Sum.elim_inr]; exact hfin
        · cases h
  have hbody : AW X F.n F.Z body (entry 0 (args.map DT.toT)) Q := by
    rw [← entryD_toSt]
    obtain ⟨x, hx, hcase⟩ := runL_some hr
    let goto : Nat → DSt → Option Unit := fun id st => if ∃ l', lab l' = (id, st) ∧ iter step l' = some r then some () else none
    refine @runD_sound X Y E F Unit pn () hY hE hm S goto ret _ (fun ex s h => .inl h) hpan (fun id st' fs ops op hw hg hp => ?_) fuel (.code body []) _ (entryD_wf 0 args) ⟨hcovS, trivial⟩ ?_
    · by_cases hx : ∃ l', lab l' = (id, st') ∧ iter step l' = some r
      · obtain ⟨l', e, hk⟩ := hx
        obtain ⟨k, hk⟩ := iter_some hk
        have := hlab k l' hk fs ops op
        rw [e] at this
        exact this hp
      · simp only [goto, if_neg hx] at hg; cases hg
    · rw [hent pn, hx]
      rcases hcase with ⟨l, rfl, hl⟩ | rfl
      · simp only [Option.bind_some, Sum.elim_inl, goto]
        rw [if_pos ⟨l, rfl, hl⟩]
      · simp only [Option.bind_some, Sum.elim_inr]; exact hfin
  refine hbody.mono ?_
  rintro ex s (⟨hex, s', xs, h1, h2, h3, h5, h4⟩ | h)
  · by_cases e : pb r = false ∧ xs = encR r
    · exact .inl ⟨e.1, hex, s', xs, h1, h2, h3, h5, e.2⟩
    · simp only [ret, if_neg e] at h4; cases h4
  · exact .inr h
theorem APure_of_machine (hY : DXOk Y X) (hE : EnvOk X E) (hm : X.P.follows .mixedOrders = true) {f : FuncId} {fn : Func} {body : Code} (hf : X.P.funcs[f]? = some fn) (hb : fn.body = some body) (hn : fn.ntmps = F.n) (hrs : fn.results = (F.rs.map (resVar F.cl)).toArray) (hndr : F.rs.Nodup)
    {args : List DT} (hlen : args.length ≤ F.n) (hnd : nodupN ((subsC body []).map (·.1)) = true) {fuel : Nat} {L R : Type} (lab : L → Nat × DSt) (step : L → Option (L ⊕ R)) (encR : R → List DT) (hwf : ∀ l, WF (lab l).2)
    (hseg : ∀ (l : L) (goto : Nat → DSt → Option Unit) (ret : List DT → Option Unit), segD Y E F body fuel (lab l).1 (lab l).2 goto ret = (step l).bind (Sum.elim (fun l' => goto (lab l').1 (lab l').2) (fun r => ret (encR r))))
    {ent : Option (L ⊕ R)} (hent : ∀ (goto : Nat → DSt → Option Unit) (ret : List DT → Option Unit), runD Y E F goto ret fuel (.code body []) (entryD 0 args) = ent.bind (Sum.elim (fun l' => goto (lab l').1 (lab l').2) (fun r => ret (encR r))))
    {r : R} (hr : runL step ent = some r) (hZ : F.Z = [] := by rfl) : APure X f (args.map DT.toT) (resT ((encR r).map DT.toT)) :=
  APure_of_AW hZ hf hb hn hrs hndr hlen (AW_of_machine hY hE hm hnd lab step encR hwf hseg hent hr)
def outsL (z : Nat) (out : T) : Nat → Nat → List T
  | _, 0 => []
  | i, m + 1 => (if i = z then out else .u) :: outsL z out (i + 1) m
theorem outsL_ok {n : Nat} {s : St} {z : Nat} {out : T} (h : stG n s z = .t out) : ∀ (m i : Nat), outsOk n s [z] i (outsL z out i m)
  | 0, i => trivial
  | m + 1, i => by
    refine ⟨?_, outsL_ok h m (i + 1)⟩
    by_cases hi : i = z
    · subst hi; simp [h]
    · simp [hi]
theorem outsL_len (z : Nat) (out : T) : ∀ (m i : Nat), (outsL z out i m).length = m
  | 0, _ => rfl
  | m + 1, i => by simp only [outsL, List.length_cons, outsL_len z out m]
theorem slotsOk_split {P : Program} {cl : List (Nat × TypeId)} {n : Nat} {s : St} {z : Nat} {t : T} : ∀ {rs : List Nat} {ts : List T}, rs.length = ts.length → slotsOk P cl n s (rs ++ [z]) (ts ++ [t]) → slotsOk P cl n s rs ts ∧ valOk P cl n s z t
  | [], [], _, h => ⟨trivial, h.1⟩
  | _ :: _, [], h, _ => by cases h
  | [], _ :: _, h, _ => by cases h
  | r :: rs, t0 :: ts, hl, h => by
    obtain ⟨h1, h2⟩ := slotsOk_split (rs := rs) (ts := ts) (by simpa using hl) h.2
    exact ⟨⟨h.1, h1⟩, h2⟩
theorem ALend_of_AW {f : FuncId} {fn : Func} {body : Code} {z : Nat} (hZ : F.Z = [z]) (hcz : lookC F.cl z = none) (hzr : z ∉ F.rs) (hf : X.P.funcs[f]? = some fn) (hb : fn.body = some body) (hn : fn.ntmps = F.n) (hrs : fn.results = (F.rs.map (resVar F.cl)).toArray) (hndr : F.rs.Nodup)
    {args : List DT} (hz : z < args.length) (hlen : args.length ≤ F.n) {xs0 : List DT} {out : DT} (hlx : F.rs.length = xs0.length) (hbody : AW X F.n F.Z body (entry 0 (args.map DT.toT)) (EndQ X F (fun xs => xs = xs0 ++ [out]))) : ACall X f (args.map DT.toT) (resT (xs0.map DT.toT)) (outsL z out.toT 0 args.length) := by
  rw [hZ] at hbody
  refine ACall_of_body (n := F.n) (Z := [z]) (rs := F.rs) (cl := F.cl) hf hb hn hrs (by rw [List.length_map]; exact hlen) (by rw [outsL_len, List.length_map]) hndr (fun i hi => by rw [List.mem_singleton.1 hi, List.length_map]; exact ⟨hz, hzr⟩) (fun i hi => by rw [List.mem_singleton.1 hi]; exact hcz) (AW.to (hbody.mono ?_))
  rintro ex s ⟨hex, s', xs, h1, h2, h3, h5, h4⟩
  rw [hZ] at h1 h3
  subst h4
  refine ⟨s'.toSt, h1, ?_⟩
  rw [List.map_append] at h3 h5
  obtain ⟨h6, h7⟩ := slotsOk_split (by rw [List.length_map]; exact hlx) h3
  have h8 : stG F.n s'.toSt z = .t out.toT := by unfold valOk at h7; rw [hcz] at h7; exact h7
  have hnt : ∀ (rs : List Nat) (ts : List T), slotsOk X.P F.cl F.n s'.toSt rs ts → (∀ t ∈ ts, ∀ cs, t ≠ .tup cs) → ∀ K : St → Prop, K s'.toSt → retGo F.n rs s'.toSt K := by
    intro rs
    induction rs with
    | nil => intro ts _ _ K hK; exact hK
    | cons q qs ih =>
      intro ts h ht K hK
      cases ts with
      | nil => exact h.elim
      | cons t ts =>
        obtain ⟨e1, e2⟩ := h
        have hrest := ih ts e2 (fun t ht' => ht t (by simp [ht'])) K hK
        unfold valOk at e1
        split at e1
        · simp only [retGo, e1]
          cases t with
          | tup cs => exact absurd rfl (ht _ (by simp) cs)
          | _ => exact hrest
        · obtain ⟨e, cs, k, e3, _⟩ := e1
          simp only [retGo, e3]
          exact hrest
  have hends : retGo F.n F.rs s'.toSt (fun s => noGhost F.n s ∧ resOk X.P F.cl F.n s F.rs (resT (xs0.map DT.toT)) ∧ outsOk F.n s [z] 0 (outsL z out.toT 0 args.length)) := by
    refine hnt _ _ h6 (fun t ht => h5 t (by simp only [List.mem_append]; exact .inl ht)) _ ⟨h2, ?_, outsL_ok h8 _ _⟩
    unfold resOk
    cases hrs' : F.rs with
    | nil =>
      rw [hrs'] at h6
      cases hx : xs0.map DT.toT with
      | nil => trivial
      | cons => rw [hx] at h6; exact h6.elim
    | cons q qs =>
      rw [hrs'] at h6
      cases hx : xs0.map DT.toT with
      | nil => rw [hx] at h6; exact h6.elim
      | cons x xs =>
        rw [hx] at h6
        cases qs with
        | nil =>
          cases xs with
          | nil => exact h6.1
          | cons => exact h6.2.elim
        | cons q2 qs =>
          cases xs with
          | nil => exact h6.2.elim
          | cons x2 xs => exact h6
  rcases hex with rfl | rfl
  · exact hends
  · exact hends
theorem ALend_of_machine (hY : DXOk Y X) (hE : EnvOk X E) (hm : X.P.follows .mixedOrders = true) {f : FuncId} {fn : Func} {body : Code} {z : Nat} (hf : X.P.funcs[f]? = some fn) (hb : fn.body = some body) (hn : fn.ntmps = F.n) (hrs : fn.results = (F.rs.map (resVar F.cl)).toArray) (hndr : F.rs.Nodup) (hZ : F.Z = [z]) (hcz : lookC F.cl z = none) (hzr : z ∉ F.rs)
    {args : List DT} (hz : z < args.length) (hlen : args.length ≤ F.n) (hnd : nodupN ((subsC body []).map (·.1)) = true) {fuel : Nat} {L R : Type} (lab : L → Nat × DSt) (step : L → Option (L ⊕ R)) (encR : R → List DT) (outR : R → DT) (hwf : ∀ l, WF (lab l).2)
    (hseg : ∀ (l : L) (goto : Nat → DSt → Option Unit) (ret : List DT → Option Unit), segD Y E F body fuel (lab l).1 (lab l).2 goto ret = (step l).bind (Sum.elim (fun l' => goto (lab l').1 (lab l').2) (fun r => ret (encR r ++ [outR r]))))
    {ent : Option (L ⊕ R)} (hent : ∀ (goto : Nat → DSt → Option Unit) (ret : List DT → Option Unit), runD Y E F goto ret fuel (.code body []) (entryD 0 args) = ent.bind (Sum.elim (fun l' => goto (lab l').1 (lab l').2) (fun r => ret (encR r ++ [outR r]))))
    {r : R} (hr : runL step ent = some r) (hlx : F.rs.length = (encR r).length) : ACall X f (args.map DT.toT) (resT ((encR r).map DT.toT)) (outsL z (outR r).toT 0 args.length) :=
  ALend_of_AW hZ hcz hzr hf hb hn hrs hndr hz hlen hlx (AW_of_machine hY hE hm hnd lab step (fun r => encR r ++ [outR r]) hwf hseg hent hr)
theorem PLend_of_machine (hY : DXOk Y X) (hE : EnvOk X E) (hm : X.P.follows .mixedOrders = true) {f : FuncId} {fn : Func} {body : Code} {z : Nat} (hf : X.P.funcs[f]? = some fn) (hb : fn.body = some body) (hn : fn.ntmps = F.n) (hrs : fn.results = (F.rs.map (resVar F.cl)).toArray) (hndr : F.rs.Nodup) (hZ : F.Z = [z]) (hcz : lookC F.cl z = none) (hzr : z ∉ F.rs)
    {args : List DT} (hz : z < args.length) (hlen : args.length ≤ F.n) (hnd : nodupN ((subsC body []).map (·.1)) = true) {fuel : Nat} {L R : Type} (lab : L → Nat × DSt) (step : L → Option (L ⊕ R)) (encR : R → List DT) (outR : R → DT) (pb : R → Bool) (pv : R → Value) (hwf : ∀ l, WF (lab l).2)
    (hseg : ∀ (pn : Pan Unit) (l : L) (goto : Nat → DSt → Option Unit) (ret : List DT → Option Unit), segD Y E F body fuel (lab l).1 (lab l).2 goto ret = (step l).bind (Sum.elim (fun l' => goto (lab l').1 (lab l').2) (fun r => if pb r = true then @Pan.pan Unit pn (pv r) else ret (encR r ++ [outR r]))))
    {ent : Option (L ⊕ R)} (hent : ∀ (pn : Pan Unit) (goto : Nat → DSt → Option Unit) (ret : List DT → Option Unit), runD Y E F goto ret fuel (.code body []) (entryD 0 args) = ent.bind (Sum.elim (fun l' => goto (lab l').1 (lab l').2) (fun r => if pb r = true then @Pan.pan Unit pn (pv r) else ret (encR r ++ [outR r]))))
    {r : R} (hr : runL step ent = some r) (hlx : F.rs.length = (encR r).length) : (pb r = false → ACall X f (args.map DT.toT) (resT ((encR r).map DT.toT)) (outsL z (outR r).toT 0 args.length)) ∧ (pb r = true → PCall X f (args.map DT.toT) (pv r)) := by
  have h := AWP_of_machine hY hE hm hnd lab step (fun r => encR r ++ [outR r]) pb pv hwf hseg hent hr
  refine ⟨fun hb0 => ALend_of_AW hZ hcz hzr hf hb hn hrs hndr hz hlen hlx (h.mono fun ex s hs => ?_), fun hb1 => PCall_of_body (n := F.n) (Z := F.Z) hf hb hn (by rw [List.length_map]; exact hlen) (fun i hi => by rw [hZ, List.mem_singleton] at hi; rw [hi, List.length_map]; exact hz) (h.mono fun ex s hs => ?_)⟩
  · rcases hs with hs | hs
    · exact hs.2
    · rw [hb0] at hs; cases hs.1
  · rcases hs with hs | hs
    · rw [hb1] at hs; cases hs.1
    · exact hs.2
end Go.Eng

/- What the printed texts lean on. -/
namespace Go.Eng
open Go.RowKit (Below)
set_option linter.unusedVariables false
set_option linter.unusedSimpArgs false
@[reducible] def w64 (x : Int) : Int := IntKind.wrap .i64 x
theorem w64_eq {a : Int} (h : -9223372036854775808 ≤ a) (h2 : a ≤ 9223372036854775807) : w64 a = a := wrap64 h h2
def push {L R ρ : Type} (x : Option (L ⊕ R)) (g : L → Option ρ) (h : R → Option ρ) : Option ρ := x.bind (Sum.elim g h)
section
variable {L R ρ α : Type} {g : L → Option ρ} {h : R → Option ρ} {k : α → Option ρ}
theorem push_G {p : Prop} [Decidable p] {k : Option (L ⊕ R)} : push (G p k) g h = G p (push k g h) := by unfold G push; split <;> rfl
theorem push_ite {p : Prop} [Decidable p] {a b : Option (L ⊕ R)} : push (if p then a else b) g h = if p then push a g h else push b g h := by split <;> rfl
theorem push_bind {x : Option α} {k : α → Option (L ⊕ R)} : push (x.bind k) g h = x.bind fun a => push (k a) g h := by cases x <;> rfl
theorem push_inl {l : L} : push (some (.inl l)) g h = g l := rfl
theorem push_inr {r : R} : push (some (.inr r)) g h = h r := rfl
def bnd (x : Option α) (k : α → Option ρ) : Option ρ := x.bind k
theorem bnd_G {p : Prop} [Decidable p] {x : Option α} : bnd (G p x) k = G p (bnd x k) := by unfold G bnd; split <;> rfl
theorem bnd_ite {p : Prop} [Decidable p] {a b : Option α} : bnd (if p then a else b) k = if p then bnd a k else bnd b k := by split <;> rfl
theorem bnd_bind {β : Type} {x : Option β} {f : β → Option α} : bnd (x.bind f) k = x.bind fun a => bnd (f a) k := by cases x <;> rfl
theorem bnd_some {a : α} : bnd (some a) k = k a := rfl
end
theorem G_pos {ρ : Type} {p : Prop} [Decidable p] {k : Option ρ} (h : p) : G p k = k := by unfold G; exact if_pos h
theorem G_imp {ρ : Type} {b : Bool} {p : Prop} [Decidable p] {k : Option ρ} (h : p) : G (b = true → p) k = k := by unfold G; exact if_pos (fun _ => h)
def Env.add (f : FuncId) (e : List DT → Option CallRes) (E : Env) : Env := fun g args => bif Nat.beq g f then e args else E g args
theorem EnvOk.add {X : Ctx} {E : Env} (h : EnvOk X E) {f : FuncId} {e : List DT → Option CallRes} (he : ∀ args c, e args = some c → CallOk X f args c) : EnvOk X (Env.add f e E) := by
  intro g args c hc
  unfold Env.add at hc
  by_cases hg : g = f
  · subst hg
    rw [Nat.beq_refl] at hc
    exact he args c hc
  · rw [beq_ne hg] at hc; exact h g args c hc
def Env.add2 (f : FuncId) (e : List DT → Option CallRes) (E : Env) : Env := fun g args => match (bif Nat.beq g f then e args else none) with
  | some c => some c
  | none => E g args
theorem EnvOk.add2 {X : Ctx} {E : Env} (h : EnvOk X E) {f : FuncId} {e : List DT → Option CallRes} (he : ∀ args c, e args = some c → CallOk X f args c) : EnvOk X (Env.add2 f e E) := by
  intro g args c hc
  unfold Env.add2 at hc
  split at hc
  · rename_i c' hq
    cases hc
    by_cases hg : g = f
    · subst hg
      rw [Nat.beq_refl] at hq
      exact he args c hq
    · rw [beq_ne hg] at hq; cases hq
  · exact h g args c hc
def E_0 : Env := fun _ _ => none
theorem E_0_ok {X : Ctx} : EnvOk X E_0 := fun _ _ _ h => by cases h
def bareD : DT → Bool
  | .u => true
  | .s t _ => t.bare
  | .own _ t _ => t.bare
  | .box _ cs => all cs
  | .tup cs => all cs
  | .own2 _ _ _ _ => false
where all : List DT → Bool
  | [] => true
  | x :: xs => match bareD x with
    | true => all xs
    | false => false
theorem noSl_list (t : Ty) (h : t.bare = true) (l : List t.I) : T.noSl.all (l.map t.enc) = true := by
  induction l with
  | nil => rfl
  | cons x l ih => simp only [List.map_cons, T.noSl.all, enc_noSl t x h, ih, Bool.and_self]
theorem noSl_res : ∀ {d : DT}, bareD d = true → d.toT.noSl = true
  | .u, _ => rfl
  | .s t x, h => enc_noSl t x h
  | .own e t l, h => noSl_list t h l
  | .box e cs, h => noSl_all cs h
  | .tup cs, h => noSl_all cs h
where noSl_all : ∀ (cs : List DT), bareD.all cs = true → T.noSl.all (DT.toT.all cs) = true
  | [], _ => rfl
  | x :: xs, h => by
    simp only [bareD.all] at h
    cases hx : bareD x with
    | false => rw [hx] at h; cases h
    | true =>
      rw [hx] at h
      simp only [DT.toT.all, T.noSl.all, noSl_res hx, noSl_all xs h, Bool.and_self]
def listWF (st : DSt) : DSt → Prop
  | [] => True
  | p :: r => slotWF st p.2 ∧ listWF st r
theorem WF_list {st : DSt} (h : listWF st st) : WF st := by
  have key : ∀ (l : DSt), listWF st l → ∀ k a, l.find k = some a → slotWF st a := by
    intro l
    induction l with
    | nil => intro _ k a h; cases h
    | cons p r ih =>
      obtain ⟨i, x⟩ := p
      intro hl k a hf
      simp only [DSt.find] at hf
      cases hb : Nat.beq k i with
      | true => rw [hb] at hf; cases hf; exact hl.1
      | false => rw [hb] at hf; exact ih hl.2 k a hf
  exact fun k a hf => key st h k a hf
theorem APure_of_straight {X : Ctx} {Y : DX} {E : Env} {F : FnD} (hY : DXOk Y X) (hE : EnvOk X E) (hm : X.P.follows .mixedOrders = true) {f : FuncId} {fn : Func} {body : Code} (hf : X.P.funcs[f]? = some fn) (hb : fn.body = some body) (hn : fn.ntmps = F.n) (hrs : fn.results = (F.rs.map (resVar F.cl)).toArray) (hndr : F.rs.Nodup)
    {args : List DT} (hlen : args.length ≤ F.n) (hnd : nodupN ((subsC body []).map (·.1)) = true) {fuel : Nat} {R : Type} (encR : R → List DT)
    {ent : Option R} (hent : ∀ (goto : Nat → DSt → Option Unit) (ret : List DT → Option Unit), runD Y E F goto ret fuel (.code body []) (entryD 0 args) = bnd ent fun r => ret (encR r))
    {r : R} (hr : ent = some r) (hZ : F.Z = [] := by rfl) : APure X f (args.map DT.toT) (resT ((encR r).map DT.toT)) := by
  refine APure_of_machine (hZ := hZ) (F := F) (fuel := fuel) hY hE hm hf hb hn hrs hndr hlen hnd (L := Empty) (fun l => l.elim) (fun l => l.elim) encR (fun l => l.elim) (fun l => l.elim) (ent := ent.map .inr) (fun goto ret => ?_) ?_
  · rw [hent, hr]; rfl
  · rw [hr]; rfl
theorem ALend_of_straight {X : Ctx} {Y : DX} {E : Env} {F : FnD} (hY : DXOk Y X) (hE : EnvOk X E) (hm : X.P.follows .mixedOrders = true) {f : FuncId} {fn : Func} {body : Code} {z : Nat} (hf : X.P.funcs[f]? = some fn) (hb : fn.body = some body) (hn : fn.ntmps = F.n) (hrs : fn.results = (F.rs.map (resVar F.cl)).toArray) (hndr : F.rs.Nodup) (hZ : F.Z = [z]) (hcz : lookC F.cl z = none) (hzr : z ∉ F.rs)
    {args : List DT} (hz : z < args.length) (hlen : args.length ≤ F.n) (hnd : nodupN ((subsC body []).map (·.1)) = true) {fuel : Nat} {R : Type} (encR : R → List DT) (outR : R → DT)
    {ent : Option R} (hent : ∀ (goto : Nat → DSt → Option Unit) (ret : List DT → Option Unit), runD Y E F goto ret fuel (.code body []) (entryD 0 args) = bnd ent fun r => ret (encR r ++ [outR r]))
    {r : R} (hr : ent = some r) (hlx : F.rs.length = (encR r).length) : ACall X f (args.map DT.toT) (resT ((encR r).map DT.toT)) (outsL z (outR r).toT 0 args.length) := by
  refine ALend_of_machine (F := F) (fuel := fuel) hY hE hm hf hb hn hrs hndr hZ hcz hzr hz hlen hnd (L := Empty) (fun l => l.elim) (fun l => l.elim) encR outR (fun l => l.elim) (fun l => l.elim) (ent := ent.map .inr) (fun goto ret => ?_) ?_ hlx
  · rw [hent, hr]; rfl
  · rw [hr]; rfl
def pend {ρ R : Type} [Pan ρ] (pb : R → Bool) (pv : R → Value) (k : R → Option ρ) (r : R) : Option ρ := if pb r = true then Pan.pan (pv r) else k r
theorem PLend_of_straight {X : Ctx} {Y : DX} {E : Env} {F : FnD} (hY : DXOk Y X) (hE : EnvOk X E) (hm : X.P.follows .mixedOrders = true) {f : FuncId} {fn : Func} {body : Code} {z : Nat} (hf : X.P.funcs[f]? = some fn) (hb : fn.body = some body) (hn : fn.ntmps = F.n) (hrs : fn.results = (F.rs.map (resVar F.cl)).toArray) (hndr : F.rs.Nodup) (hZ : F.Z = [z]) (hcz : lookC F.cl z = none) (hzr : z ∉ F.rs)
    {args : List DT} (hz : z < args.length) (hlen : args.length ≤ F.n) (hnd : nodupN ((subsC body []).map (·.1)) = true) {fuel : Nat} {R : Type} (encR : R → List DT) (outR : R → DT) (pb : R → Bool) (pv : R → Value)
    {ent : Option R} (hent : ∀ (pn : Pan Unit) (goto : Nat → DSt → Option Unit) (ret : List DT → Option Unit), runD Y E F goto ret fuel (.code body []) (entryD 0 args) = bnd ent (pend pb pv fun r => ret (encR r ++ [outR r])))
    {r : R} (hr : ent = some r) (hlx : F.rs.length = (encR r).length) : (pb r = false → ACall X f (args.map DT.toT) (resT ((encR r).map DT.toT)) (outsL z (outR r).toT 0 args.length)) ∧ (pb r = true → PCall X f (args.map DT.toT) (pv r)) := by
  refine PLend_of_machine (F := F) (fuel := fuel) hY hE hm hf hb hn hrs hndr hZ hcz hzr hz hlen hnd (L := Empty) (fun l => l.elim) (fun l => l.elim) encR outR pb pv (fun l => l.elim) (fun pn l => l.elim) (ent := ent.map .inr) (fun pn goto ret => ?_) ?_ hlx
  · rw [hent pn, hr]; rfl
  · rw [hr]; rfl
def Glob.vals : Glob → List Value
  | .one t x => valsT t x
  | .arr t l => l.flatMap (valsT t)
def Glob.ok : Glob → Bool
  | .one t _ => t.bare && t.fine
  | .arr t _ => t.bare && t.fine
theorem Glob.spec (x : Glob) (h : x.ok = true) : x.cells = x.vals.map .v ∧ ∀ y ∈ x.vals, y.oneCell' = true := by
  cases x with
  | one t y =>
    simp only [Glob.ok, Bool.and_eq_true] at h
    exact valsT_spec t y h.1 h.2
  | arr t l =>
    simp only [Glob.ok, Bool.and_eq_true] at h
    simp only [Glob.cells, Glob.vals]
    induction l with
    | nil => exact ⟨rfl, by simp⟩
    | cons a l ih =>
      obtain ⟨p1, p2⟩ := valsT_spec t a h.1 h.2
      refine ⟨by simp only [List.flatMap_cons, List.map_append, p1, ih.1], fun y hy => ?_⟩
      simp only [List.flatMap_cons, List.mem_append] at hy
      rcases hy with hy | hy
      · exact p2 y hy
      · exact ih.2 y hy
def globsOk (N : Nat) : List (Nat × Glob) → Bool
  | [] => true
  | (k, x) :: r => Nat.blt k N && (x.ok && globsOk N r)
theorem globsOk_spec {N : Nat} : ∀ {l : List (Nat × Glob)}, globsOk N l = true → ∀ p ∈ l, p.1 < N ∧ p.2.ok = true
  | [], _, p, h => by cases h
  | (k, x) :: r, hl, p, h => by
    simp only [globsOk, Bool.and_eq_true, Nat.blt_eq] at hl
    rcases List.mem_cons.1 h with rfl | h2
    · exact ⟨hl.1, hl.2.1⟩
    · exact globsOk_spec hl.2.2 p h2
def laidG (N : Nat) (gt : List (Nat × Glob)) (w : World) : Prop := N ≤ w.heap.size ∧ ∀ p ∈ gt, ∀ (k : Nat) (x : Value), p.2.vals[k]? = some x → w.cell? ⟨p.1, k, none⟩ = some x
def mkCtx (P : Program) (N : Nat) (gt : List (Nat × Glob)) (h : globsOk N gt = true) : Ctx where
  P := P
  N := N
  G := laidG N gt
  gl := fun g => (look gt g).map Glob.cells
  hN := fun w h => h.1
  hG := fun w w' hb hs hw => ⟨Nat.le_trans hw.1 hs, fun p hp k x hx => by
    rw [cell_eq_of_block (w := w) (hb p.1 (globsOk_spec h p hp).1)]; exact hw.2 p hp k x hx⟩
  hgl := fun g cs hg => by
    cases hl : look gt g with
    | none => rw [hl] at hg; cases hg
    | some x =>
      rw [hl] at hg
      simp only [Option.map_some, Option.some.injEq] at hg
      subst hg
      have hm := look_mem hl
      obtain ⟨h1, h2⟩ := globsOk_spec h _ hm
      obtain ⟨h3, h4⟩ := x.spec h2
      exact ⟨h1, fun w F hw hF => ⟨x.vals, fun k y hy => hw.2 _ hm k y hy, by rw [h3]; exact zeros_rep _, h4⟩⟩
end Go.Eng

/- What function values do: what is known of a call through one. -/
namespace Go.Eng
set_option linter.unusedVariables false
set_option linter.unusedSimpArgs false
end Go.Eng
