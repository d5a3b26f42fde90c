/- One operation that writes one slot, in typed trees: that it is so (second part). -/
import Derived.Test.YthgemanfbanhnaaDoorDvB
namespace Go.Eng
open Go.RowKit (Below)
set_option linter.unusedVariables false
set_option linter.unusedSimpArgs false
variable {X : Ctx} {Y : DX} {n : Nat} {st : DSt} {E : Env} {γ : Gam} {ρ : Type} {o : Oper} {K : DA → Option ρ} {r : ρ}

theorem move_sound (hY : DXOk Y X) (hw : WF st) (hγ : gOk st γ) {x : Operand} {a : DA} (ho : o.op = .move x ∨ o.op = .assign x) (hx : rdD Y γ st x = some a) (h : K a = some r) : Shows X n st γ o K r := by
  obtain ⟨h1, h2, h3, h4⟩ := rdD_spec (n := n) hY hw hγ hx
  exact ⟨a, fun hc => by rw [← h1]; exact good_move ho (h2 hc), h3, h4, h⟩
theorem nil_sound (hY : DXOk Y X) {e : TypeId} {t : Ty} {b : Nat} (ho : o.op = .assign (.const (.slice none 0 0)) ∨ o.op = .move (.const (.slice none 0 0))) (ht : sliT Y o.type = some (e, t, b)) (h : K (.t (.own e t [])) = some r) : Shows X n st γ o K r :=
  ⟨.t (.own e t []), fun _ => good_nil ho (sliT_spec hY ht).1, rfl, trivial, h⟩

/-! pick -/
theorem pkD_spec (hY : DXOk Y X) (hw : WF st) (hγ : gOk st γ) {dq : Nat} {w : Bool} {x : Operand} {y : DT} (h : pkD Y γ st dq w x = some y) :
    (ev X (stG n st.toSt) x).un = .t y.toT ∧ ∀ (c q : Bool), gB st dq true = some q → ((match γ with | none => true | some (_, _, b) => b) = true → (c = q)) → True := by
  refine ⟨?_, fun _ _ _ _ => trivial⟩
  unfold pkD at h
  split at h
  · rename_i y' hr
    cases h
    exact (rdD_spec (n := n) hY hw hγ hr).1
  · cases h
  · split at h
    · rename_i d w' b y' hd
      split at h
      · cases h
        rw [← dev_eq hY x, hd]; rfl
      · cases h
    · cases h
/-- When it may be read. -/
theorem pkD_ob (hY : DXOk Y X) (hw : WF st) (hγ : gOk st γ) {dq : Nat} {w : Bool} {x : Operand} {y : DT} (h : pkD Y γ st dq w x = some y) (hc : cP γ) :
    (ev X (stG n st.toSt) x).ob ∨ ∃ b, (∀ b', gB st dq w = some b' → b' = b) ∧ (b = true → (ev X (stG n st.toSt) x).ob) := by
  unfold pkD at h
  split at h
  · rename_i y' hr
    exact .inl ((rdD_spec (n := n) hY hw hγ hr).2.1 hc)
  · cases h
  · split at h
    · rename_i d w' b y' hd
      split at h
      · rename_i hb
        simp only [Bool.and_eq_true, beq_iff_eq] at hb
        obtain ⟨h1, rfl⟩ := hb
        have := Nat.eq_of_beq_eq_true h1
        subst this
        have hwf := dev_wf (Y := Y) hw x
        rw [hd] at hwf
        refine .inr ⟨b, hwf.1, fun hbt => ?_⟩
        rw [← dev_eq hY x, hd]; exact hbt
      · cases h
    · cases h
/-- What the guard's slot says when the question may be read. -/
theorem gB_of (hY : DXOk Y X) (hw : WF st) (hγ : gOk st γ) {dq : Nat} {c : Bool} (h : rdD Y γ st (.tmp dq) = some (.t (.s .bool c))) (hc : cP γ) (w : Bool) : gB st dq w = some (c == w) := by
  have hd : dev Y st (.tmp dq) = .t (.s .bool c) ∨ ∃ d w' b', dev Y st (.tmp dq) = .opt d w' b' (.t (.s .bool c)) ∧ b' = true := by
    unfold rdD at h
    split at h
    · rename_i d w' b' a' hd
      split at h
      · rename_i d2 w2 b2
        by_cases hq : (Nat.beq d d2 && (w' == w2)) = true
        · rw [hq] at h
          cases h
          refine .inr ⟨d, w', b', hd, ?_⟩
          simp only [Bool.and_eq_true, beq_iff_eq] at hq
          obtain ⟨h1, rfl⟩ := hq
          have := Nat.eq_of_beq_eq_true h1
          subst this
          have hwf := dev_wf (Y := Y) hw (.tmp dq)
          rw [hd] at hwf
          have e : gB st d w' = some b2 := hγ
          rw [← hwf.1 b2 e]; exact hc
        · simp only [Bool.not_eq_true] at hq
          rw [hq] at h; cases h
      · cases h
    · exact .inl (Option.some.inj h)
  have hf : st.find dq = some (.t (.s .bool c)) ∨ ∃ d w' b', st.find dq = some (.opt d w' b' (.t (.s .bool c))) ∧ b' = true := by
    simp only [dev] at hd
    cases hq : st.find dq with
    | none => rw [hq] at hd; rcases hd with hd | ⟨d, w', b', hd, _⟩ <;> cases hd
    | some a =>
      rw [hq] at hd
      cases a with
      | t x =>
        cases x with
        | own => rcases hd with hd | ⟨d, w', b', hd, _⟩ <;> cases hd
        | box => rcases hd with hd | ⟨d, w', b', hd, _⟩ <;> cases hd
        | tup cs => simp only at hd; cases hfl : flatsD cs <;> rw [hfl] at hd <;> rcases hd with hd | ⟨d, w', b', hd, _⟩ <;> cases hd
        | u => rcases hd with hd | ⟨d, w', b', hd, _⟩ <;> cases hd
        | s t y =>
          simp only at hd
          rcases hd with hd | ⟨d, w', b', hd, _⟩
          · exact .inl (by rw [hd])
          · cases hd
      | opt d w' b' a' =>
        rcases hd with hd | ⟨d2, w2, b2, hd, e⟩
        · cases hd
        · cases hd; exact .inr ⟨_, _, _, rfl, e⟩
      | _ => rcases hd with hd | ⟨d, w', b', hd, _⟩ <;> cases hd
  unfold gB
  rcases hf with hf | ⟨d, w', b', hf, rfl⟩
  · rw [hf]; cases c <;> cases w <;> rfl
  · rw [hf]; cases c <;> cases w <;> rfl

theorem pickV_spec {c : Bool} {x y : Operand} {a b v : DT} (hx : isTrueC x = true → a.toT = .v (.bool true)) (hy : isFalseC y = true → b.toT = .v (.bool false)) (h : pickV c x y a b = some v) :
    v.toT = pickT c a.toT b.toT ∧ ((∃ k p q, a.toT = .v (.int k p) ∧ b.toT = .v (.int k q)) ∨ ((∃ p, a.toT = .v p ∧ ∀ k m, p ≠ .int k m) ∧ ∃ q, b.toT = .v q)) := by
  unfold pickV at h
  split at h
  · cases h
    rename_i p q
    refine ⟨?_, .inr ⟨⟨.bool p, rfl, fun _ _ e => by cases e⟩, .bool q, rfl⟩⟩
    cases hxt : isTrueC x with
    | true =>
      have := hx hxt
      simp only [DT.toT, Ty.enc, Ty.row, mkT, Ty.cells, List.headD_cons, T.v.injEq, Value.bool.injEq] at this
      subst this
      cases c <;> cases q <;> rfl
    | false =>
      cases hyf : isFalseC y with
      | true =>
        have := hy hyf
        simp only [DT.toT, Ty.enc, Ty.row, mkT, Ty.cells, List.headD_cons, T.v.injEq, Value.bool.injEq] at this
        subst this
        cases c <;> cases p <;> rfl
      | false => cases c <;> rfl
  · cases h
    rename_i p q
    exact ⟨by cases c <;> rfl, .inl ⟨.u8, _, _, rfl, rfl⟩⟩
  · split at h
    · rename_i k p k' q hk
      simp only [decide_eq_true_eq] at hk
      subst hk
      cases h
      exact ⟨by cases c <;> rfl, .inl ⟨_, _, _, rfl, rfl⟩⟩
    · cases h
  · cases h
    rename_i p q
    exact ⟨by cases c <;> rfl, .inr ⟨⟨.string (mkS p), rfl, fun _ _ e => by cases e⟩, .string (mkS q), rfl⟩⟩
  · cases h

theorem pick_sound (hY : DXOk Y X) (hw : WF st) (hγ : gOk st γ) {dq : Nat} {x y : Operand} {c : Bool} {a b v : DT} (ho : o.op = .pick (.tmp dq) x y) (hq : rdD Y γ st (.tmp dq) = some (.t (.s .bool c)))
    (hx : pkD Y γ st dq true x = some a) (hy : pkD Y γ st dq false y = some b) (hv : pickV c x y a b = some v) (h : K (.t v) = some r) : Shows X n st γ o K r := by
  obtain ⟨q1, q2⟩ := rdT_spec (n := n) hY hw hγ hq
  have x1 := (pkD_spec (n := n) hY hw hγ hx).1
  have y1 := (pkD_spec (n := n) hY hw hγ hy).1
  have hxt : isTrueC x = true → a.toT = .v (.bool true) := fun hx' => by
    have : x = .const (.bool true) := by
      unfold isTrueC at hx'; split at hx'
      · rfl
      · cases hx'
    rw [this] at x1
    simp only [ev, A.un, A.t.injEq] at x1; exact x1.symm
  have hyf : isFalseC y = true → b.toT = .v (.bool false) := fun hy' => by
    have : y = .const (.bool false) := by
      unfold isFalseC at hy'; split at hy'
      · rfl
      · cases hy'
    rw [this] at y1
    simp only [ev, A.un, A.t.injEq] at y1; exact y1.symm
  obtain ⟨e1, e2⟩ := pickV_spec hxt hyf hv
  refine ⟨.t v, fun hc => ?_, rfl, trivial, h⟩
  have hp : pickOk c (ev X (stG n st.toSt) x) (ev X (stG n st.toSt) y) := by
    refine ⟨fun hct => ?_, fun hcf => ?_, ?_⟩
    · rcases pkD_ob (n := n) hY hw hγ hx hc with h | ⟨b', hb, h⟩
      · exact h
      · have := hb _ (gB_of hY hw hγ hq hc true)
        subst hct
        exact h (by rw [← this]; rfl)
    · rcases pkD_ob (n := n) hY hw hγ hy hc with h | ⟨b', hb, h⟩
      · exact h
      · have := hb _ (gB_of hY hw hγ hq hc false)
        subst hcf
        exact h (by rw [← this]; rfl)
    · rw [x1, y1]
      rcases e2 with ⟨k, p, q, h1, h2⟩ | ⟨⟨p, h1, h2⟩, q, h3⟩
      · rw [h1, h2]
      · rw [h1, h3]
        split
        · rename_i hp _; exact absurd (by injection hp with hp; injection hp) (h2 _ _)
        · trivial
        · rename_i hn; exact (hn _ _ rfl rfl).elim
  have := good_pick ho (q2 hc) q1 hp
  rw [show (DA.t v).toA = pickA c (ev X (stG n st.toSt) x) (ev X (stG n st.toSt) y) from by
    simp only [pickA, x1, y1, DA.toA, e1]]
  exact this

/-! numbers, texts -/
theorem conv_sound (hY : DXOk Y X) (hw : WF st) (hγ : gOk st γ) {s d : TypeId} {x : Operand} (ho : o.op = .convert s d x)
    (h : (match rdD Y γ st x with
    | some (.t (.s .str a)) => tst (isTy Y s .str && isTy Y d .str) (K (.t (.s .str a)))
    | some (.t a) => match asI a, tyT Y s, tyT Y d with
      | some (k, a), some ts, some td => match undOf ts, undOf td with
        | some _, some (.int k') => K (.t (mkI k' (k'.wrap a)))
        | _, _ => none
      | none, some _, some .str => match elemsD st (.t a), sliT Y s with
        | some ⟨.u8, l⟩, some (_, .u8, _) => K (.t (.s .str l))
        | _, _ => none
      | _, _, _ => none
    | some a => match elemsD st a, sliT Y s with
      | some ⟨.u8, l⟩, some (_, .u8, _) => tst (isTy Y d .str) (K (.t (.s .str l)))
      | _, _ => none
    | none => none) = some r) : Shows X n st γ o K r := by
  split at h
  · rename_i a hx
    obtain ⟨x1, x2⟩ := rdT_spec (n := n) hY hw hγ hx
    obtain ⟨h0, h⟩ := tst_some h
    simp only [Bool.and_eq_true] at h0
    exact ⟨.t (.s .str a), fun hc => good_conv_str ho (x2 hc) x1 (isTy_spec hY h0.1 (by simp [undOf])) (isTy_spec hY h0.2 (by simp [undOf])), rfl, trivial, h⟩
  · rename_i a _ hx
    obtain ⟨x1, x2⟩ := rdT_spec (n := n) hY hw hγ hx
    split at h
    · rename_i k a' ts td ha hs hd
      obtain ⟨a1, a2⟩ := asI_spec ha
      split at h
      · rename_i us k' hus hud
        rw [a1] at x1
        refine ⟨.t (mkI k' (k'.wrap a')), fun hc => ?_, rfl, trivial, h⟩
        rw [DA.toA, mkI_spec _ _ (fun e => by subst e; exact u8_wrap _)]
        exact good_conv_int ho (x2 hc) x1 (tyT_spec hY hs hus) (tyT_spec hY hd hud)
      · cases h
    · rename_i ts ha hs hd
      split at h
      · rename_i l e b he hs'
        obtain ⟨h1, h2⟩ := elemsD_spec (n := n) (a := .t a) trivial he
        obtain ⟨k1, _, _, _, k5⟩ := sliT_spec hY hs'
        refine ⟨.t (.s .str l), fun hc => ?_, rfl, trivial, h⟩
        have hu := (sliOf_spec k1).1
        exact good_bytes_str (l := l) ho (x2 hc) (by rw [x1]; exact h1) rfl (by rw [x1]; exact h2) hu (k5 rfl) (tyT_spec hY hd rfl)
      · cases h
    · cases h
  · rename_i a _ _ hx
    obtain ⟨x1, x2, x3, x4⟩ := rdD_spec (n := n) hY hw hγ hx
    split at h
    · rename_i l e b he hs'
      obtain ⟨h0, h⟩ := tst_some h
      obtain ⟨h1, h2⟩ := elemsD_spec (n := n) x4 he
      obtain ⟨k1, _, _, _, k5⟩ := sliT_spec hY hs'
      refine ⟨.t (.s .str l), fun hc => ?_, rfl, trivial, h⟩
      have hu := (sliOf_spec k1).1
      exact good_bytes_str (l := l) ho (x2 hc) (by rw [x1]; exact h1) rfl (by rw [x1]; exact h2) hu (k5 rfl) (isTy_spec hY h0 (by simp [undOf]))
    · cases h
  · cases h
end Go.Eng
