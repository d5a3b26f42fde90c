/- Operations that write one slot of the frame and nothing in memory that was there. -/
import Derived.Test.YthgemanfbanhnaaDoorEngB
import Derived.Deep.MidRow
namespace Go.Eng
open Go.RowKit (Below)

/-- An operation that comes to what 'a' says, whatever memory looks like. -/
def Good (X : Ctx) (g : Nat → A) (o : Oper) (a : A) : Prop :=
  ∀ (tmps : Array Value) (ds : List Deferred) (w : World) (c : Nat → Cnt), X.G w → Frm X.N w g tmps c → ∀ (next : Act → World → Prop) (Q : Exit → Act → World → Prop),
    (∀ v w', Below w.heap.size w w' → (∃ cd, ARep w' (fun b => (∀ j, c j b = 0) ∧ cd b = 0) g tmps a v cd ∧ (∀ b, 0 < cd b → w.heap.size ≤ b) ∧ ∀ b, cd b ≤ 1) → next ((⟨tmps, ds⟩ : Act).put o.dst v) w') →
    o.wp X.P ⟨tmps, ds⟩ w next Q

theorem wp_of_run {P : Program} {o : Oper} {a : Act} {w w' : World} {v : Value} (h : (execOp a.eval o).run P w = .ok (.value v) w') {next : Act → World → Prop} {Q : Exit → Act → World → Prop} (hn : next (a.put o.dst v) w') : o.wp P a w next Q := by
  unfold Oper.wp; rw [h]; exact hn

theorem Good.of_run {X : Ctx} {g : Nat → A} {o : Oper} {a : A}
    (h : ∀ tmps ds w c, X.G w → Frm X.N w g tmps c → ∃ v, (execOp (Act.eval ⟨tmps, ds⟩) o).run X.P w = .ok (.value v) w ∧ ARep w (fun b => ∀ j, c j b = 0) g tmps a v (fun _ => 0)) : Good X g o a := by
  intro tmps ds w c hG hf next Q hn
  obtain ⟨v, hv, hr⟩ := h tmps ds w c hG hf
  exact wp_of_run hv (hn v w (Below.refl _ _) ⟨fun _ => 0, by simpa using hr, fun b hb => absurd hb (by simp), fun b => by simp⟩)

theorem all_zero {w : World} {F : Nat → Prop} : ∀ {ts : List T} {xs : List Value} {c : Cnt}, ts.all T.flat = true → LRep w F ts xs c → ∀ b, c b = 0
  | [], _, _, _, h => by cases h; assumption
  | t :: ts, _, _, hf, h => by
    simp only [List.all_cons, Bool.and_eq_true] at hf
    cases h with
    | cons _ _ _ _ d1 d2 _ q1 q2 hc => intro b; rw [hc, q1.zero hf.1, all_zero hf.2 q2]

/-! ### Operands -/

/-- An operand, as an operation that does not take it away sees it. -/
def ev (X : Ctx) (g : Nat → A) : Operand → A
  | .tmp r => match g r with
    | .t (.own _ _ es) => .ref r none 0 es.length
    | .t (.box _ _) => .pref r none 0
    | .t (.tup cs) => if cs.all T.flat = true then .t (.tup cs) else .t .u
    | .ghost => .t .u
    | a => a
  | .const v => .t (.v v)
  | .global k => match X.gl k with
    | some cs => .sptr cs
    | none => .t .u
  | .func f => .t (.v (.func (.func f) #[] #[]))

theorem ev_rep {X : Ctx} {g : Nat → A} {tmps : Array Value} {ds : List Deferred} {w : World} {c : Nat → Cnt} (hG : X.G w) (hf : Frm X.N w g tmps c) (x : Operand) :
    ARep w (fun b => ∀ j, c j b = 0) g tmps (ev X g x) (Act.eval ⟨tmps, ds⟩ x) (fun _ => 0) := by
  cases x with
  | tmp r =>
    have h := hf.rep r
    show ARep w _ g tmps (ev X g (.tmp r)) (tmps.getD r undef) _
    generalize hx : tmps.getD r undef = x at h
    generalize hc : c r = cr at h
    simp only [ev]
    split
    · rename_i e sz es hg
      rw [hg] at h
      refine ⟨fun _ => rfl, _, e, sz, es, x, hg, by rw [hx]; exact ⟨rfl, rfl⟩, by omega, ?_⟩
      cases h with
      | ownnil => exact .inl ⟨rfl, rfl, rfl, rfl⟩
      | own _ _ _ b n cap cur c0 _ _ hn => exact .inr ⟨b, n, cap, 0, rfl, by rw [hn]; simp, Nat.zero_le _, fun _ => by simp⟩
    · rename_i e cs hg
      rw [hg] at h
      cases h with
      | box _ _ b cur c0 _ _ _ _ _ => exact ⟨fun _ => rfl, _, e, cs, b, hg, by rw [hx]; exact ⟨rfl, rfl⟩, Nat.zero_le _, rfl⟩
    · rename_i cs hg
      rw [hg] at h
      split
      · rename_i hall
        cases h with
        | tup _ _ _ hl => exact .tup _ _ _ (hl.count (fun b => (all_zero hall hl b).symm))
      · exact .u _ _ (fun _ => rfl)
    · exact .u _ _ (fun _ => rfl)
    · rename_i hA1 hA2 hA3 hA4
      generalize g r = a at *
      cases a with
      | t t =>
        have : t.flat = true := by cases t <;> first | rfl | exact absurd rfl (hA1 _ _ _) | exact absurd rfl (hA2 _ _) | exact absurd rfl (hA3 _)
        exact TRep.zeroed h this
      | ref => exact ⟨fun _ => rfl, h.2⟩
      | eptr => exact ⟨fun _ => rfl, h.2⟩
      | pref => exact ⟨fun _ => rfl, h.2⟩
      | sptr => exact ⟨fun _ => rfl, h.2⟩
      | ghost => exact absurd rfl hA4
      | opt q a => exact ⟨fun _ => rfl, fun hq => by have := h.2.1 hq; rw [show cr = (fun _ => 0) from funext h.1] at this; exact this, h.2.2⟩
  | const v => exact .v _ _ (fun _ => rfl)
  | func f => exact .v _ _ (fun _ => rfl)
  | global k =>
    simp only [ev]
    split
    · rename_i cs hk
      obtain ⟨h1, h2⟩ := X.hgl k cs hk
      have hNn : ∀ b, b < X.N → ∀ j, c j b = 0 := fun b hb j => by
        rcases Nat.eq_zero_or_pos (c j b) with e | e
        · exact e
        · have := hf.low j b e; omega
      obtain ⟨vals, h3, h4, h5⟩ := h2 w (fun b => ∀ j, c j b = 0) hG hNn
      refine ⟨fun _ => rfl, ⟨k, 0, none⟩, vals, rfl, rfl, hNn k h1, Nat.lt_of_lt_of_le h1 (X.hN w hG), fun j y hj => ?_, h4, h5⟩
      have hadd : (⟨k, 0, none⟩ : Addr).add j = ⟨k, j, none⟩ := by unfold Addr.add; split <;> simp_all
      rw [hadd]; exact h3 j y hj
    · exact .u _ _ (fun _ => rfl)

end Go.Eng
