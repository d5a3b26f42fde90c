/- Regions whose order the language leaves open. -/
import Derived.Test.YthgemanfbanhnaaDoorEngQ
import Derived.Orders
namespace Go.Eng
open Go.RowKit (Below)
set_option linter.unusedVariables false
set_option linter.unusedSimpArgs false
variable {X : Ctx} {n : Nat} {Z : List Nat} {Q : Exit → St → Prop} {st : St}

/-! ### hiding -/
/-- g' knows less than g; what it does not know belongs to slot n's ghost. -/
def Hid (n : Nat) (g' g : Nat → A) : Prop := g' n = .ghost ∧ g n = .ghost ∧ ∀ i, (g' i = g i ∧ ∀ r t, (g i).at = some r → g r = .t t → g' r = .t t) ∨ g' i = .t .u

theorem Frm.hide {N : Nat} {w : World} {g g' : Nat → A} {tmps : Array Value} {c : Nat → Cnt} (hf : Frm N w g tmps c) (h : Hid n g' g) : ∃ c', Frm N w g' tmps c' ∧ ∀ b, (∀ j, c' j b = 0) ↔ ∀ j, c j b = 0 := by
  obtain ⟨hn', hn, hl⟩ := h
  have : ∃ P : Nat → Bool, ∀ i, (P i = true → g' i = g i ∧ ∀ r t, (g i).at = some r → g r = .t t → g' r = .t t) ∧ (P i = false → g' i = .t .u) := by
    refine ⟨fun i => @decide (g' i = g i ∧ ∀ r t, (g i).at = some r → g r = .t t → g' r = .t t) (Classical.propDecidable _), fun i => ⟨fun e => ?_, fun e => ?_⟩⟩
    · simpa using e
    · simp only [decide_eq_false_iff_not] at e
      exact (hl i).resolve_left e
  obtain ⟨P, hP⟩ := this
  have hPn : P n = true := by
    cases h : P n with
    | true => rfl
    | false => have := (hP n).2 h; rw [hn'] at this; cases this
  have hgh : ∃ k : Nat → Nat, ∀ b, k b ≤ 1 ∧ (0 < k b ↔ ∃ j, (j = n ∨ P j = false) ∧ 0 < c j b) := by
    have hx : ∀ b, ∃ k : Nat, k ≤ 1 ∧ (0 < k ↔ ∃ j, (j = n ∨ P j = false) ∧ 0 < c j b) := fun b => by
      by_cases hc : ∃ j, (j = n ∨ P j = false) ∧ 0 < c j b
      · exact ⟨1, Nat.le_refl _, fun _ => hc, fun _ => by omega⟩
      · exact ⟨0, by omega, fun h => absurd h (by omega), fun h => absurd h hc⟩
    exact ⟨fun b => Classical.choose (hx b), fun b => Classical.choose_spec (hx b)⟩
  obtain ⟨k, hk⟩ := hgh
  have hk0 : ∀ b, (∀ j, c j b = 0) → k b = 0 := fun b hz => by
    rcases Nat.eq_zero_or_pos (k b) with e | e
    · exact e
    · obtain ⟨j, _, hj⟩ := (hk b).2.1 e; rw [hz j] at hj; omega
  have hF : ∀ b, (∀ j, c j b = 0) → ∀ j, (if j = n then k b else if P j = true then c j b else 0) = 0 := fun b hz j => by
    split
    · exact hk0 b hz
    · split
      · exact hz j
      · rfl
  refine ⟨fun i b => if i = n then k b else if P i = true then c i b else 0, ⟨fun i => ?_, fun i b => ?_, fun i j b hi hj => ?_, fun i b hi => ?_⟩, fun b => ⟨fun h j => ?_, fun h => hF b h⟩⟩
  · by_cases hin : i = n
    · subst hin
      rw [hn']
      intro b hb
      simp only [if_true] at hb
      obtain ⟨j, _, hj⟩ := (hk b).2.1 hb
      exact hf.lt j b hj
    cases hPi : P i with
    | false =>
      rw [(hP i).2 hPi]
      exact .u _ _ (fun b => by simp [hin])
    | true =>
      obtain ⟨e1, e2⟩ := (hP i).1 hPi
      simp only [if_neg hin, if_true]
      have hr := hf.rep i
      rw [e1]
      clear e1
      generalize g i = a at hr e2
      induction a with
      | opt q a ih => exact ⟨hr.1, fun hq => ih (hr.2.1 hq) e2, hr.2.2⟩
      | t t => exact TRep.mono (fun b _ hz => ⟨hF b hz, rfl⟩) (Nat.le_refl _) hr (fun _ _ => rfl)
      | ref r q off len => obtain ⟨hc, t0, e, sz, es, x0, k1, k2⟩ := hr; exact ⟨hc, t0, e, sz, es, x0, e2 r t0 rfl k1, k2⟩
      | eptr r q i j => obtain ⟨hc, t0, e, sz, es, b, n, cap, k1, k2⟩ := hr; exact ⟨hc, t0, e, sz, es, b, n, cap, e2 r t0 rfl k1, k2⟩
      | pref r q off => obtain ⟨hc, t0, e, cs, b, k1, k2⟩ := hr; exact ⟨hc, t0, e, cs, b, e2 r t0 rfl k1, k2⟩
      | sptr cs =>
        obtain ⟨hc, a, vals, h1, h2, h3, h4, h5, h6, h7⟩ := hr
        exact ⟨hc, a, vals, h1, h2, hF _ h3, h4, h5, h6.mono (fun b _ hz => ⟨hF b hz, rfl⟩) (Nat.le_refl _) (fun b hb => absurd hb (by simp)), h7⟩
      | ghost => exact hr
  · split
    · exact (hk b).1
    · split
      · exact hf.one i b
      · omega
  · have key : ∀ i, 0 < (if i = n then k b else if P i = true then c i b else 0) → (i = n ∧ ∃ j, (j = n ∨ P j = false) ∧ 0 < c j b) ∨ (i ≠ n ∧ P i = true ∧ 0 < c i b) := fun i h => by
      split at h
      · rename_i e; exact .inl ⟨e, (hk b).2.1 h⟩
      · rename_i e
        split at h
        · rename_i e2; exact .inr ⟨e, e2, h⟩
        · omega
    rcases key i hi with ⟨i1, i2, i3, i4⟩ | ⟨i1, i2, i3⟩ <;> rcases key j hj with ⟨j1, j2, j3, j4⟩ | ⟨j1, j2, j3⟩
    · rw [i1, j1]
    · have := hf.uniq i2 j b i4 j3
      subst this
      rcases i3 with e | e
      · exact absurd e j1
      · rw [j2] at e; cases e
    · have := hf.uniq i j2 b i3 j4
      subst this
      rcases j3 with e | e
      · exact absurd e i1
      · rw [i2] at e; cases e
    · exact hf.uniq i j b i3 j3
  · split at hi
    · obtain ⟨j, _, hj⟩ := (hk b).2.1 hi; exact hf.low j b hj
    · split at hi
      · exact hf.low i b hi
      · omega
  · have hj := h j
    simp only at hj
    split at hj
    · rename_i e
      rcases Nat.eq_zero_or_pos (c j b) with e2 | e2
      · exact e2
      · have := (hk b).2.2 ⟨j, .inl e, e2⟩; omega
    · rename_i e
      split at hj
      · exact hj
      · rename_i e3
        rcases Nat.eq_zero_or_pos (c j b) with e2 | e2
        · exact e2
        · have h1 := (hk b).2.2 ⟨j, .inr (by simpa using e3), e2⟩
          have h2 := h n
          simp only [if_true] at h2
          omega

/-- One operation of a region, if its guard wants it: what its slot holds behind it. -/
def LG (X : Ctx) (all : List Oper) (g : Nat → A) (o : Oper) (a : A) : Prop :=
  ∀ (tmps : Array Value) (ds : List Deferred) (w : World) (c : Nat → Cnt), X.G w → Frm X.N w g tmps c → ∀ (next : Act → World → Prop) (Q : Exit → Act → World → Prop),
    (∀ v w', Below w.heap.size w w' → (∃ cd, ARep w' (fun b => (∀ j, c j b = 0) ∧ cd b = 0) g tmps a v cd ∧ (∀ b, 0 < cd b → w.heap.size ≤ b) ∧ ∀ b, cd b ≤ 1) → next ((⟨tmps, ds⟩ : Act).put o.dst v) w') →
    if Region.wanted o (yielded all.toArray tmps) then o.wp X.P ⟨tmps, ds⟩ w next Q else next ((⟨tmps, ds⟩ : Act).put o.dst undef) w

theorem LG.hide {all : List Oper} {g g' : Nat → A} {o : Oper} {a : A} (h : LG X all g' o a) (hh : Hid n g' g) : LG X all g o a := by
  intro tmps ds w c hG hf next Q hn
  obtain ⟨c', hf', hc'⟩ := hf.hide hh
  refine h tmps ds w c' hG hf' next Q (fun v w' hw ⟨cd, h1, h2, h3⟩ => hn v w' hw ⟨cd, ?_, h2, h3⟩)
  refine ARep.mono h1 (fun b _ hb => ⟨⟨(hc' b).1 hb.1, hb.2⟩, rfl⟩) (Nat.le_refl _) (fun _ _ => rfl) (fun r t hr ho => ?_)
  have hgr : g r = .t t := by
    rcases hh.2.2 r with e | e
    · rw [← e.1]; exact hr
    · rw [hr] at e; cases e; cases ho
  refine ⟨hgr, rfl, fun b => ∀ j, c j b = 0, c r, ?_, fun _ _ => rfl⟩
  have := hf.rep r
  rw [hgr] at this
  exact TRep.mono (fun b hb hf => ⟨hf, hw.block b hb⟩) hw.size this (fun b hb => hw.block b (hf.lt r b hb))

def g1C (X : Ctx) (n : Nat) (all : List Oper) (st : St) (o : Oper) (K : A → Prop) : Prop :=
  match o.guard with
  | none => locC X (stG n st) True o fun a => a ≠ .ghost ∧ K a
  | some (j, want) => match guardA (stG n st) all j want with
    | some b => locC X (stG n st) (b = true) o fun a => a.plain = true ∧ K (.opt b a)
    | none => False

theorem g1C_sound {all : List Oper} {o : Oper} {K : A → Prop} (h : g1C X n all st o K) : ∃ a, a ≠ .ghost ∧ LG X all (stG n st) o a ∧ K a := by
  unfold g1C at h
  split at h
  · rename_i hg
    obtain ⟨a, h1, h2, h3⟩ := locC_sound h
    refine ⟨a, h2, fun tmps ds w c hG hf next Q hn => ?_, h3⟩
    rw [if_pos (by simp [Region.wanted, hg])]
    exact h1 trivial tmps ds w c hG hf next Q hn
  · rename_i j want hg
    split at h
    · rename_i b hb
      obtain ⟨a, h1, hpl, h2⟩ := locC_sound h
      refine ⟨_, (fun e => by cases e), fun tmps ds w c hG hf next Q hn => ?_, h2⟩
      have hy := yielded_of (n := n) hf hb
      have hwant : Region.wanted o (yielded all.toArray tmps) = b := by simp only [Region.wanted, hg]; exact hy
      rw [hwant]
      cases b with
      | true =>
        simp only [if_true]
        refine h1 rfl tmps ds w c hG hf next Q (fun v w' hw hr => hn v w' hw ?_)
        obtain ⟨cd, r1, r2, r3⟩ := hr
        exact ⟨cd, ⟨A.plain_zero r1 hpl, fun _ => r1, fun h => by cases h⟩, r2, r3⟩
      | false =>
        simp only [Bool.false_eq_true, if_false]
        exact hn _ _ (Below.refl _ _) ⟨fun _ => 0, ⟨fun _ => rfl, (fun h => by cases h), fun _ => rfl⟩, fun b hb => absurd hb (by simp), fun _ => Nat.zero_le _⟩
    · exact h.elim

end Go.Eng
