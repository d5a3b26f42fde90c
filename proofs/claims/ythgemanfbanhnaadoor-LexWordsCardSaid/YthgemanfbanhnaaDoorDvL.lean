/- Code, results, loops, in typed trees. -/
import Derived.Test.YthgemanfbanhnaaDoorDvK
import Derived.Control
namespace Go.Eng
open Go.RowKit (Below)
set_option linter.unusedVariables false
set_option linter.unusedSimpArgs false

/-! ### rounds without a number -/
section
variable {L R : Type}
def iterN (step : L → Option (L ⊕ R)) : Nat → L → Option R
  | 0, _ => none
  | k + 1, l => match step l with
    | some (.inl l') => iterN step k l'
    | some (.inr r) => some r
    | none => none
theorem iterN_mono {step : L → Option (L ⊕ R)} : ∀ {k : Nat} {l : L} {r : R}, iterN step k l = some r → ∀ {j : Nat}, k ≤ j → iterN step j l = some r
  | 0, _, _, h, _, _ => by cases h
  | k + 1, l, r, h, j, hj => by
    obtain ⟨j, rfl⟩ : ∃ m, j = m + 1 := ⟨j - 1, by omega⟩
    simp only [iterN] at h ⊢
    split at h
    · exact iterN_mono h (by omega)
    · exact h
    · cases h
open Classical in
noncomputable def iter (step : L → Option (L ⊕ R)) (l : L) : Option R := if h : ∃ k r, iterN step k l = some r then some (Classical.choose (Classical.choose_spec h)) else none
theorem iter_of {step : L → Option (L ⊕ R)} {k : Nat} {l : L} {r : R} (h : iterN step k l = some r) : iter step l = some r := by
  have hx : ∃ k r, iterN step k l = some r := ⟨k, r, h⟩
  unfold iter
  rw [dif_pos hx]
  have h2 := Classical.choose_spec (Classical.choose_spec hx)
  have h3 := iterN_mono h2 (Nat.le_max_left _ k)
  have h4 := iterN_mono h (Nat.le_max_right (Classical.choose hx) k)
  rw [h3] at h4; exact h4
theorem iter_some {step : L → Option (L ⊕ R)} {l : L} {r : R} (h : iter step l = some r) : ∃ k, iterN step k l = some r := by
  unfold iter at h
  split at h
  · rename_i hx
    cases h
    exact ⟨_, Classical.choose_spec (Classical.choose_spec hx)⟩
  · cases h
/-- One round. -/
def again (step : L → Option (L ⊕ R)) (k : L → Option R) (l : L) : Option R := match step l with
  | some (.inl l') => k l'
  | some (.inr r) => some r
  | none => none
theorem iter_eq (step : L → Option (L ⊕ R)) (l : L) : iter step l = again step (iter step) l := by
  unfold again
  cases h : step l with
  | none =>
    simp only
    cases hi : iter step l with
    | none => rfl
    | some r =>
      obtain ⟨k, hk⟩ := iter_some hi
      cases k with
      | zero => cases hk
      | succ k => simp only [iterN, h] at hk; cases hk
  | some x =>
    cases x with
    | inr r => exact iter_of (k := 1) (by simp only [iterN, h])
    | inl l' =>
      simp only
      cases hi : iter step l' with
      | some r =>
        obtain ⟨k, hk⟩ := iter_some hi
        exact iter_of (k := k + 1) (by simp only [iterN, h]; exact hk)
      | none =>
        cases hi2 : iter step l with
        | none => rfl
        | some r =>
          obtain ⟨k, hk⟩ := iter_some hi2
          cases k with
          | zero => cases hk
          | succ k =>
            simp only [iterN, h] at hk
            rw [iter_of hk] at hi; cases hi
/-- From a start. -/
noncomputable def runL (step : L → Option (L ⊕ R)) (e : Option (L ⊕ R)) : Option R := match e with
  | some (.inl l) => iter step l
  | some (.inr r) => some r
  | none => none
theorem runL_some {step : L → Option (L ⊕ R)} {e : Option (L ⊕ R)} {r : R} (h : runL step e = some r) : ∃ x, e = some x ∧ ((∃ l, x = .inl l ∧ iter step l = some r) ∨ x = .inr r) := by
  unfold runL at h
  split at h
  · exact ⟨_, rfl, .inl ⟨_, rfl, h⟩⟩
  · cases h; exact ⟨_, rfl, .inr rfl⟩
  · cases h
theorem iter_eq' (step : L → Option (L ⊕ R)) (l : L) : iter step l = runL step (step l) := by
  rw [iter_eq]; unfold again runL
  cases step l with
  | none => rfl
  | some x => cases x <;> rfl
end

/-! ### a loop, seen from inside -/
def Code.wpL (P : Program) (c : Code) (Q : Exit → Act → World → Prop) (a : Act) (w : World) : Prop :=
  ∀ (b : Frame) (k : List Item) (cs : List Frame), ∃ e a' w', Q e a' w' ∧ Arrives P (lone (b.at a (.code c :: .inLoop c :: k)) cs w) b k cs e a' w'
theorem wpL_of {P : Program} {c : Code} {Q : Exit → Act → World → Prop} {a : Act} {w : World} (h : c.wp P (Exit.then (Code.wpL P c Q) Q) a w) : Code.wpL P c Q a w := by
  intro b k cs
  obtain ⟨e, a₁, w₁, hq, harr⟩ := h b (.inLoop c :: k) cs
  cases e with
  | normal =>
    obtain ⟨e₂, a₂, w₂, hq₂, harr₂⟩ := hq b k cs
    exact ⟨e₂, a₂, w₂, hq₂, .of_steps (Steps.trans harr (.one step_inLoop)) harr₂⟩
  | exit id => exact ⟨_, a₁, w₁, hq, .pass (x := .inLoop c) rfl (fun _ _ => .inl (by simp)) harr⟩
  | goto l => exact ⟨_, a₁, w₁, hq, .pass (x := .inLoop c) rfl (fun _ _ => .inl (by simp)) harr⟩
  | ret => exact ⟨_, a₁, w₁, hq, .pass (x := .inLoop c) rfl (fun _ _ => .inl (by simp)) harr⟩
  | panic ch => exact ⟨_, a₁, w₁, hq, .pass (x := .inLoop c) rfl (fun _ _ => .inl (by simp)) harr⟩
  | outgrown => exact ⟨_, a₁, w₁, hq, .pass (x := .inLoop c) rfl (fun _ _ => .inl (by simp)) harr⟩
theorem wp_loop_of {P : Program} {c : Code} {Q : Exit → Act → World → Prop} {a : Act} {w : World} (h : Code.wpL P c Q a w) : (Code.loop c).wp P Q a w := by
  intro b k cs
  obtain ⟨e, a', w', hq, harr⟩ := h b k cs
  exact ⟨e, a', w', hq, .of_steps (.one step_loop) harr⟩

section
variable {X : Ctx} {n : Nat} {Z : List Nat} {Q : Exit → St → Prop} {st : St}
def AWL (X : Ctx) (n : Nat) (Z : List Nat) (c : Code) (st : St) (Q : Exit → St → Prop) : Prop :=
  ∀ (D : Nat → Prop) (gc : Cnt) (v0 : Nat → Value) (w0 : World) (tmps : Array Value) (w : World), Inv X n Z D gc v0 w0 (stG n st) tmps w →
    Code.wpL X.P c (fun ex a' w' => a'.defers = [] ∧ ∃ st', Q ex st' ∧ Inv X n Z D gc v0 w0 (stG n st') a'.tmps w') ⟨tmps, []⟩ w
def loopQ (X : Ctx) (n : Nat) (Z : List Nat) (c : Code) (Q : Exit → St → Prop) : Exit → St → Prop
  | .normal, s => AWL X n Z c s Q
  | e, s => Q e s
theorem AWL_of {c : Code} (h : AW X n Z c st (loopQ X n Z c Q)) : AWL X n Z c st Q := by
  intro D gc v0 w0 tmps w hI
  refine wpL_of (wp_mono (h D gc v0 w0 tmps w hI) ?_)
  rintro ex ⟨tm, df⟩ w' ⟨h1, s, h2, h3⟩
  simp only at h1; subst h1
  cases ex with
  | normal => exact h2 D gc v0 w0 tm w' h3
  | _ => exact ⟨rfl, s, h2, h3⟩
theorem AW_loopL {c : Code} (h : AWL X n Z c st Q) : AW X n Z (.loop c) st Q := fun D gc v0 w0 tmps w hI => wp_loop_of (h D gc v0 w0 tmps w hI)

/-- Another state may be told of the same memory. -/
def GhostTo (X : Ctx) (n : Nat) (Z : List Nat) (s s' : St) : Prop := ∀ (D : Nat → Prop) (gc : Cnt) (v0 : Nat → Value) (w0 : World) (tmps : Array Value) (w : World), Inv X n Z D gc v0 w0 (stG n s) tmps w → Inv X n Z D gc v0 w0 (stG n s') tmps w
theorem GhostTo.refl {s : St} : GhostTo X n Z s s := fun _ _ _ _ _ _ h => h
theorem GhostTo.trans {s t u : St} (h : GhostTo X n Z s t) (k : GhostTo X n Z t u) : GhostTo X n Z s u := fun D gc v0 w0 tmps w hI => k D gc v0 w0 tmps w (h D gc v0 w0 tmps w hI)
theorem AW.from {c : Code} {t : St} (hg : GhostTo X n Z st t) (h : AW X n Z c t Q) : AW X n Z c st Q := fun D gc v0 w0 tmps w hI => h D gc v0 w0 tmps w (hg D gc v0 w0 tmps w hI)
theorem AW.to {c : Code} (h : AW X n Z c st (fun ex s => ∃ s', GhostTo X n Z s s' ∧ Q ex s')) : AW X n Z c st Q := fun D gc v0 w0 tmps w hI =>
  wp_mono (h D gc v0 w0 tmps w hI) (fun ex a w ⟨h1, s, ⟨s', h2, h3⟩, h4⟩ => ⟨h1, s', h3, h2 D gc v0 w0 _ w h4⟩)
end

/-! ### sharing, forgetting -/
def shareDA (r : Nat) (t : Ty) (l : List t.I) : DA → DA
  | .ref r' q off len v => match Nat.beq r' r with
    | true => match q with
      | none => .t (.s (.sl t.sz t) (vwL l off len v))
      | some _ => .t .u
    | false => .ref r' q off len v
  | .eptr r' q i j => match Nat.beq r' r with
    | true => .t .u
    | false => .eptr r' q i j
  | .pref r' q off => match Nat.beq r' r with
    | true => .t .u
    | false => .pref r' q off
  | a => a
def noOpt : DSt → Bool
  | [] => true
  | (_, .opt _ _ _ _) :: _ => false
  | _ :: r => noOpt r
/-- Without what stands under guards. -/
def badD (st : DSt) : DA → Bool
  | .opt _ _ _ _ => true
  | _ => false
def cleanGo (st0 : DSt) : DSt → DSt
  | [] => []
  | (k, a) :: r => (k, match badD st0 a with
    | true => .t .u
    | false => a) :: cleanGo st0 r
def cleanD (st : DSt) : DSt := cleanGo st st
def shareDS (st : DSt) (r : Nat) : Option DSt := match st.find r with
  | some (.t (.own _ t l)) => some ((st.mapA (shareDA r t l)).put r (.t (.s (.sl t.sz t) l)))
  | _ => none
def sharesD : List Nat → DSt → Option DSt
  | [], st => some st
  | r :: rs, st => match noOpt st, shareDS st r with
    | true, some st' => sharesD rs st'
    | _, _ => none
def keepD (n : Nat) (sl : List Nat) (st : DSt) : List Nat → Option DSt
  | [] => some []
  | k :: ks => match st.find k with
    | some a => match Nat.blt k n && !a.isOpt && (match a with
      | .ref r _ _ _ _ => memN sl r
      | .eptr r _ _ _ => memN sl r
      | .pref r _ _ => memN sl r
      | _ => true) with
      | true => match keepD n sl st ks with
        | some st' => some ((k, a) :: st')
        | none => none
      | false => none
    | none => none
def pruneD (n : Nat) (sl : List Nat) (st : DSt) : Option DSt := match st.find n with
  | none => keepD n sl st sl
  | some _ => none

/-! ### results -/
def retDS (n : Nat) (Z : List Nat) : List Nat → List Bool → DSt → Option DSt
  | [], _, st => some st
  | r :: rs, fz, st => match st.find r, fz.headD false with
    | some (.t (.own _ _ _)), true => match shareDS st r with
      | some st' => retDS n Z rs fz.tail st'
      | none => none
    | some (.t (.tup _)), _ => none
    | some (.t _), _ => retDS n Z rs fz.tail st
    | some (.ref s none _ _ _), true => match shareDS st s with
      | some st' => retDS n Z rs fz.tail st'
      | none => none
    | some (.ref s none _ _ .all), false => match st.find s with
      | some (.t (.own e t l)) => match dstD n Z st r && !Nat.beq r s with
        | true => retDS n Z rs fz.tail (moveDS st s r (.own e t l))
        | false => none
      | _ => none
    | _, _ => none
def resultsD (st : DSt) : List Nat → Option (List DT)
  | [] => some []
  | r :: rs => match st.find r, resultsD st rs with
    | some (.t (.tup _)), _ => none
    | some (.t x), some xs => some (x :: xs)
    | _, _ => none
def keysOk (n : Nat) : DSt → Bool
  | [] => true
  | (k, _) :: r => Nat.blt k n && keysOk n r

/-! ### the machine -/
inductive Fr where
  | seq (b : Code)
  | block (id : Nat)
  | loop (c : Code)
inductive Tk where
  | code (c : Code) (fs : List Fr)
  | norm (fs : List Fr)
  | exit (id : Nat) (fs : List Fr)

structure FnD where
  n : Nat
  rs : List Nat
  fz : List Bool := []
  labels : List (Nat × List Nat) := []
  shares : List (Nat × List Nat) := []

section
variable {ρ : Type}
def retD (F : FnD) (ret : List DT → Option ρ) (st : DSt) : Option ρ := match noOpt (cleanD st) && keysOk F.n (cleanD st) with
  | true => match retDS F.n [] F.rs F.fz (cleanD st) with
    | some st' => match resultsD st' F.rs with
      | some xs => ret xs
      | none => none
    | none => none
  | false => none
def regionF (Y : DX) (E : Env) (F : FnD) (id : Nat) (ops : Array Oper) (op : Bool) (st : DSt) (K : DSt → Option ρ) : Option ρ := match look F.shares id with
  | none => regionD Y F.n [] E ops op st K
  | some sl => match sharesD sl (cleanD st) with
    | some st' => regionD Y F.n [] E ops op st' K
    | none => none
def runD (Y : DX) (E : Env) (F : FnD) (goto : Nat → DSt → Option ρ) (ret : List DT → Option ρ) : Nat → Tk → DSt → Option ρ
  | 0, _, _ => none
  | fuel + 1, .code c fs, st => match c with
    | .skip => runD Y E F goto ret fuel (.norm fs) st
    | .exit id => runD Y E F goto ret fuel (.exit id fs) st
    | .ret => retD F ret st
    | .region id ops op => match look F.labels id with
      | some sl => match pruneD F.n sl st with
        | some st' => goto id st'
        | none => none
      | none => regionF Y E F id ops op st fun st' => runD Y E F goto ret fuel (.norm fs) st'
    | .seq a b => runD Y E F goto ret fuel (.code a (.seq b :: fs)) st
    | .block id c => runD Y E F goto ret fuel (.code c (.block id :: fs)) st
    | .loop c => runD Y E F goto ret fuel (.code c (.loop c :: fs)) st
    | .cond x a b => match rdD Y none st x with
      | some (.t (.s .bool t)) => if t = true then runD Y E F goto ret fuel (.code a fs) st else runD Y E F goto ret fuel (.code b fs) st
      | _ => none
    | _ => none
  | fuel + 1, .norm fs, st => match fs with
    | [] => retD F ret st
    | .seq b :: fs => runD Y E F goto ret fuel (.code b fs) st
    | .block _ :: fs => runD Y E F goto ret fuel (.norm fs) st
    | .loop c :: fs => runD Y E F goto ret fuel (.code c (.loop c :: fs)) st
  | fuel + 1, .exit id fs, st => match fs with
    | [] => none
    | .block j :: fs => match Nat.beq id j with
      | true => runD Y E F goto ret fuel (.norm fs) st
      | false => runD Y E F goto ret fuel (.exit id fs) st
    | _ :: fs => runD Y E F goto ret fuel (.exit id fs) st

def subsC : Code → List Fr → List (Nat × List Fr × Array Oper × Bool)
  | .region id ops op, fs => [(id, fs, ops, op)]
  | .seq a b, fs => subsC a (.seq b :: fs) ++ subsC b fs
  | .block id c, fs => subsC c (.block id :: fs)
  | .loop c, fs => subsC c (.loop c :: fs)
  | .cond _ a b, fs => subsC a fs ++ subsC b fs
  | _, _ => []
/-- From a label on. -/
def segD (Y : DX) (E : Env) (F : FnD) (body : Code) (fuel : Nat) (id : Nat) (st : DSt) (goto : Nat → DSt → Option ρ) (ret : List DT → Option ρ) : Option ρ := match look (subsC body []) id with
  | some (fs, ops, op) => regionF Y E F id ops op st fun st' => runD Y E F goto ret fuel (.norm fs) st'
  | none => none
end
def entryD : Nat → List DT → DSt
  | _, [] => []
  | k, x :: xs => (k, .t x) :: entryD (k + 1) xs
end Go.Eng
