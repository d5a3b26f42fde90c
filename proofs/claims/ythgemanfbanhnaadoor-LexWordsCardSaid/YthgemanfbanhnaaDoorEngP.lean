/- The abstract state as a list; regions, code, loops. -/
import Derived.Test.YthgemanfbanhnaaDoorEngO
import Derived.Deep.LoopGhost
namespace Go.Eng
open Go.RowKit (Below)
set_option linter.unusedVariables false
set_option linter.unusedSimpArgs false
variable {X : Ctx}

/-! ### the state -/
abbrev St := List (Nat × A)
def St.find : St → Nat → Option A
  | [], _ => none
  | (k, a) :: r, i => if i = k then some a else St.find r i
def St.put : St → Nat → A → St
  | [], d, a => [(d, a)]
  | (k, x) :: r, d, a => if d = k then (k, a) :: r else (k, x) :: St.put r d a
def St.mapA (f : A → A) : St → St
  | [] => []
  | (k, a) :: r => (k, f a) :: St.mapA f r
/-- What stands in slot i (n: how many slots there are). -/
def stG (n : Nat) (st : St) (i : Nat) : A :=
  match st.find i with
  | some a => a
  | none => if i = n then .ghost else .t .u

theorem find_put (st : St) (d : Nat) (a : A) (i : Nat) : (st.put d a).find i = if i = d then some a else st.find i := by
  induction st with
  | nil => simp only [St.put, St.find]
  | cons p r ih =>
    obtain ⟨k, x⟩ := p
    simp only [St.put]
    by_cases h : d = k
    · subst h
      rw [if_pos rfl]
      simp only [St.find]
      split <;> rfl
    · rw [if_neg h]
      simp only [St.find, ih]
      by_cases h1 : i = k
      · subst h1; rw [if_pos rfl, if_neg (fun e => h e.symm), if_pos rfl]
      · rw [if_neg h1, if_neg h1]
theorem stG_put (n : Nat) (st : St) (d : Nat) (a : A) : stG n (st.put d a) = upd (stG n st) d a := by
  funext i
  unfold stG upd
  rw [find_put]
  by_cases h : i = d
  · rw [if_pos h, if_pos h]
  · rw [if_neg h, if_neg h]
theorem stG_mapA (n : Nat) (st : St) (f : A → A) (h1 : f (.t .u) = .t .u) (h2 : f .ghost = .ghost) : stG n (st.mapA f) = fun i => f (stG n st i) := by
  funext i
  unfold stG
  have : (st.mapA f).find i = (st.find i).map f := by
    induction st with
    | nil => rfl
    | cons p r ih =>
      obtain ⟨k, x⟩ := p
      simp only [St.mapA, St.find]
      split
      · rfl
      · exact ih
  rw [this]
  cases st.find i with
  | some a => rfl
  | none => simp only [Option.map_none]; split <;> simp [h1, h2]

/-! ### one operation, of whichever kind -/
def dstOk (n : Nat) (Z : List Nat) (st : St) (d : Nat) : Prop := d < n ∧ d ∉ Z ∧ (stG n st d).owner = false

def localC (X : Ctx) (n : Nat) (Z : List Nat) (st : St) (o : Oper) (K : St → Prop) : Prop :=
  locC X (stG n st) True o fun a => a ≠ .ghost ∧ match o.dst with
    | some d => dstOk n Z st d ∧ K (st.put d a)
    | none => K st

def moveSt (st : St) (s d : Nat) (t : T) : St := ((st.mapA (redir s d)).put s (aliasT d t)).put d (.t t)
def turnSt (st : St) (r : Nat) (p : Option Nat) (t0 t' : T) : St := (st.mapA (killA r p)).put r (.t (putT t0 p t'))

def moveC (X : Ctx) (n : Nat) (Z : List Nat) (st : St) (o : Oper) (s : Nat) (t : T) (K : St → Prop) : Prop :=
  match o.dst with
  | some d => dstOk n Z st d ∧ d ≠ s ∧ K (moveSt st s d t)
  | none => False

def opC (X : Ctx) (n : Nat) (Z : List Nat) (st : St) (o : Oper) (K : St → Prop) : Prop :=
  match o.op with
  | .assign (.tmp s) => match stG n st s with
    | .t (.own e sz es) => moveC X n Z st o s (.own e sz es) K
    | .t (.box e cs) => moveC X n Z st o s (.box e cs) K
    | _ => localC X n Z st o K
  | .extract (.tmp r) i => match stG n st r with
    | .t (.tup cs) => match cs[i]? with
      | some t => if t.flat then localC X n Z st o K else match o.dst with
        | some d => dstOk n Z st d ∧ d ≠ r ∧ K ((st.put r (.t (.tup (cs.set i .u)))).put d (.t t))
        | none => False
      | none => False
    | _ => False
  | .call { callee := .builtin .append, args := ⟨[x, y]⟩, argTypes := ⟨[t, u]⟩ } => match o.dst, rd X (stG n st) x with
    | some d, .ref r p 0 k => match stG n st r, root (stG n st) r p with
      | .t t0, some (.own e sz es) => (rdp X (stG n st) x ∧ rdp X (stG n st) y ∧ dstOk n Z st d ∧ d ≠ r) ∧ match rd X (stG n st) y with
        | .t (.v (.string s)) => (sz = 1 ∧ sliOf X.P t = some (e, 1, 1, .int .u8 0) ∧ X.P.underlying u = some .string ∧ k + (bl s).length ≤ 140737488355328) ∧ K ((turnSt st r p t0 .u).put d (.t (.own e 1 (es.take k ++ (bl s).map encB))))
        | ya => match elemsA (stG n st) ya, sliOf X.P t with
          | some news, some (e', sz', b, z) => (u = t ∧ e' = e ∧ sz' = sz ∧ z.cells.size = sz ∧ 0 < sz ∧ (∀ t ∈ news, t.cells.length = sz) ∧ sizA (stG n st) sz ya ∧ (news.flatMap T.cells).all T.flat = true ∧ k + news.length ≤ 9223372036854775807 ∧ (k + news.length) * b ≤ 140737488355328) ∧
              K ((turnSt st r p t0 .u).put d (.t (.own e sz (es.take k ++ news))))
          | _, _ => False
      | _, _ => False
    | _, _ => False
  | .store t a v => match o.dst, rd X (stG n st) a, rd X (stG n st) v, tyRow X.P t with
    | none, .pref r none off, .t tv, some (_, m) => match stG n st r with
      | .t (.box e cs) => (rdp X (stG n st) a ∧ rdp X (stG n st) v ∧ tv.solid = true ∧ tv.cells.length = m ∧ off + m ≤ cs.length ∧ ((cs.drop off).take m).all T.flat = true) ∧ K (st.put r (.t (.box e (placeT cs off tv.cells))))
      | _ => False
    | none, .eptr r none i j, .t tv, some (_, m) => match stG n st r with
      | .t (.own e sz es) => ∃ el, (rdp X (stG n st) a ∧ rdp X (stG n st) v ∧ tv.solid = true ∧ tv.cells.length = m ∧ es[i]? = some el ∧ j + m ≤ sz ∧ ((el.cells.drop j).take m).all T.flat = true ∧ (elemPut el j tv.cells).cells = placeT el.cells j tv.cells) ∧
          K (st.put r (.t (.own e sz (es.set i (elemPut el j tv.cells)))))
      | _ => False
    | _, _, _, _ => False
  | _ => localC X n Z st o K

theorem localC_sound {n : Nat} {Z : List Nat} {st : St} {o : Oper} {K : St → Prop} (h : localC X n Z st o K) : ∃ st', Step X n Z (stG n st) o (stG n st') ∧ K st' := by
  obtain ⟨a, h1, hag, h2⟩ := locC_sound h
  split at h2
  · rename_i d hd
    exact ⟨_, by rw [stG_put]; exact (h1 trivial).step hag hd ⟨h2.1.1, h2.1.2.1⟩ h2.1.2.2, h2.2⟩
  · rename_i hd
    exact ⟨st, (h1 trivial).step0 hd, h2⟩

theorem stG_moveSt (n : Nat) (st : St) (s d : Nat) (t : T) : stG n (moveSt st s d t) = moved (stG n st) s d t := by
  unfold moveSt moved
  rw [stG_put, stG_put, stG_mapA n st _ rfl rfl]
theorem stG_turnSt (n : Nat) (st : St) (r : Nat) (p : Option Nat) (t0 t' : T) : stG n (turnSt st r p t0 t') = turned (stG n st) r p t0 t' := by
  unfold turnSt turned turnedK
  rw [stG_put, stG_mapA n st _ rfl rfl]

theorem moveC_sound {n : Nat} {Z : List Nat} {st : St} {o : Oper} {s : Nat} {t : T} {K : St → Prop} (ho : o.op = .assign (.tmp s)) (hg : stG n st s = .t t) (hown : A.owner (.t t) = true) (h : moveC X n Z st o s t K) : ∃ st', Step X n Z (stG n st) o (stG n st') ∧ K st' := by
  unfold moveC at h
  split at h
  · rename_i d hd
    exact ⟨_, by rw [stG_moveSt]; exact step_move ho hd ⟨h.1.1, h.1.2.1⟩ h.2.1 h.1.2.2 hg hown, h.2.2⟩
  · exact h.elim

theorem opC_sound {n : Nat} {Z : List Nat} {st : St} {o : Oper} {K : St → Prop} (h : opC X n Z st o K) : ∃ st', Step X n Z (stG n st) o (stG n st') ∧ K st' := by
  unfold opC at h
  split at h
  · rename_i s ho
    split at h
    · rename_i e sz es hg; exact moveC_sound ho hg rfl h
    · rename_i e cs hg; exact moveC_sound ho hg rfl h
    · exact localC_sound h
  · rename_i r i ho
    split at h
    · rename_i cs hg
      split at h
      · rename_i t ht
        split at h
        · exact localC_sound h
        · split at h
          · rename_i d hd
            exact ⟨_, by rw [stG_put, stG_put]; exact step_extract ho hd ⟨h.1.1, h.1.2.1⟩ h.2.1 h.1.2.2 hg ht, h.2.2⟩
          · exact h.elim
      · exact h.elim
    · exact h.elim
  · rename_i x y t u ho
    split at h
    · rename_i d r p k hd hx
      split at h
      · rename_i t0 e sz es hg hrt
        obtain ⟨⟨e1, e2, e3, e4⟩, h⟩ := h
        split at h
        · rename_i s hy
          obtain ⟨⟨q1, q2, q3, q4⟩, h⟩ := h
          subst q1
          exact ⟨_, by rw [stG_put, stG_turnSt]; exact step_append_str (by_ := 1) (z := .int .u8 0) ho hd ⟨e3.1, e3.2.1⟩ e4 e3.2.2 e1 e2 hx hg hrt hy q2 q3 q4, h⟩
        · split at h
          · rename_i news e' sz' b z hn ht
            obtain ⟨⟨rfl, rfl, rfl, q3, q4, q5, q6, q7, q8, q9⟩, h⟩ := h
            exact ⟨_, by rw [stG_put, stG_turnSt]; exact step_append ho hd ⟨e3.1, e3.2.1⟩ e4 e3.2.2 e1 e2 hx hg hrt hn ht q3 q4 q5 q6 q7 q8 q9, h⟩
          · exact h.elim
      · exact h.elim
    · exact h.elim
  · rename_i t a v ho
    split at h
    · rename_i r off tv rw_ m hd ha hv ht
      split at h
      · rename_i e cs hg
        obtain ⟨⟨q1, q2, q3, q4, q5, q6⟩, h⟩ := h
        exact ⟨_, by rw [stG_put]; exact step_store_box ho hd q1 q2 ha hg hv q3 ht q4 q5 q6, h⟩
      · exact h.elim
    · rename_i r i j tv rw_ m hd ha hv ht
      split at h
      · rename_i e sz es hg
        obtain ⟨el, ⟨q1, q2, q3, q4, q5, q6, q7, q8⟩, h⟩ := h
        exact ⟨_, by rw [stG_put]; exact step_store_elem ho hd q1 q2 ha hg hv q3 ht q4 q5 q6 q7 q8, h⟩
      · exact h.elim
    · exact h.elim
  · exact localC_sound h


/-! ### guards -/
/-- What a guard says: the Bool in the slot of operation j. -/
def guardA (g : Nat → A) (all : List Oper) (j : Nat) (want : Bool) : Option Bool :=
  match all[j]? with
  | some o' => match o'.dst with
    | some d => match g d with
      | .t (.v (.bool b)) => some (b == want)
      | .opt c (.t (.v (.bool b))) => some (c && (b == want))
      | _ => none
    | none => none
  | none => none

/-- What a guarded operation may come to. -/
def A.plain : A → Bool
  | .t x => x.flat
  | .ref _ _ _ _ | .eptr _ _ _ _ | .pref _ _ _ | .sptr _ => true
  | _ => false

theorem A.plain_zero {w : World} {F : Nat → Prop} {g : Nat → A} {tmps : Array Value} {a : A} {x : Value} {c : Cnt} (h : ARep w F g tmps a x c) (hp : a.plain = true) : ∀ b, c b = 0 := by
  cases a with
  | t t => exact TRep.zero h hp
  | ghost | opt => cases hp
  | _ => exact h.1

def gopC (X : Ctx) (n : Nat) (Z : List Nat) (all : List Oper) (st : St) (o : Oper) (K : St → Prop) : Prop :=
  match o.guard with
  | none => opC X n Z st o K
  | some (j, want) => match guardA (stG n st) all j want, o.dst with
    | some b, some d => dstOk n Z st d ∧ locC X (stG n st) (b = true) o fun a => a.plain = true ∧ K (st.put d (.opt b a))
    | _, _ => False

theorem yielded_of {n : Nat} {all : List Oper} {g : Nat → A} {tmps : Array Value} {w : World} {c : Nat → Cnt} {N : Nat} (hf : Frm N w g tmps c) {j : Nat} {want b : Bool} (h : guardA g all j want = some b) :
    (yielded all.toArray tmps j == some want) = b := by
  unfold guardA at h
  split at h
  · rename_i o' ho'
    split at h
    · rename_i d hd
      have hr := hf.rep d
      have hy : yielded all.toArray tmps j = match (tmps[d]? : Option Value) with | some (.bool b) => some b | _ => none := by
        unfold yielded
        rw [List.getElem?_toArray, ho']
        simp only [Option.bind_some, hd]
        cases tmps[d]? with
        | none => rfl
        | some v => cases v <;> rfl
      split at h
      · rename_i b' hg
        cases h
        rw [hg] at hr
        have hv := TRep.of_v hr
        have : tmps[d]? = some (.bool b') := by
          rw [Array.getD_eq_getD_getElem?] at hv
          cases hq : tmps[d]? with
          | none => rw [hq] at hv; cases hv
          | some v => rw [hq] at hv; simp at hv; rw [hv]
        rw [hy, this]
        cases b' <;> cases want <;> rfl
      · rename_i q b' hg
        cases h
        rw [hg] at hr
        cases q with
        | true =>
          have hv := TRep.of_v (hr.2.1 rfl)
          have : tmps[d]? = some (.bool b') := by
            rw [Array.getD_eq_getD_getElem?] at hv
            cases hq : tmps[d]? with
            | none => rw [hq] at hv; cases hv
            | some v => rw [hq] at hv; simp at hv; rw [hv]
          rw [hy, this]
          cases b' <;> cases want <;> rfl
        | false =>
          have hv := hr.2.2 rfl
          have : (match (tmps[d]? : Option Value) with | some (.bool b) => some b | _ => none) = none := by
            rw [Array.getD_eq_getD_getElem?] at hv
            cases hq : tmps[d]? with
            | none => rfl
            | some v => rw [hq] at hv; simp at hv; rw [hv]; rfl
          rw [hy, this]; rfl
      · cases h
    · cases h
  · cases h

/-- A step of a region: the operation, if its guard wants it. -/
def GStep' (X : Ctx) (n : Nat) (Z : List Nat) (all : List Oper) (g : Nat → A) (o : Oper) (g' : Nat → A) : Prop :=
  ∀ (D : Nat → Prop) (gc : Cnt) (v0 : Nat → Value) (w0 : World) (tmps : Array Value) (ds : List Deferred) (w : World), Inv X n Z D gc v0 w0 g tmps w → ∀ (next : Act → World → Prop) (Q : Exit → Act → World → Prop),
    (∀ tmps' w', Inv X n Z D gc v0 w0 g' tmps' w' → next ⟨tmps', ds⟩ w') → if Region.wanted o (yielded all.toArray tmps) then o.wp X.P ⟨tmps, ds⟩ w next Q else next ((⟨tmps, ds⟩ : Act).put o.dst undef) w

theorem gopC_sound {n : Nat} {Z : List Nat} {all : List Oper} {st : St} {o : Oper} {K : St → Prop} (h : gopC X n Z all st o K) : ∃ st', GStep' X n Z all (stG n st) o (stG n st') ∧ K st' := by
  unfold gopC at h
  split at h
  · rename_i hg
    obtain ⟨st', h1, h2⟩ := opC_sound h
    refine ⟨st', fun D gc v0 w0 tmps ds w hI next Q hn => ?_, h2⟩
    rw [if_pos (by simp [Region.wanted, hg])]
    exact h1 D gc v0 w0 tmps ds w hI next Q hn
  · rename_i j want hg
    split at h
    · rename_i b d hb hd
      obtain ⟨hdst, h⟩ := h
      obtain ⟨a, h1, hpl, h2⟩ := locC_sound h
      refine ⟨_, fun D gc v0 w0 tmps ds w hI next Q hn => ?_, h2⟩
      obtain ⟨c, hf, hbd⟩ := hI.frm
      have hy := yielded_of (n := n) hf hb
      have hwant : Region.wanted o (yielded all.toArray tmps) = b := by simp only [Region.wanted, hg]; exact hy
      rw [stG_put] at hn
      rw [hwant]
      cases b with
      | true =>
        simp only [if_true]
        refine h1 rfl tmps ds w c hI.glob hf next Q (fun v w' hw hr => ?_)
        rw [hd]
        obtain ⟨cd, r1, r2, r3⟩ := hr
        have hz := A.plain_zero r1 hpl
        exact hn _ _ (hI.put ⟨hdst.1, hdst.2.1⟩ hdst.2.2 hw hf hbd (fun h => by cases h) ⟨cd, ⟨hz, fun _ => r1, fun h => by cases h⟩, r2, r3⟩)
      | false =>
        simp only [Bool.false_eq_true, if_false]
        rw [hd]
        exact hn _ _ (hI.put ⟨hdst.1, hdst.2.1⟩ hdst.2.2 (Below.refl _ _) hf hbd (fun h => by cases h) ⟨fun _ => 0, ⟨fun _ => rfl, (fun h => by cases h), fun _ => rfl⟩, fun b hb => absurd hb (by simp), fun _ => Nat.zero_le _⟩)
    · exact h.elim

/-! ### regions in the text's order -/
def regC (X : Ctx) (n : Nat) (Z : List Nat) (all : List Oper) : List Oper → St → (St → Prop) → Prop
  | [], st, K => K st
  | o :: rest, st, K => gopC X n Z all st o fun st' => regC X n Z all rest st' K

theorem regC_sound {n : Nat} {Z : List Nat} {all : List Oper} {K : St → Prop} {D : Nat → Prop} {gc : Cnt} {v0 : Nat → Value} {w0 : World} {ds : List Deferred} {Q : Exit → Act → World → Prop} :
    ∀ (rest pre : List Oper) (st : St), all = pre ++ rest → regC X n Z all rest st K → (∀ st' tmps' w', K st' → Inv X n Z D gc v0 w0 (stG n st') tmps' w' → Q .normal ⟨tmps', ds⟩ w') →
      ∀ (tmps : Array Value) (w : World), Inv X n Z D gc v0 w0 (stG n st) tmps w → wpOps X.P all.toArray Q (List.range' pre.length rest.length) ⟨tmps, ds⟩ w
  | [], pre, st, _, h, hQ, tmps, w, hI => hQ st tmps w h hI
  | o :: rest, pre, st, hall, h, hQ, tmps, w, hI => by
    obtain ⟨st', h1, h2⟩ := gopC_sound h
    rw [List.length_cons, List.range'_succ]
    have ho : all.toArray[pre.length]? = some o := by
      rw [List.getElem?_toArray, hall, List.getElem?_append_right (Nat.le_refl _)]; simp
    simp only [wpOps, ho]
    have ih := regC_sound (K := K) (D := D) (gc := gc) (v0 := v0) (w0 := w0) (ds := ds) (Q := Q) rest (pre ++ [o]) st' (by rw [hall]; simp) h2 hQ
    rw [List.length_append, List.length_singleton] at ih
    have := h1 D gc v0 w0 tmps ds w hI (wpOps X.P all.toArray Q (List.range' (pre.length + 1) rest.length)) Q (fun tmps' w' hI' => ih tmps' w' hI')
    split
    · rename_i hw; rw [if_pos hw] at this; exact .inl this
    · rename_i hw; rw [if_neg hw] at this; exact this

/-- The same, by what it shows. -/
def RegP (X : Ctx) (n : Nat) (Z : List Nat) (all : List Oper) : List Oper → St → (St → Prop) → Prop
  | [], st, K => K st
  | o :: rest, st, K => ∃ st', GStep' X n Z all (stG n st) o (stG n st') ∧ RegP X n Z all rest st' K
theorem regC_P {n : Nat} {Z : List Nat} {all : List Oper} {K : St → Prop} : ∀ (rest : List Oper) (st : St), regC X n Z all rest st K → RegP X n Z all rest st K
  | [], st, h => h
  | o :: rest, st, h => by
    obtain ⟨st', h1, h2⟩ := gopC_sound h
    exact ⟨st', h1, regC_P rest st' h2⟩
theorem RegP_sound {n : Nat} {Z : List Nat} {all : List Oper} {K : St → Prop} {D : Nat → Prop} {gc : Cnt} {v0 : Nat → Value} {w0 : World} {ds : List Deferred} {Q : Exit → Act → World → Prop} :
    ∀ (rest pre : List Oper) (st : St), all = pre ++ rest → RegP X n Z all rest st K → (∀ st' tmps' w', K st' → Inv X n Z D gc v0 w0 (stG n st') tmps' w' → Q .normal ⟨tmps', ds⟩ w') →
      ∀ (tmps : Array Value) (w : World), Inv X n Z D gc v0 w0 (stG n st) tmps w → wpOps X.P all.toArray Q (List.range' pre.length rest.length) ⟨tmps, ds⟩ w
  | [], pre, st, _, h, hQ, tmps, w, hI => hQ st tmps w h hI
  | o :: rest, pre, st, hall, h, hQ, tmps, w, hI => by
    obtain ⟨st', h1, h2⟩ := h
    rw [List.length_cons, List.range'_succ]
    have ho : all.toArray[pre.length]? = some o := by
      rw [List.getElem?_toArray, hall, List.getElem?_append_right (Nat.le_refl _)]; simp
    simp only [wpOps, ho]
    have ih := RegP_sound (K := K) (D := D) (gc := gc) (v0 := v0) (w0 := w0) (ds := ds) (Q := Q) rest (pre ++ [o]) st' (by rw [hall]; simp) h2 hQ
    rw [List.length_append, List.length_singleton] at ih
    have := h1 D gc v0 w0 tmps ds w hI (wpOps X.P all.toArray Q (List.range' (pre.length + 1) rest.length)) Q (fun tmps' w' hI' => ih tmps' w' hI')
    split
    · rename_i hw; rw [if_pos hw] at this; exact .inl this
    · rename_i hw; rw [if_neg hw] at this; exact this

/-! ### code -/
def AW (X : Ctx) (n : Nat) (Z : List Nat) (c : Code) (st : St) (Q : Exit → St → Prop) : Prop :=
  ∀ (D : Nat → Prop) (gc : Cnt) (v0 : Nat → Value) (w0 : World) (tmps : Array Value) (w : World), Inv X n Z D gc v0 w0 (stG n st) tmps w →
    c.wp X.P (fun ex a' w' => a'.defers = [] ∧ ∃ st', Q ex st' ∧ Inv X n Z D gc v0 w0 (stG n st') a'.tmps w') ⟨tmps, []⟩ w

variable {n : Nat} {Z : List Nat} {Q : Exit → St → Prop} {st : St}

theorem AW.mono {c : Code} {Q' : Exit → St → Prop} (h : AW X n Z c st Q) (hq : ∀ ex s, Q ex s → Q' ex s) : AW X n Z c st Q' :=
  fun D gc v0 w0 tmps w hI => wp_mono (h D gc v0 w0 tmps w hI) (fun ex a w' ⟨h1, s, h2, h3⟩ => ⟨h1, s, hq _ _ h2, h3⟩)

theorem AW_skip (h : Q .normal st) : AW X n Z .skip st Q := fun D gc v0 w0 tmps w hI => wp_skip ⟨rfl, st, h, hI⟩
theorem AW_exit {id : Nat} (h : Q (.exit id) st) : AW X n Z (.exit id) st Q := fun D gc v0 w0 tmps w hI => wp_exit ⟨rfl, st, h, hI⟩
theorem AW_ret (h : Q .ret st) : AW X n Z .ret st Q := fun D gc v0 w0 tmps w hI => wp_ret ⟨rfl, st, h, hI⟩
theorem AW_region {id : Nat} {ops : Array Oper} (h : regC X n Z ops.toList ops.toList st (Q .normal)) : AW X n Z (.region id ops false) st Q := by
  intro D gc v0 w0 tmps w hI
  refine wp_region ?_
  have := regC_sound (D := D) (gc := gc) (v0 := v0) (w0 := w0) (ds := []) (Q := fun ex a' w' => a'.defers = [] ∧ ∃ st', Q ex st' ∧ Inv X n Z D gc v0 w0 (stG n st') a'.tmps w') ops.toList [] st rfl h (fun st' tmps' w' hK hI' => ⟨rfl, st', hK, hI'⟩) tmps w hI
  simp only [List.length_nil, Array.length_toList, Array.toArray_toList] at this
  rw [List.range_eq_range']
  exact this
theorem AW_regionP {id : Nat} {ops : Array Oper} (h : RegP X n Z ops.toList ops.toList st (Q .normal)) : AW X n Z (.region id ops false) st Q := by
  intro D gc v0 w0 tmps w hI
  refine wp_region ?_
  have := RegP_sound (D := D) (gc := gc) (v0 := v0) (w0 := w0) (ds := []) (Q := fun ex a' w' => a'.defers = [] ∧ ∃ st', Q ex st' ∧ Inv X n Z D gc v0 w0 (stG n st') a'.tmps w') ops.toList [] st rfl h (fun st' tmps' w' hK hI' => ⟨rfl, st', hK, hI'⟩) tmps w hI
  simp only [List.length_nil, Array.length_toList, Array.toArray_toList] at this
  rw [List.range_eq_range']
  exact this
def thenC (K : St → Prop) (Q : Exit → St → Prop) : Exit → St → Prop
  | .normal, s => K s
  | e, s => Q e s
theorem AW_seq {a b : Code} (h : AW X n Z a st (thenC (fun s => AW X n Z b s Q) Q)) : AW X n Z (.seq a b) st Q := by
  intro D gc v0 w0 tmps w hI
  refine wp_seq (wp_mono (h D gc v0 w0 tmps w hI) ?_)
  rintro ex ⟨tm, df⟩ w' ⟨h1, s, h2, h3⟩
  simp only at h1; subst h1
  cases ex with
  | normal => exact h2 D gc v0 w0 tm w' h3
  | _ => exact ⟨rfl, s, h2, h3⟩
theorem AW_cond {c : Operand} {x y : Code} {t : Bool} (hp : rdp X (stG n st) c) (hc : rd X (stG n st) c = .t (.v (.bool t))) (h1 : t = true → AW X n Z x st Q) (h2 : t = false → AW X n Z y st Q) : AW X n Z (.cond c x y) st Q := by
  intro D gc v0 w0 tmps w hI
  obtain ⟨cc, hf, _⟩ := hI.frm
  have := rd_v (ds := []) hI.glob hf hp hc
  exact wp_cond_split this (fun ht => h1 ht D gc v0 w0 tmps w hI) (fun ht => h2 ht D gc v0 w0 tmps w hI)
def blockC (id : Nat) (Q : Exit → St → Prop) : Exit → St → Prop
  | .exit j, s => if j = id then Q .normal s else Q (.exit j) s
  | e, s => Q e s
theorem AW_block {id : Nat} {c : Code} (h : AW X n Z c st (blockC id Q)) : AW X n Z (.block id c) st Q := by
  intro D gc v0 w0 tmps w hI
  refine wp_block (wp_mono (h D gc v0 w0 tmps w hI) ?_)
  rintro ex ⟨tm, df⟩ w' ⟨h1, s, h2, h3⟩
  simp only at h1; subst h1
  cases ex with
  | exit j =>
    simp only [blockC] at h2
    simp only [Exit.inBlock]
    split
    · rename_i e; rw [if_pos e] at h2; exact ⟨trivial, s, h2, h3⟩
    · rename_i e; rw [if_neg e] at h2; exact ⟨trivial, s, h2, h3⟩
  | _ => exact ⟨rfl, s, h2, h3⟩

/-! ### forgetting, by the list -/
def noGhost (n : Nat) : St → Prop
  | [] => True
  | (k, .ghost) :: r => False
  | (k, _) :: r => k ≠ n ∧ noGhost n r
def lessGo (n : Nat) (t s : St) : St → Prop
  | [] => True
  | (i, a) :: r => (i ≠ n ∧ stG n s i = a ∧ match a.at with | some q => stG n t q = stG n s q | none => True) ∧ lessGo n t s r
/-- t says no more than s. -/
def lessC (n : Nat) (t s : St) : Prop := noGhost n s ∧ lessGo n t s t

theorem noGhost_find {s : St} (h : noGhost n s) : s.find n = none ∧ ∀ i, s.find i ≠ some .ghost := by
  induction s with
  | nil => exact ⟨rfl, fun i h => by cases h⟩
  | cons p r ih =>
    obtain ⟨k, x⟩ := p
    have h2 : x ≠ .ghost ∧ k ≠ n ∧ noGhost n r := by
      cases x <;> first | exact h.elim | exact ⟨(fun h => by cases h), h.1, h.2⟩
    obtain ⟨k1, k2⟩ := ih h2.2.2
    refine ⟨?_, fun i => ?_⟩
    · simp only [St.find]; rw [if_neg (fun e => h2.2.1 e.symm)]; exact k1
    · simp only [St.find]
      split
      · intro e; cases e; exact h2.1 rfl
      · exact k2 i

theorem lessC_less {t s : St} (h : lessC n t s) : Less (stG n t) (stG n s) := by
  obtain ⟨hng, hgo⟩ := h
  obtain ⟨hs, hs2⟩ := noGhost_find hng
  have key : ∀ (u : St), lessGo n t s u → ∀ i a, u.find i = some a → i ≠ n ∧ stG n s i = a ∧ (∀ r, a.at = some r → stG n t r = stG n s r) := by
    intro u
    induction u with
    | nil => intro _ i a h; cases h
    | cons p r ih =>
      obtain ⟨k, x⟩ := p
      intro h i a hi
      simp only [St.find] at hi
      split at hi
      · rename_i e
        subst e; cases hi
        refine ⟨h.1.1, h.1.2.1, fun r hr => ?_⟩
        have := h.1.2.2
        rw [hr] at this; exact this
      · exact ih h.2 i a hi
  have hnt : t.find n = none := by
    cases hq : t.find n with
    | none => rfl
    | some a => exact absurd rfl (key t hgo n a hq).1
  intro i
  cases hq : t.find i with
  | some a =>
    obtain ⟨k1, k2, k3⟩ := key t hgo i a hq
    have e : stG n t i = a := by unfold stG; rw [hq]
    exact .inl ⟨by rw [e, k2], fun r hr => k3 r (by rw [← k2]; exact hr)⟩
  | none =>
    by_cases hin : i = n
    · subst hin
      left
      have e1 : stG i t i = .ghost := by unfold stG; rw [hnt]; simp
      have e2 : stG i s i = .ghost := by unfold stG; rw [hs]; simp
      exact ⟨by rw [e1, e2], fun r hr => by rw [e2] at hr; cases hr⟩
    · right
      refine ⟨by unfold stG; rw [hq]; simp [hin], ?_⟩
      unfold stG
      cases hq2 : s.find i with
      | none => simp [hin]
      | some a => intro e; simp only at e; subst e; exact hs2 i hq2

theorem AW.less {c : Code} {t : St} (hl : lessC n t st) (h : AW X n Z c t Q) : AW X n Z c st Q :=
  fun D gc v0 w0 tmps w hI => h D gc v0 w0 tmps w (hI.less (lessC_less hl))

/-- Slot r's slice is everybody's from now on. -/
def shareSt (st : St) (r sz : Nat) (es : List T) : St := (st.mapA (shareA r sz es)).put r (.t (.sl sz (es.map T.fz)))
theorem stG_shareSt (n : Nat) (st : St) (r sz : Nat) (es : List T) : stG n (shareSt st r sz es) = shared (stG n st) r sz es := by
  unfold shareSt shared
  rw [stG_put, stG_mapA n st _ rfl rfl]
theorem AW.share {c : Code} (r : Nat) {sz : Nat} {e : TypeId} {es : List T} (hg : stG n st r = .t (.own e sz es)) (h : AW X n Z c (shareSt st r sz es) Q) : AW X n Z c st Q :=
  fun D gc v0 w0 tmps w hI => h D gc v0 w0 tmps w (by rw [stG_shareSt]; exact hI.share hg)

/-! ### loops -/
theorem AW_loop {α : Type} {c : Code} (I : α → St) (m : α → Nat) (x0 : α) (h0 : lessC n (I x0) st)
    (h : ∀ x, AW X n Z c (I x) (thenC (fun s => ∃ y, m y < m x ∧ lessC n (I y) s) Q)) : AW X n Z (.loop c) st Q := by
  intro D gc v0 w0 tmps w hI
  refine wp_loop_ghost (fun k a w' => a.defers = [] ∧ ∃ x, m x = k ∧ Inv X n Z D gc v0 w0 (stG n (I x)) a.tmps w') (m x0) ⟨rfl, x0, rfl, hI.less (lessC_less h0)⟩ ?_
  rintro k ⟨tm, df⟩ w' ⟨hdf, x, rfl, hI'⟩
  simp only at hdf; subst hdf
  refine wp_mono (h x D gc v0 w0 tm w' hI') ?_
  rintro ex ⟨tm2, df2⟩ w2 ⟨h1, s, h2, h3⟩
  simp only at h1; subst h1
  cases ex with
  | normal =>
    obtain ⟨y, hy, hl⟩ := h2
    exact ⟨m y, hy, rfl, y, rfl, h3.less (lessC_less hl)⟩
  | _ => exact ⟨rfl, s, h2, h3⟩

end Go.Eng
