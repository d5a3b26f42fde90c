/- A function's body and its call. -/
import Derived.Test.YthgemanfbanhnaaDoorEngP
namespace Go.Eng
open Go.RowKit (Below)
set_option linter.unusedVariables false
set_option linter.unusedSimpArgs false
variable {X : Ctx} {n : Nat} {Z : List Nat} {Q : Exit → St → Prop} {st : St}

/-! ### a result's slot takes what it looks at -/
/-- Slot d looks at the whole of what slot s owns: it becomes the owner. -/
theorem Inv.swap {g : Nat → A} {D : Nat → Prop} {gc : Cnt} {v0 : Nat → Value} {w0 w : World} {tmps : Array Value} {s d : Nat} {e : TypeId} {sz : Nat} {es : List T} (hI : Inv X n Z D gc v0 w0 g tmps w) (hd : d < n) (hs : g s = .t (.own e sz es)) (hg : g d = .ref s none 0 es.length) :
    Inv X n Z D gc v0 w0 (moved g s d (.own e sz es)) tmps w := by
  obtain ⟨c, hf, hbd⟩ := hI.frm
  have hds : d ≠ s := by rintro rfl; rw [hs] at hg; cases hg
  have hsd : s ≠ d := fun e => hds e.symm
  have hno : (g d).owner = false := by rw [hg]; rfl
  have hrs := hf.rep s
  rw [hs] at hrs
  have hrd := hf.rep d
  rw [hg] at hrd
  -- both hold one value
  have hval : tmps.getD d undef = tmps.getD s undef := by
    obtain ⟨_, t0, e', sz', es', x0, h1, h2, h3, h4⟩ := hrd
    rw [hs] at h1; cases h1
    obtain ⟨q1, q2⟩ := h2
    cases q1
    rw [← q2]
    rw [← q2] at hrs
    generalize tmps.getD d undef = x at h4
    generalize c s = cs at hrs
    cases hrs with
    | ownnil =>
      rcases h4 with ⟨_, h, _⟩ | ⟨b, m, cap, o, h, _⟩
      · exact h
      · cases h
    | own _ _ _ b m cap cur c0 _ hgb hn =>
      rcases h4 with ⟨h, _⟩ | ⟨b', m', cap', o, h, hx, hoc, ho⟩
      · cases h
      · cases h
        have : o = 0 := by have := ho (.inr rfl); omega
        subst this
        rw [hx, hn]; rfl
  have hset : tmps.setIfInBounds d (tmps.getD s undef) = tmps := by
    have hsz : d < tmps.size := by rw [hI.size]; exact hd
    apply Array.ext'
    rw [Array.toList_setIfInBounds]
    refine set_self _ _ _ ?_
    rw [← hval, Array.getElem?_toList, Array.getD_eq_getD_getElem?, Array.getElem?_eq_getElem hsz]; rfl
  have hm := hI.relocate hd (by rw [hset]; exact fun _ _ => rfl) hds hno hs rfl
  rw [hset] at hm
  exact hm


def retGo (n : Nat) : List Nat → St → (St → Prop) → Prop
  | [], st, K => K st
  | r :: rs, st, K => match stG n st r with
    | .t (.tup _) => False
    | .t _ => retGo n rs st K
    | .ref s none off len => match stG n st s with
      | .t (.own e sz es) => if off = 0 ∧ len = es.length then r < n ∧ retGo n rs (moveSt st s r (.own e sz es)) K else retGo n rs (shareSt st s sz es) K
      | _ => False
    | _ => False

theorem retGo_sound {D : Nat → Prop} {gc : Cnt} {v0 : Nat → Value} {w0 w : World} {tmps : Array Value} {K : St → Prop} : ∀ (rs : List Nat) (st : St), retGo n rs st K → Inv X n Z D gc v0 w0 (stG n st) tmps w → ∃ st', K st' ∧ Inv X n Z D gc v0 w0 (stG n st') tmps w
  | [], st, h, hI => ⟨st, h, hI⟩
  | r :: rs, st, h, hI => by
    simp only [retGo] at h
    split at h
    · exact h.elim
    · exact retGo_sound rs st h hI
    · rename_i s off len hr
      split at h
      · rename_i e sz es hs
        split at h
        · rename_i hw
          obtain ⟨rfl, rfl⟩ := hw
          exact retGo_sound rs _ h.2 (by rw [stG_moveSt]; exact hI.swap h.1 hs hr)
        · exact retGo_sound rs _ h (by rw [stG_shareSt]; exact hI.share hs)
      · exact h.elim
    · exact h.elim

/-- The slots hold just these trees. -/
def slotsOk (n : Nat) (s : St) : List Nat → List T → Prop
  | [], [] => True
  | r :: rs, t :: ts => stG n s r = .t t ∧ slotsOk n s rs ts
  | _, _ => False
def resOk (n : Nat) (s : St) (rs : List Nat) (res : T) : Prop :=
  match rs with
  | [r] => stG n s r = .t res
  | rs => match res with
    | .tup ts => slotsOk n s rs ts
    | _ => False
/-- What the arguments' slots hold in the end: of what was lent; else nothing is said. -/
def outsOk (n : Nat) (s : St) (Z : List Nat) : Nat → List T → Prop
  | _, [] => True
  | i, t :: ts => (if i ∈ Z then stG n s i = .t t else t = .u) ∧ outsOk n s Z (i + 1) ts

def entry : Nat → List T → St
  | _, [] => []
  | k, t :: ts => (k, .t t) :: entry (k + 1) ts

def endC (n : Nat) (Z : List Nat) (rs : List Nat) (res : T) (outs : List T) : Exit → St → Prop
  | .normal, s | .ret, s => retGo n rs s fun s => noGhost n s ∧ resOk n s rs res ∧ outsOk n s Z 0 outs
  | _, _ => False

theorem find_entry : ∀ (ts : List T) (k i : Nat), (entry k ts).find i = if k ≤ i then (ts[i - k]?).map .t else none
  | [], k, i => by simp [entry, St.find]
  | t :: ts, k, i => by
    simp only [entry, St.find, find_entry ts (k + 1) i]
    by_cases h : i = k
    · subst h; simp
    · rw [if_neg h]
      by_cases h2 : k ≤ i
      · rw [if_pos (by omega), if_pos h2, show i - k = (i - (k + 1)) + 1 by omega, List.getElem?_cons_succ]
      · rw [if_neg (by omega), if_neg h2]

theorem LRep.indexed {w : World} {F : Nat → Prop} : ∀ {ts : List T} {xs : List Value} {ca : Cnt}, LRep w F ts xs ca →
    ∃ cs : Nat → Cnt, (∀ (i : Nat) (t : T), ts[i]? = some t → ∃ x, xs[i]? = some x ∧ TRep w F t x (cs i)) ∧ (∀ i b, ts.length ≤ i → cs i b = 0) ∧ (∀ i b, cs i b ≤ ca b) ∧ (∀ i j b, ca b ≤ 1 → 0 < cs i b → 0 < cs j b → i = j)
  | [], _, ca, h => by
    cases h
    exact ⟨fun _ _ => 0, fun i t h => by simp at h, fun _ _ _ => rfl, fun _ _ => Nat.zero_le _, fun i j b _ h => absurd h (by simp)⟩
  | t :: ts, _, ca, h => by
    cases h with
    | cons _ _ x xs c1 c2 _ h1 h2 hc =>
      obtain ⟨cs, k1, k2, k3, k4⟩ := LRep.indexed h2
      refine ⟨fun i => match i with | 0 => c1 | i + 1 => cs i, fun i t' ht => ?_, fun i b hi => ?_, fun i b => ?_, fun i j b hca hi hj => ?_⟩
      · cases i with
        | zero => simp at ht; subst ht; exact ⟨x, by simp, h1⟩
        | succ i => obtain ⟨y, hy, hr⟩ := k1 i t' (by simpa using ht); exact ⟨y, by simpa using hy, hr⟩
      · cases i with
        | zero => simp at hi
        | succ i => exact k2 i b (by simpa using hi)
      · cases i with
        | zero => dsimp only; rw [hc]; omega
        | succ i => dsimp only; rw [hc]; have := k3 i b; omega
      · rw [hc] at hca
        cases i with
        | zero => cases j with
          | zero => rfl
          | succ j => dsimp only at hi hj; have := k3 j b; omega
        | succ i => cases j with
          | zero => dsimp only at hi hj; have := k3 i b; omega
          | succ j => dsimp only at hi hj; rw [k4 i j b (by omega) hi hj]

def tot (c : Nat → Cnt) (L : List Nat) (b : Nat) : Nat := match L with
  | [] => 0
  | i :: r => c i b + tot c r b
theorem tot_spec {N : Nat} {w : World} {g : Nat → A} {tmps : Array Value} {c : Nat → Cnt} (hf : Frm N w g tmps c) (b : Nat) : ∀ (L : List Nat), L.Nodup → tot c L b ≤ 1 ∧ (0 < tot c L b → ∃ i ∈ L, 0 < c i b)
  | [], _ => ⟨Nat.zero_le _, fun h => absurd h (by simp [tot])⟩
  | i :: r, h => by
    obtain ⟨h1, h2⟩ := List.nodup_cons.1 h
    obtain ⟨k1, k2⟩ := tot_spec hf b r h2
    simp only [tot]
    have := hf.one i b
    refine ⟨?_, fun hp => ?_⟩
    · by_cases hi : 0 < c i b
      · by_cases hr : 0 < tot c r b
        · obtain ⟨j, hj, hjb⟩ := k2 hr
          exact absurd (hf.uniq i j b hi hjb) (by rintro rfl; exact h1 hj)
        · omega
      · omega
    · by_cases hi : 0 < c i b
      · exact ⟨i, by simp, hi⟩
      · obtain ⟨j, hj, hjb⟩ := k2 (by omega)
        exact ⟨j, by simp [hj], hjb⟩

theorem slots_rep {N : Nat} {w : World} {tmps : Array Value} {c : Nat → Cnt} {s : St} (hf : Frm N w (stG n s) tmps c) : ∀ (rs : List Nat) (ts : List T), slotsOk n s rs ts → LRep w (fun b => ∀ j, c j b = 0) ts (rs.map fun r => tmps.getD r undef) (tot c rs)
  | [], [], _ => .nil _ (fun _ => rfl)
  | r :: rs, t :: ts, h => by
    have hr := hf.rep r
    rw [h.1] at hr
    exact .cons _ _ _ _ _ _ _ hr (slots_rep hf rs ts h.2) (fun _ => rfl)
  | [], _ :: _, h => h.elim
  | _ :: _, [], h => h.elim

theorem outs_rep {N : Nat} {w : World} {tmps : Array Value} {c : Nat → Cnt} {s : St} (hf : Frm N w (stG n s) tmps c) (vals : List Value) (hv : ∀ i ∈ Z, tmps.getD i undef = vals.getD i undef) :
    ∀ (ts : List T) (k : Nat), k + ts.length = vals.length → outsOk n s Z k ts → ∃ L : List Nat, L.Nodup ∧ (∀ i ∈ L, i ∈ Z ∧ k ≤ i) ∧ LRep w (fun b => ∀ j, c j b = 0) ts (vals.drop k) (tot c L)
  | [], k, hk, _ => ⟨[], List.nodup_nil, by simp, by rw [List.drop_eq_nil_of_le (by simp at hk; omega)]; exact .nil _ (fun _ => rfl)⟩
  | t :: ts, k, hk, h => by
    simp only [List.length_cons] at hk
    obtain ⟨L, h1, h2, h3⟩ := outs_rep hf vals hv ts (k + 1) (by omega) h.2
    have hlt : k < vals.length := by omega
    have hdrop : vals.drop k = vals.getD k undef :: vals.drop (k + 1) := by
      rw [List.drop_eq_getElem_cons hlt, List.getD_eq_getElem?_getD, List.getElem?_eq_getElem hlt]; rfl
    rw [hdrop]
    by_cases hz : k ∈ Z
    · have ho := h.1
      rw [if_pos hz] at ho
      have hr := hf.rep k
      rw [ho, hv k hz] at hr
      refine ⟨k :: L, List.nodup_cons.2 ⟨fun e => by have := (h2 k e).2; omega, h1⟩, fun i hi => ?_, .cons _ _ _ _ _ _ _ hr h3 (fun _ => rfl)⟩
      rcases List.mem_cons.1 hi with rfl | hi
      · exact ⟨hz, Nat.le_refl _⟩
      · exact ⟨(h2 i hi).1, by have := (h2 i hi).2; omega⟩
    · have ho := h.1
      rw [if_neg hz] at ho
      subst ho
      exact ⟨L, h1, fun i hi => ⟨(h2 i hi).1, by have := (h2 i hi).2; omega⟩, .cons _ _ _ _ _ _ _ (.u _ (fun _ => 0) (fun _ => rfl)) h3 (fun b => by simp)⟩

theorem tot_append (c : Nat → Cnt) (b : Nat) : ∀ (L M : List Nat), tot c (L ++ M) b = tot c L b + tot c M b
  | [], M => by simp [tot]
  | i :: L, M => by simp only [List.cons_append, tot, tot_append c b L M]; omega

/-- FROM THE BODY TO THE CALL. -/
theorem ACall_of_body {f : FuncId} {fn : Func} {body : Code} {args outs : List T} {res : T} {rs : List Nat} (hf : X.P.funcs[f]? = some fn) (hb : fn.body = some body) (hn : fn.ntmps = n) (hrs : fn.results = (rs.map ResultVar.tmp).toArray) (hlen : args.length ≤ n)
    (hol : outs.length = args.length) (hnd : rs.Nodup) (hZ : ∀ i ∈ Z, i < args.length ∧ i ∉ rs) (h : AW X n Z body (entry 0 args) (endC n Z rs res outs)) : ACall X f args res outs := by
  intro w vals ca F hG hFN hl hca1 hcaN
  have hvl := hl.length
  obtain ⟨cs, k1, k2, k3, k4⟩ := hl.indexed
  have hdec : ∃ gc : Cnt, (∀ b, gc b ≤ 1) ∧ (∀ b, 0 < gc b → b < w.heap.size ∧ ¬ F b ∧ ca b = 0) ∧ (∀ b, b < w.heap.size → ¬ F b → ca b = 0 → 0 < gc b) := by
    classical
    have hx : ∀ b, ∃ k : Nat, k ≤ 1 ∧ (0 < k → b < w.heap.size ∧ ¬ F b ∧ ca b = 0) ∧ (b < w.heap.size → ¬ F b → ca b = 0 → 0 < k) := fun b => by
      by_cases hc : b < w.heap.size ∧ ¬ F b ∧ ca b = 0
      · exact ⟨1, Nat.le_refl _, fun _ => hc, fun _ _ _ => by omega⟩
      · exact ⟨0, by omega, fun h => absurd h (by omega), fun h1 h2 h3 => absurd ⟨h1, h2, h3⟩ hc⟩
    exact ⟨fun b => Classical.choose (hx b), fun b => (Classical.choose_spec (hx b)).1, fun b => (Classical.choose_spec (hx b)).2.1, fun b => (Classical.choose_spec (hx b)).2.2⟩
  obtain ⟨gc, g1, g2, g3⟩ := hdec
  have hNsz : X.N ≤ w.heap.size := X.hN w hG
  generalize htm : vals.toArray ++ Array.replicate (fn.ntmps - vals.toArray.size) undef = tmps
  have htsz : tmps.size = n := by rw [← htm]; simp; omega
  have htget : ∀ i, i < args.length → tmps.getD i undef = vals.getD i undef := by
    intro i hi
    rw [← htm, Array.getD_eq_getD_getElem?, Array.getElem?_append_left (by simp; omega)]
    rw [List.getElem?_toArray, List.getD_eq_getElem?_getD]
  have hgi : ∀ i, stG n (entry 0 args) i = match args[i]? with | some t => .t t | none => if i = n then .ghost else .t .u := by
    intro i
    unfold stG
    rw [find_entry]
    simp only [Nat.zero_le, if_true, Nat.sub_zero]
    cases args[i]? <;> rfl
  let c0 : Nat → Cnt := fun i b => if i = n then gc b else cs i b
  have hc0 : ∀ i b, c0 i b = if i = n then gc b else cs i b := fun _ _ => rfl
  have hF0 : ∀ b, b < w.heap.size → F b → ∀ j, c0 j b = 0 := fun b hb hfb j => by
    rw [hc0]
    have hca0 : ca b = 0 := by
      rcases Nat.eq_zero_or_pos (ca b) with e | e
      · exact e
      · exact absurd hfb (hcaN b e).2
    split
    · rcases Nat.eq_zero_or_pos (gc b) with e | e
      · exact e
      · exact absurd hfb (g2 b e).2.1
    · have := k3 j b; omega
  have hfrm : Frm X.N w (stG n (entry 0 args)) tmps c0 := by
    refine ⟨fun i => ?_, fun i b => ?_, fun i j b hi hj => ?_, fun i b hi => ?_⟩
    · rw [hgi]
      by_cases hlt : i < args.length
      · obtain ⟨x, hx, hr⟩ := k1 i args[i] (List.getElem?_eq_getElem hlt)
        rw [List.getElem?_eq_getElem hlt]
        have hne : i ≠ n := by omega
        have e1 : c0 i = cs i := by funext b; rw [hc0, if_neg hne]
        rw [e1, htget i hlt, List.getD_eq_getElem?_getD, hx]
        exact TRep.mono (fun b hb hfb => ⟨hF0 b hb hfb, rfl⟩) (Nat.le_refl _) hr (fun _ _ => rfl)
      · rw [List.getElem?_eq_none (by omega)]
        simp only
        split
        · rename_i e
          intro b hb
          rw [hc0, if_pos e] at hb
          exact (g2 b hb).1
        · rename_i e
          exact .u _ _ (fun b => by rw [hc0, if_neg e]; exact k2 i b (by omega))
    · rw [hc0]; split
      · exact g1 b
      · have := k3 i b; have := hca1 b; omega
    · rw [hc0] at hi hj
      by_cases i1 : i = n <;> by_cases j1 : j = n
      · rw [i1, j1]
      · rw [if_pos i1] at hi; rw [if_neg j1] at hj
        have := (g2 b hi).2.2; have := k3 j b; omega
      · rw [if_pos j1] at hj; rw [if_neg i1] at hi
        have := (g2 b hj).2.2; have := k3 i b; omega
      · rw [if_neg i1] at hi; rw [if_neg j1] at hj
        exact k4 i j b (hca1 b) hi hj
    · rw [hc0] at hi
      split at hi
      · rcases Nat.lt_or_ge b X.N with e | e
        · exact absurd (hFN b e) (g2 b hi).2.1
        · exact e
      · exact (hcaN b (by have := k3 i b; omega)).1
  have hI : Inv X n Z (fun b => 0 < ca b) gc (fun i => vals.getD i undef) w (stG n (entry 0 args)) tmps w := by
    refine ⟨htsz, fun i hi => htget i (hZ i hi).1, rfl, rfl, rfl, fun _ _ _ => rfl, Nat.le_refl _, hG, fun b hb => (hcaN b hb).1, hNsz, c0, hfrm, fun i b hi hgh => ?_, fun i hi b => ?_⟩
    · left
      rw [hc0] at hi
      split at hi
      · rename_i e
        subst e
        exfalso
        apply hgh
        rw [hgi, List.getElem?_eq_none (by omega)]
        simp
      · have := k3 i b; omega
    · rw [hgi] at hi
      rw [hc0]
      split at hi
      · cases hi
      · split at hi
        · rename_i e; rw [if_pos e]
        · cases hi
  refine calls_of_wp hf hb ?_
  rw [htm]
  refine wp_mono (h _ gc _ w tmps w hI) ?_
  rintro ex ⟨tm, df⟩ w' ⟨h1, s, h2, h3⟩
  simp only at h1; subst h1
  have fin : retGo n rs s (fun s => noGhost n s ∧ resOk n s rs res ∧ outsOk n s Z 0 outs) → ([] : List Deferred) = [] ∧ ∃ v, (results fn tm).run X.P w' = .ok v w' ∧ ∃ v' cr, Ending.returned v = .returned v' ∧ w'.os = w.os ∧ w'.tape = w.tape ∧ w'.output = w.output ∧ w.heap.size ≤ w'.heap.size ∧
      (∀ b, b < w.heap.size → ca b = 0 → w'.heap[b]? = w.heap[b]?) ∧ LRep w' (fun b => (F b ∨ 0 < ca b ∨ w.heap.size ≤ b) ∧ cr b = 0) (res :: outs) (v' :: vals) cr ∧ (∀ b, cr b ≤ 1) ∧ (∀ b, 0 < cr b → 0 < ca b ∨ w.heap.size ≤ b) := by
    intro hret
    obtain ⟨s', ⟨q1, q2, q3⟩, hI'⟩ := retGo_sound rs s hret h3
    obtain ⟨c, hf', hb', hgc⟩ := hI'.frm
    have hfind := (noGhost_find q1).1
    have hgn : stG n s' n = .ghost := by unfold stG; rw [hfind]; simp
    obtain ⟨L, l1, l2, l3⟩ := outs_rep (Z := Z) hf' vals (fun i hi => hI'.fix i hi) outs 0 (by omega) q3
    rw [List.drop_zero] at l3
    -- the results
    have hres : (results fn tm).run X.P w' = .ok (if h : (rs.map fun r => tm.getD r undef).toArray.size = 1 then (rs.map fun r => tm.getD r undef).toArray[0] else .tuple (rs.map fun r => tm.getD r undef).toArray) w' := by
      unfold results
      have hm := amapM_run (P := X.P) (w := w') (fun x : ResultVar => match x with | .tmp t => (pure (tm.getD t undef) : Sem Value) | .cell a t => do loadVar t (← asAddr (tm.getD a undef))) (fun x => match x with | .tmp t => tm.getD t undef | .cell a t => undef) fn.results (fun x hx => by
        rw [hrs] at hx
        simp only [List.mem_map] at hx
        obtain ⟨r, _, rfl⟩ := hx
        rfl)
      rw [Sem.run_bind]
      refine (congrArg (fun r => Result.andThen r _) hm).trans ?_
      simp only [Result.andThen_ok, Sem.run_pure]
      have e : (fn.results.map fun x => match x with | .tmp t => tm.getD t undef | .cell a t => undef) = (rs.map fun r => tm.getD r undef).toArray := by
        rw [hrs]; simp
      rw [e]
    have hLR : ∃ v, (results fn tm).run X.P w' = .ok v w' ∧ LRep w' (fun b => ∀ j, c j b = 0) (res :: outs) (v :: vals) (tot c (rs ++ L)) := by
      refine ⟨_, hres, ?_⟩
      unfold resOk at q2
      split at q2
      · rename_i r
        have hr := hf'.rep r
        rw [q2] at hr
        exact .cons _ _ _ _ _ _ _ hr l3 (fun b => rfl)
      · rename_i hne
        split at q2
        · rename_i ts
          have hsl := slots_rep hf' rs ts q2
          have hlen1 : ¬ (rs.map fun r => tm.getD r undef).toArray.size = 1 := by
            intro e
            simp at e
            obtain ⟨r, rfl⟩ := List.length_eq_one_iff.1 e
            exact hne r rfl
          rw [dif_neg hlen1]
          exact .cons _ _ _ _ _ _ _ (.tup _ _ _ hsl) l3 (fun b => by rw [tot_append])
        · exact q2.elim
    obtain ⟨v, hv, hlr⟩ := hLR
    have hnd2 : (rs ++ L).Nodup := List.nodup_append.2 ⟨hnd, l1, fun a ha b hb' e => by subst e; exact (hZ a (l2 a hb').1).2 ha⟩
    refine ⟨rfl, v, hv, v, _, rfl, hI'.os, hI'.tape, hI'.output, hI'.grow, fun b hb hz => hI'.kept b hb (by simpa using hz), hlr.mono (fun b hb hz => ⟨⟨?_, ?_⟩, rfl⟩) (Nat.le_refl _) (fun _ _ => rfl), fun b => (tot_spec hf' b _ hnd2).1, fun b hb => ?_⟩
    · obtain ⟨i, hmem, hi⟩ := (tot_spec hf' b _ hnd2).2 hb
      refine hb' i b hi (fun e => ?_)
      have hslot : ∀ (rs : List Nat) (ts : List T), slotsOk n s' rs ts → ∀ i ∈ rs, ∃ t, stG n s' i = .t t := by
        intro rs
        induction rs with
        | nil => intro ts _ i hi; simp at hi
        | cons r rs ih =>
          intro ts h i hi
          cases ts with
          | nil => exact h.elim
          | cons t ts =>
            rcases List.mem_cons.1 hi with rfl | hi
            · exact ⟨t, h.1⟩
            · exact ih ts h.2 i hi
      have hout : ∀ (ts : List T) (k : Nat), outsOk n s' Z k ts → ∀ i ∈ Z, k ≤ i → i < k + ts.length → ∃ t, stG n s' i = .t t := by
        intro ts
        induction ts with
        | nil => intro k _ i _ h1 h2; simp at h2; omega
        | cons t ts ih =>
          intro k h i hi h1 h2
          by_cases hik : i = k
          · subst hik; have := h.1; rw [if_pos hi] at this; exact ⟨t, this⟩
          · exact ih (k + 1) h.2 i hi (by omega) (by simp at h2; omega)
      rcases List.mem_append.1 hmem with hm | hm
      · unfold resOk at q2
        split at q2
        · simp at hm; subst hm; rw [e] at q2; cases q2
        · split at q2
          · obtain ⟨t, ht⟩ := hslot _ _ q2 i hm; rw [e] at ht; cases ht
          · exact q2.elim
      · obtain ⟨t, ht⟩ := hout outs 0 q3 i (l2 i hm).1 (Nat.zero_le _) (by have := (hZ i (l2 i hm).1).1; omega)
        rw [e] at ht; cases ht
    · rcases Nat.lt_or_ge b w.heap.size with e | e
      · by_cases hFb : F b
        · exact .inl hFb
        · rcases Nat.eq_zero_or_pos (ca b) with e2 | e2
          · have := g3 b e hFb e2
            rw [← hgc n hgn b, hz n] at this; omega
          · exact .inr (.inl e2)
      · exact .inr (.inr e)
    · rcases Nat.eq_zero_or_pos (tot c (rs ++ L) b) with e | e
      · exact e
      · obtain ⟨i, _, hi⟩ := (tot_spec hf' b _ hnd2).2 e
        rw [hz i] at hi; omega
  cases ex with
  | normal => exact fin h2
  | ret => exact fin h2
  | _ => exact h2.elim

end Go.Eng
