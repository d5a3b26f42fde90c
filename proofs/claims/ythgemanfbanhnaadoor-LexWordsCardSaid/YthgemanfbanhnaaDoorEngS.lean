/- Regions whose order the language leaves open: the walk. -/
import Derived.Test.YthgemanfbanhnaaDoorEngR
namespace Go.Eng
open Go.RowKit (Below)
set_option linter.unusedVariables false
set_option linter.unusedSimpArgs false
variable {X : Ctx} {n : Nat} {Z : List Nat} {Q : Exit → St → Prop} {st : St}

def atOk (ds : List Nat) (a : A) : Bool := match a.at with
  | some r => !ds.contains r
  | none => true
def St.hide (ds : List Nat) : St → St
  | [] => []
  | (k, a) :: r => (if ds.contains k = false ∧ atOk ds a = true then (k, a) else (k, .t .u)) :: St.hide ds r

theorem find_hide {ds : List Nat} : ∀ (st : St) (i : Nat), St.find (St.hide ds st) i = (St.find st i).map fun a => if ds.contains i = false ∧ atOk ds a = true then a else .t .u
  | [], i => rfl
  | (k, a) :: r, i => by
    simp only [St.hide]
    split
    · rename_i h
      simp only [St.find]
      split
      · rename_i e; subst e; simp only [Option.map_some, if_pos h]
      · exact find_hide r i
    · rename_i h
      simp only [St.find]
      split
      · rename_i e; subst e; simp only [Option.map_some, if_neg h]
      · exact find_hide r i

/-- What is hidden from st is no more than what the list names. -/
theorem hid_of {ds : List Nat} {g : Nat → A} (hn : st.find n = none) (hgn : g n = .ghost) (h : ∀ i, ds.contains i = false → stG n st i = g i) : Hid n (stG n (st.hide ds)) g := by
  have hst : ∀ i, stG n (st.hide ds) i = match st.find i with | some a => if ds.contains i = false ∧ atOk ds a = true then a else .t .u | none => if i = n then .ghost else .t .u := fun i => by
    unfold stG
    rw [find_hide]
    cases st.find i <;> rfl
  refine ⟨by rw [hst, hn]; simp, hgn, fun i => ?_⟩
  rw [hst]
  cases hi : st.find i with
  | none =>
    by_cases hin : i = n
    · left; simp only [if_pos hin]; subst hin; rw [hgn]; exact ⟨rfl, fun r t hr => by cases hr⟩
    · right; simp only [if_neg hin]
  | some a =>
    simp only
    split
    · rename_i hc
      left
      have hga : g i = a := by rw [← h i hc.1]; unfold stG; rw [hi]
      refine ⟨hga.symm, fun r t hr hgr => ?_⟩
      rw [hga] at hr
      have hr2 := hc.2
      unfold atOk at hr2
      rw [hr] at hr2
      have hrd : ds.contains r = false := by simpa using hr2
      have hsr := h r hrd
      rw [hgr] at hsr
      have hex : stG n st r = match st.find r with | some a => a | none => if r = n then .ghost else .t .u := rfl
      rw [hex] at hsr
      rw [hst]
      cases hq : st.find r with
      | none => rw [hq] at hsr; exact hsr
      | some a' =>
        rw [hq] at hsr
        simp only at hsr
        subst hsr
        show (if ds.contains r = false ∧ atOk ds (A.t t) = true then A.t t else A.t T.u) = A.t t
        rw [if_pos ⟨hrd, rfl⟩]
    · exact .inr rfl

/-! ### the static look -/
def bindOn (o : Oper) : List Nat := (o.after.toList.filter fun e => Region.binds .any e).map (·.on)
def ancTab : List Oper → List (List Nat) → List (List Nat)
  | [], tab => tab
  | o :: r, tab => ancTab r (tab ++ [((bindOn o) ++ (bindOn o).flatMap fun j => tab.getD j []).eraseDups])
/-- tab's lists name what must have been done. -/
def ancOk (ops : List Oper) (tab : List (List Nat)) : Bool :=
  (List.range ops.length).all fun k => match ops[k]? with
    | some o => ((bindOn o).all fun i => decide (i < k)) && ((tab.getD k []).all fun j => (bindOn o).contains j || (bindOn o).any fun i => (tab.getD i []).contains j)
    | none => false
def hideTab (ops : List Oper) (tab : List (List Nat)) : List (List Nat) :=
  (List.range ops.length).map fun k => (List.range ops.length).filterMap fun j => if j == k || (tab.getD k []).contains j || (tab.getD j []).contains k then none else (ops[j]?).bind (·.dst)
def dstsOf (ops : List Oper) : List (Option Nat) := ops.map (·.dst)
def hideOk (ops : List Oper) (tab hd : List (List Nat)) : Bool :=
  ancOk ops tab && decide (dstsOf ops).Nodup && (List.range ops.length).all fun k => (List.range ops.length).all fun j => j == k || (tab.getD k []).contains j || (tab.getD j []).contains k || (match (ops[j]?).bind (·.dst) with | some d => (hd.getD k []).contains d | none => false)

def drawGo (X : Ctx) (n : Nat) (Z : List Nat) (all : List Oper) : List (List Nat) → List Oper → St → (St → Prop) → Prop
  | _, [], st, K => K st
  | [], _ :: _, _, _ => False
  | ds :: dss, o :: rest, st, K => match o.dst with
    | some d => dstOk n Z st d ∧ g1C X n all (st.hide ds) o fun a => drawGo X n Z all dss rest (st.put d a) K
    | none => False

theorem drawGo_spec {all : List Oper} {K : St → Prop} : ∀ (dss : List (List Nat)) (rest : List Oper) (st : St), drawGo X n Z all dss rest st K →
    ∃ (sts : Nat → St) (bs : Nat → A), sts 0 = st ∧ K (sts rest.length) ∧ ∀ k o, rest[k]? = some o → ∃ d, o.dst = some d ∧ dstOk n Z (sts k) d ∧ bs k ≠ .ghost ∧ LG X all (stG n ((sts k).hide (dss.getD k []))) o (bs k) ∧ sts (k + 1) = (sts k).put d (bs k)
  | dss, [], st, h => ⟨fun _ => st, fun _ => .ghost, rfl, (by cases dss <;> exact h), fun k o hk => by simp at hk⟩
  | [], _ :: _, _, h => h.elim
  | ds :: dss, o :: rest, st, h => by
    simp only [drawGo] at h
    split at h
    · rename_i d hd
      obtain ⟨h1, h2⟩ := h
      obtain ⟨a, k1, k2, k3⟩ := g1C_sound h2
      obtain ⟨sts, bs, q1, q2, q3⟩ := drawGo_spec dss rest _ k3
      refine ⟨fun k => match k with | 0 => st | k + 1 => sts k, fun k => match k with | 0 => a | k + 1 => bs k, rfl, q2, fun k o' hk => ?_⟩
      cases k with
      | zero => simp at hk; subst hk; exact ⟨d, hd, h1, k1, by simpa using k2, q1⟩
      | succ k =>
        simp only [List.getElem?_cons_succ] at hk
        obtain ⟨d', e1, e2, e3, e4, e5⟩ := q3 k o' hk
        exact ⟨d', e1, e2, e3, by simpa using e4, e5⟩
    · exact h.elim

/-! ### what stands in the slots when the operations of S are done -/
def which : List Oper → Nat → Option Nat
  | [], _ => none
  | o :: r, i => if o.dst = some i then some 0 else (which r i).map (· + 1)
theorem which_some : ∀ {ops : List Oper} {i k : Nat}, which ops i = some k → ∃ o, ops[k]? = some o ∧ o.dst = some i
  | [], _, _, h => by cases h
  | o :: r, i, k, h => by
    simp only [which] at h
    split at h
    · rename_i e; cases h; exact ⟨o, rfl, e⟩
    · cases hw : which r i with
      | none => rw [hw] at h; cases h
      | some k' => rw [hw] at h; cases h; obtain ⟨o', h1, h2⟩ := which_some hw; exact ⟨o', by simpa using h1, h2⟩
theorem which_of : ∀ {ops : List Oper} {i k : Nat} {o : Oper}, (dstsOf ops).Nodup → ops[k]? = some o → o.dst = some i → which ops i = some k
  | [], _, _, _, _, h, _ => by simp at h
  | o' :: r, i, k, o, hn, h, hd => by
    obtain ⟨n1, n2⟩ := List.nodup_cons.1 hn
    cases k with
    | zero => simp at h; subst h; simp [which, hd]
    | succ k =>
      simp only [List.getElem?_cons_succ] at h
      simp only [which]
      rw [if_neg, which_of n2 h hd]; rfl
      intro e
      exact n1 (List.mem_map.2 ⟨o, List.mem_of_getElem? h, by show o.dst = o'.dst; rw [e, hd]⟩)

def mixG (ops : List Oper) (bs : Nat → A) (S : Nat → Prop) [DecidablePred S] (g0 : Nat → A) (i : Nat) : A :=
  match which ops i with
  | some k => if S k then bs k else g0 i
  | none => g0 i

theorem mix_put {ops : List Oper} {bs : Nat → A} {S S' : Nat → Prop} [DecidablePred S] [DecidablePred S'] {g0 : Nat → A} {k d : Nat} {o : Oper} (hn : (dstsOf ops).Nodup) (hk : ops[k]? = some o) (hd : o.dst = some d) (hS : ∀ j, S' j ↔ S j ∨ j = k) :
    mixG ops bs S' g0 = upd (mixG ops bs S g0) d (bs k) := by
  funext i
  unfold mixG upd
  by_cases hi : i = d
  · subst hi
    rw [which_of hn hk hd, if_pos rfl]
    simp only
    rw [if_pos ((hS k).2 (.inr rfl))]
  · rw [if_neg hi]
    dsimp only
    cases hw : which ops i with
    | none => rfl
    | some j =>
      simp only
      have hjk : j ≠ k := by
        rintro rfl
        obtain ⟨o', h1, h2⟩ := which_some hw
        rw [hk] at h1; cases h1
        rw [hd] at h2; cases h2; exact hi rfl
      by_cases hs : S j
      · rw [if_pos hs, if_pos ((hS j).2 (.inl hs))]
      · rw [if_neg hs, if_neg (fun e => ((hS j).1 e).elim hs hjk)]

theorem text_mix {ops : List Oper} {bs : Nat → A} {sts : Nat → St} (hn : (dstsOf ops).Nodup) (h : ∀ k o, ops[k]? = some o → ∃ d, o.dst = some d ∧ sts (k + 1) = (sts k).put d (bs k)) : ∀ k, k ≤ ops.length → stG n (sts k) = mixG ops bs (· < k) (stG n (sts 0))
  | 0, _ => by
    funext i
    unfold mixG
    cases which ops i <;> simp
  | k + 1, hk => by
    have hlt : k < ops.length := hk
    obtain ⟨d, h1, h2⟩ := h k ops[k] (List.getElem?_eq_getElem hlt)
    rw [h2, stG_put, text_mix hn h k (by omega)]
    exact (mix_put hn (List.getElem?_eq_getElem hlt) h1 (fun j => by omega)).symm

end Go.Eng
