/- Operations, guards, regions, in typed trees. -/
import Derived.Test.YthgemanfbanhnaaDoorDvE
namespace Go.Eng
open Go.RowKit (Below)
set_option linter.unusedVariables false
set_option linter.unusedSimpArgs false

section
variable {ρ : Type}

def ownerD (st : DSt) (d : Nat) : Bool := match st.find d with
  | some (.t (.own _ _ _)) => true
  | some (.t (.box _ _)) => true
  | _ => false
def noRef : DSt → Nat → Bool
  | [], _ => true
  | (_, .opt d' _ _ _) :: r, d => bif Nat.beq d' d then false else noRef r d
  | _ :: r, d => noRef r d
def memN : List Nat → Nat → Bool
  | [], _ => false
  | k :: r, i => bif Nat.beq i k then true else memN r i
def dstD (n : Nat) (Z : List Nat) (st : DSt) (d : Nat) : Bool := Nat.blt d n && (!memN Z d && (!ownerD st d && noRef st d))

def redirD (s d : Nat) : DA → DA
  | .ref r q off len v => .ref (bif Nat.beq r s then d else r) q off len v
  | .eptr r q i j => .eptr (bif Nat.beq r s then d else r) q i j
  | .pref r q off => .pref (bif Nat.beq r s then d else r) q off
  | .opt g w b a => .opt g w b (redirD s d a)
  | a => a
def aliasD (d : Nat) : DT → DA
  | .own _ _ l => .ref d none 0 l.length .all
  | .box _ _ => .pref d none 0
  | _ => .t .u
def moveDS (st : DSt) (s d : Nat) (x : DT) : DSt := ((st.mapA (redirD s d)).put s (aliasD d x)).put d (.t x)

def killQ (r : Nat) (p : Option Nat) (r' : Nat) (q : Option Nat) : Bool := Nat.beq r' r && (match p with
  | none => true
  | some k => match q with
    | some j => Nat.beq j k
    | none => false)
def killD (r : Nat) (p : Option Nat) : DA → DA
  | .ref r' q off len v => match killQ r p r' q with
    | true => .t .u
    | false => .ref r' q off len v
  | .eptr r' q i j => match killQ r p r' q with
    | true => .t .u
    | false => .eptr r' q i j
  | .pref r' q off => match killQ r p r' q with
    | true => .t .u
    | false => .pref r' q off
  | .opt g w b a => .opt g w b (killD r p a)
  | a => a
def putDT (t0 : DT) (p : Option Nat) (t' : DT) : DT := match p, t0 with
  | none, _ => t'
  | some k, .box e cs => .box e (cs.set k t')
  | some _, t => t
def turnDS (st : DSt) (r : Nat) (p : Option Nat) (t0 t' : DT) : DSt := (st.mapA (killD r p)).put r (.t (putDT t0 p t'))

def localD (Y : DX) (n : Nat) (Z : List Nat) (st : DSt) (E : Env) (o : Oper) (K : DSt → Option ρ) : Option ρ := match o.dst with
  | some d => locD Y st none E o fun a => tst (dstD n Z st d) (K (st.put d a))
  | none => locD Y st none E o fun _ => K st
def moveD (n : Nat) (Z : List Nat) (st : DSt) (o : Oper) (s : Nat) (x : DT) (K : DSt → Option ρ) : Option ρ := match o.dst with
  | some d => tst (dstD n Z st d && !Nat.beq d s) (K (moveDS st s d x))
  | none => none

/-- What append brings. -/
def newsD (Y : DX) (st : DSt) (y : Operand) (t u : TypeId) (ty : Ty) (b : Nat) (k : Nat) (K : List ty.I → Option ρ) : Option ρ := match rdD Y none st y with
  | some (.t (.s .str s)) => match castT (a := .sl 1 .u8) (b := .sl 1 ty) s with
    | some (s' : List ty.I) => tst (isTy Y u .str && Nat.beq b 1) (G (k + s.length ≤ 140737488355328) (K s'))
    | none => none
  | some a => match elemsD st a with
    | some ⟨t2, l2⟩ => match castT (a := .sl 1 t2) (b := .sl 1 ty) l2 with
      | some (l' : List ty.I) => tst (Nat.beq u t) (G ((k + l2.length) * b ≤ 140737488355328) (K l'))
      | none => none
    | none => none
  | none => none

def opD (Y : DX) (n : Nat) (Z : List Nat) (st : DSt) (E : Env) (o : Oper) (K : DSt → Option ρ) : Option ρ := match o.op with
  | .assign (.tmp s) => match st.find s with
    | some (.t (.own e t l)) => moveD n Z st o s (.own e t l) K
    | some (.t (.box e cs)) => moveD n Z st o s (.box e cs) K
    | _ => localD Y n Z st E o K
  | .extract (.tmp r) i => match st.find r with
    | some (.t (.tup cs)) => match cs[i]? with
      | some c => match flatD c with
        | true => localD Y n Z st E o K
        | false => match o.dst with
          | some d => tst (dstD n Z st d && !Nat.beq d r) (K ((st.put r (.t (.tup (cs.set i .u)))).put d (.t c)))
          | none => none
      | none => none
    | _ => none
  | .call { callee := .builtin .append, args := ⟨[x, y]⟩, argTypes := ⟨[t, u]⟩ } => match o.dst, rdD Y none st x with
    | some d, some (.ref r p off k v) => match st.find r, rootD st r p, sliT Y t with
      | some (.t t0), some (.own e ty l), some (e', ty', b) => tst (dstD n Z st d && !Nat.beq d r && Nat.beq e' e && decide (ty' = ty))
        (match v with
        | .all => newsD Y st y t u ty b k fun l2 => K ((turnDS st r p t0 .u).put d (.t (.own e ty (l ++ l2))))
        | .head => newsD Y st y t u ty b k fun l2 => K ((turnDS st r p t0 .u).put d (.t (.own e ty (l.take k ++ l2))))
        | _ => none)
      | _, _, _ => none
    | _, _ => none
  | .store t a v => match o.dst, rdD Y none st a, rdD Y none st v with
    | none, some (.pref r none off), some (.t (.s tv x)) => match st.find r, tyT Y t with
      | some (.t (.box e cs)), some w => tst (decide (w = tv) && w.fine && Nat.ble (off + w.sz) cs.length && flatsD ((cs.drop off).take w.sz)) (K (st.put r (.t (.box e (placeT cs off (splitD tv x))))))
      | _, _ => none
    | none, some (.eptr r none i j), some (.t (.s tv x)) => match st.find r, tyT Y t with
      | some (.t (.own e ty l)), some w => match putAt ty (l.getD i ty.dflt) j (.s tv x) with
        | some y => tst (decide (w = tv) && w.fine && Nat.blt 0 w.sz) (K (st.put r (.t (.own e ty (l.set i y)))))
        | none => none
      | _, _ => none
    | _, _, _ => none
  | _ => localD Y n Z st E o K

def plainD : DA → Bool
  | .t x => flatD x
  | .opt _ _ _ _ => false
  | _ => true
def g1D (Y : DX) (E : Env) (all : List Oper) (st : DSt) (o : Oper) (K : DA → Option ρ) : Option ρ := match o.guard with
  | none => locD Y st none E o K
  | some (j, want) => match all[j]? with
    | some o' => match o'.dst with
      | some dj => match gB st dj want with
        | some b => locD Y st (some (dj, want, b)) E o fun a => tst (plainD a) (K (.opt dj want b a))
        | none => none
      | none => none
    | none => none
def refOf : DA → Nat → Bool
  | .opt d' _ _ _, d => Nat.beq d' d
  | _, _ => false
def atkD (ds : List Nat) : DA → Bool
  | .ref r _ _ _ _ => memN ds r
  | .eptr r _ _ _ => memN ds r
  | .pref r _ _ => memN ds r
  | .opt _ _ _ a => atkD ds a
  | _ => false
/-- Who is written over is owner no more. -/
def atDrop (d : Nat) : DA → Bool
  | .opt _ _ _ a => match a with
    | .t _ => false
    | _ => true
  | a => atkD [d] a
def dropA (d : Nat) (a : DA) : DA := match atDrop d a with
  | true => .t .u
  | false => a
def dropDS (st : DSt) (d : Nat) : DSt := (st.mapA (dropA d)).put d (.t .u)
def prepD (st : DSt) (o : Oper) : DSt := match o.dst with
  | some d => match ownerD st d with
    | true => dropDS st d
    | false => st
  | none => st
def gopD (Y : DX) (n : Nat) (Z : List Nat) (E : Env) (all : List Oper) (st : DSt) (o : Oper) (K : DSt → Option ρ) : Option ρ := match o.guard with
  | none => opD Y n Z (prepD st o) E o K
  | some _ => match o.dst with
    | some d => g1D Y E all st o fun a => tst (dstD n Z st d && !refOf a d) (K (st.put d a))
    | none => none
def regD (Y : DX) (n : Nat) (Z : List Nat) (E : Env) (all : List Oper) : List Oper → DSt → (DSt → Option ρ) → Option ρ
  | [], st, K => K st
  | o :: rest, st, K => gopD Y n Z E all st o fun st' => regD Y n Z E all rest st' K

def hideDS (ds : List Nat) : DSt → DSt
  | [] => []
  | (k, a) :: r => (k, bif memN ds k || atkD ds a then .t .u else a) :: hideDS ds r
def drawD (Y : DX) (n : Nat) (Z : List Nat) (E : Env) (all : List Oper) : List (List Nat) → List Oper → DSt → (DSt → Option ρ) → Option ρ
  | _, [], st, K => K st
  | [], _ :: _, _, _ => none
  | ds :: dss, o :: rest, st, K => match o.dst with
    | some d => g1D Y E all (hideDS ds st) o fun a => tst (dstD n Z st d && !refOf a d) (drawD Y n Z E all dss rest (st.put d a) K)
    | none => none

def isTail (o : Oper) : Bool := match o.op with
  | .call { callee := .builtin .append, .. } => true
  | .store _ _ _ => true
  | _ => false
def headLen : List Oper → Nat
  | [] => 0
  | o :: r => match isTail o with
    | true => 0
    | false => headLen r + 1
def hideT (loc : List Oper) (tab : List (List Nat)) : List (List Nat) :=
  (List.range loc.length).map fun k => (List.range loc.length).filterMap fun j => if j == k || (tab.getD k []).contains j || (tab.getD j []).contains k then none else (loc[j]?).bind (·.dst)

def regionD (Y : DX) (n : Nat) (Z : List Nat) (E : Env) (ops : Array Oper) (op : Bool) (st : DSt) (K : DSt → Option ρ) : Option ρ := match op with
  | false => regD Y n Z E ops.toList ops.toList st K
  | true =>
    tst (drawOk (ops.toList.take (headLen ops.toList)) (ops.toList.drop (headLen ops.toList)) (ancTab ops.toList []) (hideT (ops.toList.take (headLen ops.toList)) (ancTab ops.toList [])) && (st.find n).isNone)
      (drawD Y n Z E ops.toList (hideT (ops.toList.take (headLen ops.toList)) (ancTab ops.toList [])) (ops.toList.take (headLen ops.toList)) st fun s => regD Y n Z E ops.toList (ops.toList.drop (headLen ops.toList)) s K)
end

/-! ### that it is so -/
variable {X : Ctx} {Y : DX} {n : Nat} {Z : List Nat} {st : DSt} {E : Env} {ρ : Type} {r : ρ}

theorem memN_spec {l : List Nat} {i : Nat} : memN l i = true ↔ i ∈ l := by
  induction l with
  | nil => simp [memN]
  | cons k l ih =>
    simp only [memN, List.mem_cons]
    by_cases h : i = k
    · subst h; simp
    · rw [beq_ne h]; simp [h, ih]
theorem noRef_spec : ∀ {st : DSt} {d : Nat}, noRef st d = true → ∀ {k d' : Nat} {w b : Bool} {a : DA}, st.find k = some (.opt d' w b a) → d' ≠ d
  | [], _, _, _, _, _, _, _, h => by cases h
  | (i, x) :: r, d, hn, k, d', w, b, a, h => by
    simp only [DSt.find] at h
    by_cases hk : k = i
    · subst hk
      rw [Nat.beq_refl] at h
      simp only [cond_true, Option.some.injEq] at h
      subst h
      simp only [noRef] at hn
      intro e; subst e
      rw [Nat.beq_refl] at hn; cases hn
    · rw [beq_ne hk] at h
      refine noRef_spec (st := r) ?_ h
      cases x with
      | opt d2 _ _ _ =>
        simp only [noRef] at hn
        cases hb : Nat.beq d2 d with
        | true => rw [hb] at hn; cases hn
        | false => rw [hb] at hn; exact hn
      | _ => exact hn
theorem dstD_spec {d : Nat} (h : dstD n Z st d = true) : dstOk n Z st.toSt d ∧ ownerD st d = false ∧ noRef st d = true := by
  simp only [dstD, Bool.and_eq_true, Nat.blt_eq, Bool.not_eq_true'] at h
  obtain ⟨h1, h2, h3, h4⟩ := h
  refine ⟨⟨h1, fun hm => (by rw [memN_spec.2 hm] at h2; cases h2), ?_⟩, h3, h4⟩
  rw [stG_toSt]
  unfold ownerD at h3
  cases hf : st.find d with
  | none => simp only; split <;> rfl
  | some a =>
    rw [hf] at h3
    cases a with
    | t x =>
      cases x with
      | own | box => cases h3
      | s t y =>
        simp only [DA.toA, DT.toT]
        have := enc_flat t y
        revert this
        cases t.enc y <;> intro hh <;> first | rfl | cases hh
      | _ => rfl
    | _ => rfl

/-- Roots are owners. -/
theorem rootD_owner {r' : Nat} {p : Option Nat} {e : TypeId} {t : Ty} {l : List t.I} (h : rootD st r' p = some (.own e t l)) : ownerD st r' = true := by
  unfold ownerD
  cases p with
  | none =>
    simp only [rootD] at h
    split at h
    · rename_i x hx; cases h; rw [hx]
    · cases h
  | some k =>
    simp only [rootD] at h
    split at h
    · rename_i e cs hx; rw [hx]
    · cases h
theorem rootD_put {d : Nat} {a : DA} (ho : ownerD st d = false) {r' : Nat} {p : Option Nat} {e : TypeId} {t : Ty} {l : List t.I} (h : rootD st r' p = some (.own e t l)) : rootD (st.put d a) r' p = some (.own e t l) := by
  have hne : r' ≠ d := by rintro rfl; rw [rootD_owner h] at ho; cases ho
  cases p <;> simp only [rootD, find_dput, if_neg hne] at h ⊢ <;> exact h
theorem viewOk_mono {st st' : DSt} {a : DA} (h : viewOk st a) (hr : ∀ {r' : Nat} {p : Option Nat} {e : TypeId} {t : Ty} {l : List t.I}, rootD st r' p = some (.own e t l) → rootD st' r' p = some (.own e t l)) : viewOk st' a := by
  cases a with
  | ref r' p off len v =>
    rcases h with h | ⟨e, t, l, h1, h2⟩
    · exact .inl h
    · exact .inr ⟨e, t, l, hr h1, h2⟩
  | _ => trivial
theorem gB_put {d d' : Nat} {w : Bool} {a : DA} (h : d' ≠ d) : gB (st.put d a) d' w = gB st d' w := by
  unfold gB; rw [find_dput, if_neg h]
theorem WF.put (hw : WF st) {d : Nat} {a : DA} (ho : ownerD st d = false) (hn : noRef st d = true) (ha : slotWF st a) (hd : refOf a d = false) : WF (st.put d a) := by
  intro k x hx
  rw [find_dput] at hx
  have key : ∀ x, slotWF st x → refOf x d = false → slotWF (st.put d a) x := by
    intro x hx hr
    cases x with
    | opt d' w b a' =>
      have hne : d' ≠ d := by intro e; subst e; simp only [refOf, Nat.beq_refl] at hr; cases hr
      exact ⟨fun b' hb => hx.1 b' (by rw [← gB_put (st := st) (a := a) hne]; exact hb), hx.2.1, viewOk_mono hx.2.2 (rootD_put ho)⟩
    | ref r' p off len v => exact viewOk_mono (show viewOk st (.ref r' p off len v) from hx) (rootD_put ho)
    | _ => trivial
  by_cases hk : k = d
  · rw [if_pos hk] at hx; cases hx; exact key _ ha hd
  · rw [if_neg hk] at hx
    refine key x (hw k x hx) ?_
    cases x with
    | opt d' w b a' => exact beq_ne (noRef_spec hn hx)
    | _ => rfl
theorem refOf_of {a : DA} (h : a.isOpt = false) (d : Nat) : refOf a d = false := by cases a <;> first | rfl | cases h
theorem slotWF_of {a : DA} (h : a.isOpt = false) (hv : viewOk st a) : slotWF st a := by cases a <;> first | exact hv | cases h
theorem toA_ne_ghost (a : DA) : a.toA ≠ .ghost := by cases a <;> intro h <;> cases h

theorem localD_sound (hY : DXOk Y X) (hE : EnvOk X E) (hw : WF st) {o : Oper} {K : DSt → Option ρ} (h : localD Y n Z st E o K = some r) :
    ∃ st', Step X n Z (stG n st.toSt) o (stG n st'.toSt) ∧ WF st' ∧ K st' = some r := by
  unfold localD at h
  split at h
  · rename_i d hd
    obtain ⟨a, h1, h2, h3, h4⟩ := locD_sound (n := n) hY hE hw (γ := none) trivial h
    obtain ⟨h5, h6⟩ := tst_some h4
    obtain ⟨k1, k2, k3⟩ := dstD_spec h5
    refine ⟨_, ?_, hw.put k2 k3 (slotWF_of h2 h3) (refOf_of h2 d), h6⟩
    rw [put_toSt, stG_put]
    exact (h1 trivial).step (toA_ne_ghost a) hd ⟨k1.1, k1.2.1⟩ k1.2.2
  · rename_i hd
    obtain ⟨a, h1, h2, h3, h4⟩ := locD_sound (n := n) hY hE hw (γ := none) trivial h
    exact ⟨st, (h1 trivial).step0 hd, hw, h4⟩

/-! moving -/
theorem redirD_toA (s d : Nat) (a : DA) : (redirD s d a).toA = redir s d a.toA := by
  have hb : ∀ r : Nat, (bif Nat.beq r s then d else r) = if r = s then d else r := fun r => by
    by_cases h : r = s
    · subst h; simp
    · rw [beq_ne h, if_neg h]; rfl
  induction a with
  | ref r q off len v => simp only [redirD, DA.toA, redir, hb]
  | eptr r q i j => simp only [redirD, DA.toA, redir, hb]
  | pref r q off => simp only [redirD, DA.toA, redir, hb]
  | opt g w b a ih => simp only [redirD, DA.toA, redir, ih]
  | _ => rfl
theorem aliasD_toA (d : Nat) (x : DT) : (aliasD d x).toA = aliasT d x.toT := by
  cases x with
  | own e t l => simp [aliasD, DA.toA, DT.toT, aliasT]
  | s t y =>
    simp only [aliasD, DA.toA, DT.toT]
    have := enc_flat t y
    revert this
    cases t.enc y <;> intro hh <;> first | rfl | cases hh
  | _ => rfl
theorem moveDS_toSt (s d : Nat) (x : DT) : (moveDS st s d x).toSt = moveSt st.toSt s d x.toT := by
  unfold moveDS moveSt
  rw [put_toSt, put_toSt, mapA_toSt _ _ (redirD_toA s d), aliasD_toA]; rfl

theorem moveD_sound (hw : WF st) {o : Oper} {s : Nat} {x : DT} {K : DSt → Option ρ} (ho : o.op = .assign (.tmp s)) (hx : st.find s = some (.t x)) (hown : A.owner (.t x.toT) = true) (h : moveD n Z st o s x K = some r) :
    ∃ st', Step X n Z (stG n st.toSt) o (stG n st'.toSt) ∧ WF st' ∧ K st' = some r := by
  unfold moveD at h
  split at h
  · rename_i d hd
    obtain ⟨h1, h2⟩ := tst_some h
    simp only [Bool.and_eq_true, Bool.not_eq_true'] at h1
    have hds : d ≠ s := by rintro rfl; rw [Nat.beq_refl] at h1; cases h1.2
    obtain ⟨k1, k2, k3⟩ := dstD_spec h1.1
    refine ⟨_, ?_, ?_, h2⟩
    · rw [moveDS_toSt, stG_moveSt]
      exact step_move ho hd ⟨k1.1, k1.2.1⟩ hds k1.2.2 (by rw [stG_toSt, hx]; rfl) hown
    · have hfind : ∀ k, (moveDS st s d x).find k = if k = d then some (.t x) else if k = s then some (aliasD d x) else (st.find k).map (redirD s d) := fun k => by
        unfold moveDS; rw [find_dput, find_dput, find_dmap]
      have hroot : ∀ {r' : Nat} {p : Option Nat} {e : TypeId} {t : Ty} {l : List t.I}, rootD st r' p = some (.own e t l) → rootD (moveDS st s d x) (bif Nat.beq r' s then d else r') p = some (.own e t l) := by
        intro r' p e t l hr
        have hnd : r' ≠ d := by rintro rfl; rw [rootD_owner hr] at k2; cases k2
        by_cases hs : r' = s
        · subst hs
          rw [Nat.beq_refl]
          cases p <;> simp only [rootD, cond_true, hfind, if_pos, hx] at hr ⊢ <;> exact hr
        · rw [beq_ne hs]
          cases p with
          | none =>
            simp only [rootD, cond_false, hfind, if_neg hnd, if_neg hs] at hr ⊢
            split at hr
            · rename_i y hy; rw [hy]; exact hr
            · cases hr
          | some k =>
            simp only [rootD, cond_false, hfind, if_neg hnd, if_neg hs] at hr ⊢
            split at hr
            · rename_i e2 cs hy; rw [hy]; exact hr
            · cases hr
      have hview : ∀ a, viewOk st a → viewOk (moveDS st s d x) (redirD s d a) := by
        intro a ha
        cases a with
        | ref r' p off len v =>
          rcases ha with ha | ⟨e, t, l, q1, q2⟩
          · exact .inl ha
          · exact .inr ⟨e, t, l, hroot q1, q2⟩
        | _ => trivial
      intro k y hy
      rw [hfind] at hy
      by_cases hkd : k = d
      · rw [if_pos hkd] at hy; cases hy; trivial
      · rw [if_neg hkd] at hy
        by_cases hks : k = s
        · rw [if_pos hks] at hy
          cases hy
          cases x with
          | own e t l => exact .inr ⟨e, t, l, by simp only [rootD, hfind, if_pos], rfl, rfl⟩
          | _ => trivial
        · rw [if_neg hks] at hy
          cases hq : st.find k with
          | none => rw [hq] at hy; cases hy
          | some a =>
            rw [hq] at hy
            simp only [Option.map_some, Option.some.injEq] at hy
            subst hy
            have hwf := hw k a hq
            cases a with
            | opt d' w b a' =>
              have hd' : d' ≠ d := noRef_spec k3 hq
              refine ⟨fun b' hb' => hwf.1 b' ?_, ?_, hview a' hwf.2.2⟩
              · unfold gB at hb' ⊢
                rw [hfind, if_neg hd'] at hb'
                by_cases hds' : d' = s
                · subst hds'
                  rw [if_pos rfl] at hb'
                  cases x with
                  | own => cases hb'
                  | box => cases hb'
                  | _ => cases hb'
                · rw [if_neg hds'] at hb'
                  cases hq2 : st.find d' with
                  | none => rw [hq2] at hb'; cases hb'
                  | some a2 =>
                    rw [hq2] at hb'
                    cases a2 with
                    | t y => exact hb'
                    | opt g2 w2 b2 a2 =>
                      cases a2 with
                      | t y => exact hb'
                      | _ => cases hb'
                    | _ => cases hb'
              · have := hwf.2.1
                cases a' <;> first | rfl | cases this
            | ref r' p off len v => exact hview _ (show viewOk st (.ref r' p off len v) from hwf)
            | _ => trivial
  · cases h
end Go.Eng
