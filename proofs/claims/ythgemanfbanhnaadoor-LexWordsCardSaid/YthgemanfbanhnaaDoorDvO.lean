/- What the printed texts lean on. -/
import Derived.Test.YthgemanfbanhnaaDoorDvN
namespace Go.Eng
open Go.RowKit (Below)
set_option linter.unusedVariables false
set_option linter.unusedSimpArgs false

@[reducible] def w64 (x : Int) : Int := IntKind.wrap .i64 x
theorem w64_eq {a : Int} (h : -9223372036854775808 ≤ a) (h2 : a ≤ 9223372036854775807) : w64 a = a := wrap64 h h2

/-! pushing what is still to come into the leaves -/
def push {L R ρ : Type} (x : Option (L ⊕ R)) (g : L → Option ρ) (h : R → Option ρ) : Option ρ := x.bind (Sum.elim g h)
section
variable {L R ρ α : Type} {g : L → Option ρ} {h : R → Option ρ} {k : α → Option ρ}
theorem push_G {p : Prop} [Decidable p] {k : Option (L ⊕ R)} : push (G p k) g h = G p (push k g h) := by unfold G push; split <;> rfl
theorem push_ite {p : Prop} [Decidable p] {a b : Option (L ⊕ R)} : push (if p then a else b) g h = if p then push a g h else push b g h := by split <;> rfl
theorem push_bind {x : Option α} {k : α → Option (L ⊕ R)} : push (x.bind k) g h = x.bind fun a => push (k a) g h := by cases x <;> rfl
theorem push_inl {l : L} : push (some (.inl l)) g h = g l := rfl
theorem push_inr {r : R} : push (some (.inr r)) g h = h r := rfl
def bnd (x : Option α) (k : α → Option ρ) : Option ρ := x.bind k
theorem bnd_G {p : Prop} [Decidable p] {x : Option α} : bnd (G p x) k = G p (bnd x k) := by unfold G bnd; split <;> rfl
theorem bnd_ite {p : Prop} [Decidable p] {a b : Option α} : bnd (if p then a else b) k = if p then bnd a k else bnd b k := by split <;> rfl
theorem bnd_bind {β : Type} {x : Option β} {f : β → Option α} : bnd (x.bind f) k = x.bind fun a => bnd (f a) k := by cases x <;> rfl
theorem bnd_some {a : α} : bnd (some a) k = k a := rfl
end

theorem G_pos {ρ : Type} {p : Prop} [Decidable p] {k : Option ρ} (h : p) : G p k = k := by unfold G; exact if_pos h
theorem G_imp {ρ : Type} {b : Bool} {p : Prop} [Decidable p] {k : Option ρ} (h : p) : G (b = true → p) k = k := by unfold G; exact if_pos (fun _ => h)
theorem G_no {ρ : Type} {b : Bool} {p : Prop} [Decidable p] {k : Option ρ} (h : b = false) : G (b = true → p) k = k := by unfold G; exact if_pos (fun e => by rw [h] at e; cases e)

/-! what is called -/
def Env.add (f : FuncId) (e : List DT → Option CallRes) (E : Env) : Env := fun g args => bif Nat.beq g f then e args else E g args
theorem EnvOk.add {X : Ctx} {E : Env} (h : EnvOk X E) {f : FuncId} {e : List DT → Option CallRes} (he : ∀ args c, e args = some c → CallOk X f args c) : EnvOk X (Env.add f e E) := by
  intro g args c hc
  unfold Env.add at hc
  by_cases hg : g = f
  · subst hg
    rw [Nat.beq_refl] at hc
    exact he args c hc
  · rw [beq_ne hg] at hc; exact h g args c hc
def E_0 : Env := fun _ _ => none
theorem E_0_ok {X : Ctx} : EnvOk X E_0 := fun _ _ _ h => by cases h

def bareD : DT → Bool
  | .u => true
  | .s t _ => t.bare
  | .own _ t _ => t.bare
  | .box _ cs => all cs
  | .tup cs => all cs
where all : List DT → Bool
  | [] => true
  | x :: xs => match bareD x with
    | true => all xs
    | false => false
theorem noSl_list (t : Ty) (h : t.bare = true) (l : List t.I) : T.noSl.all (l.map t.enc) = true := by
  induction l with
  | nil => rfl
  | cons x l ih => simp only [List.map_cons, T.noSl.all, enc_noSl t x h, ih, Bool.and_self]
theorem noSl_res : ∀ {d : DT}, bareD d = true → d.toT.noSl = true
  | .u, _ => rfl
  | .s t x, h => enc_noSl t x h
  | .own e t l, h => noSl_list t h l
  | .box e cs, h => noSl_all cs h
  | .tup cs, h => noSl_all cs h
where noSl_all : ∀ (cs : List DT), bareD.all cs = true → T.noSl.all (DT.toT.all cs) = true
  | [], _ => rfl
  | x :: xs, h => by
    simp only [bareD.all] at h
    cases hx : bareD x with
    | false => rw [hx] at h; cases h
    | true =>
      rw [hx] at h
      simp only [DT.toT.all, T.noSl.all, noSl_res hx, noSl_all xs h, Bool.and_self]

def listWF (st : DSt) : DSt → Prop
  | [] => True
  | p :: r => slotWF st p.2 ∧ listWF st r
theorem WF_list {st : DSt} (h : listWF st st) : WF st := by
  have key : ∀ (l : DSt), listWF st l → ∀ k a, l.find k = some a → slotWF st a := by
    intro l
    induction l with
    | nil => intro _ k a h; cases h
    | cons p r ih =>
      obtain ⟨i, x⟩ := p
      intro hl k a hf
      simp only [DSt.find] at hf
      cases hb : Nat.beq k i with
      | true => rw [hb] at hf; cases hf; exact hl.1
      | false => rw [hb] at hf; exact ih hl.2 k a hf
  exact fun k a hf => key st h k a hf

theorem APure_of_straight {X : Ctx} {Y : DX} {E : Env} {F : FnD} (hY : DXOk Y X) (hE : EnvOk X E) (hm : X.P.follows .mixedOrders = true) {f : FuncId} {fn : Func} {body : Code} (hf : X.P.funcs[f]? = some fn) (hb : fn.body = some body) (hn : fn.ntmps = F.n) (hrs : fn.results = (F.rs.map ResultVar.tmp).toArray) (hndr : F.rs.Nodup)
    {args : List DT} (hlen : args.length ≤ F.n) (hnd : nodupN ((subsC body []).map (·.1)) = true) {fuel : Nat} {R : Type} (encR : R → List DT)
    {ent : Option R} (hent : ∀ (goto : Nat → DSt → Option Unit) (ret : List DT → Option Unit), runD Y E F goto ret fuel (.code body []) (entryD 0 args) = bnd ent fun r => ret (encR r))
    {r : R} (hr : ent = some r) : APure X f (args.map DT.toT) (resT ((encR r).map DT.toT)) := by
  refine APure_of_machine (F := F) (fuel := fuel) hY hE hm hf hb hn hrs hndr hlen hnd (L := Empty) (fun l => l.elim) (fun l => l.elim) encR (fun l => l.elim) (fun l => l.elim) (ent := ent.map .inr) (fun goto ret => ?_) ?_
  · rw [hent, hr]; rfl
  · rw [hr]; rfl

/-! ### a program whose listed tables nobody writes -/
def valsT : (t : Ty) → t.I → List Value
  | .u8, x => [.int .u8 ((x : UInt8).toNat : Int)]
  | .int k, x => [.int k x]
  | .bool, x => [.bool x]
  | .str, x => [.string (mkS x)]
  | .pair a b, x => valsT a x.1 ++ valsT b x.2
  | _, _ => []
theorem valsT_spec : ∀ (t : Ty) (x : t.I), t.bare = true → t.fine = true → t.cells x = (valsT t x).map .v ∧ ∀ y ∈ valsT t x, y.oneCell' = true
  | .u8, x, _, _ => ⟨rfl, by simp [valsT, Value.oneCell']⟩
  | .int k, x, _, _ => ⟨rfl, by simp [valsT, Value.oneCell']⟩
  | .bool, x, _, _ => ⟨rfl, by simp [valsT, Value.oneCell']⟩
  | .str, x, _, _ => ⟨rfl, by simp [valsT, Value.oneCell']⟩
  | .unit, x, _, _ => ⟨rfl, by simp [valsT]⟩
  | .opq, x, _, h => by cases h
  | .sl _ _, x, h, _ => by cases h
  | .pair a b, x, h1, h2 => by
    simp only [Ty.bare, Bool.and_eq_true] at h1
    simp only [Ty.fine, Bool.and_eq_true] at h2
    obtain ⟨p1, p2⟩ := valsT_spec a x.1 h1.1 h2.1
    obtain ⟨q1, q2⟩ := valsT_spec b x.2 h1.2 h2.2
    refine ⟨by simp only [Ty.cells, valsT, List.map_append, p1, q1], fun y hy => ?_⟩
    simp only [valsT, List.mem_append] at hy
    rcases hy with hy | hy
    · exact p2 y hy
    · exact q2 y hy
def Glob.vals : Glob → List Value
  | .one t x => valsT t x
  | .arr t l => l.flatMap (valsT t)
def Glob.ok : Glob → Bool
  | .one t _ => t.bare && t.fine
  | .arr t _ => t.bare && t.fine
theorem Glob.spec (x : Glob) (h : x.ok = true) : x.cells = x.vals.map .v ∧ ∀ y ∈ x.vals, y.oneCell' = true := by
  cases x with
  | one t y =>
    simp only [Glob.ok, Bool.and_eq_true] at h
    exact valsT_spec t y h.1 h.2
  | arr t l =>
    simp only [Glob.ok, Bool.and_eq_true] at h
    simp only [Glob.cells, Glob.vals]
    induction l with
    | nil => exact ⟨rfl, by simp⟩
    | cons a l ih =>
      obtain ⟨p1, p2⟩ := valsT_spec t a h.1 h.2
      refine ⟨by simp only [List.flatMap_cons, List.map_append, p1, ih.1], fun y hy => ?_⟩
      simp only [List.flatMap_cons, List.mem_append] at hy
      rcases hy with hy | hy
      · exact p2 y hy
      · exact ih.2 y hy
def globsOk (N : Nat) : List (Nat × Glob) → Bool
  | [] => true
  | (k, x) :: r => Nat.blt k N && (x.ok && globsOk N r)
theorem globsOk_spec {N : Nat} : ∀ {l : List (Nat × Glob)}, globsOk N l = true → ∀ p ∈ l, p.1 < N ∧ p.2.ok = true
  | [], _, p, h => by cases h
  | (k, x) :: r, hl, p, h => by
    simp only [globsOk, Bool.and_eq_true, Nat.blt_eq] at hl
    rcases List.mem_cons.1 h with rfl | h2
    · exact ⟨hl.1, hl.2.1⟩
    · exact globsOk_spec hl.2.2 p h2
/-- The tables lie in memory as listed. -/
def laidG (N : Nat) (gt : List (Nat × Glob)) (w : World) : Prop := N ≤ w.heap.size ∧ ∀ p ∈ gt, ∀ (k : Nat) (x : Value), p.2.vals[k]? = some x → w.cell? ⟨p.1, k, none⟩ = some x
def mkCtx (P : Program) (N : Nat) (gt : List (Nat × Glob)) (h : globsOk N gt = true) : Ctx where
  P := P
  N := N
  G := laidG N gt
  gl := fun g => (look gt g).map Glob.cells
  hN := fun w h => h.1
  hG := fun w w' hb hs hw => ⟨Nat.le_trans hw.1 hs, fun p hp k x hx => by
    rw [cell_eq_of_block (w := w) (hb p.1 (globsOk_spec h p hp).1)]; exact hw.2 p hp k x hx⟩
  hgl := fun g cs hg => by
    cases hl : look gt g with
    | none => rw [hl] at hg; cases hg
    | some x =>
      rw [hl] at hg
      simp only [Option.map_some, Option.some.injEq] at hg
      subst hg
      have hm := look_mem hl
      obtain ⟨h1, h2⟩ := globsOk_spec h _ hm
      obtain ⟨h3, h4⟩ := x.spec h2
      exact ⟨h1, fun w F hw hF => ⟨x.vals, fun k y hy => hw.2 _ hm k y hy, by rw [h3]; exact zeros_rep _, h4⟩⟩
end Go.Eng
