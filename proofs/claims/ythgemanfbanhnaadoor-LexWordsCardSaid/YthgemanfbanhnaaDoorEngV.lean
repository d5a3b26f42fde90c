/- Typed trees: what slots hold, in the types of Lean; and how they stand for the engine's trees. -/
import Derived.Test.YthgemanfbanhnaaDoorEngU
namespace Go.Eng
open Go.RowKit (Below)
set_option linter.unusedVariables false
set_option linter.unusedSimpArgs false

inductive Ty where
  | u8 | int (k : IntKind) | bool | str | opq | sl (sz : Nat) (t : Ty) | unit | pair (a b : Ty)
  deriving DecidableEq

@[reducible] def Ty.I : Ty → Type
  | .u8 => UInt8
  | .int _ => Int
  | .bool => Bool
  | .str => List UInt8
  | .opq => Value
  | .sl _ t => List t.I
  | .unit => Unit
  | .pair a b => a.I × b.I

def Ty.dflt : (t : Ty) → t.I
  | .u8 => (0 : UInt8)
  | .int _ => (0 : Int)
  | .bool => false
  | .str => ([] : List UInt8)
  | .opq => undef
  | .sl _ _ => []
  | .unit => ()
  | .pair a b => (a.dflt, b.dflt)

def Ty.row : Ty → Bool
  | .unit | .pair _ _ => true
  | _ => false
def Ty.sz : Ty → Nat
  | .unit => 0
  | .pair a b => a.sz + b.sz
  | _ => 1
/-- Nothing in it is kept without its kind. -/
def Ty.fine : Ty → Bool
  | .opq => false
  | .sl _ t => t.fine
  | .pair a b => a.fine && b.fine
  | _ => true
/-- No slice in it. -/
def Ty.bare : Ty → Bool
  | .sl _ _ => false
  | .pair a b => a.bare && b.bare
  | _ => true

def mkT (r : Bool) (cs : List T) : T := match r with
  | true => .ag cs
  | false => cs.headD .u
def Ty.cells : (t : Ty) → t.I → List T
  | .u8, x => [.v (.int .u8 ((x : UInt8).toNat : Int))]
  | .int k, x => [.v (.int k x)]
  | .bool, x => [.v (.bool x)]
  | .str, x => [.v (.string (mkS x))]
  | .opq, x => [.v x]
  | .sl sz t, l => [.sl sz (List.map (fun x => mkT t.row (t.cells x)) l)]
  | .unit, _ => []
  | .pair a b, x => a.cells x.1 ++ b.cells x.2
def Ty.enc (t : Ty) (x : t.I) : T := mkT t.row (t.cells x)

theorem cells_sl (sz : Nat) (t : Ty) (l : List t.I) : (Ty.sl sz t).cells l = [.sl sz (l.map t.enc)] := rfl
theorem enc_sl (sz : Nat) (t : Ty) (l : List t.I) : (Ty.sl sz t).enc l = .sl sz (l.map t.enc) := rfl

theorem cells_len : ∀ (t : Ty) (x : t.I), (t.cells x).length = t.sz
  | .u8, _ | .int _, _ | .bool, _ | .str, _ | .opq, _ | .sl _ _, _ => rfl
  | .unit, _ => rfl
  | .pair a b, x => by simp only [Ty.cells, List.length_append, cells_len a, cells_len b, Ty.sz]

theorem cells_one (t : Ty) (x : t.I) (h : t.row = false) : t.cells x = [t.enc x] ∧ (t.enc x).cells = [t.enc x] := by
  cases t <;> first | exact ⟨rfl, rfl⟩ | cases h
theorem enc_row (t : Ty) (x : t.I) (h : t.row = true) : t.enc x = .ag (t.cells x) := by unfold Ty.enc; rw [h]; rfl
theorem enc_cells (t : Ty) (x : t.I) : (t.enc x).cells = t.cells x := by
  cases h : t.row
  · obtain ⟨h1, h2⟩ := cells_one t x h; rw [h1, h2]
  · rw [enc_row t x h]; rfl
theorem sz_one (t : Ty) (h : t.row = false) : t.sz = 1 := by cases t <;> first | rfl | cases h

theorem cells_flat : ∀ (t : Ty) (x : t.I), (t.cells x).all T.flat = true
  | .u8, _ | .int _, _ | .bool, _ | .str, _ | .opq, _ | .sl _ _, _ => rfl
  | .unit, _ => rfl
  | .pair a b, x => by simp only [Ty.cells, List.all_append, cells_flat a, cells_flat b, Bool.and_self]
theorem enc_flat (t : Ty) (x : t.I) : (t.enc x).flat = true := by
  cases t <;> rfl

theorem cells_solid : ∀ (t : Ty) (x : t.I), t.fine = true → (t.cells x).all T.solid = true
  | .u8, _, _ | .int _, _, _ | .bool, _, _ | .str, _, _ | .sl _ _, _, _ => rfl
  | .opq, _, h => by cases h
  | .unit, _, _ => rfl
  | .pair a b, x, h => by
    simp only [Ty.fine, Bool.and_eq_true] at h
    simp only [Ty.cells, List.all_append, cells_solid a _ h.1, cells_solid b _ h.2, Bool.and_self]
theorem enc_solid (t : Ty) (x : t.I) (h : t.fine = true) : (t.enc x).solid = true := by
  cases t <;> first | rfl | cases h

theorem cells_noSl : ∀ (t : Ty) (x : t.I), t.bare = true → T.noSl.all (t.cells x) = true
  | .u8, _, _ | .int _, _, _ | .bool, _, _ | .str, _, _ | .opq, _, _ => rfl
  | .sl _ _, _, h => by cases h
  | .unit, _, _ => rfl
  | .pair a b, x, h => by
    simp only [Ty.bare, Bool.and_eq_true] at h
    exact noSl_append _ _ (cells_noSl a _ h.1) (cells_noSl b _ h.2)
theorem enc_noSl (t : Ty) (x : t.I) (h : t.bare = true) : (t.enc x).noSl = true := by
  cases hr : t.row
  · have := cells_noSl t x h
    rw [(cells_one t x hr).1] at this
    simpa [T.noSl.all] using this
  · rw [enc_row t x hr]; exact cells_noSl t x h

theorem fz_enc : ∀ (t : Ty) (x : t.I), (t.enc x).fz = t.enc x := by
  have key : ∀ (t : Ty) (x : t.I), (t.cells x).map T.fz = t.cells x := by
    intro t
    induction t with
    | u8 | int | bool | str | opq | sl => intro x; rfl
    | unit => intro x; rfl
    | pair a b iha ihb => intro x; simp only [Ty.cells, List.map_append, iha, ihb]
  intro t x
  cases hr : t.row
  · have := key t x
    rw [(cells_one t x hr).1] at this
    simpa using this
  · rw [enc_row t x hr]; simp only [T.fz, fzAll_eq, key]
theorem fz_map (t : Ty) (l : List t.I) : (l.map t.enc).map T.fz = l.map t.enc := by
  rw [List.map_map]; congr 1; funext x; exact fz_enc t x
theorem flat_list (t : Ty) (l : List t.I) : ((l.map t.enc).flatMap T.cells).all T.flat = true := by
  induction l with
  | nil => rfl
  | cons x l ih => simp only [List.map_cons, List.flatMap_cons, List.all_append, enc_cells, cells_flat, ih, Bool.and_self]
theorem len_list (t : Ty) (l : List t.I) : ∀ y ∈ l.map t.enc, y.cells.length = t.sz := by
  intro y hu
  obtain ⟨x, _, rfl⟩ := List.mem_map.1 hu
  rw [enc_cells, cells_len]
theorem map_cut {α β : Type} (f : α → β) (l : List α) (a b : Nat) : cut (l.map f) a b = (cut l a b).map f := by simp [cut, List.map_take, List.map_drop]

theorem beq_ne {a b : Nat} (h : a ≠ b) : Nat.beq a b = false := by
  cases hq : Nat.beq a b with
  | false => rfl
  | true => exact absurd (Nat.eq_of_beq_eq_true hq) h

/-! ### trees -/
inductive DT where
  | u
  | s (t : Ty) (x : t.I)
  | own (e : TypeId) (t : Ty) (l : List t.I)
  | box (e : TypeId) (cs : List DT)
  | tup (cs : List DT)

def DT.toT : DT → T
  | .u => .u
  | .s t x => t.enc x
  | .own e t l => .own e t.sz (l.map t.enc)
  | .box e cs => .box e (all cs)
  | .tup cs => .tup (all cs)
where all : List DT → List T
  | [] => []
  | x :: xs => x.toT :: all xs
theorem all_eq (cs : List DT) : DT.toT.all cs = cs.map DT.toT := by
  induction cs with
  | nil => rfl
  | cons c cs ih => simp only [DT.toT.all, ih, List.map_cons]

/-- How much of a slice is looked at. -/
inductive Vw where
  | all | tail | head | mid
  deriving DecidableEq

inductive DA where
  | t (x : DT)
  | ref (r : Nat) (p : Option Nat) (off len : Nat) (v : Vw)
  | eptr (r : Nat) (p : Option Nat) (i j : Nat)
  | pref (r : Nat) (p : Option Nat) (off : Nat)
  | sptr (t : Ty) (x : t.I)
  | sarr (t : Ty) (l : List t.I)
  | opt (d : Nat) (w b : Bool) (a : DA)

def DA.toA : DA → A
  | .t x => .t x.toT
  | .ref r p off len _ => .ref r p off len
  | .eptr r p i j => .eptr r p i j
  | .pref r p off => .pref r p off
  | .sptr ty x => .sptr (ty.cells x)
  | .sarr ty l => .sptr (l.flatMap ty.cells)
  | .opt _ _ b a => .opt b a.toA

abbrev DSt := List (Nat × DA)
def DSt.find : DSt → Nat → Option DA
  | [], _ => none
  | (k, a) :: r, i => bif Nat.beq i k then some a else DSt.find r i
def DSt.put : DSt → Nat → DA → DSt
  | [], d, a => [(d, a)]
  | (k, x) :: r, d, a => bif Nat.beq d k then (k, a) :: r else (k, x) :: DSt.put r d a
def DSt.mapA (f : DA → DA) : DSt → DSt
  | [] => []
  | (k, a) :: r => (k, f a) :: DSt.mapA f r
def DSt.toSt : DSt → St
  | [] => []
  | (k, a) :: r => (k, a.toA) :: DSt.toSt r

theorem find_toSt : ∀ (st : DSt) (i : Nat), st.toSt.find i = (st.find i).map DA.toA
  | [], _ => rfl
  | (k, a) :: r, i => by
    simp only [DSt.toSt, St.find, DSt.find]
    by_cases h : i = k
    · subst h; simp
    · rw [if_neg h, find_toSt r i]
      have : Nat.beq i k = false := beq_ne h
      rw [this]; rfl
theorem put_toSt : ∀ (st : DSt) (d : Nat) (a : DA), (st.put d a).toSt = st.toSt.put d a.toA
  | [], _, _ => rfl
  | (k, x) :: r, d, a => by
    simp only [DSt.toSt, St.put, DSt.put]
    by_cases h : d = k
    · subst h; simp [DSt.toSt]
    · have : Nat.beq d k = false := beq_ne h
      rw [if_neg h, this]
      simp only [cond_false, DSt.toSt, put_toSt r d a]
theorem mapA_toSt (f : DA → DA) (f' : A → A) (hf : ∀ a, (f a).toA = f' a.toA) : ∀ st : DSt, (st.mapA f).toSt = st.toSt.mapA f'
  | [] => rfl
  | (k, a) :: r => by simp only [DSt.mapA, DSt.toSt, St.mapA, hf, mapA_toSt f f' hf r]
theorem find_dput (st : DSt) (d : Nat) (a : DA) (i : Nat) : (st.put d a).find i = if i = d then some a else st.find i := by
  induction st with
  | nil =>
    simp only [DSt.put, DSt.find]
    by_cases h : i = d
    · subst h; simp
    · rw [beq_ne h, if_neg h]; rfl
  | cons p r ih =>
    obtain ⟨k, x⟩ := p
    simp only [DSt.put]
    by_cases h : d = k
    · subst h
      simp only [Nat.beq_refl, cond_true, DSt.find]
      by_cases h1 : i = d
      · subst h1; simp
      · rw [beq_ne h1, if_neg h1]; rfl
    · have : Nat.beq d k = false := beq_ne h
      rw [this]
      simp only [cond_false, DSt.find, ih]
      by_cases h1 : i = k
      · subst h1
        have h3 : ¬ i = d := fun e => h e.symm
        simp [h3]
      · have h2 : Nat.beq i k = false := beq_ne h1
        rw [h2]; rfl
theorem find_dmap (f : DA → DA) (st : DSt) (i : Nat) : (st.mapA f).find i = (st.find i).map f := by
  induction st with
  | nil => rfl
  | cons p r ih =>
    obtain ⟨k, x⟩ := p
    simp only [DSt.mapA, DSt.find, ih]
    cases Nat.beq i k <;> rfl
theorem stG_toSt (n : Nat) (st : DSt) (i : Nat) : stG n st.toSt i = match st.find i with
    | some a => a.toA
    | none => if i = n then .ghost else .t .u := by
  unfold stG; rw [find_toSt]; cases st.find i <;> rfl

/-- What the guard of a slot says. -/
def gB (st : DSt) (d : Nat) (w : Bool) : Option Bool := match st.find d with
  | some (.t (.s .bool q)) => some (match w with | true => q | false => !q)
  | some (.opt _ _ b (.t (.s .bool q))) => some (match w with | true => b && q | false => b && !q)
  | _ => none
def rootD (st : DSt) (r : Nat) : Option Nat → Option DT
  | none => match st.find r with
    | some (.t x) => some x
    | _ => none
  | some k => match st.find r with
    | some (.t (.box _ cs)) => cs[k]?
    | _ => none
def DA.isOpt : DA → Bool
  | .opt _ _ _ _ => true
  | _ => false
/-- What is known of a view. -/
def vwOk (off len n : Nat) : Vw → Prop
  | .all => off = 0 ∧ len = n
  | .tail => off ≤ n ∧ len = n - off
  | .head => off = 0 ∧ len ≤ n
  | .mid => True
def viewOk (st : DSt) : DA → Prop
  | .ref r p off len v => v = .mid ∨ ∃ e t l, rootD st r p = some (.own e t l) ∧ vwOk off len l.length v
  | _ => True
/-- What holds of each slot. -/
def slotWF (st : DSt) : DA → Prop
  | .opt d w b a => (∀ b', gB st d w = some b' → b' = b) ∧ a.isOpt = false ∧ viewOk st a
  | a => viewOk st a
def WF (st : DSt) : Prop := ∀ k a, st.find k = some a → slotWF st a
end Go.Eng
