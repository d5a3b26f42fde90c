/- Typed trees: reading operands; parts of rows; tables of types. -/
import Derived.Test.YthgemanfbanhnaaDoorEngV
namespace Go.Eng
open Go.RowKit (Below)
set_option linter.unusedVariables false
set_option linter.unusedSimpArgs false

def G {ρ : Type} (p : Prop) [Decidable p] (k : Option ρ) : Option ρ := if p then k else none
theorem G_some {ρ : Type} {p : Prop} [Decidable p] {k : Option ρ} {r : ρ} (h : G p k = some r) : p ∧ k = some r := by
  unfold G at h; split at h
  · exact ⟨‹_›, h⟩
  · cases h

/-- Under which guard: the slot, what it must say, whether it says so. -/
abbrev Gam := Option (Nat × Bool × Bool)
def cP : Gam → Prop
  | none => True
  | some (_, _, b) => b = true
def Gd {ρ : Type} (γ : Gam) (p : Prop) [Decidable p] (k : Option ρ) : Option ρ := match γ with
  | none => G p k
  | some (_, _, b) => G (b = true → p) k
theorem Gd_some {ρ : Type} {γ : Gam} {p : Prop} [Decidable p] {k : Option ρ} {r : ρ} (h : Gd γ p k = some r) : (cP γ → p) ∧ k = some r := by
  unfold Gd at h
  split at h
  · obtain ⟨h1, h2⟩ := G_some h; exact ⟨fun _ => h1, h2⟩
  · obtain ⟨h1, h2⟩ := G_some h; exact ⟨h1, h2⟩
/-- A static test. -/
def tst {ρ : Type} (b : Bool) (k : Option ρ) : Option ρ := match b with
  | true => k
  | false => none
theorem tst_some {ρ : Type} {b : Bool} {k : Option ρ} {r : ρ} (h : tst b k = some r) : b = true ∧ k = some r := by
  cases b
  · cases h
  · exact ⟨rfl, h⟩

def look {α : Type} : List (Nat × α) → Nat → Option α
  | [], _ => none
  | (k, a) :: r, i => bif Nat.beq i k then some a else look r i
theorem look_mem {α : Type} : ∀ {l : List (Nat × α)} {i : Nat} {a : α}, look l i = some a → (i, a) ∈ l
  | [], _, _, h => by cases h
  | (k, x) :: r, i, a, h => by
    simp only [look] at h
    by_cases e : i = k
    · subst e; rw [Nat.beq_refl] at h; simp at h; subst h; simp
    · rw [beq_ne e] at h; exact List.mem_cons_of_mem _ (look_mem h)

def castT {a b : Ty} (x : a.I) : Option b.I := if h : a = b then some (h ▸ x) else none
theorem castT_some {a b : Ty} {x : a.I} {y : b.I} (h : castT x = some y) : ∃ e : a = b, e ▸ x = y := by
  unfold castT at h; split at h
  · cases h; exact ⟨‹_›, rfl⟩
  · cases h
theorem castT_toT {a b : Ty} {x : a.I} {y : b.I} (h : castT x = some y) : b.cells y = a.cells x ∧ b.enc y = a.enc x ∧ b = a := by
  obtain ⟨rfl, rfl⟩ := castT_some h; exact ⟨rfl, rfl, rfl⟩

/-! ### rows -/
def rowOf : List Ty → Ty
  | [] => .unit
  | t :: fs => .pair t (rowOf fs)
def offs : List Ty → Nat → Nat
  | [], _ => 0
  | _, 0 => 0
  | t :: fs, i + 1 => t.sz + offs fs i
def projD : (fs : List Ty) → (rowOf fs).I → Nat → Option DT
  | [], _, _ => none
  | t :: _, x, 0 => some (.s t x.1)
  | _ :: fs, x, i + 1 => projD fs x.2 i
def setD : (fs : List Ty) → (rowOf fs).I → Nat → DT → Option (rowOf fs).I
  | [], _, _, _ => none
  | t :: fs, x, 0, .s t' v => match castT (b := t) v with
    | some v => some (v, x.2)
    | none => none
  | _ :: _, _, 0, _ => none
  | _ :: fs, x, i + 1, v => match setD fs x.2 i v with
    | some y => some (x.1, y)
    | none => none

theorem rowOf_row (fs : List Ty) : (rowOf fs).row = true := by cases fs <;> rfl

theorem projD_spec : ∀ (fs : List Ty) (x : (rowOf fs).I) (i : Nat) (y : DT), projD fs x i = some y →
    ∃ t v, fs[i]? = some t ∧ y = .s t v ∧ t.cells v = (((rowOf fs).cells x).drop (offs fs i)).take t.sz ∧ offs fs i + t.sz ≤ (rowOf fs).sz
  | [], _, _, _, h => by cases h
  | t :: fs, x, 0, y, h => by
    cases h
    refine ⟨t, x.1, rfl, rfl, ?_, ?_⟩
    · simp only [rowOf, Ty.cells, offs, List.drop_zero]
      rw [List.take_append_of_le_length (by rw [cells_len]; exact Nat.le_refl _), List.take_of_length_le (by rw [cells_len]; exact Nat.le_refl _)]
    · simp only [rowOf, Ty.sz, offs]; omega
  | t :: fs, x, i + 1, y, h => by
    obtain ⟨t', v, h1, h2, h3, h4⟩ := projD_spec fs x.2 i y h
    refine ⟨t', v, by simpa using h1, h2, ?_, ?_⟩
    · rw [h3]
      have hl := cells_len t x.1
      have e : List.drop (t.sz + offs fs i) (t.cells x.1 ++ (rowOf fs).cells x.2) = List.drop (offs fs i) ((rowOf fs).cells x.2) := by
        rw [List.drop_append, List.drop_eq_nil_of_le (by omega), hl, List.nil_append]; congr 1; omega
      simp only [rowOf, Ty.cells, offs]
      rw [e]
    · simp only [rowOf, Ty.sz, offs]; omega

theorem setD_spec : ∀ (fs : List Ty) (x : (rowOf fs).I) (i : Nat) (v : DT) (y : (rowOf fs).I), setD fs x i v = some y →
    ∃ t w, fs[i]? = some t ∧ v.toT = t.enc w ∧ (rowOf fs).cells y = placeT ((rowOf fs).cells x) (offs fs i) (t.cells w) ∧ offs fs i + t.sz ≤ (rowOf fs).sz
  | [], _, _, _, _, h => by cases h
  | t :: fs, x, 0, v, y, h => by
    cases v with
    | s t' v =>
      simp only [setD] at h
      split at h
      · rename_i w hw
        cases h
        obtain ⟨e1, e2, e3⟩ := castT_toT hw
        refine ⟨t, w, rfl, e2.symm, ?_, ?_⟩
        · simp only [rowOf, Ty.cells, offs, placeT, List.take_zero, List.nil_append, Nat.zero_add]
          rw [cells_len, List.drop_append, List.drop_eq_nil_of_le (by rw [cells_len]; exact Nat.le_refl _), cells_len]
          simp
        · simp only [rowOf, Ty.sz, offs]; omega
      · cases h
    | _ => cases h
  | t :: fs, x, i + 1, v, y, h => by
    simp only [setD] at h
    split at h
    · rename_i z hz
      cases h
      obtain ⟨t', w, h1, h2, h3, h4⟩ := setD_spec fs x.2 i v z hz
      refine ⟨t', w, by simpa using h1, h2, ?_, ?_⟩
      · simp only [rowOf, Ty.cells, offs]
        rw [h3]
        unfold placeT
        have hl := cells_len t x.1
        have e1 : List.take (t.sz + offs fs i) (t.cells x.1 ++ (rowOf fs).cells x.2) = t.cells x.1 ++ List.take (offs fs i) ((rowOf fs).cells x.2) := by
          rw [List.take_append, hl, List.take_of_length_le (by omega)]; simp
        have e2 : List.drop (t.sz + offs fs i + (t'.cells w).length) (t.cells x.1 ++ (rowOf fs).cells x.2) = List.drop (offs fs i + (t'.cells w).length) ((rowOf fs).cells x.2) := by
          rw [List.drop_append, List.drop_eq_nil_of_le (by omega), hl, List.nil_append]; congr 1; omega
        rw [e1, e2]
        simp
      · simp only [rowOf, Ty.sz, offs]; omega
    · cases h

/-- The part of a row that begins at cell j and is of kind w. -/
def subAt : (t : Ty) → t.I → Nat → (w : Ty) → Option w.I
  | .pair a b, x, j, w => match decide (j = 0), castT (a := .pair a b) (b := w) x with
    | true, some y => some y
    | _, _ => bif Nat.blt j a.sz then subAt a x.1 j w else subAt b x.2 (j - a.sz) w
  | t, x, j, w => match decide (j = 0) with
    | true => castT (a := t) x
    | false => none
theorem subAt_spec : ∀ (t : Ty) (x : t.I) (j : Nat) (w : Ty) (y : w.I), subAt t x j w = some y → ∃ pre suf, t.cells x = pre ++ w.cells y ++ suf ∧ pre.length = j := by
  intro t
  induction t with
  | pair a b iha ihb =>
    intro x j w y h
    simp only [subAt] at h
    split at h
    · rename_i y' hj hc
      simp only [decide_eq_true_eq] at hj
      cases h
      exact ⟨[], [], by rw [(castT_toT hc).1]; simp, by simp [hj]⟩
    · cases hb : Nat.blt j a.sz with
      | true =>
        rw [hb] at h
        obtain ⟨pre, suf, h1, h2⟩ := iha x.1 j w y h
        exact ⟨pre, suf ++ b.cells x.2, by simp only [Ty.cells, h1]; simp, h2⟩
      | false =>
        rw [hb] at h
        obtain ⟨pre, suf, h1, h2⟩ := ihb x.2 _ w y h
        have : ¬ j < a.sz := by intro hlt; have e : Nat.blt j a.sz = true := by rw [Nat.blt_eq]; exact hlt
                                rw [e] at hb; cases hb
        exact ⟨a.cells x.1 ++ pre, suf, by simp only [Ty.cells, h1]; simp, by rw [List.length_append, cells_len, h2]; omega⟩
  | u8 | int | bool | str | opq | sl | unit =>
    intro x j w y h
    simp only [subAt] at h
    split at h
    · rename_i hj
      simp only [decide_eq_true_eq] at hj
      exact ⟨[], [], by rw [(castT_toT h).1]; simp, by simp [hj]⟩
    · cases h

/-- A row with another part. -/
def putAt : (t : Ty) → t.I → Nat → DT → Option t.I
  | .pair a b, x, j, v => match (match v with | .s w z => (match decide (j = 0) with | true => castT (b := .pair a b) z | false => none) | _ => none) with
    | some y => some y
    | none => bif Nat.blt j a.sz then (match putAt a x.1 j v with | some y => some (y, x.2) | none => none) else (match putAt b x.2 (j - a.sz) v with | some y => some (x.1, y) | none => none)
  | t, x, j, v => match decide (j = 0), v with
    | true, .s w z => castT z
    | _, _ => none
theorem putAt_spec : ∀ (t : Ty) (x : t.I) (j : Nat) (v : DT) (y : t.I), putAt t x j v = some y → ∃ w z pre suf mid, v.toT = w.enc z ∧ v = .s w z ∧ t.cells x = pre ++ mid ++ suf ∧ mid.length = w.sz ∧ t.cells y = pre ++ w.cells z ++ suf ∧ pre.length = j := by
  intro t
  induction t with
  | pair a b iha ihb =>
    intro x j v y h
    simp only [putAt] at h
    split at h
    · rename_i y' hq
      cases h
      split at hq
      · rename_i w z
        split at hq
        · rename_i hj
          simp only [decide_eq_true_eq] at hj
          obtain ⟨e1, e2, e3⟩ := castT_toT hq
          exact ⟨w, z, [], [], (Ty.pair a b).cells x, rfl, rfl, by simp, by rw [cells_len, e3], by rw [e1]; simp, by simp [hj]⟩
        · cases hq
      · cases hq
    · cases hb : Nat.blt j a.sz with
      | true =>
        rw [hb] at h
        simp only [cond_true] at h
        split at h
        · rename_i y1 hy
          cases h
          obtain ⟨w, z, pre, suf, mid, k1, k2, k3, k4, k5, k6⟩ := iha x.1 j v _ hy
          exact ⟨w, z, pre, suf ++ b.cells x.2, mid, k1, k2, by simp only [Ty.cells, k3]; simp, k4, by simp only [Ty.cells, k5]; simp, k6⟩
        · cases h
      | false =>
        rw [hb] at h
        simp only [cond_false] at h
        have hlt : ¬ j < a.sz := by intro hlt; have e : Nat.blt j a.sz = true := by rw [Nat.blt_eq]; exact hlt
                                    rw [e] at hb; cases hb
        split at h
        · rename_i y1 hy
          cases h
          obtain ⟨w, z, pre, suf, mid, k1, k2, k3, k4, k5, k6⟩ := ihb x.2 _ v _ hy
          exact ⟨w, z, a.cells x.1 ++ pre, suf, mid, k1, k2, by simp only [Ty.cells, k3]; simp, k4, by simp only [Ty.cells, k5]; simp, by rw [List.length_append, cells_len, k6]; omega⟩
        · cases h
  | u8 | int | bool | str | opq | sl | unit =>
    intro x j v y h
    simp only [putAt] at h
    split at h
    · rename_i w z hj
      simp only [decide_eq_true_eq] at hj
      obtain ⟨e1, e2, e3⟩ := castT_toT h
      exact ⟨w, z, [], [], _, rfl, rfl, (by rw [List.append_nil, List.nil_append]), by rw [cells_len, e3], by rw [e1]; simp, by simp [hj]⟩
    · cases h

/-! ### cells, one by one -/
def splitD : (t : Ty) → t.I → List DT
  | .pair a b, x => splitD a x.1 ++ splitD b x.2
  | .unit, _ => []
  | t, x => [.s t x]
theorem splitD_spec : ∀ (t : Ty) (x : t.I), (splitD t x).map DT.toT = t.cells x := by
  intro t
  induction t with
  | pair a b iha ihb => intro x; simp only [splitD, List.map_append, iha, ihb, Ty.cells]
  | unit => intro x; rfl
  | _ => intro x; rfl
def gatherD : (t : Ty) → List DT → Option t.I
  | .pair a b, cs => match gatherD a cs, gatherD b (cs.drop a.sz) with
    | some x, some y => some (x, y)
    | _, _ => none
  | .unit, _ => some ()
  | t, .s w x :: _ => match w.row with
    | true => none
    | false => castT x
  | _, _ => none
theorem gatherD_spec : ∀ (t : Ty) (cs : List DT) (x : t.I), gatherD t cs = some x → (cs.map DT.toT).take t.sz = t.cells x ∧ t.sz ≤ cs.length := by
  intro t
  induction t with
  | pair a b iha ihb =>
    intro cs x h
    simp only [gatherD] at h
    split at h
    · rename_i y z hy hz
      cases h
      obtain ⟨h1, h2⟩ := iha _ _ hy
      obtain ⟨h3, h4⟩ := ihb _ _ hz
      simp only [Ty.sz, Ty.cells]
      rw [List.length_drop] at h4
      refine ⟨?_, by omega⟩
      rw [List.take_add, h1, ← h3, List.map_drop]
    · cases h
  | unit => intro cs x h; exact ⟨rfl, Nat.zero_le _⟩
  | u8 | int | bool | str | opq | sl =>
    intro cs x h
    cases cs with
    | nil => cases h
    | cons c cs =>
      cases c with
      | s w y =>
        simp only [gatherD] at h
        split at h
        · cases h
        · obtain ⟨e1, e2, e3⟩ := castT_toT h
          subst e3
          refine ⟨?_, by simp [Ty.sz]⟩
          simp only [Ty.sz, List.map_cons, List.take_succ_cons, List.take_zero, DT.toT, ← e2]
          exact ((cells_one _ x (by rfl)).1).symm
      | _ => cases h

/-! ### tables -/
structure TD where
  ty : Ty
  sl : Option (TypeId × Ty × Nat) := none
  fs : List Ty := []
  ar : Option (Nat × Ty) := none

def zv : Ty → Value
  | .u8 => .int .u8 0
  | .int k => .int k 0
  | .bool => .bool false
  | .str => .string ⟨#[]⟩
  | .sl _ _ => .slice none 0 0
  | _ => undef
def zcells : Ty → List Value
  | .pair a b => zcells a ++ zcells b
  | .unit => []
  | t => [zv t]
def zval (t : Ty) : Value := match t.row with
  | true => .agg (zcells t).toArray
  | false => zv t
def undOf : Ty → Option TypeDesc
  | .u8 => some (.int .u8)
  | .int k => some (.int k)
  | .bool => some .bool
  | .str => some .string
  | _ => none
def finfo : Nat → List Ty → List (Option (Nat × Bool × Nat))
  | _, [] => []
  | o, t :: fs => some (o, t.row, t.sz) :: finfo (o + t.sz) fs
def places : Nat → List Ty → List (Nat × Nat)
  | _, [] => []
  | o, t :: fs => (o, t.sz) :: places (o + t.sz) fs
def byE : Option (TypeId × Ty × Nat) → Option TypeId
  | some (e, .u8, _) => some e
  | _ => none
def slT (d : TD) : Bool := match d.sl with
  | none => true
  | some (_, t, b) => decide (d.ty = .sl t.sz t) && decide (1 ≤ b) && decide (0 < t.sz) && t.fine
/-- An array: how many, of how many cells each. -/
def arrOf (P : Program) (t : TypeId) : Option (Nat × Nat) :=
  match P.underlying t with
  | some (.array n e) => match P.info? e with
    | some i => some (n, i.size)
    | none => none
  | _ => none
structure TDOk (P : Program) (i : TypeId) (d : TD) : Prop where
  row : d.ty.fine = false ∨ tyRow P i = some (d.ty.row, d.ty.sz)
  und : undOf d.ty = none ∨ P.underlying i = undOf d.ty
  sli : d.sl = none ∨ sliOf P i = d.sl.map fun p => (p.1, p.2.1.sz, p.2.2, zval p.2.1)
  slt : slT d = true
  bye : byE d.sl = none ∨ P.underlying ((byE d.sl).getD 0) = some (.int .u8)
  fld : d.fs = [] ∨ (List.range d.fs.length).map (fldOf P i) = finfo 0 d.fs
  lay : d.fs = [] ∨ layOf P i = some (zcells d.ty, places 0 d.fs)
  rowT : d.fs = [] ∨ d.ty = rowOf d.fs
  arr : d.ar = none ∨ arrOf P i = d.ar.map fun p => (p.1, p.2.sz)
  fsz : (d.fs.all fun t => decide (0 < t.sz)) = true
  zer : d.ty.fine = false ∨ zerOf P i = some (zval d.ty)

inductive Glob where
  | one (t : Ty) (x : t.I)
  | arr (t : Ty) (l : List t.I)
def Glob.cells : Glob → List T
  | .one t x => t.cells x
  | .arr t l => l.flatMap t.cells
def Glob.da : Glob → DA
  | .one t x => .sptr t x
  | .arr t l => .sarr t l

structure DX where
  tab : List (TypeId × TD)
  gl : List (Nat × Glob) := []
structure DXOk (Y : DX) (X : Ctx) : Prop where
  tab : ∀ p ∈ Y.tab, TDOk X.P p.1 p.2
  gl : ∀ g, X.gl g = (look Y.gl g).map Glob.cells
theorem DXOk.td {Y : DX} {X : Ctx} (h : DXOk Y X) {i : TypeId} {d : TD} (hd : look Y.tab i = some d) : TDOk X.P i d := h.tab _ (look_mem hd)

/-! ### operands -/
def constD : Value → DA
  | .int .u8 n => bif decide (0 ≤ n ∧ n < 256) then .t (.s .u8 n.toNat.toUInt8) else .t (.s .opq (.int .u8 n))
  | .int k n => .t (.s (.int k) n)
  | .bool b => .t (.s .bool b)
  | .string s => .t (.s .str (bl s))
  | v => .t (.s .opq v)
theorem u8_back (n : Int) (h : 0 ≤ n ∧ n < 256) : (n.toNat.toUInt8.toNat : Int) = n := by
  have : n.toNat.toUInt8.toNat = n.toNat := by simp; omega
  rw [this]; omega
theorem constD_spec (v : Value) : (constD v).toA = .t (.v v) := by
  unfold constD
  split
  · rename_i n
    cases hb : decide (0 ≤ n ∧ n < 256) with
    | true =>
      simp only [decide_eq_true_eq] at hb
      simp only [cond_true, DA.toA, DT.toT, Ty.enc, Ty.row, mkT, Ty.cells, List.headD_cons]
      rw [u8_back n hb]
    | false => rfl
  · rfl
  · rfl
  · rename_i s
    simp only [DA.toA, DT.toT, Ty.enc, Ty.row, mkT, Ty.cells, List.headD_cons, mkS_bl]
  · rfl

def flatD : DT → Bool
  | .own _ _ _ | .box _ _ | .tup _ => false
  | _ => true
theorem flatD_spec (x : DT) : x.toT.flat = flatD x := by
  cases x with
  | s t x => exact enc_flat t x
  | _ => rfl
def flatsD : List DT → Bool
  | [] => true
  | x :: xs => match flatD x with
    | true => flatsD xs
    | false => false
theorem flatsD_spec : ∀ cs : List DT, (cs.map DT.toT).all T.flat = flatsD cs
  | [] => rfl
  | x :: xs => by
    simp only [List.map_cons, List.all_cons, flatD_spec, flatsD, flatsD_spec xs]
    cases flatD x <;> rfl

def dev (Y : DX) (st : DSt) : Operand → DA
  | .tmp r => match st.find r with
    | some (.t (.own _ _ l)) => .ref r none 0 l.length .all
    | some (.t (.box _ _)) => .pref r none 0
    | some (.t (.tup cs)) => match flatsD cs with
      | true => .t (.tup cs)
      | false => .t .u
    | some a => a
    | none => .t .u
  | .const v => constD v
  | .global k => match look Y.gl k with
    | some g => g.da
    | none => .t .u
  | .func f => .t (.s .opq (.func (.func f) #[] #[]))

variable {X : Ctx} {Y : DX} {n : Nat} {st : DSt}

theorem dev_eq (hY : DXOk Y X) (x : Operand) : (dev Y st x).toA = ev X (stG n st.toSt) x := by
  cases x with
  | tmp r =>
    simp only [dev, ev, stG_toSt]
    cases hf : st.find r with
    | none => simp only; by_cases h : r = n <;> simp [h, DA.toA, DT.toT]
    | some a =>
      simp only
      cases a with
      | t x =>
        cases x with
        | own e t l => simp [DA.toA, DT.toT]
        | box e cs => rfl
        | tup cs =>
          simp only [DA.toA, DT.toT, all_eq, flatsD_spec]
          cases hq : flatsD cs <;> simp [DA.toA, DT.toT, all_eq]
        | u => rfl
        | s t x =>
          simp only [DA.toA, DT.toT]
          have := enc_flat t x
          revert this
          cases t.enc x <;> intro h <;> first | rfl | cases h
      | _ => rfl
  | const v => exact constD_spec v
  | func f => rfl
  | global k =>
    simp only [dev, ev, hY.gl]
    cases hl : look Y.gl k with
    | none => rfl
    | some g => cases g <;> rfl

def unD : DA → DA
  | .opt _ _ _ a => a
  | a => a
/-- An operand under a guard. -/
def rdD (Y : DX) (γ : Gam) (st : DSt) (x : Operand) : Option DA := match dev Y st x with
  | .opt d w _ a => match γ with
    | some (d', w', _) => bif (Nat.beq d d' && (w == w')) then some a else none
    | none => none
  | a => some a
def gOk (st : DSt) : Gam → Prop
  | none => True
  | some (d, w, b) => gB st d w = some b

theorem dev_wf (hw : WF st) (x : Operand) : slotWF st (dev Y st x) := by
  cases x with
  | tmp r =>
    simp only [dev]
    cases hf : st.find r with
    | none => trivial
    | some a =>
      have := hw r a hf
      cases a with
      | t x =>
        cases x with
        | own e t l => exact .inr ⟨e, t, l, by simp [rootD, hf], rfl, rfl⟩
        | tup cs => simp only; cases flatsD cs <;> trivial
        | _ => trivial
      | _ => exact this
  | const v =>
    simp only [dev, constD]
    split
    · rename_i n; cases decide (0 ≤ n ∧ n < 256) <;> trivial
    all_goals trivial
  | global k => simp only [dev]; split
                · rename_i g _; cases g <;> trivial
                · trivial
  | func f => trivial

theorem rdD_spec (hY : DXOk Y X) (hw : WF st) {γ : Gam} (hγ : gOk st γ) {x : Operand} {a : DA} (h : rdD Y γ st x = some a) :
    rd X (stG n st.toSt) x = a.toA ∧ (cP γ → rdp X (stG n st.toSt) x) ∧ a.isOpt = false ∧ viewOk st a := by
  have he := dev_eq (n := n) (st := st) hY x
  have hwf := dev_wf (Y := Y) hw x
  unfold rdD at h
  unfold rd rdp
  rw [← he]
  split at h
  · rename_i d w b a' hd
    rw [hd] at hwf ⊢
    split at h
    · rename_i d' w' b'
      by_cases hb : (Nat.beq d d' && (w == w')) = true
      · rw [hb] at h
        cases h
        simp only [Bool.and_eq_true, beq_iff_eq] at hb
        obtain ⟨h1, rfl⟩ := hb
        have := Nat.eq_of_beq_eq_true h1
        subst this
        refine ⟨rfl, fun hc => ?_, hwf.2.1, hwf.2.2⟩
        have e : gB st d w = some b' := hγ
        rw [← hwf.1 b' e]; exact hc
      · simp only [Bool.not_eq_true] at hb
        rw [hb] at h; cases h
    · cases h
  · rename_i hno
    cases h
    generalize dev Y st x = a at *
    cases a with
    | opt => exact absurd rfl (hno _ _ _ _)
    | _ => exact ⟨rfl, fun _ => trivial, rfl, hwf⟩
end Go.Eng
