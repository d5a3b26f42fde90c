/- Calls. -/
import Derived.Test.YthgemanfbanhnaaDoorEngM
import Derived.Lib.Bytealg
import Derived.Laws.IdiomStrings
namespace Go.Eng
open Go.RowKit (Below)
set_option linter.unusedVariables false
set_option linter.unusedSimpArgs false
variable {X : Ctx} {g : Nat → A}

/-- Called with what 'args' says, function f returns what 'res' says; behind the call the arguments are what 'outs' says. What was owned and handed in may have been written; of all else nothing has turned. -/
def ACall (X : Ctx) (f : FuncId) (args : List T) (res : T) (outs : List T) : Prop :=
  ∀ (w : World) (vals : List Value) (ca : Cnt) (F : Nat → Prop), X.G w → (∀ b, b < X.N → F b) → LRep w F args vals ca → (∀ b, ca b ≤ 1) → (∀ b, 0 < ca b → X.N ≤ b ∧ ¬ F b) →
    Calls X.P f vals.toArray w fun e w' => ∃ v cr, e = .returned v ∧ w'.os = w.os ∧ w'.tape = w.tape ∧ w'.output = w.output ∧ w.heap.size ≤ w'.heap.size ∧
      (∀ b, b < w.heap.size → ca b = 0 → w'.heap[b]? = w.heap[b]?) ∧ LRep w' (fun b => (F b ∨ 0 < ca b ∨ w.heap.size ≤ b) ∧ cr b = 0) (res :: outs) (v :: vals) cr ∧ (∀ b, cr b ≤ 1) ∧ (∀ b, 0 < cr b → 0 < ca b ∨ w.heap.size ≤ b)

/-- A call that takes nothing away and gives nothing back but its result. -/
def APure (X : Ctx) (f : FuncId) (args : List T) (res : T) : Prop := ACall X f args res (List.replicate args.length .u)

/-- A result without a slice that others may hold. -/
def T.noSl : T → Bool
  | .u | .v _ => true
  | .sl _ es => es.isEmpty
  | .ag cs => all cs
  | .own _ _ es => all es
  | .box _ cs => all cs
  | .tup cs => all cs
  | .opt _ t => t.noSl
where all : List T → Bool
  | [] => true
  | t :: ts => t.noSl && all ts

theorem noSl_cells (t : T) (h : t.noSl = true) : T.noSl.all t.cells = true := by
  cases t with
  | ag cs => exact h
  | _ => simp [T.cells, T.noSl.all, h]
theorem noSl_append : ∀ (a b : List T), T.noSl.all a = true → T.noSl.all b = true → T.noSl.all (a ++ b) = true
  | [], b, _, h => h
  | t :: ts, b, h1, h2 => by
    simp only [T.noSl.all, Bool.and_eq_true] at h1
    simp only [List.cons_append, T.noSl.all, Bool.and_eq_true]
    exact ⟨h1.1, noSl_append ts b h1.2 h2⟩
theorem noSl_flatMap : ∀ (es : List T), T.noSl.all es = true → T.noSl.all (es.flatMap T.cells) = true
  | [], _ => rfl
  | t :: ts, h => by
    simp only [T.noSl.all, Bool.and_eq_true] at h
    rw [List.flatMap_cons]
    exact noSl_append _ _ (noSl_cells t h.1) (noSl_flatMap ts h.2)
theorem noSl_all_iff (ts : List T) : T.noSl.all ts = true ↔ ∀ t ∈ ts, t.noSl = true := by
  induction ts with
  | nil => simp [T.noSl.all]
  | cons t ts ih => simp [T.noSl.all, ih]

theorem TRep.anyF {w : World} {F F' : Nat → Prop} {t : T} {x : Value} {c : Cnt} (h : TRep w F t x c) : t.noSl = true → TRep w F' t x c := by
  refine TRep.rec (motive_1 := fun t x c _ => t.noSl = true → TRep w F' t x c) (motive_2 := fun ts xs c _ => T.noSl.all ts = true → LRep w F' ts xs c) ?_ ?_ ?_ ?_ ?_ ?_ ?_ ?_ ?_ ?_ ?_ ?_ h
  · exact fun x c hc _ => .u _ _ hc
  · exact fun x c hc _ => .v _ _ hc
  · exact fun sz a cap c hc _ => .slnil _ _ _ _ hc
  · intro sz es b n cap vals c0 c hn hcap hF hb hs hv hz hl hone hc0 hc ih hno
    have : es = [] := by simpa [T.noSl] using hno
    subst this
    subst hn
    exact .slnil _ _ _ _ hc
  · exact fun cs vs c hl hone hc ih hno => .ag _ _ _ (ih hno) hone hc
  · exact fun e sz c hc _ => .ownnil _ _ _ hc
  · exact fun e sz es g n cap cur c0 c hg hn hcap hm hcur hz hl hone hc ih hno => .own e sz es g n cap cur c0 c hg hn hcap hm hcur hz (ih (noSl_flatMap es hno)) hone hc
  · exact fun e cs g cur c0 c hg hl hone hc ih hno => .box e cs g cur c0 c hg (ih hno) hone hc
  · exact fun cs vs c hl ih hno => .tup _ _ _ (ih hno)
  · exact fun b t x c ht hc ih hno => .opt _ _ _ _ (fun hb => ih hb hno) hc
  · exact fun c hc _ => .nil _ hc
  · intro t ts x xs c1 c2 c h1 h2 hc ih1 ih2 hno
    simp only [T.noSl.all, Bool.and_eq_true] at hno
    exact .cons _ _ _ _ c1 c2 c (ih1 hno.1) (ih2 hno.2) hc

theorem LRep.anyF {w : World} {F F' : Nat → Prop} {ts : List T} {xs : List Value} {c : Cnt} (h : LRep w F ts xs c) (hno : T.noSl.all ts = true) : LRep w F' ts xs c := by
  have : TRep w F' (.tup ts) (.tuple xs.toArray) c := TRep.anyF (F := F) (.tup _ _ _ (by simpa using h)) hno
  cases this with | tup _ _ _ hl => simpa using hl

/-! ### arguments -/
/-- An argument that is lent to be read: what the callee sees; is it a view of what is owned? -/
def argA (X : Ctx) (g : Nat → A) (x : Operand) (ty : TypeId) : Option (T × Bool) :=
  match x with
  | .const (.slice none 0 0) => match sliOf X.P ty with
    | some (_, sz, _, _) => some (.sl sz [], false)
    | none => none
  | _ => match rd X g x with
    | .t t => if t.flat then some (t, false) else none
    | .ref r p off len => match root g r p with
      | some (.own _ sz es) => if off + len ≤ es.length then some (.sl sz (cut (es.map T.fz) off (off + len)), true) else none
      | _ => none
    | _ => none
def argP (X : Ctx) (g : Nat → A) (x : Operand) : Prop :=
  match x with
  | .const (.slice none 0 0) => True
  | _ => rdp X g x

theorem arg_rep {tmps : Array Value} {ds : List Deferred} {w : World} {c : Nat → Cnt} (hG : X.G w) (hf : Frm X.N w g tmps c) {x : Operand} {ty : TypeId} {t : T} {b : Bool} (hp : argP X g x) (ha : argA X g x ty = some (t, b)) :
    TRep w (fun _ => True) t (Act.eval ⟨tmps, ds⟩ x) (fun _ => 0) ∧ (b = false → TRep w (fun b => ∀ j, c j b = 0) t (Act.eval ⟨tmps, ds⟩ x) (fun _ => 0)) := by
  have key : ∀ t, TRep w (fun b => ∀ j, c j b = 0) t (Act.eval ⟨tmps, ds⟩ x) (fun _ => 0) → TRep w (fun _ => True) t (Act.eval ⟨tmps, ds⟩ x) (fun _ => 0) := fun t h => h.mono (fun _ _ _ => ⟨trivial, rfl⟩) (Nat.le_refl _) (fun _ _ => rfl)
  unfold argA at ha
  unfold argP at hp
  split at ha
  · split at ha
    · cases ha
      rename_i sz _ _ _
      have : TRep w (fun b => ∀ j, c j b = 0) (.sl sz []) (Act.eval ⟨tmps, ds⟩ (.const (.slice none 0 0))) (fun _ => 0) := .slnil _ none 0 _ (fun _ => rfl)
      exact ⟨this.mono (fun _ _ _ => ⟨trivial, rfl⟩) (Nat.le_refl _) (fun _ _ => rfl), fun _ => this⟩
    · cases ha
  · rename_i hx
    have hp' : rdp X g x := by
      split at hp
      · rename_i h; exact absurd rfl (hx)
      · exact hp
    have hr := rd_rep (ds := ds) hG hf x hp'
    split at ha
    · rename_i t' e
      split at ha
      · cases ha
        rw [e] at hr
        exact ⟨key _ hr, fun _ => hr⟩
      · cases ha
    · rename_i r p off len e
      rw [e] at hr
      obtain ⟨_, t0, e', sz, es, x0, h1, h2, h3, h4⟩ := hr
      rw [root_of h1 h2] at ha
      simp only at ha
      rw [if_pos h3] at ha
      cases ha
      have hrr := hf.rep r
      rw [h1] at hrr
      obtain ⟨d, hd, _⟩ := h2.rep hrr
      exact ⟨(View.sl hd h4 h3).mono (fun _ _ _ => ⟨trivial, rfl⟩) (Nat.le_refl _) (fun _ _ => rfl), fun h => by cases h⟩
    · cases ha

def argsA (X : Ctx) (g : Nat → A) : List Operand → List TypeId → Option (List T × Bool)
  | [], _ => some ([], false)
  | x :: xs, [] => none
  | x :: xs, ty :: tys => match argA X g x ty, argsA X g xs tys with
    | some (t, b), some (ts, b') => some (t :: ts, b || b')
    | _, _ => none
def argsP (X : Ctx) (g : Nat → A) : List Operand → Prop
  | [] => True
  | x :: xs => argP X g x ∧ argsP X g xs

theorem args_rep {tmps : Array Value} {ds : List Deferred} {w : World} {c : Nat → Cnt} (hG : X.G w) (hf : Frm X.N w g tmps c) : ∀ {xs : List Operand} {tys : List TypeId} {ts : List T} {b : Bool}, argsP X g xs → argsA X g xs tys = some (ts, b) →
    LRep w (fun _ => True) ts (xs.map (Act.eval ⟨tmps, ds⟩)) (fun _ => 0) ∧ (b = false → LRep w (fun b => ∀ j, c j b = 0) ts (xs.map (Act.eval ⟨tmps, ds⟩)) (fun _ => 0))
  | [], _, ts, b, _, h => by cases h; exact ⟨.nil _ (fun _ => rfl), fun _ => .nil _ (fun _ => rfl)⟩
  | x :: xs, [], _, _, _, h => by cases h
  | x :: xs, ty :: tys, ts, b, hp, h => by
    simp only [argsA] at h
    split at h
    · rename_i t b1 ts' b2 e1 e2
      cases h
      obtain ⟨k1, k2⟩ := arg_rep (ds := ds) hG hf hp.1 e1
      obtain ⟨q1, q2⟩ := args_rep (ds := ds) hG hf hp.2 e2
      refine ⟨.cons _ _ _ _ _ _ _ k1 q1 (fun _ => rfl), fun hb => ?_⟩
      simp only [Bool.or_eq_false_iff] at hb
      exact .cons _ _ _ _ _ _ _ (k2 hb.1) (q2 hb.2) (fun _ => rfl)
    · cases h

/-- A function of the program's own. -/
def isFn (P : Program) (f : FuncId) : Bool :=
  match P.funcs[f]? with
  | some fn => fn.body.isSome && fn.name != "runtime.NumGoroutine"
  | none => false

theorem exec_call {P : Program} {o : Oper} {a : Act} {w : World} {f : FuncId} {xs : Array Operand} {ts : Array TypeId} (ho : o.op = .call { callee := .value (.func f), args := xs, argTypes := ts }) (hf : isFn P f = true) : (execOp a.eval o).run P w = .ok (.enter f (xs.map a.eval)) w := by
  unfold isFn at hf
  split at hf
  · rename_i fn hfn
    simp only [Bool.and_eq_true, bne_iff_ne, ne_eq] at hf
    have h1 : fn.body.isNone = false := by cases hb : fn.body <;> simp_all
    have h2 : (fn.name == "runtime.NumGoroutine") = false := by simpa using hf.2
    unfold execOp
    simp only [ho, resolve, Act.eval, Deferred.ofValue, invoke, callFunc, Sem.run_bind, Sem.run_pure, Result.andThen_ok, run_program, hfn, h1, h2]
    simp
  · cases hf

theorem good_call {o : Oper} {f : FuncId} {xs : Array Operand} {tys : Array TypeId} {ts : List T} {res : T} {b : Bool} (ho : o.op = .call { callee := .value (.func f), args := xs, argTypes := tys }) (hfn : isFn X.P f = true) (hp : argsP X g xs.toList) (ha : argsA X g xs.toList tys.toList = some (ts, b))
    (hc : APure X f ts res) (hb : b = false ∨ res.noSl = true) : Good X g o (.t res) := by
  intro tmps ds w c hG hf next Q hnext
  have hlow : ∀ b, b < X.N → ∀ j, c j b = 0 := fun b hb j => by
    rcases Nat.eq_zero_or_pos (c j b) with e | e
    · exact e
    · have := hf.low j b e; omega
  have hge : ∀ b, w.heap.size ≤ b → ∀ j, c j b = 0 := fun b hb j => by
    rcases Nat.eq_zero_or_pos (c j b) with e | e
    · exact e
    · have := hf.lt j b e; omega
  obtain ⟨k1, k2⟩ := args_rep (ds := ds) hG hf hp ha
  unfold Oper.wp
  rw [exec_call ho hfn]
  simp only [Oper.upon]
  have hvals : (xs.map (Act.eval ⟨tmps, ds⟩)) = (xs.toList.map (Act.eval ⟨tmps, ds⟩)).toArray := by
    apply Array.ext'; simp
  rw [hvals]
  have outs : ∀ (w' : World) (F : Nat → Prop) (m : Nat) (vs : List Value) (cr : Cnt), LRep w' F (List.replicate m .u) vs cr → ∀ b, cr b = 0 := by
    intro w' F m
    induction m with
    | zero => intro vs cr h; cases h; assumption
    | succ m ih =>
      intro vs cr h
      rw [List.replicate_succ] at h
      cases h with
      | cons _ _ _ _ c1 c2 _ h1 h2 hc => intro b; rw [hc, h1.zero rfl, ih _ _ h2]
  have fin : ∀ (F : Nat → Prop), (∀ b, b < X.N → F b) → LRep w F ts (xs.toList.map (Act.eval ⟨tmps, ds⟩)) (fun _ => 0) → ((∀ b, F b → ∀ j, c j b = 0) ∨ res.noSl = true) →
      Calls X.P f (xs.toList.map (Act.eval ⟨tmps, ds⟩)).toArray w fun e w'' => match e, w'' with
        | .returned v, w'' => next ((⟨tmps, ds⟩ : Act).put o.dst v) w''
        | .panicked chain, w'' => Q (.panic chain) ⟨tmps, ds⟩ w''
        | .outgrown, _ => LetsOut Q := by
    intro F hFN hl hF
    refine (hc w _ (fun _ => 0) F hG hFN hl (fun _ => Nat.zero_le _) (fun b hb => absurd hb (by simp))).mono ?_
    rintro e w' ⟨v, cr, rfl, e1, e2, e3, e4, e5, h1, h2, h3⟩
    cases h1 with
    | cons _ _ _ _ c1 c2 _ q1 q2 hcr =>
      have hz := outs _ _ _ _ _ q2
      have hcr' : ∀ b, cr b = c1 b := fun b => by rw [hcr, hz]; omega
      refine hnext v w' ⟨e1, e2, e3, e4, fun b hb => e5 b hb rfl⟩ ⟨c1, ?_, fun b hb => ?_, fun b => by rw [← hcr']; exact h2 b⟩
      · rcases hF with hF | hF
        · refine TRep.mono (fun b _ hb => ⟨?_, rfl⟩) (Nat.le_refl _) q1 (fun _ _ => rfl)
          obtain ⟨hb1, hb2⟩ := hb
          refine ⟨?_, by rw [← hcr']; exact hb2⟩
          rcases hb1 with hb1 | hb1 | hb1
          · exact hF b hb1
          · exact absurd hb1 (by simp)
          · exact hge b hb1
        · exact TRep.anyF q1 hF
      · rcases h3 b (by rw [hcr']; exact hb) with h | h
        · exact absurd h (by simp)
        · exact h
  rcases hb with hb | hb
  · exact fin _ hlow (k2 hb) (.inl (fun b h => h))
  · exact fin _ (fun _ _ => trivial) k1 (.inr hb)

/-! ### a function that the model answers by itself -/
def AExt (X : Ctx) (f : FuncId) (args : List T) (res : T) : Prop :=
  ∀ (w : World) (F : Nat → Prop) (vals : List Value), LRep w F args vals (fun _ => 0) → ∃ v, (callFunc f vals.toArray).run X.P w = .ok (.value v) w ∧ TRep w F res v (fun _ => 0)

theorem exec_call_ext {P : Program} {o : Oper} {a : Act} {f : FuncId} {xs : Array Operand} {ts : Array TypeId} (ho : o.op = .call { callee := .value (.func f), args := xs, argTypes := ts }) : execOp a.eval o = callFunc f (xs.map a.eval) := by
  unfold execOp
  simp only [ho, resolve, Act.eval, Deferred.ofValue, invoke]
  simp

theorem good_ext {o : Oper} {f : FuncId} {xs : Array Operand} {tys : Array TypeId} {ts : List T} {res : T} (ho : o.op = .call { callee := .value (.func f), args := xs, argTypes := tys }) (hp : argsP X g xs.toList) (ha : argsA X g xs.toList tys.toList = some (ts, false))
    (hc : AExt X f ts res) : Good X g o (.t res) :=
  Good.of_run fun tmps ds w c hG hf => by
    obtain ⟨_, k2⟩ := args_rep (ds := ds) hG hf hp ha
    obtain ⟨v, h1, h2⟩ := hc w _ _ (k2 rfl)
    refine ⟨v, ?_, h2⟩
    have hvals : (xs.map (Act.eval ⟨tmps, ds⟩)) = (xs.toList.map (Act.eval ⟨tmps, ds⟩)).toArray := by
      apply Array.ext'; simp
    rw [exec_call_ext (P := X.P) ho, hvals]
    exact h1

/-- What a call may lean on. -/
def ACallee (X : Ctx) (f : FuncId) (args : List T) (b : Bool) (res : T) : Prop := (isFn X.P f = true ∧ (b = false ∨ res.noSl = true) ∧ APure X f args res) ∨ (b = false ∧ AExt X f args res)

theorem good_callee {o : Oper} {f : FuncId} {xs : Array Operand} {tys : Array TypeId} {ts : List T} {res : T} {b : Bool} (ho : o.op = .call { callee := .value (.func f), args := xs, argTypes := tys }) (hp : argsP X g xs.toList) (ha : argsA X g xs.toList tys.toList = some (ts, b))
    (hc : ACallee X f ts b res) : Good X g o (.t res) := by
  rcases hc with ⟨h1, h2, h3⟩ | ⟨h1, h2⟩
  · exact good_call ho h1 hp ha h3 h2
  · subst h1; exact good_ext ho hp ha h2

theorem AExt_indexByteString {f : FuncId} {fn : Func} (hf : X.P.funcs[f]? = some fn) (hname : (fn.name == "runtime.NumGoroutine") = false) (hb : fn.body.isNone = true) (hn : Extern.findNext fn = none) (he : Extern.find fn = some Extern.BytealgIndexByte.indexByte) (s : ByteArray) (c : Int) :
    AExt X f [.v (.string s), .v (.int .u8 c)] (.v (.int .i64 (Lib.indexByte (bl s) c.toNat.toUInt8))) := by
  intro w F vals hl
  cases hl with
  | cons _ _ x xs _ _ _ h1 h2 _ =>
    cases h2 with
    | cons _ _ y ys _ _ _ h3 h4 _ =>
      cases h4
      have e1 := TRep.of_v h1
      have e2 := TRep.of_v h3
      subst e1; subst e2
      refine ⟨_, ?_, .v _ _ (fun _ => rfl)⟩
      rw [run_callFunc_extern hf hname hb hn he, Go.Lib.run_indexByteString]
      rfl

/-! ### a text of bytes -/
theorem good_bytes_str {o : Oper} {s d : TypeId} {x : Operand} {e : TypeId} {es : List T} {l : List UInt8} (ho : o.op = .convert s d x) (hx : rdp X g x) (he : elemsA g (rd X g x) = some es) (hl : es = l.map encB) (hsz : sizA g 1 (rd X g x))
    (hs : X.P.underlying s = some (.slice e)) (heu : X.P.underlying e = some (.int .u8)) (hd : X.P.underlying d = some .string) : Good X g o (.t (.v (.string (mkS l)))) :=
  Good.of_run fun tmps ds w c hG hf => by
    have hr := rd_rep (ds := ds) hG hf x hx
    subst hl
    have hcells : ∀ l : List UInt8, (l.map encB).flatMap T.cells = l.map encB := by
      intro l; induction l with
      | nil => rfl
      | cons b bs ih => rw [List.map_cons, List.flatMap_cons, ih]; rfl
    obtain ⟨a0, cap, vals, hxv, h1, _, h3, h4⟩ := elems_rep (sz := 1) hf hr he (fun t ht => by obtain ⟨b, _, rfl⟩ := List.mem_map.1 ht; rfl) hsz (by rw [hcells]; simp [encB, T.flat])
    rw [hcells] at h1
    have hvals : ∀ (l : List UInt8) (vals : List Value), LRep w (fun b => ∀ j, c j b = 0) (l.map encB) vals (fun _ => 0) → vals = l.map fun b => Value.int .u8 b.toNat := by
      intro l
      induction l with
      | nil => intro vals h; cases h; rfl
      | cons b bs ih =>
        intro vals h
        rw [List.map_cons] at h
        cases h with
        | cons _ _ x xs c1 c2 _ q1 q2 qc =>
          have := TRep.of_v q1
          subst this
          rw [List.map_cons, ih xs (q2.count (fun b => by have := qc b; simp only at this; omega))]
    have hv := hvals l vals h1
    subst hv
    refine ⟨.string (mkS l), ?_, .v _ _ (fun _ => rfl)⟩
    unfold execOp; simp only [ho]
    rw [hxv]
    refine run_val ?_
    rw [List.length_map]
    rcases h4 with ⟨q1, q2⟩ | ⟨b, rfl, q2⟩
    · have : l = [] := by simpa using q1
      subst this
      cases a0 with
      | none => rw [List.length_nil, run_convert_bytes_string w s d e none 0 cap hs heu hd]; simp [Conv.bytesToString]; rfl
      | some a => exact run_convert_bytes_back w s d e a cap [] hs heu hd (fun j hj => absurd hj (by simp))
    · exact run_convert_bytes_back w s d e b cap l hs heu hd (fun j hj => q2 j _ (by rw [List.getElem?_map, List.getElem?_eq_getElem hj]; rfl))

end Go.Eng
