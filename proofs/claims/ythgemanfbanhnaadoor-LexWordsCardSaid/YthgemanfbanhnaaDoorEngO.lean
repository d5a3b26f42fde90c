/- The evaluator of operations. -/
import Derived.Test.YthgemanfbanhnaaDoorEngN
namespace Go.Eng
open Go.RowKit (Below)
set_option linter.unusedVariables false
set_option linter.unusedSimpArgs false
variable {X : Ctx} {g : Nat → A}

/-! ### a part of a block, looked at -/
def partAlias (r off : Nat) : T → A
  | .own _ _ es => .ref r (some off) 0 es.length
  | .box _ _ => .pref r (some off) 0
  | _ => .t .u

theorem good_load_alias {o : Oper} {t : TypeId} {x : Operand} {r off n : Nat} {e : TypeId} {cs : List T} {c0 : T} (ho : o.op = .load t x) (hx : rdp X g x) (ex : rd X g x = .pref r none off) (hg : g r = .t (.box e cs)) (hc0 : cs[off]? = some c0) (ht : tyRow X.P t = some (false, n)) : Good X g o (partAlias r off c0) :=
  Good.of_run fun tmps ds w c hG hf => by
    obtain ⟨d, i, hu, hi, hd, hn⟩ := tyRow_spec ht
    have rx := rd_rep (ds := ds) hG hf x hx
    rw [ex] at rx
    obtain ⟨_, t0, e', cs', b, h1, h2, h3, h4⟩ := rx
    rw [hg] at h1; cases h1
    obtain ⟨h5, h6⟩ := h2
    cases h5
    have hr := hf.rep r
    rw [hg, ← h6] at hr
    generalize c r = cr at hr
    cases hr with
    | box _ _ _ cur cc _ hgb hl hone hc =>
      obtain ⟨y, d1, hy, k1, k2⟩ := hl.get off c0 hc0
      rw [Array.getElem?_toList] at hy
      have hcell : w.cell? ⟨b, off, none⟩ = some y := by rw [cell_at hgb]; exact hy
      have hagg : (isAgg t).run X.P w = .ok false w := by
        unfold isAgg
        rw [Sem.run_bind, run_underlying hu w]
        cases d <;> first | rfl | cases hd
      refine ⟨y, ?_, ?_⟩
      · unfold execOp; simp only [ho]
        refine run_val ?_
        rw [h4]
        simp [Instr.loadAt, Instr.sureAddr, loadVar, hagg, hcell]
      · have hat : AtV w (.box e cs) (tmps.getD r undef) (some off) c0 y := .inl ⟨e, cs, b, cur, rfl, h6.symm, hgb, hc0, hy⟩
        cases c0 with
        | own e1 sz es =>
          refine ⟨fun _ => rfl, _, e1, sz, es, y, hg, hat, by omega, ?_⟩
          cases k1 with
          | ownnil => exact .inl ⟨rfl, rfl, rfl, rfl⟩
          | own _ _ _ b' n' cap cur' c0' _ _ hn' => exact .inr ⟨b', n', cap, 0, rfl, by rw [hn']; simp, Nat.zero_le _, fun _ => by simp⟩
        | box e1 cs1 =>
          cases k1 with
          | box _ _ b' cur' c0' _ _ _ _ _ => exact ⟨fun _ => rfl, _, e1, cs1, b', hg, hat, Nat.zero_le _, rfl⟩
        | _ => exact .u _ _ (fun _ => rfl)

/-! ### one operation -/
def loadK (c : Prop) (rm : Option (Bool × Nat)) (cs : List T) (alias : T → A) (K : A → Prop) : Prop :=
  match rm, cs with
  | some (false, _), .own e sz es :: _ => K (alias (.own e sz es))
  | some (false, _), .box e bs :: _ => K (alias (.box e bs))
  | some (false, _), .tup _ :: _ => False
  | some (false, _), t :: _ => K (.t t)
  | some (true, m), cs => (c → m ≤ cs.length ∧ (cs.take m).all T.flat = true) ∧ K (.t (.ag (cs.take m)))
  | _, _ => False

def loadC (X : Ctx) (g : Nat → A) (c : Prop) (t : TypeId) (x : Operand) (K : A → Prop) : Prop :=
  (c → rdp X g x) ∧
  match rd X g x with
  | .sptr cs => loadK c (tyRow X.P t) cs (fun _ => .t .u) K
  | .eptr r p i j => match root g r p with
    | some (.own _ _ es) => ∃ el, (c → es[i]? = some el) ∧ loadK c (tyRow X.P t) (el.cells.drop j) (fun _ => .t .u) K
    | _ => False
  | .pref r p off => match root g r p with
    | some (.box _ cs) => loadK c (tyRow X.P t) (cs.drop off) (match p with | none => partAlias r off | some _ => fun _ => .t .u) K
    | _ => False
  | _ => False

theorem good_u {o : Oper} {a : A} (h : Good X g o a) : Good X g o (.t .u) := by
  intro tmps ds w c hG hf next Q hn
  exact h tmps ds w c hG hf next Q (fun v w' hw _ => hn v w' hw ⟨fun _ => 0, .u _ _ (fun _ => rfl), fun b hb => absurd hb (by simp), fun b => by simp⟩)

theorem good_load_any {o : Oper} {t : TypeId} {x : Operand} {c0 : T} {cs : List T} {n : Nat} (ho : o.op = .load t x) (hx : rdp X g x) (ec : cellsAt g (rd X g x) = some (c0 :: cs)) (ht : tyRow X.P t = some (false, n)) : Good X g o (.t .u) :=
  Good.of_run fun tmps ds w c hG hf => by
    obtain ⟨d, i, hu, hi, hd, hn⟩ := tyRow_spec ht
    obtain ⟨ad, vals, dc, e1, e2, e3, e4, e5⟩ := cellsAt_rep hf (rd_rep (ds := ds) hG hf x hx) ec
    cases e4 with
    | cons _ _ y ys c1 c2 _ k1 k2 hc =>
      refine ⟨y, ?_, .u _ _ (fun _ => rfl)⟩
      have hcell := e3 0 y (by simp)
      rw [addr_add_zero] at hcell
      have hagg : (isAgg t).run X.P w = .ok false w := by
        unfold isAgg
        rw [Sem.run_bind, run_underlying hu w]
        cases d <;> first | rfl | cases hd
      unfold execOp; simp only [ho]
      refine run_val ?_
      rw [e1]
      simp [Instr.loadAt, Instr.sureAddr, loadVar, hagg, hcell]

/-- From the reading to the operation. -/
theorem loadK_sound {o : Oper} {t : TypeId} {x : Operand} {c : Prop} {cs : List T} {alias : T → A} {K : A → Prop} (ho : o.op = .load t x) (hx : c → rdp X g x) (ec : c → cellsAt g (rd X g x) = some cs)
    (hal : ∀ c0 rest n, cs = c0 :: rest → c → tyRow X.P t = some (false, n) → Good X g o (alias c0)) (h : loadK c (tyRow X.P t) cs alias K) : ∃ a, (c → Good X g o a) ∧ K a := by
  unfold loadK at h
  split at h
  · rename_i n e sz es rest hrow
    exact ⟨_, fun hc => hal _ _ _ rfl hc hrow, h⟩
  · rename_i n e bs rest hrow
    exact ⟨_, fun hc => hal _ _ _ rfl hc hrow, h⟩
  · exact h.elim
  · rename_i n t' rest h1 h2 h3 hrow
    refine ⟨_, fun hc => good_load ho (hx hc) (ec hc) hrow ?_, h⟩
    cases t' <;> first | rfl | exact absurd rfl (h1 _ _ _) | exact absurd rfl (h2 _ _) | exact absurd rfl (h3 _)
  · rename_i m cs' hrow
    exact ⟨_, fun hc => good_load_row ho (hx hc) (ec hc) hrow (h.1 hc).1 (h.1 hc).2, h.2⟩
  · exact h.elim

theorem loadC_sound {o : Oper} {t : TypeId} {x : Operand} {c : Prop} {K : A → Prop} (ho : o.op = .load t x) (h : loadC X g c t x K) : ∃ a, (c → Good X g o a) ∧ K a := by
  obtain ⟨hx, h⟩ := h
  split at h
  · rename_i cs e
    exact loadK_sound ho hx (fun _ => by rw [e]; rfl) (fun c0 rest n hcs hc hrow => good_load_any ho (hx hc) (by rw [e]; show some cs = _; rw [hcs]) hrow) h
  · rename_i r p i j e
    split at h
    · rename_i e1 sz es hrt
      obtain ⟨el, hel, h⟩ := h
      have hcells : c → cellsAt g (rd X g x) = some (el.cells.drop j) := fun hc => by
        rw [e]; simp only [cellsAt, hrt]
        rw [List.getD_eq_getElem?_getD, hel hc]; rfl
      exact loadK_sound ho hx hcells (fun c0 rest n hcs hc hrow => good_load_any ho (hx hc) (by rw [hcells hc, hcs]) hrow) h
    · exact h.elim
  · rename_i r p off e
    split at h
    · rename_i e1 cs hrt
      have hcells : cellsAt g (rd X g x) = some (cs.drop off) := by rw [e]; simp only [cellsAt, hrt]
      refine loadK_sound ho hx (fun _ => hcells) (fun c0 rest n hcs hc hrow => ?_) h
      cases p with
      | none =>
        have hg : g r = .t (.box e1 cs) := by
          simp only [root] at hrt
          split at hrt
          · rename_i t0 hg; rw [hg]; cases hrt; rfl
          · cases hrt
        refine good_load_alias ho (hx hc) e hg ?_ hrow
        have : (cs.drop off)[0]? = some c0 := by rw [hcs]; rfl
        rw [List.getElem?_drop] at this
        simpa using this
      | some k => exact good_load_any ho (hx hc) (by rw [hcells, hcs]) hrow
    · exact h.elim
  · exact h.elim

/-- One operation that writes one slot. 'c': what its guard says. -/
def locC (X : Ctx) (g : Nat → A) (c : Prop) (o : Oper) (K : A → Prop) : Prop :=
  match o.op with
  | .move x | .assign x => match x with
    | .const (.slice none 0 0) => match sliOf X.P o.type with
      | some (e, sz, _, _) => K (.t (.own e sz []))
      | none => False
    | x => (c → rdp X g x) ∧ K (rd X g x)
  | .pick q x y => match rd X g q with
    | .t (.v (.bool b)) => (c → rdp X g q ∧ pickOk b (ev X g x) (ev X g y)) ∧ K (pickA b (ev X g x) (ev X g y))
    | _ => False
  | .binOp op t x y _ => match rd X g x, rd X g y with
    | .t (.v a), .t (.v b) => (c → rdp X g x ∧ rdp X g y ∧ binOk X.P t op a b) ∧ K (.t (.v (binV op a b)))
    | _, _ => False
  | .unOp op _ x => match rd X g x with
    | .t (.v a) => (c → rdp X g x ∧ unOk op a) ∧ K (.t (.v (unV op a)))
    | _ => False
  | .convert s d x => match rd X g x, X.P.underlying s, X.P.underlying d with
    | .t (.v (.int _ n)), some _, some (.int k') => (c → rdp X g x) ∧ K (.t (.v (.int k' (k'.wrap n))))
    | .t (.v (.string a)), some .string, some .string => (c → rdp X g x) ∧ K (.t (.v (.string a)))
    | a, some (.slice e), some .string => match elemsA g a with
      | some es => (c → rdp X g x ∧ sizA g 1 a ∧ X.P.underlying e = some (.int .u8)) ∧ ∃ l, (c → es = l.map encB) ∧ K (.t (.v (.string (mkS l))))
      | none => False
    | _, _, _ => False
  | .index t x i => match rd X g x, rd X g i, X.P.underlying t with
    | .t (.v (.string s)), .t (.v (.int _ n)), some .string => (c → rdp X g x ∧ rdp X g i ∧ 0 ≤ n ∧ n < ((bl s).length : Int)) ∧ K (.t (.v (.int .u8 ((bl s).getD n.toNat 0).toNat)))
    | _, _, _ => False
  | .slice t x lo hi none => match bndA X g lo, bndA X g hi with
    | some nlo, some nhi => (c → rdp X g x ∧ bndP X g lo ∧ bndP X g hi) ∧ match rd X g x with
      | .t (.v (.string s)) => match X.P.underlying t with
        | some .string => (c → 0 ≤ nlo.getD 0 ∧ nlo.getD 0 ≤ nhi.getD ((bl s).length : Int) ∧ nhi.getD ((bl s).length : Int) ≤ ((bl s).length : Int)) ∧ K (.t (.v (.string (mkS (cut (bl s) (nlo.getD 0).toNat (nhi.getD ((bl s).length : Int)).toNat)))))
        | _ => False
      | .t (.sl sz es) => match sliOf X.P t with
        | some (_, sz', _, _) => (c → sz' = sz ∧ sliceOk nlo nhi es.length) ∧ K (.t (.sl sz (cut es (nlo.getD 0).toNat (nhi.getD (es.length : Int)).toNat)))
        | none => False
      | .ref r p off len => match sliOf X.P t, root g r p with
        | some (_, sz', _, _), some (.own _ sz _) => (c → sz' = sz ∧ sliceOk nlo nhi len) ∧ K (.ref r p (off + (nlo.getD 0).toNat) ((nhi.getD (len : Int)).toNat - (nlo.getD 0).toNat))
        | _, _ => False
      | _ => False
    | _, _ => False
  | .indexAddr t x i => match rd X g i with
    | .t (.v (.int _ n)) => (c → rdp X g x ∧ rdp X g i ∧ 0 ≤ n) ∧ match rd X g x with
      | .t (.sl sz es) => match sliOf X.P t with
        | some (_, sz', _, _) => ∃ el, (c → sz' = sz ∧ es[n.toNat]? = some el) ∧ K (.sptr el.cells)
        | none => False
      | .ref r p off len => match sliOf X.P t, root g r p with
        | some (_, sz', _, _), some (.own _ sz _) => (c → sz' = sz ∧ 0 < sz ∧ n < (len : Int)) ∧ K (.eptr r p (off + n.toNat) 0)
        | _, _ => False
      | _ => False
    | _ => False
  | .fieldAddr s x f => match fldOf X.P s f with
    | some (off, _, m) => (c → rdp X g x ∧ 0 < m ∧ fieldOk g off (rd X g x)) ∧ K (fieldA off (rd X g x))
    | none => False
  | .field s x f => match rd X g x, fldOf X.P s f with
    | .t (.ag cs), some (off, r, m) => (c → rdp X g x ∧ 0 < m ∧ off + m ≤ cs.length) ∧ K (.t (partA cs off r m))
    | _, _ => False
  | .load t x => loadC X g c t x K
  | .build t ps => match partsA X g ps.toList, layOf X.P t with
    | some ts, some (zs, pl) => (c → partsP X g ps.toList ∧ zs.all Value.oneCell' = true) ∧ match fillT (pl[·]?) (zs.map .v) ts with
      | some cs => K (.t (.ag cs))
      | none => False
    | _, _ => False
  | .buildSlice t m ps => match partsA X g ps.toList, sliOf X.P t with
    | some ts, some (e, sz, _, z) => (c → partsP X g ps.toList ∧ ts.length = m ∧ inOrder 0 ts = true ∧ 0 < sz ∧ z.cells.size = sz ∧ z.cells.toList.all Value.oneCell' = true ∧ (ts.all fun p => p.2.cells.length == sz) = true ∧ m * sz ≤ 16777216) ∧ K (.t (.own e sz (ts.map (·.2))))
    | _, _ => False
  | .makeSlice t l cp => match rd X g l, rd X g cp, sliOf X.P t with
    | .t (.v (.int _ n)), .t (.v (.int _ m)), some (e, sz, b, z) => (c → rdp X g l ∧ rdp X g cp ∧ z.cells.size = sz ∧ 0 < sz ∧ z.cells.toList.all Value.oneCell' = true ∧ 0 ≤ n ∧ n ≤ m ∧ (b : Int) * m ≤ 281474976710656 ∧ m ≤ 9223372036854775807) ∧ K (.t (.own e sz (List.replicate n.toNat (zeroT z))))
    | _, _, _ => False
  | .alloc e => match zerOf X.P e with
    | some z => (c → z.cells.toList.all Value.oneCell' = true) ∧ K (.t (.box e (z.cells.toList.map .v)))
    | none => False
  | .box e x => match rd X g x with
    | .t t => (c → rdp X g x ∧ t.solid = true) ∧ K (.t (.box e t.cells))
    | _ => False
  | .extract (.tmp r) i => match g r with
    | .t (.tup cs) => match cs[i]? with
      | some t => (c → t.flat = true) ∧ K (.t t)
      | none => False
    | _ => False
  | .makeInterface t x => match rd X g x, X.P.underlying t with
    | .t (.v v), some (.interface _) => False
    | .t (.v v), some _ => (c → rdp X g x) ∧ K (.t (.v (.iface t v)))
    | _, _ => False
  | .call { callee := .builtin .len, args := ⟨[x]⟩, argTypes := ⟨[t]⟩ } => match lenA (rd X g x) with
    | some m => (c → rdp X g x ∧ match rd X g x with | .t (.v _) => X.P.underlying t = some .string | _ => ∃ e, X.P.underlying t = some (.slice e)) ∧ K (.t (.v (.int .i64 m)))
    | none => False
  | .call { callee := .value (.func f), args := xs, argTypes := tys } => match argsA X g xs.toList tys.toList with
    | some (ts, b) => (c → argsP X g xs.toList) ∧ ∃ res, (c → ACallee X f ts b res) ∧ K (.t res)
    | none => False
  | _ => False

theorem locC_sound {c : Prop} {o : Oper} {K : A → Prop} (h : locC X g c o K) : ∃ a, (c → Good X g o a) ∧ K a := by
  unfold locC at h
  split at h
  · rename_i x ho
    split at h
    · split at h
      · rename_i e sz b z hs; exact ⟨_, fun _ => good_nil (.inr ho) hs, h⟩
      · exact h.elim
    · exact ⟨_, fun hc => good_move (.inl ho) (h.1 hc), h.2⟩
  · rename_i x ho
    split at h
    · split at h
      · rename_i e sz b z hs; exact ⟨_, fun _ => good_nil (.inl ho) hs, h⟩
      · exact h.elim
    · exact ⟨_, fun hc => good_move (.inr ho) (h.1 hc), h.2⟩
  · rename_i q x y ho
    split at h
    · rename_i b hb; exact ⟨_, fun hc => good_pick ho (h.1 hc).1 hb (h.1 hc).2, h.2⟩
    · exact h.elim
  · rename_i op t x y ty ho
    split at h
    · rename_i a b ha hb; exact ⟨_, fun hc => good_bin ho (h.1 hc).1 (h.1 hc).2.1 ha hb (h.1 hc).2.2, h.2⟩
    · exact h.elim
  · rename_i op t x ho
    split at h
    · rename_i a ha; exact ⟨_, fun hc => good_un ho (h.1 hc).1 ha (h.1 hc).2, h.2⟩
    · exact h.elim
  · rename_i s d x ho
    split at h
    · rename_i k n ds k' hx hs hd; exact ⟨_, fun hc => good_conv_int ho (h.1 hc) hx hs hd, h.2⟩
    · rename_i a hx hs hd; exact ⟨_, fun hc => good_conv_str ho (h.1 hc) hx hs hd, h.2⟩
    · rename_i e hs hd
      split at h
      · rename_i es he
        obtain ⟨h1, l, h2, h3⟩ := h
        exact ⟨_, fun hc => good_bytes_str ho (h1 hc).1 he (h2 hc) (h1 hc).2.1 hs (h1 hc).2.2 hd, h3⟩
      · exact h.elim
    · exact h.elim
  · rename_i t x i ho
    split at h
    · rename_i s k n hx hi ht; exact ⟨_, fun hc => good_index_str ho (h.1 hc).1 (h.1 hc).2.1 hx hi ht (h.1 hc).2.2.1 (h.1 hc).2.2.2, h.2⟩
    · exact h.elim
  · rename_i t x lo hi ho
    split at h
    · rename_i nlo nhi hl hh
      obtain ⟨h0, h⟩ := h
      split at h
      · rename_i s hx
        split at h
        · rename_i ht; exact ⟨_, fun hc => good_slice_str ho (h0 hc).1 hx (h0 hc).2.1 (h0 hc).2.2 hl hh ht (h.1 hc), h.2⟩
        · exact h.elim
      · rename_i sz es hx
        split at h
        · rename_i e sz' b z ht; exact ⟨_, fun hc => good_slice_sl ho (h0 hc).1 hx (h0 hc).2.1 (h0 hc).2.2 hl hh ht (h.1 hc).1 (h.1 hc).2, h.2⟩
        · exact h.elim
      · rename_i r p off len hx
        split at h
        · rename_i e sz' b z e' sz es ht hrt
          refine ⟨_, fun hc => ?_, h.2⟩
          obtain ⟨e1, e2⟩ := h.1 hc
          subst e1
          exact good_slice_ref ho (h0 hc).1 hx hrt (h0 hc).2.1 (h0 hc).2.2 hl hh ht e2
        · exact h.elim
      · exact h.elim
    · exact h.elim
  · rename_i t x i ho
    split at h
    · rename_i k n hi
      obtain ⟨h0, h⟩ := h
      split at h
      · rename_i sz es hx
        split at h
        · rename_i e sz' b z ht
          obtain ⟨el, h1, h2⟩ := h
          refine ⟨_, fun hc => ?_, h2⟩
          obtain ⟨e1, e2⟩ := h1 hc
          subst e1
          have hlt := (List.getElem?_eq_some_iff.1 e2).1
          have := good_indexAddr_sl ho (h0 hc).1 (h0 hc).2.1 hx hi ht (h0 hc).2.2 (by have := (h0 hc).2.2; omega)
          rw [List.getD_eq_getElem?_getD, e2] at this
          exact this
        · exact h.elim
      · rename_i r p off len hx
        split at h
        · rename_i e sz' b z e' sz es ht hrt
          refine ⟨_, fun hc => ?_, h.2⟩
          obtain ⟨e1, e2, e3⟩ := h.1 hc
          subst e1
          exact good_indexAddr_ref ho (h0 hc).1 (h0 hc).2.1 hx hi hrt ht e2 (h0 hc).2.2 e3
        · exact h.elim
      · exact h.elim
    · exact h.elim
  · rename_i s x f ho
    split at h
    · rename_i off r m hfl; exact ⟨_, fun hc => good_fieldAddr ho (h.1 hc).1 hfl (h.1 hc).2.1 (h.1 hc).2.2, h.2⟩
    · exact h.elim
  · rename_i s x f ho
    split at h
    · rename_i cs off r m hx hfl; exact ⟨_, fun hc => good_field ho (h.1 hc).1 hx hfl (h.1 hc).2.1 (h.1 hc).2.2, h.2⟩
    · exact h.elim
  · rename_i t x ho; exact loadC_sound ho h
  · rename_i t ps ho
    split at h
    · rename_i ts zs pl hts hl
      obtain ⟨h0, h⟩ := h
      split at h
      · rename_i cs hfill; exact ⟨_, fun hc => good_build ho (h0 hc).1 hts hl (h0 hc).2 hfill, h⟩
      · exact h.elim
    · exact h.elim
  · rename_i t m ps ho
    split at h
    · rename_i ts e sz b z hts ht
      refine ⟨_, fun hc => ?_, h.2⟩
      obtain ⟨e1, e2, e3, e4, e5, e6, e7, e8⟩ := h.1 hc
      refine good_buildSlice ho e1 hts ht e2 e3 e4 e5 e6 (fun p hp => by simpa using List.all_eq_true.1 e7 p hp) e8 ?_
      have : m * 1 ≤ m * sz := Nat.mul_le_mul_left _ e4
      unfold maxLen; omega
    · exact h.elim
  · rename_i t l cp ho
    split at h
    · rename_i kl n kc m e sz b z hl hcp ht
      refine ⟨_, fun hc => ?_, h.2⟩
      obtain ⟨e1, e2, e3, e4, e5, e6, e7, e8, e9⟩ := h.1 hc
      exact good_makeSlice ho e1 e2 hl hcp ht e3 e4 e5 e6 e7 e8 e9
    · exact h.elim
  · rename_i e ho
    split at h
    · rename_i z hz; exact ⟨_, fun hc => good_alloc ho hz (h.1 hc), h.2⟩
    · exact h.elim
  · rename_i e x ho
    split at h
    · rename_i t hx; exact ⟨_, fun hc => good_box ho (h.1 hc).1 hx (h.1 hc).2, h.2⟩
    · exact h.elim
  · rename_i r i ho
    split at h
    · rename_i cs hg
      split at h
      · rename_i t ht; exact ⟨_, fun hc => good_extract ho hg ht (h.1 hc), h.2⟩
      · exact h.elim
    · exact h.elim
  · rename_i t x ho
    split at h
    · exact h.elim
    · rename_i v d hn hx hu; exact ⟨_, fun hc => good_iface ho (h.1 hc) hx hu (fun ms e => by subst e; exact hn ms rfl), h.2⟩
    · exact h.elim
  · rename_i x t ho
    split at h
    · rename_i m hm; exact ⟨_, fun hc => good_len ho (h.1 hc).1 hm (h.1 hc).2, h.2⟩
    · exact h.elim
  · rename_i f xs tys ho
    split at h
    · rename_i ts b ha
      obtain ⟨h0, res, h1, h2⟩ := h
      exact ⟨_, fun hc => good_callee ho (h0 hc) ha (h1 hc), h2⟩
    · exact h.elim
  · exact h.elim

end Go.Eng
