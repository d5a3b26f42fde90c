/- One operation that writes one slot, in typed trees: that it is so (first part). -/
import Derived.Test.YthgemanfbanhnaaDoorDvA
namespace Go.Eng
open Go.RowKit (Below)
set_option linter.unusedVariables false
set_option linter.unusedSimpArgs false
variable {X : Ctx} {Y : DX} {n : Nat} {st : DSt} {E : Env} {γ : Gam}

/-- What an evaluation of one operation shows. -/
def Shows (X : Ctx) (n : Nat) (st : DSt) (γ : Gam) (o : Oper) {ρ : Type} (K : DA → Option ρ) (r : ρ) : Prop :=
  ∃ a, (cP γ → Good X (stG n st.toSt) o a.toA) ∧ a.isOpt = false ∧ viewOk st a ∧ K a = some r

theorem rootD_spec {r : Nat} {p : Option Nat} {d : DT} (h : rootD st r p = some d) : root (stG n st.toSt) r p = some d.toT := by
  cases p with
  | none =>
    simp only [rootD] at h
    simp only [root, stG_toSt]
    split at h
    · rename_i x hx; cases h; rw [hx]; rfl
    · cases h
  | some k =>
    simp only [rootD] at h
    simp only [root, stG_toSt]
    split at h
    · rename_i e cs hx
      rw [hx]
      simp only [DA.toA, DT.toT, all_eq]
      rw [List.getElem?_map, h]; rfl
    · cases h

theorem rdT_spec (hY : DXOk Y X) (hw : WF st) (hγ : gOk st γ) {x : Operand} {y : DT} (h : rdD Y γ st x = some (.t y)) : rd X (stG n st.toSt) x = .t y.toT ∧ (cP γ → rdp X (stG n st.toSt) x) := by
  obtain ⟨h1, h2, _⟩ := rdD_spec (n := n) hY hw hγ h
  exact ⟨h1, h2⟩
theorem rdI_spec (hY : DXOk Y X) (hw : WF st) (hγ : gOk st γ) {x : Operand} {k : IntKind} {a : Int} (h : rdI Y γ st x = some (k, a)) :
    rd X (stG n st.toSt) x = .t (.v (.int k a)) ∧ (cP γ → rdp X (stG n st.toSt) x) ∧ (k = .u8 → 0 ≤ a ∧ a < 256) := by
  unfold rdI at h
  split at h
  · rename_i y hy
    obtain ⟨h1, h2⟩ := rdT_spec (n := n) hY hw hγ hy
    obtain ⟨h3, h4⟩ := asI_spec h
    exact ⟨by rw [h1, h3], h2, h4⟩
  · cases h
theorem bndD_spec (hY : DXOk Y X) (hw : WF st) (hγ : gOk st γ) {x : Option Operand} {m : Option Int} (h : bndD Y γ st x = some m) :
    (cP γ → bndP X (stG n st.toSt) x) ∧ bndA X (stG n st.toSt) x = some m := by
  cases x with
  | none => cases h; exact ⟨fun _ => trivial, rfl⟩
  | some x =>
    simp only [bndD] at h
    split at h
    · rename_i k a ha
      cases h
      obtain ⟨h1, h2, _⟩ := rdI_spec (n := n) hY hw hγ ha
      exact ⟨h2, by simp only [bndA, h1]⟩
    · cases h

theorem cut_all0 {α : Type} (l : List α) : cut l 0 l.length = l := by simp [cut]
theorem vwL_spec {α : Type} (l : List α) {off len : Nat} {v : Vw} (h : vwOk off len l.length v) : cut l off (off + len) = vwL l off len v := by
  cases v with
  | all => obtain ⟨rfl, rfl⟩ := h; rw [Nat.zero_add, cut_all0]; rfl
  | tail => obtain ⟨h1, rfl⟩ := h; rw [show off + (l.length - off) = l.length by omega, cut_all]; rfl
  | head => obtain ⟨rfl, _⟩ := h; rw [Nat.zero_add, cut_zero]; rfl
  | mid => rfl
theorem viewOk_vw {r : Nat} {p : Option Nat} {off len : Nat} {v : Vw} {e : TypeId} {t : Ty} {l : List t.I} (h : viewOk st (.ref r p off len v)) (hr : rootD st r p = some (.own e t l)) : vwOk off len l.length v := by
  rcases h with rfl | ⟨e', t', l', h1, h2⟩
  · trivial
  · rw [hr] at h1; cases h1; exact h2

theorem elemsD_spec {a : DA} {t : Ty} {l : List t.I} (hv : viewOk st a) (h : elemsD st a = some ⟨t, l⟩) : elemsA (stG n st.toSt) a.toA = some (l.map t.enc) ∧ sizA (stG n st.toSt) t.sz a.toA := by
  unfold elemsD at h
  split at h
  · rename_i sz t' l'
    split at h
    · rename_i hs
      simp only [decide_eq_true_eq] at hs
      cases h
      exact ⟨rfl, hs⟩
    · cases h
  · rename_i r p off len v
    split at h
    · rename_i e t' l' hr
      cases h
      have hr' := rootD_spec (n := n) hr
      simp only [DA.toA, elemsA, sizA, hr', DT.toT]
      refine ⟨?_, e, _, rfl⟩
      rw [map_cut, vwL_spec _ (viewOk_vw hv hr)]
    · cases h
  · cases h

theorem subG_some {ρ : Type} {m : Nat} {lo hi : Option Int} {k : Option ρ} {r : ρ} (h : subG γ m lo hi k = some r) : (cP γ → sliceOk lo hi m) ∧ k = some r := by
  unfold subG at h
  unfold sliceOk
  split at h
  · exact ⟨fun _ => by simp, h⟩
  · obtain ⟨h1, h2⟩ := Gd_some h
    exact ⟨fun hc => by have := h1 hc; simp; omega, h2⟩
  · obtain ⟨h1, h2⟩ := Gd_some h
    exact ⟨fun hc => by have := h1 hc; simp; omega, h2⟩
  · obtain ⟨h1, h2⟩ := Gd_some h
    exact ⟨fun hc => by have := h1 hc; simp; omega, h2⟩
theorem subL_spec {α : Type} (l : List α) (lo hi : Option Int) : cut l (lo.getD 0).toNat (hi.getD (l.length : Int)).toNat = subL l lo hi := by
  cases lo <;> cases hi <;> simp [subL, cut]

theorem isTy_spec (hY : DXOk Y X) {t : TypeId} {w : Ty} (h : isTy Y t w = true) (hu : undOf w ≠ none) : X.P.underlying t = undOf w := by
  unfold isTy at h
  split at h
  · rename_i d hd
    simp only [decide_eq_true_eq] at h
    have := (hY.td hd).und
    rw [h] at this
    rcases this with e | e
    · exact absurd e hu
    · exact e
  · cases h
theorem tyT_spec (hY : DXOk Y X) {t : TypeId} {w : Ty} {u : TypeDesc} (h : tyT Y t = some w) (hu : undOf w = some u) : X.P.underlying t = some u := by
  unfold tyT at h
  split at h
  · rename_i d hd
    cases h
    rcases (hY.td hd).und with e | e
    · rw [hu] at e; cases e
    · rw [e, hu]
  · cases h
theorem tyT_row (hY : DXOk Y X) {t : TypeId} {w : Ty} (h : tyT Y t = some w) (hf : w.fine = true) : tyRow X.P t = some (w.row, w.sz) := by
  unfold tyT at h
  split at h
  · rename_i d hd
    cases h
    rcases (hY.td hd).row with e | e
    · rw [hf] at e; cases e
    · exact e
  · cases h
theorem sliT_spec (hY : DXOk Y X) {ty e : TypeId} {t : Ty} {b : Nat} (h : sliT Y ty = some (e, t, b)) : sliOf X.P ty = some (e, t.sz, b, zval t) ∧ 1 ≤ b ∧ 0 < t.sz ∧ t.fine = true ∧ (t = .u8 → X.P.underlying e = some (.int .u8)) := by
  unfold sliT at h
  split at h
  · rename_i d hd
    have hk := hY.td hd
    have h1 := hk.sli
    have h2 := hk.slt
    have h3 := hk.bye
    rw [h] at h1 h3
    simp only [slT, h, Bool.and_eq_true, decide_eq_true_eq] at h2
    rcases h1 with e1 | e1
    · cases e1
    · refine ⟨e1, h2.1.1.2, h2.1.2, h2.2, fun ht => ?_⟩
      subst ht
      simpa [byE] using h3
  · cases h

theorem u8_wrap (z : Int) : 0 ≤ IntKind.u8.wrap z ∧ IntKind.u8.wrap z < 256 := by
  simp only [IntKind.wrap, IntKind.bits, IntKind.signed]
  simp
  omega

theorem binI_spec {ρ : Type} {op : BinOp} {k k' : IntKind} {a b : Int} {K : DA → Option ρ} {r : ρ} (ty : TypeId) (ha : k = .u8 → 0 ≤ a ∧ a < 256) (h : binI γ op k k' a b K = some r) :
    ∃ da : DA, (cP γ → binOk X.P ty op (.int k a) (.int k' b)) ∧ da.toA = .t (.v (binV op (.int k a) (.int k' b))) ∧ da.isOpt = false ∧ viewOk st da ∧ K da = some r := by
  have hwr : ∀ z : Int, k = .u8 → 0 ≤ k.wrap z ∧ k.wrap z < 256 := fun z e => by subst e; exact u8_wrap z
  cases op with
  | shl =>
    obtain ⟨h1, h2⟩ := Gd_some (show Gd γ _ _ = some r from h)
    exact ⟨.t _, h1, by rw [DA.toA, mkI_spec _ _ (hwr _)]; rfl, rfl, trivial, h2⟩
  | shr =>
    obtain ⟨h1, h2⟩ := Gd_some (show Gd γ _ _ = some r from h)
    suffices hr : k = .u8 → 0 ≤ a.fdiv (2 ^ min b.toNat k.bits) ∧ a.fdiv (2 ^ min b.toNat k.bits) < 256 from
      ⟨.t _, h1, by rw [DA.toA, mkI_spec _ _ hr]; rfl, rfl, trivial, h2⟩
    intro e
    -- ⟨.t _, h1, by rw [DA.toA, mkI_spec _ _ hr]; rfl, rfl, trivial, h2⟩
    obtain ⟨q1, q2⟩ := ha e
    have hp : (0 : Int) < 2 ^ min b.toNat k.bits := Int.pow_pos (by decide)
    rw [Int.fdiv_eq_ediv_of_nonneg _ (Int.le_of_lt hp)]
    exact ⟨Int.ediv_nonneg q1 (Int.le_of_lt hp), Int.lt_of_le_of_lt (Int.ediv_le_self _ q1) q2⟩
  | quo =>
    obtain ⟨h0, h⟩ := tst_some (show tst _ _ = some r from h)
    simp only [decide_eq_true_eq] at h0
    obtain ⟨h1, h2⟩ := Gd_some h
    exact ⟨.t _, fun hc => ⟨h0, h1 hc⟩, by rw [DA.toA, mkI_spec _ _ (hwr _)]; rfl, rfl, trivial, h2⟩
  | rem =>
    obtain ⟨h0, h⟩ := tst_some (show tst _ _ = some r from h)
    simp only [decide_eq_true_eq] at h0
    obtain ⟨h1, h2⟩ := Gd_some h
    suffices hr : k = .u8 → 0 ≤ a.tmod b ∧ a.tmod b < 256 from
      ⟨.t _, fun hc => ⟨h0, h1 hc⟩, by rw [DA.toA, mkI_spec _ _ hr]; rfl, rfl, trivial, h2⟩
    intro e
    -- ⟨.t _, fun hc => ⟨h0, h1 hc⟩, by rw [DA.toA, mkI_spec _ _ hr]; rfl, rfl, trivial, h2⟩
    obtain ⟨q1, q2⟩ := ha e
    rw [Int.tmod_eq_emod_of_nonneg q1]
    by_cases hb : b = 0
    · subst hb; simp; omega
    · have := Int.emod_nonneg a hb
      refine ⟨this, Int.lt_of_le_of_lt ?_ q2⟩
      obtain ⟨m, rfl⟩ : ∃ m : Nat, a = m := ⟨a.toNat, by omega⟩
      obtain ⟨j, rfl | rfl⟩ := Int.eq_nat_or_neg b
      · rw [← Int.natCast_emod]; exact Int.ofNat_le.2 (Nat.mod_le _ _)
      · rw [Int.emod_neg, ← Int.natCast_emod]; exact Int.ofNat_le.2 (Nat.mod_le _ _)
  | add | sub | mul | and | or | xor =>
    obtain ⟨h0, h⟩ := tst_some (show tst _ _ = some r from h)
    simp only [decide_eq_true_eq] at h0
    exact ⟨.t _, fun hc => h0, by rw [DA.toA, mkI_spec _ _ (hwr _)]; rfl, rfl, trivial, h⟩
  | eql | neq | lss | leq | gtr | geq =>
    obtain ⟨h0, h⟩ := tst_some (show tst _ _ = some r from h)
    simp only [decide_eq_true_eq] at h0
    exact ⟨.t _, fun hc => h0, rfl, rfl, trivial, h⟩
  | andNot =>
    obtain ⟨h0, h⟩ := tst_some (show tst _ _ = some r from h)
    cases h

theorem length_str (s : List UInt8) : (mkS s).size = s.length := size_mkS s
theorem binS_spec {ρ : Type} {op : BinOp} {a b : List UInt8} {K : DA → Option ρ} {r : ρ} (ty : TypeId) (h : binS γ op a b K = some r) :
    ∃ da : DA, (cP γ → binOk X.P ty op (.string (mkS a)) (.string (mkS b))) ∧ da.toA = .t (.v (binV op (.string (mkS a)) (.string (mkS b)))) ∧ da.isOpt = false ∧ viewOk st da ∧ K da = some r := by
  cases op with
  | add =>
    obtain ⟨h1, h2⟩ := Gd_some (show Gd γ _ _ = some r from h)
    exact ⟨.t _, fun hc => by have := h1 hc; simp only [binOk, length_str]; exact this, by simp only [DA.toA, DT.toT, Ty.enc, Ty.row, mkT, Ty.cells, List.headD_cons, binV, mkS_append], rfl, trivial, h2⟩
  | eql | neq | lss | gtr =>
    exact ⟨.t _, fun hc => trivial, by simp only [DA.toA, DT.toT, Ty.enc, Ty.row, mkT, Ty.cells, List.headD_cons, binV, bl_mkS], rfl, trivial, h⟩
  | _ => cases h

theorem bin_sound (hY : DXOk Y X) (hw : WF st) (hγ : gOk st γ) {ρ : Type} {o : Oper} {op : BinOp} {ty t' : TypeId} {x y : Operand} {a b : DT} {K : DA → Option ρ} {r : ρ} (ho : o.op = .binOp op ty x y t')
    (hx : rdD Y γ st x = some (.t a)) (hy : rdD Y γ st y = some (.t b)) (h : binD Y γ op ty a b K = some r) : Shows X n st γ o K r := by
  obtain ⟨x1, x2⟩ := rdT_spec (n := n) hY hw hγ hx
  obtain ⟨y1, y2⟩ := rdT_spec (n := n) hY hw hγ hy
  unfold binD at h
  split at h
  · rename_i k a' k' b' ha hb
    obtain ⟨a1, a2⟩ := asI_spec ha
    obtain ⟨b1, b2⟩ := asI_spec hb
    obtain ⟨da, q1, q2, q3, q4, q5⟩ := binI_spec (X := X) (st := st) ty a2 h
    rw [a1] at x1; rw [b1] at y1
    exact ⟨da, fun hc => by rw [q2]; exact good_bin ho (x2 hc) (y2 hc) x1 y1 (q1 hc), q3, q4, q5⟩
  · split at h
    · obtain ⟨da, q1, q2, q3, q4, q5⟩ := binS_spec (X := X) (st := st) ty h
      exact ⟨da, fun hc => by rw [q2]; exact good_bin ho (x2 hc) (y2 hc) x1 y1 (q1 hc), q3, q4, q5⟩
    · rename_i a b _
      obtain ⟨h0, h⟩ := tst_some h
      have hu := isTy_spec hY h0 (by simp [undOf])
      cases op <;> first | cases h | exact ⟨.t (.s .bool _), fun hc => (good_bin (a := .bool a) (b := .bool b) ho (x2 hc) (y2 hc) x1 y1 hu), rfl, trivial, h⟩
    · cases h
end Go.Eng
