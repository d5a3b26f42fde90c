/- Operations, guards, regions, in typed trees: that it is so. -/
import Derived.Test.YthgemanfbanhnaaDoorDvG
namespace Go.Eng
open Go.RowKit (Below)
set_option linter.unusedVariables false
set_option linter.unusedSimpArgs false
variable {X : Ctx} {Y : DX} {n : Nat} {Z : List Nat} {st : DSt} {E : Env} {ρ : Type} {r : ρ}

theorem append_sound (hY : DXOk Y X) (hw : WF st) {o : Oper} {x y : Operand} {t u e : TypeId} {ty : Ty} {b d r' off k : Nat} {p : Option Nat} {v : Vw} {t0 : DT} {l : List ty.I} {K : DSt → Option ρ} (ho : o.op = .call { callee := .builtin .append, args := ⟨[x, y]⟩, argTypes := ⟨[t, u]⟩ }) (hd : o.dst = some d)
    (hx : rdD Y none st x = some (.ref r' p off k v)) (ht : st.find r' = some (.t t0)) (hr : rootD st r' p = some (.own e ty l)) (hs : sliT Y t = some (e, ty, b)) (h0 : (dstD n Z st d && !Nat.beq d r') = true) {base : List ty.I} (hoff : off = 0) (hbase : l.take k = base)
    (h : newsD Y st y t u ty b k (fun l2 => K ((turnDS st r' p t0 .u).put d (.t (.own e ty (base ++ l2))))) = some r) : ∃ st', Step X n Z (stG n st.toSt) o (stG n st'.toSt) ∧ WF st' ∧ K st' = some r := by
  subst hoff
  simp only [Bool.and_eq_true, Bool.not_eq_true'] at h0
  have hds : d ≠ r' := by rintro rfl; rw [Nat.beq_refl] at h0; cases h0.2
  obtain ⟨k1, k2, k3⟩ := dstD_spec h0.1
  obtain ⟨x1, x2, x3, x4⟩ := rdD_spec (n := n) (X := X) hY hw (γ := none) trivial hx
  obtain ⟨s1, s2, s3, s4, s5⟩ := sliT_spec hY hs
  obtain ⟨l2, q1, q2, q3⟩ := newsD_spec (n := n) hY hw hs h
  have hg : stG n st.toSt r' = .t t0.toT := by rw [stG_toSt, ht]; rfl
  have hrt := rootD_spec (n := n) hr
  refine ⟨_, ?_, append_wf hw ht hr hds k2 k3, q1⟩
  rw [put_toSt, stG_put, turnDS_toSt ht hr, stG_turnSt]
  have hz : (zval ty).cells.size = ty.sz := by rw [zval_cells ty s4]; simp [zcells_len ty s4]
  have htk : (l.map ty.enc).take k = base.map ty.enc := by rw [← List.map_take, hbase]
  rcases q3 with ⟨s, p1, p2, p3, p4, p5, p6⟩ | ⟨p1, p2, p3, p4⟩
  · subst p2
    subst p4
    have := step_append_str (by_ := 1) (z := .int .u8 0) (es := l.map Ty.u8.enc) ho hd ⟨k1.1, k1.2.1⟩ hds k1.2.2 (x2 trivial) q2 x1 hg hrt p1 s1 p5 (by rw [bl_mkS]; exact p6)
    rw [bl_mkS, htk, ← p3, ← List.map_append] at this
    exact this
  · subst p3
    have := step_append (es := l.map ty.enc) (news := l2.map ty.enc) ho hd ⟨k1.1, k1.2.1⟩ hds k1.2.2 (x2 trivial) q2 x1 hg hrt p1 s1 hz s3 (len_list ty l2) p2 (flat_list ty l2)
      (by rw [List.length_map]; have : (k + l2.length) * 1 ≤ (k + l2.length) * b := Nat.mul_le_mul_left _ s2; omega) (by rw [List.length_map]; exact p4)
    rw [htk, ← List.map_append] at this
    exact this

end Go.Eng
