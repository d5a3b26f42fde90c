/- A part of the proof: Pg2. -/
import Derived.Test.YtnkkbcofijcpbaaDoorPg1
import Derived.Test.YtnkkbcofijcpbaaDoorWk
namespace Go.Tw
open Go.Eng
set_option linter.unusedVariables false
set_option linter.unusedSimpArgs false
theorem is_true {t u : Tr tCrack} {f g : List tCrack} (h : isF t f) (hg : isF u g) (hx : ∃ v ∈ subT t, flat v = g) : law03_is f g = some true := by
  rw [lis_eq h hg, decide_eq_true hx]
theorem isF_node {c : tCrack} {ts : List (Tr tCrack)} (hc : crackS c = true) (hn : arC c = ts.length) (ht : okF arC goodC ts) (hl : (flats ts).length + 1 ≤ 1024) : isF (.node c ts) (flats ts ++ [c]) :=
  ⟨⟨hn, hc, ht⟩, by rw [flat], by rw [List.length_append, List.length_singleton]; exact hl⟩
theorem isF_sub {t v : Tr tCrack} {f : List tCrack} (h : isF t f) (hv : v ∈ subT t) : isF v (flat v) :=
  ⟨sub_ok t h.1 v hv, rfl, by have := sub_flat t v hv; rw [h.2.1] at this; have := h.2.2; omega⟩
theorem isF_pos {t : Tr tCrack} {f : List tCrack} (h : isF t f) : 0 < f.length := by rw [← h.2.1]; exact flat_pos t
theorem wrap_crack {name : List UInt8} (hn : nameS name = true) : crackS (9, 1, name, ()) = true := by
  have := name_len name hn
  simp [crackS, partS, fitS, hn, this]
theorem first_sub {t : Tr tCrack} {f : List tCrack} (h : isF t f) (kind : Int) (hk : 1 ≤ kind ∧ kind ≤ 11) : (firstS f kind = ([], 4)) ∨ ∃ v ∈ subT t, firstS f kind = (flat v, 0) ∧ v.a.1 = kind := by
  unfold firstS
  rw [if_pos (check_of h), if_neg (by omega)]
  have hc := check_of h
  obtain ⟨v1, v2, v3, v4⟩ := valid2 hc
  have hpl : place f ((f.length : Int) - 1) := ⟨by omega, by omega⟩
  have hl := pre_place hc (1023 + 1) _ hpl
  unfold foundS
  cases hq : (pre f (1023 + 1) ((f.length : Int) - 1)).find? (isK f kind) with
  | none => exact .inl rfl
  | some a =>
    right
    have ha := hl a (List.mem_of_find?_eq_some hq)
    have hka : isK f kind a = true := List.find?_some hq
    have h1 := ha.1
    have h2 := ha.2
    obtain ⟨w, hw, hcut⟩ := cut_sub h a.toNat (by omega)
    have hm := List.mem_of_getElem? hw
    refine ⟨w, hm, ?_, ?_⟩
    · dsimp only
      rw [show (a + 1).toNat = a.toNat + 1 by omega, hcut]
    · have hk2 : (f.getD a.toNat dCrack).1 = kind := of_decide_eq_true hka
      rw [← hk2]
      -- the last crack of what is cut
      have hlast : (flat w).getLast? = some w.a := by cases w; simp [flat, Tr.a]
      rw [← hcut] at hlast
      have : (cut f ((begB f).getD a.toNat 0).toNat (a.toNat + 1)).getLast? = some (f.getD a.toNat dCrack) := by
        obtain ⟨_, p2, p3, _⟩ := v4 a ha
        unfold cut
        rw [List.getLast?_drop, if_neg (by rw [List.length_take]; omega), List.getLast?_take, if_neg (by omega)]
        rw [Nat.add_sub_cancel, List.getD_eq_getElem?_getD, List.getElem?_eq_getElem (by omega)]; rfl
      rw [hlast] at this
      rw [Option.some.inj this]
end Go.Tw
