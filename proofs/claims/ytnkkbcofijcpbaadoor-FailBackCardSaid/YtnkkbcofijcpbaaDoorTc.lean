/- A part of the proof: Tc. -/
import Derived.Test.YtnkkbcofijcpbaaDoorPf4
import Derived.Test.YtnkkbcofijcpbaaDoorTree
namespace Go.Eng
set_option linter.unusedVariables false
set_option linter.unusedSimpArgs false
def arC (c : tCrack) : Nat := c.2.1.toNat
def goodC (t : Tr tCrack) : Bool := crackS t.a
def outB (F : List (Tr tCrack)) : List Int := (outF F 0).map fun p => (p.1 : Int)
def whB (F : List (Tr tCrack)) : List Int := (whF F 0).map fun p => (p.1 : Int)
theorem whB_len (F : List (Tr tCrack)) : (whB F).length = F.length := by rw [whB, List.length_map, whF_len]
theorem whB_get (F : List (Tr tCrack)) (k : Nat) (hk : k < F.length) : (whB F).getD k 0 = ((flats (F.take k)).length : Int) := by
  have e : (whB F).drop k = (whF (F.drop k) (0 + (flats (F.take k)).length)).map fun p => (p.1 : Int) := by rw [whB, ← List.map_drop, whF_drop F 0 k (by omega)]
  cases hd : F.drop k with
  | nil =>
    have := congrArg List.length hd
    rw [List.length_drop, List.length_nil] at this; omega
  | cons t r =>
    rw [hd, whF, List.map_cons, Nat.zero_add] at e
    exact (drop_cons (d := (0 : Int)) e).1
theorem outB_push (F : List (Tr tCrack)) (a : tCrack) (k : Nat) : outB (F.take k ++ [.node a (F.drop k)]) = outB F ++ [((flats (F.take k)).length : Int)] := by
  rw [outB, outF_app, Nat.zero_add, outF, outT, outF, List.append_nil, List.map_append, List.map_append, ← List.append_assoc, outB]
  congr 1
  rw [← List.map_append]
  congr 1
  have : outF F 0 = outF (F.take k ++ F.drop k) 0 := by rw [List.take_append_drop]
  rw [this, outF_app, Nat.zero_add]
theorem step_tree (F : List (Tr tCrack)) (c : tCrack) (hw : crackS c = true) (hn : arC c ≤ F.length) :
    stepB ((flats F).length : Int) c (whB F) = some (((flats (F.take (F.length - arC c))).length : Int), whB (F.take (F.length - arC c) ++ [.node c (F.drop (F.length - arC c))])) := by
  have hp := crackS_pos hw
  have hw2 : whB (F.take (F.length - arC c) ++ [.node c (F.drop (F.length - arC c))]) = (whB F).take (F.length - arC c) ++ [((flats (F.take (F.length - arC c))).length : Int)] := by
    rw [whB, whB, ← List.map_take, whF_take F 0 _ (by omega), whF_app, List.map_append, Nat.zero_add]; rfl
  unfold stepB
  rw [if_pos ⟨hw, by rw [whB_len]; unfold arC at hn; omega⟩, whB_len, hw2]
  by_cases h0 : 0 < c.2.1
  · rw [if_pos h0, show F.length - c.2.1.toNat = F.length - arC c from rfl, whB_get F _ (by unfold arC at *; omega)]
  · have ha : arC c = 0 := by unfold arC; omega
    rw [if_neg h0, ha, Nat.sub_zero, List.take_of_length_le (Nat.le_refl _), List.take_of_length_le (by rw [whB_len]; exact Nat.le_refl _)]
theorem begF_parse : ∀ (l : List tCrack) (F : List (Tr tCrack)), begF l (flats F).length (outB F) (whB F) = match parseT arC goodC l F with
    | some F' => (outB F', decide (F'.length = 1))
    | none => ([], false)
  | [], F => by rw [begF, parseT, whB_len]
  | a :: r, F => by
    rw [begF, parseT, pushT]
    by_cases hc : crackS a = true ∧ arC a ≤ F.length
    · have hg : goodC (.node a (F.drop (F.length - arC a))) = true := hc.1
      rw [step_tree F a hc.1 hc.2, if_pos ⟨hc.2, hg⟩]
      dsimp only
      rw [← outB_push, show (flats F).length + 1 = (flats (F.take (F.length - arC a) ++ [.node a (F.drop (F.length - arC a))])).length by
        rw [flats_app, flats, flat, flats, List.append_nil, ← List.append_assoc, ← flats_app, List.take_append_drop]; simp]
      exact begF_parse r _
    · have h1 : stepB ((flats F).length : Int) a (whB F) = none := by
        unfold stepB
        rw [if_neg]
        rintro ⟨h2, h3⟩
        rw [whB_len] at h3
        have := crackS_pos h2
        exact hc ⟨h2, by unfold arC; omega⟩
      rw [h1, if_neg (fun h => hc ⟨h.2, h.1⟩)]
def isF (t : Tr tCrack) (f : List tCrack) : Prop := okT arC goodC t ∧ flat t = f ∧ f.length ≤ 1024
theorem begB_of {t : Tr tCrack} {f : List tCrack} (h : isF t f) : begF f 0 [] [] = (outB [t], true) := by
  have := begF_parse f []
  have e : parseT arC goodC f [] = some [t] := parse_one.2 ⟨h.1, h.2.1⟩
  rw [e] at this
  exact this
theorem check_of {t : Tr tCrack} {f : List tCrack} (h : isF t f) : checkS f = 0 := by
  unfold checkS
  have := h.2.2
  rw [if_neg (by omega), begB_of h, if_pos rfl]
theorem check_ex {f : List tCrack} (h : checkS f = 0) : ∃ t, isF t f := by
  unfold checkS at h
  split at h
  · cases h
  · rename_i hl
    split at h
    · rename_i hb
      have := begF_parse f []
      have e : begF f (flats ([] : List (Tr tCrack))).length (outB []) (whB []) = begF f 0 [] [] := rfl
      rw [e] at this
      cases hp : parseT arC goodC f [] with
      | none => rw [hp] at this; rw [this] at hb; cases hb
      | some F =>
        rw [hp] at this
        rw [this] at hb
        have h1 : F.length = 1 := of_decide_eq_true hb
        match F, h1 with
        | [t], _ =>
          obtain ⟨a1, a2⟩ := parse_one.1 hp
          exact ⟨t, a1, a2, by omega⟩
    · cases h
theorem isF_inj {t u : Tr tCrack} {f : List tCrack} (ht : isF t f) (hu : isF u f) : t = u := flat_inj ht.1 hu.1 (by rw [ht.2.1, hu.2.1])
end Go.Eng
