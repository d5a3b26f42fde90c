/- A part of the proof: Pg1. -/
import Derived.Test.YtnkkbcofijcpbaaDoorPg0
import Derived.Test.YtnkkbcofijcpbaaDoorPf5
import Derived.Test.YtnkkbcofijcpbaaDoorTw
namespace Go.Tw
open Go.Eng
set_option linter.unusedVariables false
set_option linter.unusedSimpArgs false
def arC (c : tCrack) : Nat := c.2.1.toNat
def goodC (t : Tr tCrack) : Bool := crackS t.a
def outB (F : List (Tr tCrack)) : List Int := (outF F 0).map fun p => (p.1 : Int)
def whB (F : List (Tr tCrack)) : List Int := (whF F 0).map fun p => (p.1 : Int)
theorem whB_len (F : List (Tr tCrack)) : (whB F).length = F.length := by rw [whB, List.length_map, whF_len]
theorem whB_get (F : List (Tr tCrack)) (k : Nat) (hk : k < F.length) : (whB F).getD k 0 = ((flats (F.take k)).length : Int) := by
  have e : (whB F).drop k = (whF (F.drop k) (0 + (flats (F.take k)).length)).map fun p => (p.1 : Int) := by rw [whB, ← List.map_drop, whF_drop F 0 k (by omega)]
  cases hd : F.drop k with
  | nil =>
    have := congrArg List.length hd
    rw [List.length_drop, List.length_nil] at this; omega
  | cons t r =>
    rw [hd, whF, List.map_cons, Nat.zero_add] at e
    exact (drop_cons (d := (0 : Int)) e).1
theorem outB_push (F : List (Tr tCrack)) (a : tCrack) (k : Nat) : outB (F.take k ++ [.node a (F.drop k)]) = outB F ++ [((flats (F.take k)).length : Int)] := by
  rw [outB, outF_app, Nat.zero_add, outF, outT, outF, List.append_nil, List.map_append, List.map_append, ← List.append_assoc, outB]
  congr 1
  rw [← List.map_append]
  congr 1
  have : outF F 0 = outF (F.take k ++ F.drop k) 0 := by rw [List.take_append_drop]
  rw [this, outF_app, Nat.zero_add]
theorem step_tree (F : List (Tr tCrack)) (c : tCrack) (hw : crackS c = true) (hn : arC c ≤ F.length) :
    stepB ((flats F).length : Int) c (whB F) = some (((flats (F.take (F.length - arC c))).length : Int), whB (F.take (F.length - arC c) ++ [.node c (F.drop (F.length - arC c))])) := by
  have hp := crackS_pos hw
  have hw2 : whB (F.take (F.length - arC c) ++ [.node c (F.drop (F.length - arC c))]) = (whB F).take (F.length - arC c) ++ [((flats (F.take (F.length - arC c))).length : Int)] := by
    rw [whB, whB, ← List.map_take, whF_take F 0 _ (by omega), whF_app, List.map_append, Nat.zero_add]; rfl
  unfold stepB
  rw [if_pos ⟨hw, by rw [whB_len]; unfold arC at hn; omega⟩, whB_len, hw2]
  by_cases h0 : 0 < c.2.1
  · rw [if_pos h0, show F.length - c.2.1.toNat = F.length - arC c from rfl, whB_get F _ (by unfold arC at *; omega)]
  · have ha : arC c = 0 := by unfold arC; omega
    rw [if_neg h0, ha, Nat.sub_zero, List.take_of_length_le (Nat.le_refl _), List.take_of_length_le (by rw [whB_len]; exact Nat.le_refl _)]
theorem begF_parse : ∀ (l : List tCrack) (F : List (Tr tCrack)), begF l (flats F).length (outB F) (whB F) = match parseT arC goodC l F with
    | some F' => (outB F', decide (F'.length = 1))
    | none => ([], false)
  | [], F => by rw [begF, parseT, whB_len]
  | a :: r, F => by
    rw [begF, parseT, pushT]
    by_cases hc : crackS a = true ∧ arC a ≤ F.length
    · have hg : goodC (.node a (F.drop (F.length - arC a))) = true := hc.1
      rw [step_tree F a hc.1 hc.2, if_pos ⟨hc.2, hg⟩]
      dsimp only
      rw [← outB_push, show (flats F).length + 1 = (flats (F.take (F.length - arC a) ++ [.node a (F.drop (F.length - arC a))])).length by
        rw [flats_app, flats, flat, flats, List.append_nil, ← List.append_assoc, ← flats_app, List.take_append_drop]; simp]
      exact begF_parse r _
    · have h1 : stepB ((flats F).length : Int) a (whB F) = none := by
        unfold stepB
        rw [if_neg]
        rintro ⟨h2, h3⟩
        rw [whB_len] at h3
        have := crackS_pos h2
        exact hc ⟨h2, by unfold arC; omega⟩
      rw [h1, if_neg (fun h => hc ⟨h.2, h.1⟩)]
def isF (t : Tr tCrack) (f : List tCrack) : Prop := okT arC goodC t ∧ flat t = f ∧ f.length ≤ 1024
theorem begB_of {t : Tr tCrack} {f : List tCrack} (h : isF t f) : begF f 0 [] [] = (outB [t], true) := by
  have := begF_parse f []
  have e : parseT arC goodC f [] = some [t] := parse_one.2 ⟨h.1, h.2.1⟩
  rw [e] at this
  exact this
theorem check_of {t : Tr tCrack} {f : List tCrack} (h : isF t f) : checkS f = 0 := by
  unfold checkS
  have := h.2.2
  rw [if_neg (by omega), begB_of h, if_pos rfl]
theorem check_ex {f : List tCrack} (h : checkS f = 0) : ∃ t, isF t f := by
  unfold checkS at h
  split at h
  · cases h
  · rename_i hl
    split at h
    · rename_i hb
      have := begF_parse f []
      have e : begF f (flats ([] : List (Tr tCrack))).length (outB []) (whB []) = begF f 0 [] [] := rfl
      rw [e] at this
      cases hp : parseT arC goodC f [] with
      | none => rw [hp] at this; rw [this] at hb; cases hb
      | some F =>
        rw [hp] at this
        rw [this] at hb
        have h1 : F.length = 1 := of_decide_eq_true hb
        match F, h1 with
        | [t], _ =>
          obtain ⟨a1, a2⟩ := parse_one.1 hp
          exact ⟨t, a1, a2, by omega⟩
    · cases h
section
variable {α : Type}
mutual
def subT : Tr α → List (Tr α)
  | .node a ts => subF ts ++ [.node a ts]
def subF : List (Tr α) → List (Tr α)
  | [] => []
  | t :: ts => subT t ++ subF ts
end
mutual
theorem subT_len : ∀ t : Tr α, (subT t).length = (flat t).length
  | .node a ts => by rw [subT, flat, List.length_append, List.length_append, subF_len ts]; rfl
theorem subF_len : ∀ ts : List (Tr α), (subF ts).length = (flats ts).length
  | [] => rfl
  | t :: ts => by rw [subF, flats, List.length_append, List.length_append, subT_len t, subF_len ts]
end
mutual
theorem sub_ok {ar : α → Nat} {good : Tr α → Bool} : ∀ t : Tr α, okT ar good t → ∀ u ∈ subT t, okT ar good u
  | .node a ts, h, u, hu => by
    rw [subT, List.mem_append, List.mem_singleton] at hu
    rcases hu with hu | rfl
    · exact subs_ok ts h.2.2 u hu
    · exact h
theorem subs_ok {ar : α → Nat} {good : Tr α → Bool} : ∀ ts : List (Tr α), okF ar good ts → ∀ u ∈ subF ts, okT ar good u
  | [], h, u, hu => by cases hu
  | t :: ts, h, u, hu => by
    rw [subF, List.mem_append] at hu
    rcases hu with hu | hu
    · exact sub_ok t h.1 u hu
    · exact subs_ok ts h.2 u hu
end
mutual
theorem sub_flat : ∀ t : Tr α, ∀ u ∈ subT t, (flat u).length ≤ (flat t).length
  | .node a ts, u, hu => by
    rw [subT, List.mem_append, List.mem_singleton] at hu
    rcases hu with hu | rfl
    · have := subs_flat ts u hu
      rw [flat, List.length_append]; omega
    · exact Nat.le_refl _
theorem subs_flat : ∀ ts : List (Tr α), ∀ u ∈ subF ts, (flat u).length ≤ (flats ts).length
  | [], u, hu => by cases hu
  | t :: ts, u, hu => by
    rw [subF, List.mem_append] at hu
    rw [flats, List.length_append]
    rcases hu with hu | hu
    · have := sub_flat t u hu; omega
    · have := subs_flat ts u hu; omega
end
theorem cut_mid2 {α : Type} (x y z : List α) (a b : Nat) (ha : a = x.length) (hb : b = x.length + y.length) : cut (x ++ y ++ z) a b = y := by
  subst ha hb
  unfold cut
  rw [List.append_assoc, List.take_append, List.take_of_length_le (by omega), Nat.add_sub_cancel_left, List.take_append_of_le_length (Nat.le_refl _), List.take_of_length_le (Nat.le_refl _), List.drop_left]
mutual
theorem sub_cut : ∀ (t : Tr α) (pre post : List α) (j : Nat) (u : Tr α) (b : Nat × Nat), (subT t)[j]? = some u → (outT t pre.length)[j]? = some b → b.1 ≤ pre.length + j ∧ cut (pre ++ flat t ++ post) b.1 (pre.length + j + 1) = flat u
  | .node a ts, pre, post, j, u, b, hu, hb => by
    rw [subT] at hu
    rw [outT] at hb
    by_cases hj : j < (flats ts).length
    · rw [List.getElem?_append_left (by rw [subF_len]; exact hj)] at hu
      rw [List.getElem?_append_left (by rw [outF_len]; exact hj)] at hb
      have := subs_cut ts pre ([a] ++ post) j u b hu hb
      rw [flat]
      simp only [List.append_assoc] at this ⊢
      exact this
    · rw [List.getElem?_append_right (by rw [subF_len]; omega), subF_len] at hu
      rw [List.getElem?_append_right (by rw [outF_len]; omega), outF_len] at hb
      have hj0 : j - (flats ts).length = 0 := by
        cases hq : j - (flats ts).length with
        | zero => rfl
        | succ m => rw [hq] at hu; simp at hu
      rw [hj0] at hu hb
      simp only [List.getElem?_cons_zero, Option.some.injEq] at hu hb
      subst hu hb
      refine ⟨by dsimp only; omega, cut_mid2 pre _ post _ _ rfl ?_⟩
      rw [flat, List.length_append, List.length_singleton]; omega
theorem subs_cut : ∀ (ts : List (Tr α)) (pre post : List α) (j : Nat) (u : Tr α) (b : Nat × Nat), (subF ts)[j]? = some u → (outF ts pre.length)[j]? = some b → b.1 ≤ pre.length + j ∧ cut (pre ++ flats ts ++ post) b.1 (pre.length + j + 1) = flat u
  | [], pre, post, j, u, b, hu, hb => by simp [subF] at hu
  | t :: ts, pre, post, j, u, b, hu, hb => by
    rw [subF] at hu
    rw [outF] at hb
    rw [flats]
    by_cases hj : j < (flat t).length
    · rw [List.getElem?_append_left (by rw [subT_len]; exact hj)] at hu
      rw [List.getElem?_append_left (by rw [outT_len]; exact hj)] at hb
      have := sub_cut t pre (flats ts ++ post) j u b hu hb
      simp only [List.append_assoc] at this ⊢
      exact this
    · rw [List.getElem?_append_right (by rw [subT_len]; omega), subT_len] at hu
      rw [List.getElem?_append_right (by rw [outT_len]; omega), outT_len] at hb
      have hl : (pre ++ flat t).length = pre.length + (flat t).length := List.length_append
      rw [← hl] at hb
      have := subs_cut ts (pre ++ flat t) post (j - (flat t).length) u b hu hb
      rw [hl, show pre.length + (flat t).length + (j - (flat t).length) = pre.length + j by omega] at this
      simp only [List.append_assoc] at this ⊢
      exact this
end
end
theorem cut_sub {t : Tr tCrack} {f : List tCrack} (h : isF t f) (j : Nat) (hj : j < f.length) : ∃ u, (subT t)[j]? = some u ∧ cut f ((begB f).getD j 0).toNat (j + 1) = flat u := by
  have hfl : (flat t).length = f.length := by rw [h.2.1]
  obtain ⟨u, hu⟩ : ∃ u, (subT t)[j]? = some u := ⟨_, List.getElem?_eq_getElem (by rw [subT_len]; omega)⟩
  obtain ⟨b, hb⟩ : ∃ b, (outT t 0)[j]? = some b := ⟨_, List.getElem?_eq_getElem (by rw [outT_len]; omega)⟩
  refine ⟨u, hu, ?_⟩
  have e : (begB f).getD j 0 = (b.1 : Int) := by
    unfold begB
    rw [begB_of h]
    have hb2 : (outF [t] 0)[j]? = some b := by rw [outF, outF, List.append_nil]; exact hb
    rw [outB, List.getD_eq_getElem?_getD, List.getElem?_map, hb2]; rfl
  have := (sub_cut t [] [] j u b hu hb).2
  rw [e, Int.toNat_natCast]
  simpa [h.2.1] using this
theorem isLst_iff (f g : List tCrack) : ∀ (d i : Nat), isLst f g i d = true ↔ ∃ j, i ≤ j ∧ j < i + d ∧ cut f ((begB f).getD j 0).toNat (j + 1) = g
  | 0, i => by
    constructor
    · intro h; cases h
    · rintro ⟨j, h1, h2, _⟩; omega
  | d + 1, i => by
    rw [isLst, Bool.or_eq_true, decide_eq_true_eq, isLst_iff f g d (i + 1)]
    constructor
    · rintro (h | ⟨j, h1, h2, h3⟩)
      · exact ⟨i, Nat.le_refl _, by omega, h⟩
      · exact ⟨j, by omega, by omega, h3⟩
    · rintro ⟨j, h1, h2, h3⟩
      by_cases e : j = i
      · subst e; exact .inl h3
      · exact .inr ⟨j, by omega, by omega, h3⟩
theorem is_iff {t : Tr tCrack} {f : List tCrack} (h : isF t f) (g : List tCrack) : isLst f g 0 f.length = true ↔ ∃ u ∈ subT t, flat u = g := by
  have hfl : (flat t).length = f.length := by rw [h.2.1]
  rw [isLst_iff]
  constructor
  · rintro ⟨j, _, h2, h3⟩
    obtain ⟨u, hu, hc⟩ := cut_sub h j (by omega)
    exact ⟨u, List.mem_of_getElem? hu, by rw [← hc, h3]⟩
  · rintro ⟨u, hu, rfl⟩
    obtain ⟨j, hj, e⟩ := List.getElem_of_mem hu
    rw [subT_len] at hj
    refine ⟨j, by omega, by omega, ?_⟩
    obtain ⟨v, hv, hc⟩ := cut_sub h j (by omega)
    rw [List.getElem?_eq_getElem (by rw [subT_len]; exact hj), e] at hv
    cases hv
    exact hc
theorem lis_eq {t u : Tr tCrack} {f g : List tCrack} (h : isF t f) (hg : isF u g) : law03_is f g = some (decide (∃ v ∈ subT t, flat v = g)) := by
  unfold law03_is
  rw [is_eq, Option.bind_some]
  unfold isS
  rw [if_pos (check_of h), if_pos (check_of hg)]
  simp only [decide_true, Bool.true_and, Option.some.injEq]
  by_cases hx : ∃ v ∈ subT t, flat v = g
  · rw [decide_eq_true hx]; exact (is_iff h g).2 hx
  · rw [decide_eq_false hx]
    cases hq : isLst f g 0 f.length with
    | false => rfl
    | true => exact absurd ((is_iff h g).1 hq) hx
end Go.Tw
