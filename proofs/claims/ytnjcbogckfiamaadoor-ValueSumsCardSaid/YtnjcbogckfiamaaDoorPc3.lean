/- A part of the proof: Pc3. -/
import Derived.Test.YtnjcbogckfiamaaDoorPc2
namespace Go.Eng
set_option linter.unusedVariables false
set_option linter.unusedSimpArgs false

theorem checkV_is {t : Tr tAtom} {v : List tAtom} (h : isV t v) : checkV v = 0 := by
  unfold checkV
  rw [if_neg (by have := h.1; omega), if_pos ⟨t, h⟩]
theorem first2_is {t u : Tr tAtom} {a b : List tAtom} (ha : isV t a) (hb : isV u b) : firstV [a, b] = 0 := by
  simp only [firstV, checkV_is ha, checkV_is hb, if_true]
theorem first1_is {t : Tr tAtom} {a : List tAtom} (ha : isV t a) : firstV [a] = 0 := by
  simp only [firstV, checkV_is ha, if_true]
def okP (p : List tAtom × Bool) : List tAtom × Bool := if p.2 = true then (p.1, true) else ([], false)
theorem do2_v {k : Int} {f : FuncId} {p : List tAtom × Bool} {t u : Tr tAtom} {a b : List tAtom} (hw : value_way k = some (2, fnv f)) (ha : isV t a) (hb : isV u b) (hd : dyn_value_Do (fnv f) [a, b] = some p) :
    value_Do k [a, b] = some (if p.2 = true then (p.1, true, 0) else ([], false, 0)) := by
  unfold value_Do en_value_Do
  simp only [hw, Option.bind_some, nil_fnv, isFn_fnv, len2, vfirst_eq [a, b] (by simp), first2_is ha hb, hd]
  rw [G_pos trivial]
  simp only [Bool.false_eq_true, if_false, decide_false, decide_true, Bool.not_true, Bool.and_false, show ¬ ((4096 : Int) < 2) by decide]
  cases p.2 <;> simp
theorem do1_v {k : Int} {f : FuncId} {p : List tAtom × Bool} {t : Tr tAtom} {a : List tAtom} (hw : value_way k = some (1, fnv f)) (ha : isV t a) (hd : dyn_value_Do (fnv f) [a] = some p) :
    value_Do k [a] = some (if p.2 = true then (p.1, true, 0) else ([], false, 0)) := by
  have l1 : (([a] : List (List tAtom)).length : Int) = 1 := rfl
  unfold value_Do en_value_Do
  simp only [hw, Option.bind_some, nil_fnv, isFn_fnv, l1, vfirst_eq [a] (by simp), first1_is ha, hd]
  rw [G_pos trivial]
  simp only [Bool.false_eq_true, if_false, decide_false, decide_true, Bool.not_true, Bool.and_false, show ¬ ((4096 : Int) < 1) by decide]
  cases p.2 <;> simp
theorem ldo {k : Int} {f : FuncId} {p : List tAtom × Bool} {t u : Tr tAtom} {a b : List tAtom} (hw : value_way k = some (2, fnv f)) (ha : isV t a) (hb : isV u b) (hd : dyn_value_Do (fnv f) [a, b] = some p) : law07_do k a b = some (okP p) := by
  unfold law07_do okP
  rw [do2_v hw ha hb hd]
  cases p.2 <;> simp
section
variable {t u : Tr tAtom} {a b : List tAtom}
theorem do6 (ha : isV t a) (hb : isV u b) : law07_do 6 a b = some (okP (arO 6 t u)) := ldo (f := 69) (by kernel_rfl) ha hb (by simp only [dyn_value_Do, fnIs_fnv]; exact add_v ha hb)
theorem do7 (ha : isV t a) (hb : isV u b) : law07_do 7 a b = some (okP (arO 7 t u)) := ldo (f := 70) (by kernel_rfl) ha hb (by simp only [dyn_value_Do, fnIs_fnv]; exact sub_v ha hb)
theorem do8 (ha : isV t a) (hb : isV u b) : law07_do 8 a b = some (okP (arO 8 t u)) := ldo (f := 71) (by kernel_rfl) ha hb (by simp only [dyn_value_Do, fnIs_fnv]; exact mul_v ha hb)
theorem do9 (ha : isV t a) (hb : isV u b) : law07_do 9 a b = some (okP (joO t u)) := ldo (f := 72) (by kernel_rfl) ha hb (by simp only [dyn_value_Do, fnIs_fnv]; exact join_v ha hb)
theorem do10 (ha : isV t a) (hb : isV u b) : law07_do 10 a b = some (okP (itO t u)) := ldo (f := 73) (by kernel_rfl) ha hb (by simp only [dyn_value_Do, fnIs_fnv]; exact item_v ha hb)
theorem lsize (ha : isV t a) : law07_size a = some (if t.a.1 = 1 then (0, false) else (sizeV t, true)) := by
  unfold law07_size
  rw [do1_v (f := 74) (k := 11) (by kernel_rfl) ha (by simp only [dyn_value_Do, fnIs_fnv]; exact size_v ha)]
  by_cases h : t.a.1 = 1
  · simp only [if_pos h, Bool.false_eq_true, if_false, Option.bind_some, Bool.not_false, Bool.true_or, if_true]
  · simp only [if_neg h, if_true, Option.bind_some, Bool.not_true, decide_true, Bool.false_or, List.length_singleton]
    rfl
end

/-! numbers, texts, the empty list -/
def numT (n : Int) : Tr tAtom := .node (1, 0, n, [], ()) []
theorem isV_num {n : Int} (h1 : -9007199254740992 ≤ n) (h2 : n ≤ 9007199254740992) : isV (numT n) [(1, 0, n, [], ())] := by
  refine ⟨by simp, ⟨rfl, ?_, trivial⟩, rfl⟩
  simp only [goodV, Bool.and_eq_true, decide_eq_true_eq]
  refine ⟨?_, by simp [tdeep, tdeeps]⟩
  simp [wellA, value_well, Tr.a, h1, h2]
theorem isV_txt {s : List UInt8} (h : s.length ≤ 4096) : isV (.node (2, 0, 0, s, ()) []) [(2, 0, 0, s, ())] := by
  refine ⟨by simp, ⟨rfl, ?_, trivial⟩, rfl⟩
  simp only [goodV, Bool.and_eq_true, decide_eq_true_eq]
  refine ⟨?_, by simp [tdeep, tdeeps]⟩
  simp [wellA, value_well, Tr.a]; exact decide_eq_true (by omega)
theorem isV_nil : isV (.node (3, 0, 0, [], ()) []) [(3, 0, 0, [], ())] := by
  refine ⟨by simp, ⟨rfl, ?_, trivial⟩, rfl⟩
  simp only [goodV, Bool.and_eq_true, decide_eq_true_eq]
  refine ⟨?_, by simp [tdeep, tdeeps]⟩
  simp [wellA, value_well, Tr.a]
def exL : List tAtom := [(1, 0, 1, [], ()), (2, 0, 0, [97], ()), (3, 0, 0, [], ()), (3, 3, 0, [], ())]
def exT : Tr tAtom := .node (3, 3, 0, [], ()) [numT 1, .node (2, 0, 0, [97], ()) [], .node (3, 0, 0, [], ()) []]
theorem isV_ex : isV exT exL := by
  have h1 := isV_num (n := 1) (by decide) (by decide)
  have h2 := isV_txt (s := [97]) (by decide)
  have h3 := isV_nil
  refine ⟨by decide, ⟨rfl, ?_, h1.2.1, h2.2.1, h3.2.1, trivial⟩, rfl⟩
  simp only [goodV, Bool.and_eq_true, decide_eq_true_eq]
  refine ⟨?_, by decide⟩
  simp [wellA, value_well, Tr.a, exT]
theorem ex_list : value_List [[(1, 0, 1, [], ())], [(2, 0, 0, [97], ())], [(3, 0, 0, [], ())]] = some (exL, 0) := by
  have h1 := isV_num (n := 1) (by decide) (by decide)
  have h2 := isV_txt (s := [97]) (by decide)
  have h3 := isV_nil
  rw [vlist_eq _ ⟨by decide, by decide⟩]
  have hf : firstV [[(1, 0, 1, [], ())], [(2, 0, 0, [97], ())], [(3, 0, 0, [], ())]] = 0 := by
    simp only [firstV, checkV_is h1, checkV_is h2, checkV_is h3, if_true]
  have hm : madeV [[(1, 0, 1, [], ())], [(2, 0, 0, [97], ())], [(3, 0, 0, [], ())]] = (exL, true) := by
    show (exL, decide (checkV exL = 0)) = _
    rw [checkV_is isV_ex]; rfl
  unfold listV
  rw [hm, hf]; rfl
theorem gp {α : Type} {p : Prop} [Decidable p] (h : decide p = true) (x : Option α) : G p x = x := G_pos (of_decide_eq_true h)
theorem ex_quote : lex_Quote [97] = some [34, 97, 34] := by
  unfold lex_Quote en_lex_Quote
  rw [gp (by decide), gp (by decide)]
  show iter st_lex_Quote _ = _
  rw [iter_eq']
  show runL st_lex_Quote (sg_lex_Quote_4 [97] [34] 1 0) = _
  have e1 : sg_lex_Quote_4 [97] [34] 1 0 = some (.inl (.l4 [97] [34, 97] 1 1)) := by
    unfold sg_lex_Quote_4
    rw [if_pos (by decide), gp (by decide), if_neg (by decide), if_neg (by decide), if_neg (by decide), gp (by decide)]; rfl
  rw [e1]
  show iter st_lex_Quote _ = _
  rw [iter_eq']
  show runL st_lex_Quote (sg_lex_Quote_4 [97] [34, 97] 1 1) = _
  have e2 : sg_lex_Quote_4 [97] [34, 97] 1 1 = some (.inr [34, 97, 34]) := by
    unfold sg_lex_Quote_4
    rw [if_neg (by decide), gp (by decide)]; rfl
  rw [e2]; rfl
theorem ex_print : value_Print exL = some ([91, 49, 44, 32, 34, 97, 34, 44, 32, 91, 93, 93], 0) := by
  unfold value_Print en_value_Print
  rw [vcheck_eq, checkV_is isV_ex]
  show iter st_value_Print (.l6 [] exL 4 0) = _
  rw [iter_eq']
  have e1 : st_value_Print (.l6 [] exL 4 0) = some (.inl (.l6 [[49]] exL 4 1)) := by
    show sg_value_Print_6 [] exL 4 0 = _
    unfold sg_value_Print_6
    rw [if_pos (by decide), gp (by decide), if_pos (by decide)]
    show (strconv_Itoa 1).bind _ = _
    have : strconv_Itoa 1 = some [49] := by unfold strconv_Itoa; rw [gp (by decide)]; kernel_rfl
    rw [this]
    show G _ _ = _
    rw [gp (by decide), gp (by decide)]; rfl
  rw [e1]
  show iter st_value_Print (.l6 [[49]] exL 4 1) = _
  rw [iter_eq']
  have e2 : st_value_Print (.l6 [[49]] exL 4 1) = some (.inl (.l6 [[49], [34, 97, 34]] exL 4 2)) := by
    show sg_value_Print_6 [[49]] exL 4 1 = _
    unfold sg_value_Print_6
    rw [if_pos (by decide), gp (by decide), if_neg (by decide), if_pos (by decide)]
    show (lex_Quote [97]).bind _ = _
    rw [ex_quote]
    show G _ _ = _
    rw [gp (by decide), gp (by decide)]; rfl
  rw [e2]
  show iter st_value_Print (.l6 [[49], [34, 97, 34]] exL 4 2) = _
  rw [iter_eq']
  have e3 : st_value_Print (.l6 [[49], [34, 97, 34]] exL 4 2) = some (.inl (.l6 [[49], [34, 97, 34], [91, 93]] exL 4 3)) := by
    show sg_value_Print_6 _ exL 4 2 = _
    unfold sg_value_Print_6
    rw [if_pos (by decide), gp (by decide), if_neg (by decide), if_neg (by decide), if_pos (by decide), gp (by decide)]
    show (strings_Join [] [44, 32]).bind _ = _
    have : strings_Join [] [44, 32] = some [] := by unfold strings_Join; rw [gp (by decide)]; rfl
    rw [this]
    show G _ _ = _
    rw [gp (by decide), gp (by decide), gp (by decide), gp (by decide)]; rfl
  rw [e3]
  show iter st_value_Print (.l6 [[49], [34, 97, 34], [91, 93]] exL 4 3) = _
  rw [iter_eq']
  have e4 : st_value_Print (.l6 [[49], [34, 97, 34], [91, 93]] exL 4 3) = some (.inl (.l6 [[91, 49, 44, 32, 34, 97, 34, 44, 32, 91, 93, 93]] exL 4 4)) := by
    show sg_value_Print_6 _ exL 4 3 = _
    unfold sg_value_Print_6
    rw [if_pos (by decide), gp (by decide), if_neg (by decide), if_neg (by decide), if_pos (by decide), gp (by decide)]
    show (strings_Join [[49], [34, 97, 34], [91, 93]] [44, 32]).bind _ = _
    have : strings_Join [[49], [34, 97, 34], [91, 93]] [44, 32] = some [49, 44, 32, 34, 97, 34, 44, 32, 91, 93] := by unfold strings_Join; rw [gp (by decide)]; rfl
    rw [this]
    show G _ _ = _
    rw [gp (by decide), gp (by decide), gp (by decide), gp (by decide)]; rfl
  rw [e4]
  show iter st_value_Print _ = _
  rw [iter_eq']
  have e5 : st_value_Print (.l6 [[91, 49, 44, 32, 34, 97, 34, 44, 32, 91, 93, 93]] exL 4 4) = some (.inr ([91, 49, 44, 32, 34, 97, 34, 44, 32, 91, 93, 93], 0)) := by
    show sg_value_Print_6 _ exL 4 4 = _
    unfold sg_value_Print_6
    rw [if_neg (by decide), gp (by decide)]; rfl
  rw [e5]; rfl
theorem works_eq : law07_works = some true := by
  have h2 := isV_num (n := 2) (by decide) (by decide)
  have h3 := isV_num (n := 3) (by decide) (by decide)
  unfold law07_works
  simp only [law07_whole, Option.bind_some, ex_list, ex_print]
  rw [do2_v (f := 69) (k := 6) (by kernel_rfl) h2 h3 (by simp only [dyn_value_Do, fnIs_fnv]; exact add_v h2 h3)]
  have e : arO 6 (numT 2) (numT 3) = ([(1, 0, 5, [], ())], true) := by
    unfold arO
    rw [if_pos ⟨rfl, rfl⟩]
    unfold arV2
    rw [if_pos rfl]
    have : w64 ((numT 2).a.2.2.1 + (numT 3).a.2.2.1) = 5 := by decide
    rw [this]; rfl
  rw [e]
  simp only [if_true, Option.bind_some, decide_true, Bool.and_self, vsame_eq [((1 : Int), (0 : Int), (5 : Int), ([] : List UInt8), ())] [((1 : Int), (0 : Int), (5 : Int), ([] : List UInt8), ())] (by simp)]
end Go.Eng
