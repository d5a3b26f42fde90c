/- A part of the proof: Pf5. -/
import Derived.Test.YtemlflhalcehmaaDoorPf4
namespace Go.Eng
set_option linter.unusedVariables false
set_option linter.unusedSimpArgs false

def longS (f : List tCrack) : List tCrack := if 1024 < f.length then [(11, 0, [], ())] else f
theorem bounded_eq (f : List tCrack) : fail_bounded_o f = some (longS f) := by
  unfold fail_bounded_o longS
  have hl : ((1024 : Int) < (f.length : Int)) = (1024 < f.length) := by apply propext; omega
  simp only [decide_eq_true_eq, hl]
  split <;> rfl
theorem long_eq (f : List tCrack) : ref03_long_o f = some (longS f) := by
  unfold ref03_long_o longS
  have hl : ((1024 : Int) < (f.length : Int)) = (1024 < f.length) := by apply propext; omega
  simp only [decide_eq_true_eq, hl]
  split <;> rfl
theorem longS_len (f : List tCrack) : (longS f).length ≤ 1024 := by
  unfold longS; split
  · simp
  · omega
theorem clone_eq (f : List tCrack) (hf : f.length * 32 ≤ 140737488351232) : slices_Clone f = some f := by
  unfold slices_Clone
  rw [G_pos (by simp only [List.length_nil]; omega)]
theorem check_len {f : List tCrack} (h : checkS f = 0) : f.length ≤ 1024 := (okF_check h).2

def wrapS (s : List UInt8) (f : List tCrack) : List tCrack × Int :=
  if nameS s = true then (if checkS f = 0 then (longS (f ++ [(9, 1, s, ())]), 0) else ([], checkS f)) else ([], 2)
theorem wrap_eq (s : List UInt8) (f : List tCrack) : fail_Wrap s f = some (wrapS s f) := by
  unfold fail_Wrap wrapS
  rw [IsName_eq, check_eq]
  simp only [Option.bind_some]
  cases hn : nameS s
  · simp
  · by_cases hc : checkS f = 0
    · have := check_len hc
      simp only [hc, decide_true, Bool.not_true, Bool.false_eq_true, if_false, if_true]
      rw [clone_eq f (by omega), Option.bind_some, G_pos (by simp only [List.length_cons, List.length_nil]; omega), bounded_eq]; rfl
    · simp [hc]
theorem refWrap_eq (s : List UInt8) (f : List tCrack) : ref03_Wrap s f = some (wrapS s f) := by
  unfold ref03_Wrap wrapS
  rw [Name_eq, refCheck_eq]
  simp only [Option.bind_some]
  cases hn : nameS s
  · simp
  · by_cases hc : checkS f = 0
    · have := check_len hc
      simp only [hc, decide_true, Bool.not_true, Bool.false_eq_true, if_false, if_true]
      rw [copy_eq f (by omega), Option.bind_some, G_pos (by simp only [List.length_cons, List.length_nil]; omega), long_eq]; rfl
    · simp [hc]
theorem wrapS_len (s : List UInt8) (f : List tCrack) : (wrapS s f).1.length ≤ 1024 := by
  unfold wrapS; split
  · split
    · exact longS_len _
    · simp
  · simp

def tokS (s : List UInt8) (f : List tCrack) : List tCrack × Int :=
  if 4096 < s.length then ([], 3) else if f.length = 0 then ([(8, 0, s, ())], 0) else if checkS f = 0 then (longS (f ++ [(8, 1, s, ())]), 0) else ([], checkS f)
theorem tok_eq (s : List UInt8) (f : List tCrack) : fail_Token s f = some (tokS s f) := by
  unfold fail_Token tokS
  rw [check_eq]
  have hl : ((4096 : Int) < (s.length : Int)) = (4096 < s.length) := by apply propext; omega
  have hl2 : ((f.length : Int) = (0 : Int)) = (f.length = 0) := by apply propext; omega
  simp only [Option.bind_some, decide_eq_true_eq, hl, hl2]
  by_cases h1 : 4096 < s.length
  · simp only [h1, if_true]
  · by_cases h2 : f.length = 0
    · simp only [h1, h2, if_true, if_false]
    · by_cases hc : checkS f = 0
      · have := check_len hc
        simp only [h1, h2, hc, decide_true, Bool.not_true, Bool.false_eq_true, if_false, if_true]
        rw [clone_eq f (by omega), Option.bind_some, G_pos (by simp only [List.length_cons, List.length_nil]; omega), bounded_eq]; rfl
      · simp [h1, h2, hc]
theorem refTok_eq (s : List UInt8) (f : List tCrack) : ref03_Token s f = some (tokS s f) := by
  unfold ref03_Token tokS
  rw [refCheck_eq]
  have hl : ((4096 : Int) < (s.length : Int)) = (4096 < s.length) := by apply propext; omega
  have hl2 : ((f.length : Int) = (0 : Int)) = (f.length = 0) := by apply propext; omega
  simp only [Option.bind_some, decide_eq_true_eq, hl, hl2]
  by_cases h1 : 4096 < s.length
  · simp only [h1, if_true]
  · by_cases h2 : f.length = 0
    · simp only [h1, h2, if_true, if_false]
    · by_cases hc : checkS f = 0
      · have := check_len hc
        simp only [h1, h2, hc, decide_true, Bool.not_true, Bool.false_eq_true, if_false, if_true]
        rw [copy_eq f (by omega), Option.bind_some, G_pos (by simp only [List.length_cons, List.length_nil]; omega), long_eq]; rfl
      · simp [h1, h2, hc]
theorem tokS_len (s : List UInt8) (f : List tCrack) : (tokS s f).1.length ≤ 1024 := by
  unfold tokS; split
  · simp
  · split
    · simp
    · split
      · exact longS_len _
      · simp

def joinF : List (List tCrack) → Nat → List tCrack → List tCrack × Int
  | [], n, out => if n = 0 then ([], 0) else (longS (out ++ [(10, (n : Int), [], ())]), 0)
  | f :: r, n, out => if f.length = 0 then joinF r n out else if checkS f = 0 then joinF r (n + 1) (if out.length ≤ 1024 then out ++ f else out) else ([], checkS f)
theorem joinF_len : ∀ (r : List (List tCrack)) (n : Nat) (out : List tCrack), (joinF r n out).1.length ≤ 1024
  | [], n, out => by
    unfold joinF; split
    · simp
    · exact longS_len _
  | f :: r, n, out => by
    unfold joinF; split
    · exact joinF_len ..
    · split
      · exact joinF_len ..
      · simp
theorem join_loop (l : List (List tCrack)) (hl : l.length ≤ 4096) : ∀ (d i : Nat) (n : Nat) (out : List tCrack), i + d = l.length → n ≤ i → out.length ≤ 2048 →
    iter st_fail_Join (.l6 (n : Int) out l (l.length : Int) (i : Int)) = some (joinF (l.drop i) n out)
  | 0, i, n, out, hi, hn, ho => by
    rw [iter_eq']
    have hd : l.drop i = [] := List.drop_eq_nil_of_le (by omega)
    have : ¬ (i : Int) < (l.length : Int) := by omega
    have h2 : ((n : Int) = 0) = (n = 0) := by apply propext; omega
    simp only [st_fail_Join, sg_fail_Join_6, this, decide_false, Bool.false_eq_true, if_false, hd, joinF, decide_eq_true_eq, h2]
    split
    · rfl
    · rw [G_pos (by simp only [List.length_cons, List.length_nil]; omega), bounded_eq]; rfl
  | d + 1, i, n, out, hi, hn, ho => by
    rw [iter_eq']
    obtain ⟨c, r, hL⟩ := drop_ex (show i < l.length by omega)
    obtain ⟨hc, hr, hlen⟩ := drop_cons (d := ([] : List tCrack)) hL
    have hlt : (i : Int) < (l.length : Int) := by omega
    have hG : 0 ≤ (i : Int) ∧ (i : Int) < (l.length : Int) := ⟨by omega, hlt⟩
    have e6 : w64 ((i : Int) + 1) = ((i + 1 : Nat) : Int) := w64_eq (by omega) (by omega)
    have e7 : w64 ((n : Int) + 1) = ((n + 1 : Nat) : Int) := w64_eq (by omega) (by omega)
    have h2 : ((c.length : Int) = 0) = (c.length = 0) := by apply propext; omega
    have h3 : ((out.length : Int) ≤ (1024 : Int)) = (out.length ≤ 1024) := by apply propext; omega
    simp only [st_fail_Join, sg_fail_Join_6, decide_eq_true_eq, if_pos hlt, G_pos hG, Int.toNat_natCast, hc, e6, e7, h2, h3, check_eq, Option.bind_some, hL, joinF]
    by_cases hz : c.length = 0
    · simp only [hz, if_true]
      show iter _ _ = _
      rw [join_loop l hl d (i + 1) n out (by omega) (by omega) ho, hr]
    · by_cases hk : checkS c = 0
      · have := check_len hk
        simp only [hz, hk, decide_true, Bool.not_true, Bool.false_eq_true, if_true, if_false]
        by_cases ho2 : out.length ≤ 1024
        · simp only [ho2, if_true]
          rw [G_pos (by omega)]
          show iter _ _ = _
          rw [join_loop l hl d (i + 1) (n + 1) _ (by omega) (by omega) (by rw [List.length_append]; omega), hr]
        · simp only [ho2, if_false]
          show iter _ _ = _
          rw [join_loop l hl d (i + 1) (n + 1) _ (by omega) (by omega) ho, hr]
      · simp only [hz, hk, decide_false, Bool.not_false, if_true, if_false]; rfl
theorem refJoin_loop (l : List (List tCrack)) (hl : l.length ≤ 4096) : ∀ (d i : Nat) (n : Nat) (out : List tCrack), i + d = l.length → n ≤ i → out.length ≤ 2048 →
    iter st_ref03_Join (.l6 l out (n : Int) (i : Int)) = some (joinF (l.drop i) n out)
  | 0, i, n, out, hi, hn, ho => by
    rw [iter_eq']
    have hd : l.drop i = [] := List.drop_eq_nil_of_le (by omega)
    have : ¬ (i : Int) < (l.length : Int) := by omega
    have h2 : ((n : Int) = 0) = (n = 0) := by apply propext; omega
    simp only [st_ref03_Join, sg_ref03_Join_6, this, decide_false, Bool.false_eq_true, if_false, hd, joinF, decide_eq_true_eq, h2]
    split
    · rfl
    · rw [G_pos (by simp only [List.length_cons, List.length_nil]; omega), long_eq]; rfl
  | d + 1, i, n, out, hi, hn, ho => by
    rw [iter_eq']
    obtain ⟨c, r, hL⟩ := drop_ex (show i < l.length by omega)
    obtain ⟨hc, hr, hlen⟩ := drop_cons (d := ([] : List tCrack)) hL
    have hlt : (i : Int) < (l.length : Int) := by omega
    have hG : 0 ≤ (i : Int) ∧ (i : Int) < (l.length : Int) := ⟨by omega, hlt⟩
    have e6 : w64 ((i : Int) + 1) = ((i + 1 : Nat) : Int) := w64_eq (by omega) (by omega)
    have e7 : w64 ((n : Int) + 1) = ((n + 1 : Nat) : Int) := w64_eq (by omega) (by omega)
    have h2 : ((c.length : Int) = 0) = (c.length = 0) := by apply propext; omega
    have h3 : ((out.length : Int) ≤ (1024 : Int)) = (out.length ≤ 1024) := by apply propext; omega
    simp only [st_ref03_Join, sg_ref03_Join_6, decide_eq_true_eq, if_pos hlt, G_pos hG, Int.toNat_natCast, hc, e6, e7, h2, h3, refCheck_eq, Option.bind_some, hL, joinF]
    by_cases hz : c.length = 0
    · simp only [hz, if_true]
      show iter _ _ = _
      rw [refJoin_loop l hl d (i + 1) n out (by omega) (by omega) ho, hr]
    · by_cases hk : checkS c = 0
      · have := check_len hk
        simp only [hz, hk, decide_true, Bool.not_true, Bool.false_eq_true, if_true, if_false]
        by_cases ho2 : out.length ≤ 1024
        · simp only [ho2, if_true]
          rw [G_pos (by omega)]
          show iter _ _ = _
          rw [refJoin_loop l hl d (i + 1) (n + 1) _ (by omega) (by omega) (by rw [List.length_append]; omega), hr]
        · simp only [ho2, if_false]
          show iter _ _ = _
          rw [refJoin_loop l hl d (i + 1) (n + 1) _ (by omega) (by omega) ho, hr]
      · simp only [hz, hk, decide_false, Bool.not_false, if_true, if_false]; rfl
def joinS (l : List (List tCrack)) : List tCrack × Int := if 4096 < l.length then ([], 3) else joinF l 0 []
theorem joinS_len (l : List (List tCrack)) : (joinS l).1.length ≤ 1024 := by
  unfold joinS; split
  · simp
  · exact joinF_len ..
theorem join_eq (l : List (List tCrack)) : fail_Join l = some (joinS l) := by
  unfold fail_Join en_fail_Join joinS
  have hl : ((4096 : Int) < (l.length : Int)) = (4096 < l.length) := by apply propext; omega
  simp only [decide_eq_true_eq, hl]
  split
  · rfl
  · show iter _ _ = _
    exact join_loop l (by omega) l.length 0 0 [] (by omega) (by omega) (by simp)
theorem refJoin_eq (l : List (List tCrack)) : ref03_Join l = some (joinS l) := by
  unfold ref03_Join en_ref03_Join joinS
  have hl : ((4096 : Int) < (l.length : Int)) = (4096 < l.length) := by apply propext; omega
  simp only [decide_eq_true_eq, hl]
  split
  · rfl
  · show iter _ _ = _
    exact refJoin_loop l (by omega) l.length 0 0 [] (by omega) (by omega) (by simp)

def sizes (l : List (List tCrack)) : Prop := l.length * 24 ≤ 140737488351232 ∧ ∀ f ∈ l, f.length * 32 ≤ 140737488351232
theorem wraps26 (l : List (List tCrack)) (one : List tCrack) (hl : sizes l) (h1 : one.length * 32 ≤ 140737488351232) : ∀ (d i : Nat), i + d = l.length → iter st_law03_FailWraps (.l26 l l one one (i : Int)) = some true
  | 0, i, hi => by
    rw [iter_eq']
    have : ¬ (i : Int) < (l.length : Int) := by omega
    simp only [st_law03_FailWraps, sg_law03_FailWraps_26, this, decide_false, Bool.false_eq_true, if_false, same_eq one one (by omega), decide_true]; rfl
  | d + 1, i, hi => by
    rw [iter_eq']
    obtain ⟨c, r, hL⟩ := drop_ex (show i < l.length by omega)
    obtain ⟨hc, hr, hlen⟩ := drop_cons (d := ([] : List tCrack)) hL
    have hmem : c ∈ l := List.mem_of_mem_drop (i := i) (by rw [hL]; exact List.mem_cons_self ..)
    have := hl.2 c hmem; have := hl.1
    have hlt : (i : Int) < (l.length : Int) := by omega
    have hG : 0 ≤ (i : Int) ∧ (i : Int) < (l.length : Int) := ⟨by omega, hlt⟩
    have e6 : w64 ((i : Int) + 1) = ((i + 1 : Nat) : Int) := w64_eq (by omega) (by omega)
    simp only [st_law03_FailWraps, sg_law03_FailWraps_26, decide_eq_true_eq, if_pos hlt, G_pos hG, Int.toNat_natCast, hc, e6, same_eq c c (by omega), decide_true, Option.bind_some, Bool.not_true, Bool.false_eq_true, if_false]
    show iter _ _ = _
    exact wraps26 l one hl h1 d (i + 1) (by omega)
theorem wraps9 (name text : List UInt8) (l : List (List tCrack)) (one : List tCrack) (hl : sizes l) (h1 : one.length * 32 ≤ 140737488351232) : iter st_law03_FailWraps (.l9 name text l l one) = some true := by
  rw [iter_eq']
  have w := wrapS_len name one; have t := tokS_len text one; have j := joinS_len l
  simp only [st_law03_FailWraps, sg_law03_FailWraps_9, copy_eq one h1, wrap_eq, refWrap_eq, tok_eq, refTok_eq, join_eq, refJoin_eq, Option.bind_some, decide_true, Bool.not_true, Bool.not_false, if_true, same_eq (wrapS name one).1 _ (by omega), same_eq (tokS text one).1 _ (by omega), same_eq (joinS l).1 _ (by omega), same_eq one one (by omega), Bool.or_false, Bool.false_eq_true, if_false]
  show iter _ _ = _
  exact wraps26 l one hl h1 l.length 0 (by omega)
theorem wraps3 (name text : List UInt8) (l : List (List tCrack)) (hl : sizes l) : ∀ (d i : Nat), i + d = l.length → iter st_law03_FailWraps (.l3 name text l (l.take i) (i : Int)) = some true
  | 0, i, hi => by
    rw [iter_eq']
    have : ¬ (i : Int) < (l.length : Int) := by omega
    have ht : l.take i = l := List.take_of_length_le (by omega)
    simp only [st_law03_FailWraps, sg_law03_FailWraps_3, this, decide_false, Bool.false_eq_true, if_false, ht, decide_eq_true_eq]
    split
    · rename_i h0
      rw [G_pos ⟨by omega, h0⟩]
      show iter _ _ = _
      refine wraps9 name text l _ hl ?_
      cases l with
      | nil => simp at h0
      | cons a r => exact hl.2 a (List.mem_cons_self ..)
    · show iter _ _ = _
      exact wraps9 name text l _ hl (by simp)
  | d + 1, i, hi => by
    rw [iter_eq']
    obtain ⟨c, r, hL⟩ := drop_ex (show i < l.length by omega)
    obtain ⟨hc, hr, hlen⟩ := drop_cons (d := ([] : List tCrack)) hL
    have hmem : c ∈ l := List.mem_of_mem_drop (i := i) (by rw [hL]; exact List.mem_cons_self ..)
    have := hl.2 c hmem; have := hl.1
    have hlt : (i : Int) < (l.length : Int) := by omega
    have hG : 0 ≤ (i : Int) ∧ (i : Int) < (l.length : Int) := ⟨by omega, hlt⟩
    have e6 : w64 ((i : Int) + 1) = ((i + 1 : Nat) : Int) := w64_eq (by omega) (by omega)
    have ht : l.take i ++ [c] = l.take (i + 1) := by
      rw [List.take_add_one, ← List.head?_drop, hL]; rfl
    simp only [st_law03_FailWraps, sg_law03_FailWraps_3, decide_eq_true_eq, if_pos hlt, G_pos hG, Int.toNat_natCast, hc, e6, copy_eq c (by omega), Option.bind_some, ht]
    rw [G_pos (by rw [List.length_take, List.length_cons, List.length_nil]; omega)]
    show iter _ _ = _
    exact wraps3 name text l hl d (i + 1) (by omega)
theorem FailWraps_pure (name text : List UInt8) (l : List (List tCrack)) (hl : sizes l) : law03_FailWraps name text l = some true := by
  unfold law03_FailWraps en_law03_FailWraps
  show iter _ _ = _
  exact wraps3 name text l hl l.length 0 (by omega)
end Go.Eng
