/- A part of the proof: Pt3. -/
import Derived.Test.YthgemanfbanhnaaDoorPt2
namespace Go.Eng
set_option linter.unusedVariables false
set_option linter.unusedSimpArgs false

theorem skipF_suf : ∀ (l : List UInt8) (b : Bool), ∃ p, l = p ++ skipF b l
  | [], b => ⟨[], by cases b <;> rfl⟩
  | c :: r, true => by
    simp only [skipF]; split
    · obtain ⟨p, hp⟩ := skipF_suf r false; exact ⟨c :: p, by rw [List.cons_append, ← hp]⟩
    · obtain ⟨p, hp⟩ := skipF_suf r true; exact ⟨c :: p, by rw [List.cons_append, ← hp]⟩
  | c :: r, false => by
    simp only [skipF]; split
    · obtain ⟨p, hp⟩ := skipF_suf r true; exact ⟨c :: p, by rw [List.cons_append, ← hp]⟩
    · split
      · obtain ⟨p, hp⟩ := skipF_suf r false; exact ⟨c :: p, by rw [List.cons_append, ← hp]⟩
      · exact ⟨[], rfl⟩
theorem drop_suf {α : Type} {s a x : List α} (h : s = a ++ x) : s.drop (s.length - x.length) = x := by
  subst h
  rw [List.length_append, Nat.add_sub_cancel, List.drop_left]
theorem skip_drop (s : List UInt8) (i : Nat) : s.drop (s.length - (skipF false (s.drop i)).length) = skipF false (s.drop i) := by
  obtain ⟨p, hp⟩ := skipF_suf (s.drop i) false
  refine drop_suf (a := s.take i ++ p) ?_
  rw [List.append_assoc, ← hp, List.take_append_drop]

def tokAt (L : Nat) (x : TkS × Nat) : tToken := (x.1.1, ((L - x.2 : Nat) : Int), x.1.2.1, x.1.2.2, ())
def toksF (L : Nat) : Nat → Nat → List UInt8 → (List tToken) ⊕ (Int × Int)
  | 0, _, _ => .inr (0, 0)
  | _ + 1, _, [] => .inl []
  | f + 1, k, c :: r => if k = 8192 then .inr (((L - (c :: r).length : Nat) : Int), 3) else if (oneS (c :: r)).1 = 0 then (match toksF L f (k + 1) (skipF false ((c :: r).drop (oneS (c :: r)).2.2)) with
    | .inl l => .inl (tokAt L ((oneS (c :: r)).2.1, (c :: r).length) :: l)
    | .inr e => .inr e) else .inr (((L - (c :: r).length : Nat) : Int), (oneS (c :: r)).1)
def toksE (l : List tToken) : (List tToken) ⊕ (Int × Int) → List tToken × tFault
  | .inl r => (l ++ r, (0, 0, ()))
  | .inr e => ([], (e.1, e.2, ()))
theorem toks_loop (s : List UInt8) (hs : s.length ≤ 65536) (x3 x3' : Int) : ∀ (f i : Nat) (l : List tToken), s.length < i + f → i ≤ s.length → l.length ≤ i →
    iter st_lex_Tokens (.l5 s x3 x3' l (i : Int)) = some (toksE l (toksF s.length f l.length (s.drop i)))
  | 0, i, l, hf, hi, hl => by omega
  | f + 1, i, l, hf, hi, hl => by
    rw [iter_eq']
    by_cases hlt : i < s.length
    · obtain ⟨c, r, hL⟩ := drop_ex hlt
      obtain ⟨hc, hr, hlen⟩ := drop_cons (d := (0 : UInt8)) hL
      have hlt' : (i : Int) < (s.length : Int) := by omega
      have h8 : ((l.length : Int) = (8192 : Int)) = (l.length = 8192) := by apply propext; omega
      have hpos : s.length - (c :: r).length = i := by simp only [List.length_cons]; omega
      obtain ⟨x, hx, ho⟩ := one_eq s (by omega) i hlt
      simp only [st_lex_Tokens, sg_lex_Tokens_5, hlt', decide_true, if_true, decide_eq_true_eq, h8, hx, Option.bind_some]
      rw [hL] at ho ⊢
      simp only [toksF]
      by_cases hk : l.length = 8192
      · rw [if_pos hk, if_pos hk, hpos]; rfl
      · rw [if_neg hk, if_neg hk]
        unfold oneR at ho
        by_cases he : (oneS (c :: r)).1 = 0
        · rw [if_pos he] at ho
          rw [if_pos he]
          subst ho
          obtain ⟨n1, n2⟩ := oneS_n (c :: r) he
          simp only [List.length_cons] at n2
          simp only [decide_true, Bool.not_true, Bool.false_eq_true, if_false]
          rw [G_pos (show (l.length + ([((oneS (c :: r)).2.1.1, (i : Int), (oneS (c :: r)).2.1.2.1, (oneS (c :: r)).2.1.2.2, ())] : List tToken).length) * 40 ≤ 140737488355328 from by simp only [List.length_cons, List.length_nil]; omega), blank_eq s (by omega) _ (by omega)]
          show iter _ _ = _
          have hsk := skip_drop s (i + (oneS (c :: r)).2.2)
          have hle := skipF_le (s.drop (i + (oneS (c :: r)).2.2)) false
          have hdd : s.drop (i + (oneS (c :: r)).2.2) = (c :: r).drop (oneS (c :: r)).2.2 := by rw [← hL, List.drop_drop]
          rw [List.length_drop] at hle
          rw [toks_loop s hs x3 x3' f _ _ (by omega) (by omega) (by simp only [List.length_append, List.length_cons, List.length_nil]; omega), hsk, hdd, List.length_append]
          show some (toksE _ (toksF s.length f (l.length + 1) _)) = _
          cases toksF s.length f (l.length + 1) (skipF false ((c :: r).drop (oneS (c :: r)).2.2)) with
          | inl y => simp only [toksE, List.append_assoc, List.cons_append, List.nil_append, tokAt, hpos]
          | inr e => rfl
        · rw [if_neg he] at ho
          rw [if_neg he, ho]
          simp only [he, decide_false, Bool.not_false, if_true, hpos]; rfl
    · have hd : s.drop i = [] := List.drop_eq_nil_of_le (by omega)
      have h1 : ¬ (i : Int) < (s.length : Int) := by omega
      simp only [st_lex_Tokens, sg_lex_Tokens_5, h1, decide_false, Bool.false_eq_true, if_false, hd, toksF, toksE, List.append_nil]; rfl
def tokS (s : List UInt8) : List tToken × tFault := if 65536 < s.length then ([], (0, 3, ())) else toksE [] (toksF s.length (s.length + 1) 0 (skipF false s))
theorem tokens_eq (s : List UInt8) : lex_Tokens s = some (tokS s) := by
  unfold lex_Tokens en_lex_Tokens tokS
  have h6 : ((65536 : Int) < (s.length : Int)) = (65536 < s.length) := by apply propext; omega
  simp only [decide_eq_true_eq, h6]
  by_cases h : 65536 < s.length
  · rw [if_pos h, if_pos h]; rfl
  · rw [if_neg h, if_neg h, show (0 : Int) = ((0 : Nat) : Int) from rfl, blank_eq s (by omega) 0 (by omega), List.drop_zero]
    show iter _ _ = _
    have hsk := skip_drop s 0
    rw [List.drop_zero] at hsk
    rw [toks_loop s (by omega) _ _ (s.length + 1) _ [] (by omega) (by omega) (by simp), hsk]; rfl

/-! what is told without places -/
def toksR : Nat → List UInt8 → Option (List (TkS × Nat))
  | 0, _ => none
  | _ + 1, [] => some []
  | f + 1, c :: r => if (oneS (c :: r)).1 = 0 then (toksR f (skipF false ((c :: r).drop (oneS (c :: r)).2.2))).map fun l => ((oneS (c :: r)).2.1, (c :: r).length) :: l else none
theorem toksF_R (L : Nat) : ∀ (f k : Nat) (t : List UInt8) (l : List tToken), k ≤ 8192 → toksF L f k t = .inl l → ∃ l', toksR f t = some l' ∧ l = l'.map (tokAt L) ∧ l'.length + k ≤ 8192
  | 0, _, _, _, _, h => by cases h
  | _ + 1, k, [], l, hk, h => by cases h; exact ⟨[], rfl, rfl, by simpa using hk⟩
  | f + 1, k, c :: r, l, hk, h => by
    simp only [toksF] at h
    split at h
    · cases h
    · rename_i h8
      split at h
      · rename_i he
        split at h
        · rename_i y hy
          cases h
          obtain ⟨l', h1, h2, h3⟩ := toksF_R L f (k + 1) _ _ (by omega) hy
          refine ⟨((oneS (c :: r)).2.1, (c :: r).length) :: l', ?_, by rw [h2]; rfl, by simp only [List.length_cons]; omega⟩
          simp only [toksR, if_pos he, h1, Option.map_some]
        · cases h
      · cases h
theorem toksR_F (L : Nat) : ∀ (f k : Nat) (t : List UInt8) (l : List (TkS × Nat)), toksR f t = some l → l.length + k ≤ 8192 → toksF L f k t = .inl (l.map (tokAt L))
  | 0, _, _, _, h, _ => by cases h
  | _ + 1, k, [], l, h, hk => by cases h; rfl
  | f + 1, k, c :: r, l, h, hk => by
    simp only [toksR] at h
    split at h
    · rename_i he
      obtain ⟨l', h1, h2⟩ := Option.map_eq_some_iff.1 h
      subst h2
      simp only [List.length_cons] at hk
      simp only [toksF, if_neg (show ¬ k = 8192 by omega), if_pos he, toksR_F L f (k + 1) _ _ h1 (by omega), List.map_cons]
    · cases h
/-- More rounds tell the same. -/
theorem toksR_mono : ∀ {f : Nat} {t : List UInt8} {l : List (TkS × Nat)}, toksR f t = some l → ∀ {g : Nat}, f ≤ g → toksR g t = some l
  | 0, _, _, h, _, _ => by cases h
  | f + 1, [], l, h, g, hg => by
    obtain ⟨g, rfl⟩ : ∃ m, g = m + 1 := ⟨g - 1, by omega⟩
    exact h
  | f + 1, c :: r, l, h, g, hg => by
    obtain ⟨g, rfl⟩ : ∃ m, g = m + 1 := ⟨g - 1, by omega⟩
    simp only [toksR] at h ⊢
    split at h
    · rename_i he
      obtain ⟨l', h1, h2⟩ := Option.map_eq_some_iff.1 h
      rw [if_pos he, toksR_mono h1 (show f ≤ g by omega), Option.map_some, h2]
    · cases h
/-- Enough rounds. -/
theorem toksR_enough : ∀ {f : Nat} {t : List UInt8} {l : List (TkS × Nat)}, toksR f t = some l → ∀ {g : Nat}, t.length < g → toksR g t = some l
  | 0, _, _, h, _, _ => by cases h
  | f + 1, [], l, h, g, hg => by
    obtain ⟨g, rfl⟩ : ∃ m, g = m + 1 := ⟨g - 1, by omega⟩
    exact h
  | f + 1, c :: r, l, h, g, hg => by
    obtain ⟨g, rfl⟩ : ∃ m, g = m + 1 := ⟨g - 1, by omega⟩
    simp only [toksR] at h ⊢
    split at h
    · rename_i he
      obtain ⟨l', h1, h2⟩ := Option.map_eq_some_iff.1 h
      obtain ⟨n1, n2⟩ := oneS_n (c :: r) he
      have hle := skipF_le ((c :: r).drop (oneS (c :: r)).2.2) false
      rw [List.length_drop] at hle
      simp only [List.length_cons] at hle hg n2
      rw [if_pos he, toksR_enough h1 (show _ < g by omega), Option.map_some, h2]
    · cases h
/-- The tokens of a text, if it has any number of them that may be. -/
theorem tokS_ok {s : List UInt8} (h : (tokS s).2 = (0, 0, ())) : s.length ≤ 65536 ∧ ∃ l, toksR (s.length + 1) (skipF false s) = some l ∧ l.length ≤ 8192 ∧ (tokS s).1 = l.map (tokAt s.length) := by
  unfold tokS at h ⊢
  split at h
  · cases h
  · rename_i h6
    rw [if_neg h6]
    refine ⟨by omega, ?_⟩
    cases hq : toksF s.length (s.length + 1) 0 (skipF false s) with
    | inl l =>
      obtain ⟨l', h1, h2, h3⟩ := toksF_R s.length _ 0 _ _ (by omega) hq
      exact ⟨l', h1, by omega, by rw [h2]; simp [toksE]⟩
    | inr e =>
      exfalso
      have key : ∀ (f k : Nat) (t : List UInt8) (e : Int × Int), t.length < f → toksF s.length f k t = .inr e → e.2 ≠ 0 := by
        intro f
        induction f with
        | zero => intro k t e ht; omega
        | succ f ih =>
          intro k t e ht h
          cases t with
          | nil => cases h
          | cons c r =>
            simp only [toksF] at h
            split at h
            · cases h; simp
            · split at h
              · rename_i he
                split at h
                · cases h
                · rename_i e' hy
                  cases h
                  obtain ⟨n1, n2⟩ := oneS_n (c :: r) he
                  have hle := skipF_le ((c :: r).drop (oneS (c :: r)).2.2) false
                  rw [List.length_drop] at hle
                  simp only [List.length_cons] at hle ht
                  exact ih _ _ _ (by omega) hy
              · rename_i he
                cases h; exact he
      have hle := skipF_le s false
      rw [hq] at h
      simp only [toksE, Prod.mk.injEq, and_true] at h
      exact key _ _ _ _ (by omega) hq h.2
theorem tokS_of {s : List UInt8} {f : Nat} {l : List (TkS × Nat)} (hs : s.length ≤ 65536) (h : toksR f (skipF false s) = some l) (hl : l.length ≤ 8192) : tokS s = (l.map (tokAt s.length), (0, 0, ())) := by
  unfold tokS
  rw [if_neg (by omega)]
  have hle := skipF_le s false
  have h1 := toksR_enough h (show _ < s.length + 1 by omega)
  rw [toksR_F s.length _ 0 _ _ h1 (by omega)]; rfl
theorem tokS_bad {s : List UInt8} (h : ¬ (tokS s).2 = (0, 0, ())) : (tokS s).1 = [] := by
  unfold tokS at h ⊢
  split
  · rfl
  · rename_i h6
    rw [if_neg h6] at h
    cases hq : toksF s.length (s.length + 1) 0 (skipF false s) with
    | inl l => rw [hq] at h; exact absurd rfl h
    | inr e => rfl

/-! the same tokens; tokens without their places -/
theorem toksame_loop (a b : List tToken) (ha : a.length < 4611686018427387904) (hab : a.length = b.length) : ∀ (d i : Nat), i + d = a.length → iter st_law01_tokens (.l4 a b (i : Int)) = some (decide (a.drop i = b.drop i))
  | 0, i, hi => by
    rw [iter_eq']
    have hd : a.drop i = [] := List.drop_eq_nil_of_le (by omega)
    have hd2 : b.drop i = [] := List.drop_eq_nil_of_le (by omega)
    have : ¬ (i : Int) < (a.length : Int) := by omega
    simp only [st_law01_tokens, sg_law01_tokens_4, this, decide_false, Bool.false_eq_true, if_false, hd, hd2]; rfl
  | d + 1, i, hi => by
    rw [iter_eq']
    obtain ⟨c, r, hL⟩ := drop_ex (show i < a.length by omega)
    obtain ⟨hc, hr, hlen⟩ := drop_cons (d := dToken) hL
    obtain ⟨c2, r2, hL2⟩ := drop_ex (show i < b.length by omega)
    obtain ⟨hc2, hr2, hlen2⟩ := drop_cons (d := dToken) hL2
    have hlt : (i : Int) < (a.length : Int) := by omega
    have hG : 0 ≤ (i : Int) ∧ (i : Int) < (a.length : Int) := ⟨by omega, hlt⟩
    have hG2 : 0 ≤ (i : Int) ∧ (i : Int) < (b.length : Int) := ⟨by omega, by omega⟩
    have e6 : w64 ((i : Int) + 1) = ((i + 1 : Nat) : Int) := w64_eq (by omega) (by omega)
    simp only [st_law01_tokens, sg_law01_tokens_4, decide_eq_true_eq, if_pos hlt, G_pos hG, G_pos hG2, Int.toNat_natCast, hc, hc2, e6]
    have he := eqR_iff tyToken c c2 rfl rfl
    cases hq : eqR tyToken c c2 with
    | false =>
      have hne : ¬ c = c2 := fun e => by rw [he.2 e] at hq; cases hq
      rw [hL, hL2]
      simp [runL, hne]
    | true =>
      have heq : c = c2 := he.1 hq
      simp only [Bool.not_true, Bool.false_eq_true, if_false]
      show iter _ _ = _
      rw [toksame_loop a b ha hab d (i + 1) (by omega), hL, hL2, hr, hr2, heq]
      simp
theorem toksame_eq (a b : List tToken) (ha : a.length < 4611686018427387904) : law01_tokens a b = some (decide (a = b)) := by
  unfold law01_tokens en_law01_tokens
  by_cases h : a.length = b.length
  · have h' : (a.length : Int) = (b.length : Int) := by omega
    simp only [h', decide_true, Bool.not_true, Bool.false_eq_true, if_false]
    show iter _ _ = _
    have := toksame_loop a b ha h a.length 0 (by omega)
    simpa using this
  · have h' : ¬ (a.length : Int) = (b.length : Int) := by omega
    have hne : ¬ a = b := fun e => h (by rw [e])
    simp only [h', decide_false, Bool.not_false, if_true, hne]; rfl
def noAt (t : tToken) : tToken := (t.1, 0, t.2.2)
theorem nowhere_loop (n : Nat) (hn : n < 4611686018427387904) : ∀ (d i : Nat) (l : List tToken), l.length = n → i + d = n → iter st_law01_nowhere (.l3 l (i : Int)) = some (l.take i ++ (l.drop i).map noAt)
  | 0, i, l, hl, hi => by
    rw [iter_eq']
    have hd : l.drop i = [] := List.drop_eq_nil_of_le (by omega)
    have ht : l.take i = l := List.take_of_length_le (by omega)
    have : ¬ (i : Int) < (l.length : Int) := by omega
    simp only [st_law01_nowhere, sg_law01_nowhere_3, this, decide_false, Bool.false_eq_true, if_false, hd, ht, List.map_nil, List.append_nil]; rfl
  | d + 1, i, l, hl, hi => by
    rw [iter_eq']
    obtain ⟨c, r, hL⟩ := drop_ex (show i < l.length by omega)
    obtain ⟨hc, hr, hlen⟩ := drop_cons (d := dToken) hL
    have hlt : (i : Int) < (l.length : Int) := by omega
    have hG : 0 ≤ (i : Int) ∧ (i : Int) < (l.length : Int) := ⟨by omega, hlt⟩
    have e6 : w64 ((i : Int) + 1) = ((i + 1 : Nat) : Int) := w64_eq (by omega) (by omega)
    simp only [st_law01_nowhere, sg_law01_nowhere_3, hlt, decide_true, if_true, G_pos hG, Int.toNat_natCast, hc, e6]
    show iter _ _ = _
    rw [nowhere_loop n hn d (i + 1) _ (by rw [List.length_set]; exact hl) (by omega), hL]
    have h1 : (l.set i (c.1, 0, c.2.2)).drop (i + 1) = r := by rw [List.drop_set_of_lt (by omega), hr]
    have h2 : (l.set i (c.1, 0, c.2.2)).take (i + 1) = l.take i ++ [noAt c] := by
      rw [List.take_add_one, List.take_set_of_le (Nat.le_refl _), List.getElem?_set_self (by omega)]; rfl
    rw [h1, h2, List.map_cons, List.append_assoc]; rfl
theorem nowhere_eq (l : List tToken) (hl : l.length ≤ 1000000) : law01_nowhere l = some (l.map noAt) := by
  unfold law01_nowhere en_law01_nowhere
  rw [G_pos (show (([] : List tToken).length + l.length) * 40 ≤ 140737488355328 from by simp only [List.length_nil]; omega)]
  show iter _ _ = _
  have := nowhere_loop l.length (by omega) l.length 0 l rfl (by omega)
  simpa using this

/-! a text in quotes -/
def hexHi (c : UInt8) : UInt8 := hexD.getD (((Int.fdiv (c.toNat : Int) (2 ^ (min ((4 : Int)).toNat IntKind.u8.bits)))).toNat.toUInt8).toNat 0
def hexLo (c : UInt8) : UInt8 := hexD.getD (((IntKind.wrap .u8 ((BitVec.ofInt IntKind.u8.bits (c.toNat : Int) &&& BitVec.ofInt IntKind.u8.bits 15).toNat))).toNat.toUInt8).toNat 0
def quoteW (c : UInt8) : List UInt8 := if (c.toNat : Int) = 34 ∨ (c.toNat : Int) = 92 then [92, c] else if (c.toNat : Int) = 10 then [92, 110] else if (c.toNat : Int) < 32 ∨ 126 < (c.toNat : Int) then [92, 120, hexHi c, hexLo c] else [c]
theorem quoteW_len (c : UInt8) : (quoteW c).length ≤ 4 := by
  unfold quoteW
  split
  · simp
  · split
    · simp
    · split <;> simp
theorem all_u8 {p : UInt8 → Prop} (h : ∀ n : Fin 256, p (UInt8.ofNat n.1)) (c : UInt8) : p c := by
  have := h ⟨c.toNat, c.toNat_lt⟩
  simpa using this
theorem hexHi_in (c : UInt8) : 0 ≤ ((((Int.fdiv (c.toNat : Int) (2 ^ (min ((4 : Int)).toNat IntKind.u8.bits)))).toNat.toUInt8).toNat : Int) ∧ ((((Int.fdiv (c.toNat : Int) (2 ^ (min ((4 : Int)).toNat IntKind.u8.bits)))).toNat.toUInt8).toNat : Int) < 16 :=
  all_u8 (p := fun c => 0 ≤ ((((Int.fdiv (c.toNat : Int) (2 ^ (min ((4 : Int)).toNat IntKind.u8.bits)))).toNat.toUInt8).toNat : Int) ∧ ((((Int.fdiv (c.toNat : Int) (2 ^ (min ((4 : Int)).toNat IntKind.u8.bits)))).toNat.toUInt8).toNat : Int) < 16) (by decide +kernel) c
theorem hexLo_in (c : UInt8) : 0 ≤ ((((IntKind.wrap .u8 ((BitVec.ofInt IntKind.u8.bits (c.toNat : Int) &&& BitVec.ofInt IntKind.u8.bits 15).toNat))).toNat.toUInt8).toNat : Int) ∧ ((((IntKind.wrap .u8 ((BitVec.ofInt IntKind.u8.bits (c.toNat : Int) &&& BitVec.ofInt IntKind.u8.bits 15).toNat))).toNat.toUInt8).toNat : Int) < 16 :=
  all_u8 (p := fun c => 0 ≤ ((((IntKind.wrap .u8 ((BitVec.ofInt IntKind.u8.bits (c.toNat : Int) &&& BitVec.ofInt IntKind.u8.bits 15).toNat))).toNat.toUInt8).toNat : Int) ∧ ((((IntKind.wrap .u8 ((BitVec.ofInt IntKind.u8.bits (c.toNat : Int) &&& BitVec.ofInt IntKind.u8.bits 15).toNat))).toNat.toUInt8).toNat : Int) < 16) (by decide +kernel) c
theorem Quote_loop (s : List UInt8) (hs : s.length ≤ 10000000000000) : ∀ (d i : Nat) (out : List UInt8), i + d = s.length → out.length ≤ 4 * i + 1 → iter st_lex_Quote (.l4 s out (s.length : Int) (i : Int)) = some (out ++ (s.drop i).flatMap quoteW ++ [34])
  | 0, i, out, hi, ho => by
    rw [iter_eq']
    have hd : s.drop i = [] := List.drop_eq_nil_of_le (by omega)
    have : ¬ (i : Int) < (s.length : Int) := by omega
    simp only [st_lex_Quote, sg_lex_Quote_4, this, decide_false, Bool.false_eq_true, if_false, hd, List.flatMap_nil, List.append_nil]
    rw [G_pos (show (out.length + ([(34 : UInt8)] : List UInt8).length) * 1 ≤ 140737488355328 from by simp only [List.length_cons, List.length_nil]; omega)]; rfl
  | d + 1, i, out, hi, ho => by
    rw [iter_eq']
    obtain ⟨c, r, hL⟩ := drop_ex (show i < s.length by omega)
    obtain ⟨hc, hr, hlen⟩ := drop_cons (d := (0 : UInt8)) hL
    have hlt : (i : Int) < (s.length : Int) := by omega
    have hG : 0 ≤ (i : Int) ∧ (i : Int) < (s.length : Int) := ⟨by omega, hlt⟩
    have e6 : w64 ((i : Int) + 1) = ((i + 1 : Nat) : Int) := w64_eq (by omega) (by omega)
    have h16 : (([48, 49, 50, 51, 52, 53, 54, 55, 56, 57, 97, 98, 99, 100, 101, 102] : List UInt8).length : Int) = 16 := rfl
    simp only [st_lex_Quote, sg_lex_Quote_4, hlt, decide_true, if_true, G_pos hG, Int.toNat_natCast, hc, e6, Bool.or_eq_true, decide_eq_true_eq]
    rw [hL, List.flatMap_cons]
    have hq := quoteW_len c
    have fin : ∀ w : List UInt8, w = quoteW c → iter st_lex_Quote (.l4 s (out ++ w) (s.length : Int) ((i + 1 : Nat) : Int)) = some (out ++ (quoteW c ++ r.flatMap quoteW) ++ [34]) := by
      intro w hw
      subst hw
      rw [Quote_loop s hs d (i + 1) _ (by omega) (by rw [List.length_append]; omega), hr]
      simp only [List.append_assoc]
    by_cases h1 : (c.toNat : Int) = 34 ∨ (c.toNat : Int) = 92
    · rw [if_pos h1, G_pos (show (out.length + ([(92 : UInt8), c] : List UInt8).length) * 1 ≤ 140737488355328 from by simp only [List.length_cons, List.length_nil]; omega)]
      exact fin _ (by unfold quoteW; rw [if_pos h1])
    · rw [if_neg h1]
      by_cases h2 : (c.toNat : Int) = 10
      · rw [if_pos h2, G_pos (show (out.length + ([(92 : UInt8), (110 : UInt8)] : List UInt8).length) * 1 ≤ 140737488355328 from by simp only [List.length_cons, List.length_nil]; omega)]
        exact fin _ (by unfold quoteW; rw [if_neg h1, if_pos h2])
      · rw [if_neg h2]
        by_cases h3 : (c.toNat : Int) < 32 ∨ 126 < (c.toNat : Int)
        · rw [if_pos h3, h16, G_pos (hexHi_in c), G_pos (hexLo_in c)]
          show runL st_lex_Quote (G ((out.length + ([92, 120, hexHi c, hexLo c] : List UInt8).length) * 1 ≤ 140737488355328) (some (.inl (.l4 s (out ++ [92, 120, hexHi c, hexLo c]) (s.length : Int) ((i + 1 : Nat) : Int))))) = _
          rw [G_pos (show (out.length + ([92, 120, hexHi c, hexLo c] : List UInt8).length) * 1 ≤ 140737488355328 from by simp only [List.length_cons, List.length_nil]; omega)]
          exact fin _ (by unfold quoteW; rw [if_neg h1, if_neg h2, if_pos h3])
        · rw [if_neg h3, G_pos (show (out.length + ([c] : List UInt8).length) * 1 ≤ 140737488355328 from by simp only [List.length_cons, List.length_nil]; omega)]
          exact fin _ (by unfold quoteW; rw [if_neg h1, if_neg h2, if_neg h3])
def quoteT (s : List UInt8) : List UInt8 := [34] ++ s.flatMap quoteW ++ [34]
theorem Quote_eq (s : List UInt8) (hs : s.length ≤ 10000000000000) : lex_Quote s = some (quoteT s) := by
  unfold lex_Quote en_lex_Quote
  have e2 : w64 ((s.length : Int) + 2) = (s.length : Int) + 2 := w64_eq (by omega) (by omega)
  rw [e2, G_pos (show 0 ≤ (0 : Int) ∧ (0 : Int) ≤ (s.length : Int) + 2 ∧ (1 : Int) * ((s.length : Int) + 2) ≤ 281474976710656 by omega), G_pos (show ((List.replicate (0 : Int).toNat (0 : UInt8)).length + ([(34 : UInt8)] : List UInt8).length) * 1 ≤ 140737488355328 from by decide)]
  show iter _ _ = _
  have := Quote_loop s hs s.length 0 [34] (by omega) (by simp)
  rw [List.drop_zero] at this
  exact this
theorem works_eq : law01_works = some true := by
  unfold law01_works
  rw [tokens_eq, Quote_eq _ (by decide)]
  have h1 : tokS [36, 120, 61, 61, 49, 50, 32, 35, 32, 121] = ([(3, 0, 0, [120], ()), (6, 2, 0, [61, 61], ()), (4, 4, 12, [], ())], (0, 0, ())) := by kernel_rfl
  rw [h1]
  simp only [Option.bind_some]
  have h2 : eqR tyFault ((0 : Int), (0 : Int), ()) ((0 : Int), (0 : Int), ()) = true := by kernel_rfl
  rw [h2]
  have h3 : quoteT [97, 10, 34] = [34, 97, 92, 110, 92, 34, 34] := by kernel_rfl
  rw [h3]
  simp only [if_true, toksame_eq _ _ (show ([((3 : Int), (0 : Int), (0 : Int), ([120] : List UInt8), ()), ((6 : Int), (2 : Int), (0 : Int), ([61, 61] : List UInt8), ()), ((4 : Int), (4 : Int), (12 : Int), ([] : List UInt8), ())] : List tToken).length < 4611686018427387904 by decide), Option.bind_some, decide_true, Bool.and_self]
end Go.Eng
