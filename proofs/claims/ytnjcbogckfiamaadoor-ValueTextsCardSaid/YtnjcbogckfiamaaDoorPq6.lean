/- A part of the proof: Pq6. -/
import Derived.Test.YtnjcbogckfiamaaDoorPq5
namespace Go.Eng
set_option linter.unusedVariables false
set_option linter.unusedSimpArgs false

/-! the reference's quotes -/
theorem refQuote_loop (s : List UInt8) (hs : s.length ≤ 10000000000000) : ∀ (d i : Nat) (out : List UInt8), i + d = s.length → out.length ≤ 4 * i + 1 → iter st_ref01_Quote (.l4 s [48, 49, 50, 51, 52, 53, 54, 55, 56, 57, 97, 98, 99, 100, 101, 102] out (i : Int)) = some (out ++ (s.drop i).flatMap quoteW ++ [34])
  | 0, i, out, hi, ho => by
    rw [iter_eq']
    have hd : s.drop i = [] := List.drop_eq_nil_of_le (by omega)
    have : ¬ (i : Int) < (s.length : Int) := by omega
    simp only [st_ref01_Quote, sg_ref01_Quote_4, this, decide_false, Bool.false_eq_true, if_false, hd, List.flatMap_nil, List.append_nil]
    rw [G_pos (show (out.length + ([(34 : UInt8)] : List UInt8).length) * 1 ≤ 140737488355328 from by simp only [List.length_cons, List.length_nil]; omega)]; rfl
  | d + 1, i, out, hi, ho => by
    rw [iter_eq']
    obtain ⟨c, r, hL⟩ := drop_ex (show i < s.length by omega)
    obtain ⟨hc, hr, hlen⟩ := drop_cons (d := (0 : UInt8)) hL
    have hlt : (i : Int) < (s.length : Int) := by omega
    have hG : 0 ≤ (i : Int) ∧ (i : Int) < (s.length : Int) := ⟨by omega, hlt⟩
    have e6 : w64 ((i : Int) + 1) = ((i + 1 : Nat) : Int) := w64_eq (by omega) (by omega)
    have h16 : (([48, 49, 50, 51, 52, 53, 54, 55, 56, 57, 97, 98, 99, 100, 101, 102] : List UInt8).length : Int) = 16 := rfl
    simp only [st_ref01_Quote, sg_ref01_Quote_4, decide_eq_true_eq, if_pos hlt, G_pos hG, Int.toNat_natCast, hc, e6, Bool.or_eq_true]
    rw [hL, List.flatMap_cons]
    have hq := quoteW_len c
    have fin : ∀ w : List UInt8, w = quoteW c → iter st_ref01_Quote (.l4 s [48, 49, 50, 51, 52, 53, 54, 55, 56, 57, 97, 98, 99, 100, 101, 102] (out ++ w) ((i + 1 : Nat) : Int)) = some (out ++ (quoteW c ++ r.flatMap quoteW) ++ [34]) := by
      intro w hw
      subst hw
      rw [refQuote_loop s hs d (i + 1) _ (by omega) (by rw [List.length_append]; omega), hr]
      simp only [List.append_assoc]
    by_cases h1 : (c.toNat : Int) = 34 ∨ (c.toNat : Int) = 92
    · rw [if_pos h1, G_pos (show (out.length + ([(92 : UInt8), c] : List UInt8).length) * 1 ≤ 140737488355328 from by simp only [List.length_cons, List.length_nil]; omega)]
      exact fin _ (by unfold quoteW; rw [if_pos h1])
    · rw [if_neg h1]
      by_cases h2 : (c.toNat : Int) = 10
      · rw [if_pos h2, G_pos (show (out.length + ([(92 : UInt8), (110 : UInt8)] : List UInt8).length) * 1 ≤ 140737488355328 from by simp only [List.length_cons, List.length_nil]; omega)]
        exact fin _ (by unfold quoteW; rw [if_neg h1, if_pos h2])
      · rw [if_neg h2]
        by_cases h3 : (c.toNat : Int) < 32 ∨ 126 < (c.toNat : Int)
        · have hx := all_u8 (p := fun c => (0 ≤ ((((IntKind.wrap .u8 (Int.tdiv (c.toNat : Int) 16))).toNat.toUInt8).toNat : Int) ∧ ((((IntKind.wrap .u8 (Int.tdiv (c.toNat : Int) 16))).toNat.toUInt8).toNat : Int) < 16) ∧ (0 ≤ ((((Int.tmod (c.toNat : Int) 16)).toNat.toUInt8).toNat : Int) ∧ ((((Int.tmod (c.toNat : Int) 16)).toNat.toUInt8).toNat : Int) < 16) ∧ hexD.getD (((IntKind.wrap .u8 (Int.tdiv (c.toNat : Int) 16))).toNat.toUInt8).toNat 0 = hexHi c ∧ hexD.getD (((Int.tmod (c.toNat : Int) 16)).toNat.toUInt8).toNat 0 = hexLo c) (by decide +kernel) c
          obtain ⟨x1, x2, x3, x4⟩ := hx
          rw [if_pos h3, h16, G_pos x1, G_pos x2]
          show runL st_ref01_Quote (G ((out.length + ([92, 120, hexD.getD (((IntKind.wrap .u8 (Int.tdiv (c.toNat : Int) 16))).toNat.toUInt8).toNat 0, hexD.getD (((Int.tmod (c.toNat : Int) 16)).toNat.toUInt8).toNat 0] : List UInt8).length) * 1 ≤ 140737488355328) (some (.inl (.l4 s [48, 49, 50, 51, 52, 53, 54, 55, 56, 57, 97, 98, 99, 100, 101, 102] (out ++ [92, 120, hexD.getD (((IntKind.wrap .u8 (Int.tdiv (c.toNat : Int) 16))).toNat.toUInt8).toNat 0, hexD.getD (((Int.tmod (c.toNat : Int) 16)).toNat.toUInt8).toNat 0]) ((i + 1 : Nat) : Int))))) = _
          rw [x3, x4, G_pos (show (out.length + ([92, 120, hexHi c, hexLo c] : List UInt8).length) * 1 ≤ 140737488355328 from by simp only [List.length_cons, List.length_nil]; omega)]
          exact fin _ (by unfold quoteW; rw [if_neg h1, if_neg h2, if_pos h3])
        · rw [if_neg h3, G_pos (show (out.length + ([c] : List UInt8).length) * 1 ≤ 140737488355328 from by simp only [List.length_cons, List.length_nil]; omega)]
          exact fin _ (by unfold quoteW; rw [if_neg h1, if_neg h2, if_neg h3])
theorem refQuote_eq (s : List UInt8) (hs : s.length ≤ 10000000000000) : ref01_Quote s = some (quoteT s) := by
  unfold ref01_Quote en_ref01_Quote
  show iter _ _ = _
  have := refQuote_loop s hs s.length 0 [34] (by omega) (by simp)
  rw [List.drop_zero] at this
  exact this
/-! the reference's digits -/
theorem pdig (k : Nat) (hk : k < 10) : (IntKind.wrap .u8 ((48 : Int) + (k : Int))).toNat.toUInt8 = UInt8.ofNat (48 + k) := by
  have : IntKind.wrap .u8 ((48 : Int) + (k : Int)) = ((48 + k : Nat) : Int) := by
    simp only [IntKind.wrap, IntKind.bits, IntKind.signed]; simp; omega
  rw [this]; rfl
theorem ptmod10 (n : Nat) : Int.tmod (n : Int) 10 = ((n % 10 : Nat) : Int) := by
  rw [Int.tmod_eq_emod_of_nonneg (by omega)]; omega
theorem ptdiv10 (n : Nat) : Int.tdiv (n : Int) 10 = ((n / 10 : Nat) : Int) := by
  rw [Int.tdiv_eq_ediv_of_nonneg (by omega)]; omega
theorem bitoa_loop (m : Int) : ∀ (f u : Nat) (s : List UInt8), u < 10 ^ f → u < 9223372036854775808 → s.length + f ≤ 100 →
    iter st_base_Itoa (.l7 m (u : Int) s) = some ((if m < 0 then [45] else []) ++ ((if u = 0 then [] else Lib.decDigits u) ++ s))
  | 0, u, s, hu, hb, hs => by
    have : u = 0 := by simpa using hu
    subst this
    rw [iter_eq']
    simp only [st_base_Itoa, sg_base_Itoa_7, if_true, List.nil_append]
    rw [if_neg (by decide)]
    by_cases hm : m < 0
    · rw [if_pos (decide_eq_true hm), if_pos hm, G_any (by simp only [List.length_cons, List.length_nil]; omega)]; rfl
    · rw [if_neg (by simpa using hm), if_neg hm]; rfl
  | f + 1, u, s, hu, hb, hs => by
    by_cases hz : u = 0
    · subst hz
      rw [iter_eq']
      simp only [st_base_Itoa, sg_base_Itoa_7, if_true, List.nil_append]
      rw [if_neg (by decide)]
      by_cases hm : m < 0
      · rw [if_pos (decide_eq_true hm), if_pos hm, G_any (by simp only [List.length_cons, List.length_nil]; omega)]; rfl
      · rw [if_neg (by simpa using hm), if_neg hm]; rfl
    · rw [iter_eq']
      simp only [st_base_Itoa, sg_base_Itoa_7]
      rw [if_pos (decide_eq_true (show (0 : Int) < (u : Int) by omega))]
      have e1 : IntKind.wrap .u64 ((48 : Int) + Int.tmod (u : Int) 10) = (48 : Int) + ((u % 10 : Nat) : Int) := by
        rw [ptmod10]; simp only [IntKind.wrap, IntKind.bits, IntKind.signed]; simp; omega
      have e2 : IntKind.wrap .u64 (Int.tdiv (u : Int) 10) = ((u / 10 : Nat) : Int) := by
        rw [ptdiv10]; simp only [IntKind.wrap, IntKind.bits, IntKind.signed]; simp; omega
      rw [e1, e2, pdig _ (Nat.mod_lt u (by omega : 0 < 10)), G_any (by simp only [List.length_cons, List.length_nil]; omega)]
      show iter _ _ = _
      rw [bitoa_loop m f (u / 10) _ (by rw [Nat.pow_succ] at hu; omega) (by omega) (by simp only [List.length_append, List.length_cons, List.length_nil]; omega), if_neg hz]
      congr 2
      rw [← List.append_assoc]
      congr 1
      by_cases h10 : u < 10
      · rw [if_pos (by omega), List.nil_append, Lib.decDigits, dif_pos h10, Nat.mod_eq_of_lt h10]
      · rw [if_neg (by omega)]
        conv => rhs; rw [Lib.decDigits, dif_neg h10]
theorem bitoa_eq (n : Int) (h1 : -9223372036854775808 < n) (h2 : n < 9223372036854775808) : base_Itoa n = some (Lib.itoa n) := by
  unfold base_Itoa en_base_Itoa
  by_cases h0 : n = 0
  · subst h0
    rw [if_pos (by rfl)]
    have : Lib.itoa 0 = [48] := by rw [Lib.itoa, if_neg (by decide), Lib.decDigits, dif_pos (by decide)]; rfl
    rw [this]; rfl
  · rw [if_neg (by simpa using h0)]
    by_cases hn : n < 0
    · rw [if_pos (decide_eq_true hn)]
      have e : IntKind.wrap .u64 (0 - (IntKind.wrap .u64 n)) = ((n.natAbs : Nat) : Int) := by
        simp only [IntKind.wrap, IntKind.bits, IntKind.signed]; simp; omega
      rw [e]
      show iter _ _ = _
      rw [iter_eq']
      show iter _ _ = _
      rw [bitoa_loop n 20 n.natAbs [] (by omega) (by omega) (by simp), if_pos hn, if_neg (by omega), List.append_nil, Lib.itoa, if_pos hn]; rfl
    · rw [if_neg (by simpa using hn)]
      have e : IntKind.wrap .u64 n = ((n.toNat : Nat) : Int) := by
        simp only [IntKind.wrap, IntKind.bits, IntKind.signed]; simp; omega
      rw [e]
      show iter _ _ = _
      rw [iter_eq']
      show iter _ _ = _
      rw [bitoa_loop n 20 n.toNat [] (by omega) (by omega) (by simp), if_neg hn, if_neg (by omega), List.append_nil, Lib.itoa, if_neg hn]; rfl
theorem nDig_le : ∀ (k u : Nat), u < 10 ^ (k + 1) → Lib.nDigits u ≤ k + 1
  | 0, u, h => by rw [Lib.nDigits_small (by simpa using h)]; omega
  | k + 1, u, h => by
    by_cases hu : u < 10
    · rw [Lib.nDigits_small hu]; omega
    · rw [Lib.nDigits_big hu]
      have := nDig_le k (u / 10) (by rw [Nat.pow_succ] at h; omega)
      omega
theorem itoa_len (n : Int) (h1 : -9223372036854775808 < n) (h2 : n < 9223372036854775808) : (Lib.itoa n).length ≤ 20 := by
  unfold Lib.itoa
  split
  · have := nDig_le 18 n.natAbs (by omega)
    rw [List.length_cons, Lib.decDigits_length]; omega
  · have := nDig_le 18 n.toNat (by omega)
    rw [Lib.decDigits_length]; omega

/-! what is printed -/
mutual
def printT : Tr tAtom → List UInt8
  | .node a ts => if a.1 = 1 then Lib.itoa a.2.2.1 else if a.1 = 2 then quoteT a.2.2.2.1 else [91] ++ Lib.join (printTs ts) [44, 32] ++ [93]
def printTs : List (Tr tAtom) → List (List UInt8)
  | [] => []
  | t :: ts => printT t :: printTs ts
end
theorem printTs_map : ∀ ts : List (Tr tAtom), printTs ts = ts.map printT
  | [] => by rw [printTs]; rfl
  | t :: ts => by rw [printTs, printTs_map ts]; rfl
theorem printT_eq (t : Tr tAtom) : printT t = if t.a.1 = 1 then Lib.itoa t.a.2.2.1 else if t.a.1 = 2 then quoteT t.a.2.2.2.1 else [91] ++ Lib.join (t.ts.map printT) [44, 32] ++ [93] := by
  cases t with
  | node a ts => rw [printT, printTs_map]; rfl
theorem joinTail_cons (sep x : List UInt8) (r : List (List UInt8)) : Lib.joinTail sep (x :: r) = sep ++ x ++ Lib.joinTail sep r := by
  simp [Lib.joinTail]
theorem quoteT_len (s : List UInt8) : (quoteT s).length ≤ 4 * s.length + 2 := by
  have : (s.flatMap quoteW).length ≤ 4 * s.length := by
    induction s with
    | nil => simp
    | cons c r ih =>
      have := quoteW_len c
      simp only [List.flatMap_cons, List.length_append, List.length_cons]; omega
  simp only [quoteT, List.length_append, List.length_cons, List.length_nil]; omega
mutual
theorem printT_len : ∀ t : Tr tAtom, okT arV (goodV 32) t → (printT t).length + 2 ≤ 20000 * (flat t).length
  | .node a ts, h => by
    have hf : (flat (Tr.node a ts)).length = (flats ts).length + 1 := by simp [flat]
    rw [hf, printT]
    have hw : wellA a = true := okT_well h
    rcases wellA_kind hw with ⟨e, _, _, b1, b2⟩ | ⟨e, _, _, b⟩ | ⟨e, _⟩
    · rw [if_pos e]
      have := itoa_len a.2.2.1 (by omega) (by omega)
      omega
    · rw [if_neg (by rw [show a.1 = 2 from e]; decide), if_pos e]
      have := quoteT_len a.2.2.2.1
      omega
    · rw [if_neg (by rw [show a.1 = 3 from e]; decide), if_neg (by rw [show a.1 = 3 from e]; decide)]
      have := printTs_len ts h.2.2
      have hj : (Lib.join (printTs ts) [44, 32]).length ≤ 20000 * (flats ts).length := by
        cases ts with
        | nil => rw [printTs]; simp [Lib.join_nil]
        | cons x r =>
          rw [printTs, Lib.join_cons, List.length_append]
          rw [printTs, joinTail_cons] at this
          simp only [List.length_append, List.length_cons, List.length_nil] at this
          omega
      simp only [List.length_append, List.length_cons, List.length_nil]; omega
theorem printTs_len : ∀ ts : List (Tr tAtom), okF arV (goodV 32) ts → (Lib.joinTail [44, 32] (printTs ts)).length ≤ 20000 * (flats ts).length
  | [], _ => by rw [printTs]; simp [Lib.joinTail]
  | t :: ts, h => by
    have h1 := printT_len t h.1
    have h2 := printTs_len ts h.2
    rw [printTs, joinTail_cons, flats]
    simp only [List.length_append, List.length_cons, List.length_nil]; omega
end
theorem join_len (ts : List (Tr tAtom)) (h : okF arV (goodV 32) ts) : (Lib.join (printTs ts) [44, 32]).length ≤ 20000 * (flats ts).length := by
  have := printTs_len ts h
  cases ts with
  | nil => rw [printTs]; simp [Lib.join_nil]
  | cons x r =>
    rw [printTs, Lib.join_cons, List.length_append]
    rw [printTs, joinTail_cons] at this
    simp only [List.length_append, List.length_cons, List.length_nil] at this
    omega
theorem print_loop (v : List tAtom) (hv : v.length ≤ 1024) (t : Tr tAtom) : ∀ (l : List tAtom) (F : List (Tr tAtom)), okF arV (goodV 32) F → flats F ++ l = v → parseT arV (goodV 32) l F = some [t] →
    iter st_value_Print (.l6 (F.map printT) v (v.length : Int) ((flats F).length : Int)) = some (printT t, 0)
  | [], F, hF, hl, hp => by
    cases hp
    rw [iter_eq']
    simp only [st_value_Print, sg_value_Print_6]
    have : (flats [t]).length = v.length := by rw [← hl, List.append_nil]
    rw [this, if_neg (by simp), G_any (by simp)]; rfl
  | a :: l, F, hF, hl, hp => by
    have hlen : (flats F).length + (l.length + 1) = v.length := by rw [← hl]; simp
    have hFl := len_flats F
    rw [parseT] at hp
    cases hq : pushT arV (goodV 32) a F with
    | none => rw [hq] at hp; cases hp
    | some F' =>
      rw [hq] at hp
      obtain ⟨o1, o2⟩ := push_spec hq hF
      have ih := print_loop v hv t l F' o1 (by rw [o2, List.append_assoc]; exact hl) hp
      unfold pushT at hq
      split at hq
      · rename_i hc
        cases hq
        have hget : v.getD (flats F).length dAtom = a := by rw [← hl]; simp [List.getD_eq_getElem?_getD]
        have hw : wellA a = true := by
          have := hc.2
          simp only [goodV, Bool.and_eq_true] at this
          exact this.1
        have hlen2 : (flats (F.take (F.length - arV a) ++ [Tr.node a (F.drop (F.length - arV a))])).length = (flats F).length + 1 := by rw [o2]; simp
        rw [hlen2, List.map_append] at ih
        simp only [List.map_cons, List.map_nil] at ih
        rw [iter_eq']
        simp only [st_value_Print, sg_value_Print_6]
        have ei : w64 (((flats F).length : Int) + 1) = (((flats F).length + 1 : Nat) : Int) := w64_eq (by omega) (by omega)
        rw [if_pos (decide_eq_true (by omega)), G_any (by omega), Int.toNat_natCast, hget, ei]
        have hsl : ((F.map printT).length : Int) = (F.length : Int) := by rw [List.length_map]
        rcases wellA_kind hw with ⟨e, e0, _, b1, b2⟩ | ⟨e, e0, _, b⟩ | ⟨e, e0, _⟩
        · have ha : arV a = 0 := by simp [arV, e0]
          rw [ha, Nat.sub_zero, List.take_of_length_le (Nat.le_refl _), List.drop_of_length_le (Nat.le_refl _), printT, if_pos e] at ih
          have ek : w64 (((F.map printT).length : Int) - a.2.1) = (F.length : Int) := by rw [hsl, e0, w64_eq (by omega) (by omega)]; omega
          rw [if_pos (decide_eq_true e), ek, hsl, Int.toNat_natCast]
          unfold strconv_Itoa
          rw [G_any (by omega), Option.bind_some, G_any (by omega), G_any (by simp only [List.length_cons, List.length_nil]; omega), List.take_of_length_le (by rw [List.length_map]; omega)]
          exact ih
        · have ha : arV a = 0 := by simp [arV, e0]
          have n1 : ¬ a.1 = 1 := by rw [e]; decide
          rw [ha, Nat.sub_zero, List.take_of_length_le (Nat.le_refl _), List.drop_of_length_le (Nat.le_refl _), printT, if_neg n1, if_pos e] at ih
          have ek : w64 (((F.map printT).length : Int) - a.2.1) = (F.length : Int) := by rw [hsl, e0, w64_eq (by omega) (by omega)]; omega
          rw [if_neg (by simpa using n1), if_pos (decide_eq_true e), ek, hsl, Int.toNat_natCast, Quote_eq _ (by omega), Option.bind_some, G_any (by omega), G_any (by simp only [List.length_cons, List.length_nil]; omega), List.take_of_length_le (by rw [List.length_map]; omega)]
          exact ih
        · have n1 : ¬ a.1 = 1 := by rw [e]; decide
          have n2 : ¬ a.1 = 2 := by rw [e]; decide
          have ha : (arV a : Int) = a.2.1 := by simp only [arV]; omega
          have hle := hc.1
          have ek : w64 (((F.map printT).length : Int) - a.2.1) = ((F.length - arV a : Nat) : Int) := by rw [hsl, w64_eq (by omega) (by omega)]; omega
          rw [printT, if_neg n1, if_neg n2] at ih
          have hokd : okF arV (goodV 32) (F.drop (F.length - arV a)) := by
            have : okF arV (goodV 32) (F.take (F.length - arV a) ++ F.drop (F.length - arV a)) := by rw [List.take_append_drop]; exact hF
            exact (okF_app.1 this).2
          have hj := join_len _ hokd
          have hfd : (flats (F.drop (F.length - arV a))).length ≤ (flats F).length := by
            conv => rhs; rw [← List.take_append_drop (F.length - arV a) F]
            rw [flats_app, List.length_append]; omega
          have hdl : (printTs (F.drop (F.length - arV a))).length ≤ F.length := by rw [printTs_map, List.length_map, List.length_drop]; omega
          rw [if_neg (by simpa using n1), if_neg (by simpa using n2), if_pos (decide_eq_true e), ek, hsl, Int.toNat_natCast, G_any (by omega), ← List.map_drop, ← printTs_map]
          unfold strings_Join
          rw [G_any ⟨by omega, by omega⟩, Option.bind_some, G_any (by simp only [List.length_cons, List.length_nil]; omega), G_any (by simp only [List.length_append, List.length_cons, List.length_nil]; omega), G_any (by omega), G_any (by simp only [List.length_cons, List.length_nil]; omega), ← List.map_take]
          exact ih
      · cases hq
open Classical in
noncomputable def printV (v : List tAtom) : List UInt8 × Int := if h : ∃ t, isV t v then (printT h.choose, 0) else ([], checkV v)
theorem printV_of {t : Tr tAtom} {v : List tAtom} (h : isV t v) : printV v = (printT t, 0) := by
  have he : ∃ t, isV t v := ⟨t, h⟩
  unfold printV
  rw [dif_pos he, isV_inj he.choose_spec h]
theorem printV_no {v : List tAtom} (h : ¬ checkV v = 0) : printV v = ([], checkV v) := by
  unfold printV
  rw [dif_neg fun ⟨t, ht⟩ => h (checkV_of ht)]
theorem vPrint_eq (v : List tAtom) : value_Print v = some (printV v) := by
  unfold value_Print en_value_Print
  rw [vcheck_eq, Option.bind_some]
  by_cases hc : checkV v = 0
  · obtain ⟨t, ht⟩ := checkV_ok hc
    rw [hc, if_neg (by decide), printV_of ht]
    exact print_loop v ht.1 t v [] trivial rfl (isV_par ht)
  · rw [if_pos (by simpa using hc), printV_no hc]; rfl
theorem rprint_more (rc : List tAtom → Option (List UInt8)) : ∀ (rest pre : List (Tr tAtom)) (out : List UInt8), (∀ x ∈ rest, rc (flat x) = some (printT x)) → okF arV (goodV 32) rest → 1 ≤ pre.length → pre.length + rest.length ≤ 1024 → out.length + 20000 * (flats rest).length ≤ 100000000000 →
    iter (st_ref07_print rc) (.l10 ((pre ++ rest).map flat) out (pre.length : Int)) = some (out ++ Lib.joinTail [44, 32] (rest.map printT) ++ [93])
  | [], pre, out, hr, hk, h1, hl, ho => by
    rw [iter_eq']
    simp only [st_ref07_print, sg_ref07_print_10, List.append_nil, List.length_map]
    rw [if_neg (by simp), G_any (by simp only [List.length_cons, List.length_nil]; omega)]
    simp [Lib.joinTail]; rfl
  | x :: rest, pre, out, hr, hk, h1, hl, ho => by
    have hx := printT_len x hk.1
    simp only [flats, List.length_append, List.length_cons] at ho hl
    rw [iter_eq']
    simp only [st_ref07_print, sg_ref07_print_10, List.length_map]
    have hgt : ((pre ++ x :: rest).map flat).getD pre.length ([] : List tAtom) = flat x := by simp [List.getD_eq_getElem?_getD]
    have ei : w64 ((pre.length : Int) + 1) = ((pre.length + 1 : Nat) : Int) := w64_eq (by omega) (by omega)
    rw [if_pos (decide_eq_true (by simp only [List.length_append, List.length_cons]; omega)), if_pos (decide_eq_true (by omega)), G_any (by simp only [List.length_cons, List.length_nil]; omega), G_any ⟨by omega, by simp only [List.length_append, List.length_cons]; omega⟩, Int.toNat_natCast, hgt, hr x List.mem_cons_self, Option.bind_some, G_any (by simp only [List.length_append, List.length_cons, List.length_nil]; omega), ei]
    have ih := rprint_more rc rest (pre ++ [x]) ((out ++ [44, 32]) ++ printT x) (fun y hy => hr y (List.mem_cons_of_mem _ hy)) hk.2 (by simp) (by simp only [List.length_append, List.length_cons, List.length_nil]; omega) (by simp only [List.length_append, List.length_cons, List.length_nil]; omega)
    rw [List.append_assoc] at ih
    simp only [List.cons_append, List.nil_append, List.length_append, List.length_cons, List.length_nil, Nat.zero_add] at ih
    show iter _ _ = _
    refine ih.trans ?_
    rw [List.map_cons, joinTail_cons]
    simp only [List.append_assoc, List.cons_append, List.nil_append]
theorem rprint_n : ∀ (n : Nat) (t : Tr tAtom) (v : List tAtom), isV t v → tdeep t ≤ n → ref07_print_n n v = some (printT t)
  | 0, t, v, h, hn => by have := tdeep_pos t; omega
  | n + 1, t, v, h, hn => by
    unfold ref07_print_n en_ref07_print
    rw [rwhole_eq h, Option.bind_some, rmembers_eq h, Option.bind_some, printT_eq]
    have hw := okT_well h.2.1
    rcases wellA_kind hw with ⟨e, _, _, b1, b2⟩ | ⟨e, _, _, b⟩ | ⟨e, _⟩
    · rw [if_pos (decide_eq_true e), if_pos e, bitoa_eq _ (by omega) (by omega)]; rfl
    · have n1 : ¬ t.a.1 = 1 := by rw [e]; decide
      rw [if_neg (by simpa using n1), if_neg n1, if_pos (decide_eq_true e), if_pos e, refQuote_eq _ (by omega)]; rfl
    · have n1 : ¬ t.a.1 = 1 := by rw [e]; decide
      have n2 : ¬ t.a.1 = 2 := by rw [e]; decide
      rw [if_neg (by simpa using n1), if_neg n1, if_neg (by simpa using n2), if_neg n2]
      show iter _ _ = _
      have hok : okF arV (goodV 32) t.ts := by
        have := h.2.1
        cases t with
        | node a ts => exact this.2.2
      have hrc : ∀ x ∈ t.ts, ref07_print_n n (flat x) = some (printT x) := fun x hx => rprint_n n x _ (isV_child h hx) (by have := deep_child hx; omega)
      have hl := isV_ts_len h
      have hfl : (flats t.ts).length ≤ 1024 := by
        have := isV_top h
        have := h.1; omega
      cases hts : t.ts with
      | nil =>
        rw [iter_eq']
        simp only [st_ref07_print, sg_ref07_print_10, List.map_nil, List.length_nil]
        rw [if_neg (by decide), G_any (by decide)]; rfl
      | cons x r =>
        rw [hts] at hrc hok hl hfl
        have hx := printT_len x hok.1
        simp only [flats, List.length_append, List.length_cons] at hfl hl
        rw [iter_eq']
        simp only [st_ref07_print, sg_ref07_print_10, List.map_cons, List.length_cons, List.length_map]
        have e1 : w64 ((0 : Int) + 1) = ((1 : Nat) : Int) := w64_eq (by omega) (by omega)
        rw [if_pos (decide_eq_true (by omega)), if_neg (by decide), G_any ⟨by omega, by omega⟩]
        have hg : ((flat x :: r.map flat).getD (0 : Int).toNat ([] : List tAtom)) = flat x := rfl
        rw [hg, hrc x List.mem_cons_self, Option.bind_some, G_any (by simp only [List.length_cons, List.length_nil]; omega), e1]
        have := rprint_more (ref07_print_n n) r [x] ([91] ++ printT x) (fun y hy => hrc y (List.mem_cons_of_mem _ hy)) hok.2 (by simp) (by simp only [List.length_cons, List.length_nil]; omega) (by simp only [List.length_append, List.length_cons, List.length_nil]; omega)
        show iter _ _ = _
        refine this.trans ?_
        rw [Lib.join_cons]
        simp only [List.append_assoc]
theorem rPrint_eq (v : List tAtom) : ref07_Print v = some (printV v) := by
  unfold ref07_Print
  rw [rcheck_eq, Option.bind_some]
  by_cases hc : checkV v = 0
  · obtain ⟨t, ht⟩ := checkV_ok hc
    rw [hc, if_neg (by decide), printV_of ht]
    have := rprint_n 64 t v ht (by have := isV_deep ht; omega)
    have h2 : ref07_print v = some (printT t) := this
    rw [h2]; rfl
  · rw [if_pos (by simpa using hc), printV_no hc]
theorem ValueTexts_pure (v : List tAtom) (s : List UInt8) (hv : v.length * 40 ≤ 140737488351232) : law07_ValueTexts v s = some true := by
  unfold law07_ValueTexts
  have hp : (parseV s).1.length < 4611686018427387904 := by
    unfold parseV
    split
    · simp
    · split
      · split
        · rename_i h; have := checkV_len h.2; dsimp only; omega
        · simp
      · simp
  rw [vcopy_eq v (by omega), Option.bind_some, vPrint_eq, Option.bind_some, rPrint_eq, Option.bind_some]
  simp only [decide_true, Bool.not_true, Bool.or_self, Bool.not_false, if_true]
  rw [vsame_eq v v (by omega), Option.bind_some]
  simp only [decide_true, Bool.not_true, Bool.false_eq_true, if_false]
  rw [vParse_eq, Option.bind_some, rParse_eq, Option.bind_some]
  simp only [decide_true, if_true]
  rw [vsame_eq _ _ hp]
  simp only [decide_true, Option.bind_some, Bool.and_self]; rfl
end Go.Eng
