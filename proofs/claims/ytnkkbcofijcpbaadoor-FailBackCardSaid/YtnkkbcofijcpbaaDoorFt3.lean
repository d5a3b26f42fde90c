/- A part of the proof: Ft3. -/
import Derived.Test.YtnkkbcofijcpbaaDoorFt1
namespace Go.Eng
set_option linter.unusedVariables false
set_option linter.unusedSimpArgs false
def scanQ : List UInt8 → Option Nat
  | [] => none
  | c :: r => if (c.toNat : Int) = 34 then some 0 else if (c.toNat : Int) = 92 then (match r with
    | [] => none
    | _ :: r' => (scanQ r').map (· + 2)) else (scanQ r).map (· + 1)
theorem scanQ_lt : ∀ (n : Nat) (l : List UInt8) (j : Nat), l.length ≤ n → scanQ l = some j → j < l.length
  | _, [], j, _, h => by simp [scanQ] at h
  | 0, c :: r, j, hn, h => by simp at hn
  | n + 1, c :: r, j, hn, h => by
    simp only [List.length_cons] at hn ⊢
    unfold scanQ at h
    split at h
    · cases h; omega
    · split at h
      · cases r with
        | nil => cases h
        | cons e r' =>
          obtain ⟨k, h1, h2⟩ := Option.map_eq_some_iff.1 h
          have := scanQ_lt n r' k (by simp at hn; omega) h1
          simp only [List.length_cons]; omega
      · obtain ⟨k, h1, h2⟩ := Option.map_eq_some_iff.1 h
        have := scanQ_lt n r k (by omega) h1
        omega
abbrev TF := Tr tCrack
def kindS (w : List UInt8) : Int :=
  if w = [102, 97, 105, 108] then 1 else if w = [112, 97, 110, 105, 99] then 2 else if w = [118, 97, 108, 117, 101] then 3 else if w = [110, 111, 110, 101] then 4 else if w = [99, 121, 99, 108, 101] then 5
  else if w = [100, 101, 112, 116, 104] then 6 else if w = [99, 108, 111, 115, 101, 100] then 7 else if w = [116, 111, 107, 101, 110] then 8 else if w = [99, 101, 108, 108] then 9 else if w = [106, 111, 105, 110] then 10
  else if w = [108, 111, 110, 103] then 11 else 0
theorem kindS_word (w : List UInt8) (h : ¬ kindS w = 0) : w = wordK (kindS w) ∧ 4 ≤ w.length := by
  unfold kindS at h ⊢
  repeat (split at h; · rename_i e; subst e; exact ⟨rfl, by decide⟩)
  exact absurd rfl h
def qtS (r : List UInt8) : Option (List UInt8 × Nat) := match scanQ r.tail with
  | none => none
  | some j => match unqS (r.take (j + 2)) with
    | (t, true) => some (t, j + 2)
    | (_, false) => none
def txtS (r : List UInt8) : Option (List UInt8 × Nat) := if r.take 1 = [32] then (qtS (r.drop 1)).map fun p => (p.1, 1 + p.2) else none
def wrdS (r : List UInt8) : Option (List UInt8 × Nat) := if r.take 1 = [32] then some ((r.drop 1).take (wlen (r.drop 1)), 1 + wlen (r.drop 1)) else none
def leafT (k : Int) (t : List UInt8) : TF := .node (k, 0, t, ()) []
def oneF (k : Int) (t : List UInt8) (n : Nat) : Option (TF × Nat) → Option (TF × Nat)
  | none => none
  | some (x, a) => some (.node (k, 1, t, ()) [x], n + a)
def moreK (val : List UInt8 → Option (TF × Nat)) (k : Int) (n : Nat) (r : List UInt8) : Option (List UInt8 × Nat) → Option (TF × Nat)
  | none => none
  | some (t, m) => if k = 8 ∨ k = 9 then (if (r.drop m).take 2 = [58, 32] then oneF k t (n + m + 2) (val (r.drop (m + 2))) else if k = 8 then some (leafT k t, n + m) else none) else some (leafT k t, n + m)
def tailF (val : List UInt8 → Option (TF × Nat)) : Nat → List UInt8 → Option (List TF × Nat)
  | 0, _ => none
  | f + 1, l => if l.take 2 = [59, 32] then (match val (l.drop 2) with
      | none => none
      | some (x, k) => (tailF val f (l.drop (2 + k))).map fun p => (x :: p.1, 2 + k + p.2)) else if l.take 1 = [41] then some ([], 1) else none
def joinE (n a : Nat) (x : TF) : Option (List TF × Nat) → Option (TF × Nat)
  | none => none
  | some (xs, m) => some (.node (10, ((xs.length + 1 : Nat) : Int), [], ()) (x :: xs), n + 1 + a + m)
def joinF (val : List UInt8 → Option (TF × Nat)) (n : Nat) (r : List UInt8) : Option (TF × Nat) := if r.take 1 = [40] then (match val (r.drop 1) with
  | none => none
  | some (x, a) => joinE n a x (tailF val (r.length + 1) (r.drop (1 + a)))) else none
def stepF (val : List UInt8 → Option (TF × Nat)) (s : List UInt8) : Option (TF × Nat) :=
  let n := wlen s; let k := kindS (s.take n); let r := s.drop n
  if k = 6 ∨ k = 7 ∨ k = 11 then some (leafT k [], n)
  else if k = 10 then joinF val n r
  else if k = 1 ∨ k = 2 ∨ k = 8 then moreK val k n r (txtS r)
  else if k = 3 ∨ k = 4 ∨ k = 5 ∨ k = 9 then moreK val k n r (wrdS r)
  else none
def failT : Nat → List UInt8 → Option (TF × Nat)
  | 0, _ => none
  | d + 1, s => stepF (failT d) s
theorem txtS_len {r : List UInt8} {t : List UInt8} {m : Nat} (h : txtS r = some (t, m)) : 1 ≤ m ∧ m ≤ r.length := by
  unfold txtS at h
  split at h
  · rename_i h1
    have hr : 1 ≤ r.length := by
      have := congrArg List.length h1
      rw [List.length_take] at this; simp at this; omega
    obtain ⟨p, hp, he⟩ := Option.map_eq_some_iff.1 h
    unfold qtS at hp
    split at hp
    · cases hp
    · rename_i j hj
      have := scanQ_lt _ _ _ (Nat.le_refl _) hj
      rw [List.length_tail, List.length_drop] at this
      split at hp
      · cases hp; cases he; omega
      · cases hp
  · cases h
theorem wrdS_len {r : List UInt8} {t : List UInt8} {m : Nat} (h : wrdS r = some (t, m)) : 1 ≤ m ∧ m ≤ r.length := by
  unfold wrdS at h
  split at h
  · rename_i h1
    have hr : 1 ≤ r.length := by
      have := congrArg List.length h1
      rw [List.length_take] at this; simp at this; omega
    cases h
    have := wlen_le (r.drop 1)
    rw [List.length_drop] at this; omega
  · cases h
theorem take_len2 {l : List UInt8} {a b : UInt8} (h : l.take 2 = [a, b]) : 2 ≤ l.length := by
  have := congrArg List.length h
  rw [List.length_take] at this; simp at this; omega
theorem take_len1 {l : List UInt8} {a : UInt8} (h : l.take 1 = [a]) : 1 ≤ l.length := by
  have := congrArg List.length h
  rw [List.length_take] at this; simp at this; omega
def sizeF (d : Nat) (s : List UInt8) (x : TF) (k : Nat) : Prop := k ≤ s.length ∧ (flat x).length ≤ k ∧ 1 ≤ k ∧ tdeep x ≤ d ∧ okT arC (fun _ => true) x
theorem tailF_size {val : List UInt8 → Option (TF × Nat)} {d : Nat} (hv : ∀ s x k, val s = some (x, k) → sizeF d s x k) : ∀ (f : Nat) (l : List UInt8) (xs : List TF) (m : Nat), tailF val f l = some (xs, m) → m ≤ l.length ∧ (flats xs).length + 1 ≤ m ∧ (∀ x ∈ xs, tdeep x ≤ d ∧ okT arC (fun _ => true) x)
  | 0, l, xs, m, h => by cases h
  | f + 1, l, xs, m, h => by
    simp only [tailF] at h
    split at h
    · rename_i h2
      have := take_len2 h2
      split at h
      · cases h
      · rename_i x k hx
        obtain ⟨a1, a2, a3, a4, a5⟩ := hv _ _ _ hx
        rw [List.length_drop] at a1
        obtain ⟨p, hp, he⟩ := Option.map_eq_some_iff.1 h
        obtain ⟨ys, j⟩ := p
        obtain ⟨b1, b2, b3⟩ := tailF_size hv f _ _ _ hp
        rw [List.length_drop] at b1
        cases he
        refine ⟨by dsimp only; omega, ?_, fun y hy => ?_⟩
        · simp only [flats, List.length_append]; omega
        · rcases List.mem_cons.1 hy with rfl | hy
          · exact ⟨a4, a5⟩
          · exact b3 y hy
    · split at h
      · rename_i h1
        have := take_len1 h1
        cases h
        exact ⟨this, by simp [flats], by simp⟩
      · cases h
theorem okF_true : ∀ {l : List TF}, (∀ x ∈ l, okT arC (fun _ => true) x) → okF arC (fun _ => true) l := fun h => okF_mem.2 h
theorem tdeeps_max : ∀ {l : List TF} {d : Nat}, (∀ x ∈ l, tdeep x ≤ d) → tdeeps l ≤ d
  | [], d, h => Nat.zero_le _
  | x :: l, d, h => by
    have h1 := h x (by simp)
    have h2 := tdeeps_max (l := l) fun y hy => h y (by simp [hy])
    simp only [tdeeps]; omega
theorem size_leaf {d n : Nat} {s : List UInt8} {k : Int} {t : List UInt8} (hn : n ≤ s.length) (h1 : 1 ≤ n) : sizeF (d + 1) s (leafT k t) n := by
  refine ⟨hn, ?_, h1, ?_, ?_, rfl, trivial⟩
  · simp [leafT, flat, flats]; exact h1
  · simp [leafT, tdeep, tdeeps]
  · rfl
theorem kind_wlen {s : List UInt8} (h : ¬ kindS (s.take (wlen s)) = 0) : 4 ≤ wlen s := by
  have := (kindS_word _ h).2
  rw [List.length_take] at this; omega
theorem stepF_size {val : List UInt8 → Option (TF × Nat)} {d : Nat} (hv : ∀ s x k, val s = some (x, k) → sizeF d s x k) (s : List UInt8) (x : TF) (k : Nat) (h : stepF val s = some (x, k)) : sizeF (d + 1) s x k := by
  have hw := wlen_le s
  have hd : (s.drop (wlen s)).length = s.length - wlen s := List.length_drop ..
  have key : ∀ (r : List UInt8) (kd : Int) (o : Option (List UInt8 × Nat)), r = s.drop (wlen s) → 4 ≤ wlen s → (∀ t m, o = some (t, m) → 1 ≤ m ∧ m ≤ r.length) → moreK val kd (wlen s) r o = some (x, k) → sizeF (d + 1) s x k := by
    intro r kd o hr h4 ho h
    subst hr
    cases o with
    | none => cases h
    | some p =>
      obtain ⟨t, m⟩ := p
      obtain ⟨m1, m2⟩ := ho t m rfl
      simp only [moreK] at h
      split at h
      · split at h
        · rename_i h2
          have h2l := take_len2 h2
          rw [List.length_drop] at h2l
          cases hx : val ((s.drop (wlen s)).drop (m + 2)) with
          | none => rw [hx] at h; cases h
          | some p =>
            obtain ⟨y, a⟩ := p
            rw [hx] at h
            obtain ⟨a1, a2, a3, a4, a5⟩ := hv _ _ _ hx
            rw [List.length_drop, List.length_drop] at a1
            cases h
            refine ⟨by omega, ?_, by omega, ?_, rfl, rfl, a5, trivial⟩
            · simp only [flat, flats, List.length_append, List.length_cons, List.length_nil]; omega
            · simp only [tdeep, tdeeps]; omega
        · split at h
          · cases h; exact size_leaf (by omega) (by omega)
          · cases h
      · cases h; exact size_leaf (by omega) (by omega)
  unfold stepF at h
  dsimp only at h
  split at h
  · rename_i hk
    have := kind_wlen (s := s) (by omega)
    cases h; exact size_leaf hw (by omega)
  · split at h
    · rename_i hk
      have h4 := kind_wlen (s := s) (by omega)
      unfold joinF at h
      split at h
      · rename_i h1
        have h1l := take_len1 h1
        split at h
        · cases h
        · rename_i y a hx
          obtain ⟨a1, a2, a3, a4, a5⟩ := hv _ _ _ hx
          rw [List.length_drop, List.length_drop] at a1
          cases ht : tailF val ((s.drop (wlen s)).length + 1) ((s.drop (wlen s)).drop (1 + a)) with
          | none => rw [ht] at h; cases h
          | some p =>
            obtain ⟨ys, m⟩ := p
            rw [ht] at h
            obtain ⟨b1, b2, b3⟩ := tailF_size hv _ _ _ _ ht
            rw [List.length_drop, List.length_drop] at b1
            cases h
            refine ⟨by omega, ?_, by omega, ?_, ?_, rfl, a5, okF_true fun z hz => (b3 z hz).2⟩
            · simp only [flat, flats, List.length_append, List.length_cons, List.length_nil]; omega
            · have := tdeeps_max fun z hz => (b3 z hz).1
              simp only [tdeep, tdeeps]; omega
            · simp only [arC, List.length_cons]; omega
      · cases h
    · split at h
      · rename_i hk
        exact key _ _ _ rfl (kind_wlen (by omega)) (fun t m => txtS_len) h
      · split at h
        · rename_i hk
          exact key _ _ _ rfl (kind_wlen (by omega)) (fun t m => wrdS_len) h
        · cases h
theorem failT_size : ∀ (d : Nat) (s : List UInt8) (x : TF) (k : Nat), failT d s = some (x, k) → sizeF d s x k
  | 0, _, _, _, h => by cases h
  | d + 1, s, x, k, h => stepF_size (failT_size d) s x k h
theorem tailF_deep {val val' : List UInt8 → Option (TF × Nat)} {d : Nat} (hv : ∀ s x k, val s = some (x, k) → tdeep x ≤ d → val' s = some (x, k)) : ∀ (f : Nat) (l : List UInt8) (xs : List TF) (m : Nat), tailF val f l = some (xs, m) → (∀ x ∈ xs, tdeep x ≤ d) → tailF val' f l = some (xs, m)
  | 0, l, xs, m, h, _ => by cases h
  | f + 1, l, xs, m, h, hd => by
    simp only [tailF] at h ⊢
    split at h
    · rename_i h2
      rw [if_pos h2]
      split at h
      · cases h
      · rename_i x k hx
        obtain ⟨p, hp, he⟩ := Option.map_eq_some_iff.1 h
        obtain ⟨ys, j⟩ := p
        cases he
        rw [hv _ _ _ hx (hd x (by simp))]
        dsimp only
        rw [tailF_deep hv f _ _ _ hp fun y hy => hd y (by simp [hy])]; rfl
    · rename_i h2
      rw [if_neg h2]
      exact h
theorem moreK_deep {val val' : List UInt8 → Option (TF × Nat)} {d : Nat} (hv : ∀ s x k, val s = some (x, k) → tdeep x ≤ d → val' s = some (x, k)) (kd : Int) (n : Nat) (r : List UInt8) (o : Option (List UInt8 × Nat)) (x : TF) (k : Nat) (h : moreK val kd n r o = some (x, k)) (hd : tdeep x ≤ d + 1) : moreK val' kd n r o = some (x, k) := by
  cases o with
  | none => cases h
  | some p =>
    obtain ⟨t, m⟩ := p
    simp only [moreK] at h ⊢
    split at h
    · rename_i hk
      rw [if_pos hk]
      split at h
      · rename_i h2
        rw [if_pos h2]
        cases hx : val (r.drop (m + 2)) with
        | none => rw [hx] at h; cases h
        | some p =>
          obtain ⟨y, a⟩ := p
          rw [hx] at h
          cases h
          simp only [tdeep, tdeeps] at hd
          rw [hv _ _ _ hx (by omega)]; rfl
      · rename_i h2
        rw [if_neg h2]; exact h
    · rename_i hk
      rw [if_neg hk]; exact h
theorem stepF_deep {val val' : List UInt8 → Option (TF × Nat)} {d : Nat} (hv : ∀ s x k, val s = some (x, k) → tdeep x ≤ d → val' s = some (x, k)) (s : List UInt8) (x : TF) (k : Nat) (h : stepF val s = some (x, k)) (hd : tdeep x ≤ d + 1) : stepF val' s = some (x, k) := by
  unfold stepF at h ⊢
  dsimp only at h ⊢
  split at h
  · rename_i hk; rw [if_pos hk]; exact h
  · rename_i hk
    rw [if_neg hk]
    split at h
    · rename_i hk
      rw [if_pos hk]
      unfold joinF at h ⊢
      split at h
      · rename_i h1
        rw [if_pos h1]
        split at h
        · cases h
        · rename_i y a hx
          cases ht : tailF val ((s.drop (wlen s)).length + 1) ((s.drop (wlen s)).drop (1 + a)) with
          | none => rw [ht] at h; cases h
          | some p =>
            obtain ⟨ys, m⟩ := p
            rw [ht] at h
            cases h
            simp only [tdeep, tdeeps] at hd
            rw [hv _ _ _ hx (by omega)]
            dsimp only
            rw [tailF_deep hv _ _ _ _ ht fun z hz => by have := tdeeps_le z hz; omega]; rfl
      · cases h
    · rename_i hk
      rw [if_neg hk]
      split at h
      · rename_i hk
        rw [if_pos hk]
        exact moreK_deep hv _ _ _ _ _ _ h hd
      · rename_i hk
        rw [if_neg hk]
        split at h
        · rename_i hk
          rw [if_pos hk]
          exact moreK_deep hv _ _ _ _ _ _ h hd
        · cases h
theorem failT_deep : ∀ (D d : Nat) (s : List UInt8) (x : TF) (k : Nat), failT D s = some (x, k) → tdeep x ≤ d → failT d s = some (x, k)
  | 0, _, _, _, _, h, _ => by cases h
  | D + 1, 0, s, x, k, h, hd => by have := tdeep_pos x; omega
  | D + 1, d + 1, s, x, k, h, hd => stepF_deep (failT_deep D d) s x k h hd
end Go.Eng
