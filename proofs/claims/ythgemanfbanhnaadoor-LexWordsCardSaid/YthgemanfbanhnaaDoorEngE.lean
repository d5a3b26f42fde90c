/- What local operations come to: one lemma an operation. -/
import Derived.Test.YthgemanfbanhnaaDoorEngD
namespace Go.Eng
open Go.RowKit (Below)
variable {X : Ctx} {g : Nat → A}

theorem run_val {P : Program} {s : Sem Value} {v : Value} {w w' : World} (h : s.run P w = .ok v w') : (do pure (Next.value (← s)) : Sem Next).run P w = .ok (.value v) w' := by
  simp only [Sem.run_bind, h, Result.andThen_ok, Sem.run_pure]

/-! move, assign, pick -/
theorem good_move {o : Oper} {x : Operand} (ho : o.op = .move x ∨ o.op = .assign x) (hp : rdp X g x) : Good X g o (rd X g x) :=
  Good.of_run fun tmps ds w c hG hf => ⟨Act.eval ⟨tmps, ds⟩ x, by unfold execOp; rcases ho with ho | ho <;> simp only [ho] <;> rfl, rd_rep hG hf x hp⟩

theorem good_nil {o : Oper} {e : TypeId} {sz b : Nat} {z : Value} (ho : o.op = .assign (.const (.slice none 0 0)) ∨ o.op = .move (.const (.slice none 0 0))) (_ht : sliOf X.P o.type = some (e, sz, b, z)) : Good X g o (.t (.own e sz [])) :=
  Good.of_run fun tmps ds w c hG hf => ⟨.slice none 0 0, by unfold execOp; rcases ho with ho | ho <;> simp only [ho] <;> rfl, .ownnil _ _ _ (fun _ => rfl)⟩

/-- One of two. -/
def pickT (c : Bool) : T → T → T
  | .v (.bool a), .v (.bool b) => .v (.bool (if c then a else b))
  | .v (.int k a), .v (.int _ b) => .v (.int k (if c then a else b))
  | .v a, .v b => .v (if c then a else b)
  | _, _ => .u
def pickOk (c : Bool) (a b : A) : Prop :=
  (c = true → a.ob) ∧ (c = false → b.ob) ∧ match a.un, b.un with
    | .t (.v (.int k _)), .t (.v (.int k' _)) => k = k'
    | .t (.v _), .t (.v _) => True
    | _, _ => False
def pickA (c : Bool) (a b : A) : A :=
  match a.un, b.un with
  | .t x, .t y => .t (pickT c x y)
  | _, _ => .t .u

theorem un_rep {w : World} {F : Nat → Prop} {tmps : Array Value} {a : A} {x : Value} (h : ARep w F g tmps a x (fun _ => 0)) (ho : a.ob) : ARep w F g tmps a.un x (fun _ => 0) := by
  cases a with
  | opt q a => exact h.2.1 ho
  | _ => exact h

theorem good_pick {o : Oper} {q x y : Operand} {c : Bool} (ho : o.op = .pick q x y) (hq : rdp X g q) (hc : rd X g q = .t (.v (.bool c))) (hp : pickOk c (ev X g x) (ev X g y)) : Good X g o (pickA c (ev X g x) (ev X g y)) :=
  Good.of_run fun tmps ds w cn hG hf => by
    have eq := rd_v (ds := ds) hG hf hq hc
    obtain ⟨h1, h2, h3⟩ := hp
    have rx := ev_rep (ds := ds) hG hf x
    have ry := ev_rep (ds := ds) hG hf y
    refine ⟨if c then Act.eval ⟨tmps, ds⟩ x else Act.eval ⟨tmps, ds⟩ y, by unfold execOp; simp only [ho, eq, asBool]; cases c <;> rfl, ?_⟩
    unfold pickA
    split at h3
    · rename_i k a k' b ea eb
      subst h3
      simp only [ea, eb, pickT]
      cases c with
      | true => have := un_rep rx (h1 rfl); rw [ea] at this; simp only [if_true]; rw [TRep.of_v this]; exact .v _ _ (fun _ => rfl)
      | false => have := un_rep ry (h2 rfl); rw [eb] at this; simp only [Bool.false_eq_true, if_false]; rw [TRep.of_v this]; exact .v _ _ (fun _ => rfl)
    · rename_i a b _ ea eb
      simp only [ea, eb]
      have key : (pickT c (.v a) (.v b)) = .v (if c then a else b) ∨ (∃ k m k' m', a = .int k m ∧ b = .int k' m') := by
        unfold pickT
        split
        · rename_i e1 e2; cases e1; cases e2; left; cases c <;> rfl
        · rename_i e1 e2; cases e1; cases e2; right; exact ⟨_, _, _, _, rfl, rfl⟩
        · rename_i e1 e2; cases e1; cases e2; left; rfl
        · rename_i hn; exact absurd rfl (hn _ _ rfl)
      rcases key with key | ⟨k, m, k', m', rfl, rfl⟩
      · rw [key]
        cases c with
        | true => have := un_rep rx (h1 rfl); rw [ea] at this; simp only [if_true]; rw [TRep.of_v this]; exact .v _ _ (fun _ => rfl)
        | false => have := un_rep ry (h2 rfl); rw [eb] at this; simp only [Bool.false_eq_true, if_false]; rw [TRep.of_v this]; exact .v _ _ (fun _ => rfl)
      · rename_i hn; exact absurd eb (by first | exact hn _ _ _ _ ea | (intro _; exact hn _ _ _ _ rfl rfl))
    · exact h3.elim

/-! numbers -/
theorem good_bin {o : Oper} {op : BinOp} {t ty : TypeId} {x y : Operand} {a b : Value} (ho : o.op = .binOp op t x y ty) (hx : rdp X g x) (hy : rdp X g y) (ex : rd X g x = .t (.v a)) (ey : rd X g y = .t (.v b)) (hk : binOk X.P t op a b) :
    Good X g o (.t (.v (binV op a b))) :=
  Good.of_run fun tmps ds w c hG hf => ⟨binV op a b, by
    unfold execOp; simp only [ho]
    rw [rd_v (ds := ds) hG hf hx ex, rd_v (ds := ds) hG hf hy ey]
    exact run_val (run_bin hk w x y), .v _ _ (fun _ => rfl)⟩

def unV : UnOp → Value → Value
  | .neg, .int k n => .int k (k.wrap (0 - n))
  | .not, .bool b => .bool !b
  | .xor, .int k n => .int k (k.wrap (BitVec.ofInt k.bits (if k.signed then -1 else k.max) ^^^ BitVec.ofInt k.bits n).toNat)
  | _, _ => undef
def unOk : UnOp → Value → Prop
  | .neg, .int _ _ | .not, .bool _ | .xor, .int _ _ => True
  | _, _ => False
theorem good_un {o : Oper} {op : UnOp} {t : TypeId} {x : Operand} {a : Value} (ho : o.op = .unOp op t x) (hx : rdp X g x) (ex : rd X g x = .t (.v a)) (hk : unOk op a) : Good X g o (.t (.v (unV op a))) :=
  Good.of_run fun tmps ds w c hG hf => ⟨unV op a, by
    unfold execOp; simp only [ho]
    rw [rd_v (ds := ds) hG hf hx ex]
    refine run_val ?_
    cases op <;> cases a <;> first | exact False.elim hk | rfl, .v _ _ (fun _ => rfl)⟩

/-! conversions of numbers; of texts to texts -/
theorem good_conv_int {o : Oper} {s d : TypeId} {x : Operand} {k k' : IntKind} {n : Int} {ds' : TypeDesc} (ho : o.op = .convert s d x) (hx : rdp X g x) (ex : rd X g x = .t (.v (.int k n))) (hs : X.P.underlying s = some ds') (hd : X.P.underlying d = some (.int k')) :
    Good X g o (.t (.v (.int k' (k'.wrap n)))) :=
  Good.of_run fun tmps ds w c hG hf => ⟨.int k' (k'.wrap n), by
    unfold execOp; simp only [ho]
    rw [rd_v (ds := ds) hG hf hx ex]
    refine run_val ?_
    simp only [convert, Sem.run_bind, run_underlying hs, run_underlying hd, Result.andThen_ok]
    rfl, .v _ _ (fun _ => rfl)⟩
theorem good_conv_str {o : Oper} {s d : TypeId} {x : Operand} {a : ByteArray} (ho : o.op = .convert s d x) (hx : rdp X g x) (ex : rd X g x = .t (.v (.string a))) (hs : X.P.underlying s = some .string) (hd : X.P.underlying d = some .string) :
    Good X g o (.t (.v (.string a))) :=
  Good.of_run fun tmps ds w c hG hf => ⟨.string a, by
    unfold execOp; simp only [ho]
    rw [rd_v (ds := ds) hG hf hx ex]
    refine run_val ?_
    simp only [convert, Sem.run_bind, run_underlying hs, run_underlying hd, Result.andThen_ok]
    rfl, .v _ _ (fun _ => rfl)⟩

/-! texts -/
theorem good_index_str {o : Oper} {t : TypeId} {x i : Operand} {s : ByteArray} {k : IntKind} {n : Int} (ho : o.op = .index t x i) (hx : rdp X g x) (hi : rdp X g i) (ex : rd X g x = .t (.v (.string s))) (ei : rd X g i = .t (.v (.int k n)))
    (ht : X.P.underlying t = some .string) (h0 : 0 ≤ n) (h1 : n < ((bl s).length : Int)) : Good X g o (.t (.v (.int .u8 ((bl s).getD n.toNat 0).toNat))) :=
  Good.of_run fun tmps ds w c hG hf => ⟨.int .u8 ((bl s).getD n.toNat 0).toNat, by
    unfold execOp; simp only [ho]
    rw [rd_v (ds := ds) hG hf hx ex, rd_v (ds := ds) hG hf hi ei]
    refine run_val ?_
    have hs : n.toNat < s.size := by rw [length_bl] at h1; omega
    have hg : s[n.toNat]? = some ((bl s).getD n.toNat 0) := by
      rw [getElem?_pos s n.toNat hs]
      congr 1
      simp only [bl, List.getD_eq_getElem?_getD]
      rw [List.getElem?_eq_getElem (by simpa using hs)]
      rfl
    simp only [Instr.index, asIntOf, Sem.run_bind, Sem.run_pure, Result.andThen_ok, run_underlying ht, if_pos h0, hg], .v _ _ (fun _ => rfl)⟩

end Go.Eng
