/- Regions whose order the language leaves open: the rule. -/
import Derived.Test.YthgemanfbanhnaaDoorEngS
namespace Go.Eng
open Go.RowKit (Below)
set_option linter.unusedVariables false
set_option linter.unusedSimpArgs false
variable {X : Ctx} {n : Nat} {Z : List Nat} {Q : Exit → St → Prop} {st : St}

theorem count_set : ∀ (l : List Bool) (i : Nat), l[i]? = some false → (l.set i true).count false + 1 = l.count false
  | [], i, h => by simp at h
  | b :: l, 0, h => by simp at h; subst h; simp
  | b :: l, i + 1, h => by
    have := count_set l i (by simpa using h)
    simp only [List.set_cons_succ, List.count_cons]
    omega

def Lst (listed : Array Bool) (k : Nat) : Prop := listed.getD k false = true
theorem lst_lt {listed : Array Bool} {k : Nat} (h : Lst listed k) : k < listed.size := by
  rcases Nat.lt_or_ge k listed.size with e | e
  · exact e
  · simp [Lst, e] at h
theorem not_lst {listed : Array Bool} {k : Nat} (hk : k < listed.size) : ¬ Lst listed k ↔ listed.getD k true = false := by
  simp [Lst, hk]
theorem lst_set {listed : Array Bool} {i j : Nat} (hi : i < listed.size) : Lst (listed.setIfInBounds i true) j ↔ Lst listed j ∨ j = i := by
  by_cases h : i = j
  · subst h; simp [Lst, hi]
  · unfold Lst
    rw [getD_set_ne false h]
    constructor
    · exact .inl
    · rintro (e | e)
      · exact e
      · exact absurd e.symm h

def Closed (ops : List Oper) (listed : Array Bool) : Prop := ∀ (j : Nat) (o : Oper), ops[j]? = some o → Lst listed j → ∀ i ∈ bindOn o, Lst listed i

theorem bindOn_mem {o : Oper} {i : Nat} : i ∈ bindOn o ↔ ∃ e ∈ o.after, Region.binds .any e = true ∧ e.on = i := by
  unfold bindOn
  simp only [List.mem_map, List.mem_filter, Array.mem_toList_iff]
  constructor
  · rintro ⟨e, ⟨h1, h2⟩, h3⟩; exact ⟨e, h1, h2, h3⟩
  · rintro ⟨e, h1, h2, h3⟩; exact ⟨e, ⟨h1, h2⟩, h3⟩

theorem ready_iff {ops : List Oper} {listed : Array Bool} {k : Nat} (hs : listed.size = ops.length) : k ∈ Region.ready .any ops.toArray listed ↔ ∃ o, ops[k]? = some o ∧ ¬ Lst listed k ∧ ∀ i ∈ bindOn o, Lst listed i := by
  rw [mem_ready]
  constructor
  · rintro ⟨h1, o, h2, h3⟩
    rw [List.getElem?_toArray] at h2
    have hk : k < listed.size := by rw [hs]; exact (List.getElem?_eq_some_iff.1 h2).1
    refine ⟨o, h2, (not_lst hk).2 h1, fun i hi => ?_⟩
    obtain ⟨e, e1, e2, rfl⟩ := bindOn_mem.1 hi
    exact h3 e e1 e2
  · rintro ⟨o, h2, h1, h3⟩
    have hk : k < listed.size := by rw [hs]; exact (List.getElem?_eq_some_iff.1 h2).1
    exact ⟨(not_lst hk).1 h1, o, by rw [List.getElem?_toArray]; exact h2, fun e e1 e2 => h3 _ (bindOn_mem.2 ⟨e, e1, e2, rfl⟩)⟩

theorem ancOk_spec {ops : List Oper} {tab : List (List Nat)} (h : ancOk ops tab = true) {k : Nat} {o : Oper} (hk : ops[k]? = some o) : (∀ i ∈ bindOn o, i < k) ∧ ∀ j ∈ tab.getD k [], j ∈ bindOn o ∨ ∃ i ∈ bindOn o, j ∈ tab.getD i [] := by
  simp only [ancOk, List.all_eq_true, List.mem_range] at h
  have := h k (List.getElem?_eq_some_iff.1 hk).1
  rw [hk] at this
  simp only [Bool.and_eq_true, List.all_eq_true, decide_eq_true_eq, Bool.or_eq_true, List.contains_iff_mem, List.any_eq_true] at this
  exact this

theorem anc_listed {ops : List Oper} {tab : List (List Nat)} {listed : Array Bool} (h : ancOk ops tab = true) (hc : Closed ops listed) : ∀ (k : Nat) (o : Oper), ops[k]? = some o → (∀ i ∈ bindOn o, Lst listed i) → ∀ j ∈ tab.getD k [], Lst listed j := by
  intro k
  induction k using Nat.strongRecOn with
  | ind k ih =>
    intro o hk hd j hj
    obtain ⟨h1, h2⟩ := ancOk_spec h hk
    rcases h2 j hj with e | ⟨i, hi, hj'⟩
    · exact hd j e
    · have hik := h1 i hi
      have hil : i < ops.length := Nat.lt_trans hik (List.getElem?_eq_some_iff.1 hk).1
      exact ih i hik ops[i] (List.getElem?_eq_getElem hil) (hc i _ (List.getElem?_eq_getElem hil) (hd i hi)) j hj'

theorem ready_ne {ops : List Oper} {tab : List (List Nat)} {listed : Array Bool} (hs : listed.size = ops.length) (h : ancOk ops tab = true) (hr : Region.ready .any ops.toArray listed = []) : ∀ k, k < ops.length → Lst listed k := by
  intro k
  induction k using Nat.strongRecOn with
  | ind k ih =>
    intro hk
    refine Classical.byContradiction fun hn => ?_
    have : k ∈ Region.ready .any ops.toArray listed := (ready_iff hs).2 ⟨ops[k], List.getElem?_eq_getElem hk, hn, fun i hi => by
      have := (ancOk_spec h (List.getElem?_eq_getElem hk)).1 i hi
      exact ih i this (by omega)⟩
    rw [hr] at this; cases this

theorem closed_set {ops : List Oper} {listed : Array Bool} (hc : Closed ops listed) {k : Nat} {o : Oper} (hk : ops[k]? = some o) (hlt : k < listed.size) (hd : ∀ i ∈ bindOn o, Lst listed i) : Closed ops (listed.setIfInBounds k true) := by
  intro j o' hj hl i hi
  rw [lst_set hlt] at hl ⊢
  rcases hl with h | h
  · exact .inl (hc j o' hj h i hi)
  · subst h; rw [hk] at hj; cases hj; exact .inl (hd i hi)

theorem count_step {listed : Array Bool} {k : Nat} (hk : k < listed.size) (hn : ¬ Lst listed k) : (listed.setIfInBounds k true).toList.count false + 1 = listed.toList.count false := by
  rw [Array.toList_setIfInBounds]
  refine count_set _ _ ?_
  rw [Array.getElem?_toList, Array.getElem?_eq_getElem hk]
  simp [Lst, hk] at hn
  rw [hn]

variable {D : Nat → Prop} {gc : Cnt} {v0 : Nat → Value} {w0 : World} {ds : List Deferred} {Qp : Exit → Act → World → Prop} {K : St → Prop}

/-- The operations that must come last, each behind all others. -/
theorem tail_sound {all loc : List Oper} {tab : List (List Nat)} (htab : ancOk all tab = true) (htl : ∀ k, loc.length ≤ k → k < all.length → ∀ j, j < k → j ∈ tab.getD k []) (hQ : ∀ st' tmps' w', K st' → Inv X n Z D gc v0 w0 (stG n st') tmps' w' → Qp .normal ⟨tmps', ds⟩ w') :
    ∀ (rest pre : List Oper) (st : St), all = pre ++ rest → loc.length ≤ pre.length → RegP X n Z all rest st K → ∀ (fuel : Nat) (listed : Array Bool) (tmps : Array Value) (w : World), listed.size = all.length → Closed all listed → (∀ k, Lst listed k ↔ k < pre.length) → listed.toList.count false ≤ fuel →
      Inv X n Z D gc v0 w0 (stG n st) tmps w → wpAny X.P .any all.toArray Qp fuel listed ⟨tmps, ds⟩ w
  | [], pre, st, hall, hle, h, fuel, listed, tmps, w, hs, hc, hl, hf, hI => by
    refine wpAny_done ?_ (hQ st tmps w h hI) fuel
    cases hr : Region.ready .any all.toArray listed with
    | nil => rfl
    | cons k r =>
      obtain ⟨o, h1, h2, _⟩ := (ready_iff hs).1 (by rw [hr]; exact List.mem_cons_self : k ∈ Region.ready .any all.toArray listed)
      exact absurd ((hl k).2 (by have := (List.getElem?_eq_some_iff.1 h1).1; rw [hall] at this; simpa using this)) h2
  | o :: rest, pre, st, hall, hle, h, fuel, listed, tmps, w, hs, hc, hl, hf, hI => by
    have hko : all[pre.length]? = some o := by rw [hall, List.getElem?_append_right (Nat.le_refl _)]; simp
    have hklt : pre.length < all.length := (List.getElem?_eq_some_iff.1 hko).1
    have hnl : ¬ Lst listed pre.length := fun e => by have := (hl _).1 e; omega
    have hcs := count_step (by rw [hs]; exact hklt) hnl
    have hpr : ∀ i ∈ bindOn o, Lst listed i := fun i hi => (hl i).2 ((ancOk_spec htab hko).1 i hi)
    cases fuel with
    | zero => omega
    | succ f =>
      refine ⟨fun h0 => absurd (ready_ne hs htab h0 _ hklt) hnl, fun i hi => ?_⟩
      obtain ⟨o', h1, h2, h3⟩ := (ready_iff hs).1 hi
      have hik : i = pre.length := by
        rcases Nat.lt_trichotomy i pre.length with e | e | e
        · exact absurd ((hl i).2 e) h2
        · exact e
        · exact absurd (anc_listed htab hc i o' h1 h3 pre.length (htl i (by omega) (List.getElem?_eq_some_iff.1 h1).1 _ e)) hnl
      subst hik
      obtain ⟨st', k1, k2⟩ := h
      have ih := tail_sound htab htl hQ rest (pre ++ [o]) st' (by rw [hall]; simp) (by simp; omega) k2 f (listed.setIfInBounds pre.length true)
      have := k1 D gc v0 w0 tmps ds w hI (wpAny X.P .any all.toArray Qp f (listed.setIfInBounds pre.length true)) Qp (fun tmps' w' hI' => ih tmps' w' (by simpa using hs) (closed_set hc hko (by rw [hs]; exact hklt) hpr) (fun k => by
        rw [lst_set (by rw [hs]; exact hklt), hl]; simp; omega) (by omega) hI')
      unfold wpOp
      rw [List.getElem?_toArray, hko]
      simp only
      split
      · rename_i hw; rw [if_pos hw] at this; exact .inl this
      · rename_i hw; rw [if_neg hw] at this; exact this

def hideOk2 (all loc : List Oper) (tab hd : List (List Nat)) : Bool :=
  decide (dstsOf loc).Nodup && (List.range loc.length).all fun k => (List.range loc.length).all fun j => j == k || (tab.getD k []).contains j && decide (j < k) || (tab.getD j []).contains k && decide (k < j) || (match (loc[j]?).bind (·.dst) with | some d => (hd.getD k []).contains d | none => false)
def tailOk (all loc : List Oper) (tab : List (List Nat)) : Bool := (List.range all.length).all fun k => decide (k < loc.length) || (List.range k).all fun j => (tab.getD k []).contains j
def drawOk (loc tail : List Oper) (tab hd : List (List Nat)) : Bool := ancOk (loc ++ tail) tab && (hideOk2 (loc ++ tail) loc tab hd && tailOk (loc ++ tail) loc tab)

instance (listed : Array Bool) (k : Nat) : Decidable (Lst listed k) := inferInstanceAs (Decidable (_ = _))

theorem loc_sound {all loc tail : List Oper} {tab hd : List (List Nat)} (hall : all = loc ++ tail) (htab : ancOk all tab = true) (hhd : hideOk2 all loc tab hd = true) (htl : ∀ k, loc.length ≤ k → k < all.length → ∀ j, j < k → j ∈ tab.getD k [])
    (hQ : ∀ st' tmps' w', K st' → Inv X n Z D gc v0 w0 (stG n st') tmps' w' → Qp .normal ⟨tmps', ds⟩ w') {sts : Nat → St} {bs : Nat → A} (hn : (sts 0).find n = none) (hK : RegP X n Z all tail (sts loc.length) K)
    (hst : ∀ k o, loc[k]? = some o → ∃ d, o.dst = some d ∧ dstOk n Z (sts k) d ∧ bs k ≠ .ghost ∧ LG X all (stG n ((sts k).hide (hd.getD k []))) o (bs k) ∧ sts (k + 1) = (sts k).put d (bs k)) :
    ∀ (fuel : Nat) (listed : Array Bool) (tmps : Array Value) (w : World), listed.size = all.length → Closed all listed → (∀ k, Lst listed k → k < loc.length) → listed.toList.count false ≤ fuel →
      Inv X n Z D gc v0 w0 (mixG loc bs (Lst listed) (stG n (sts 0))) tmps w → wpAny X.P .any all.toArray Qp fuel listed ⟨tmps, ds⟩ w := by
  simp only [hideOk2, Bool.and_eq_true, decide_eq_true_eq, List.all_eq_true, List.mem_range, Bool.or_eq_true, beq_iff_eq, List.contains_iff_mem] at hhd
  obtain ⟨hnd, hhd⟩ := hhd
  have htext := text_mix (n := n) (bs := bs) (sts := sts) hnd (fun k o hk => by obtain ⟨d, h1, _, _, _, h2⟩ := hst k o hk; exact ⟨d, h1, h2⟩)
  have hdn : ∀ (k : Nat) (o : Oper) (d : Nat), loc[k]? = some o → o.dst = some d → d < n := fun k o d hk hd' => by
    obtain ⟨d', h1, h2, _⟩ := hst k o hk
    rw [hd'] at h1; cases h1; exact h2.1
  have hnone : ∀ k, k ≤ loc.length → (sts k).find n = none := by
    intro k
    induction k with
    | zero => exact fun _ => hn
    | succ k ih =>
      intro hk
      obtain ⟨d, h1, h2, _, _, h3⟩ := hst k loc[k] (List.getElem?_eq_getElem hk)
      rw [h3, find_put, if_neg (by have := h2.1; omega)]
      exact ih (by omega)
  have hwn : which loc n = none := by
    cases hw : which loc n with
    | none => rfl
    | some k => obtain ⟨o, h1, h2⟩ := which_some hw; exact absurd (hdn k o n h1 h2) (by omega)
  have hg0n : stG n (sts 0) n = .ghost := by unfold stG; rw [hn]; simp
  intro fuel
  induction fuel with
  | zero =>
    intro listed tmps w hs hc hlt hf hI
    have hallL : ∀ k, k < all.length → Lst listed k := fun k hk => Classical.byContradiction fun h => by
      have := count_step (by rw [hs]; exact hk) h
      omega
    have htn : tail = [] := by
      cases tail with
      | nil => rfl
      | cons o t => have := hlt loc.length (hallL _ (by rw [hall]; simp)); omega
    refine tail_sound htab htl hQ tail loc (sts loc.length) hall (Nat.le_refl _) hK 0 listed tmps w hs hc (fun k => ⟨hlt k, fun h => hallL k (by rw [hall]; simp; omega)⟩) hf ?_
    rw [htext loc.length (Nat.le_refl _)]
    have : mixG loc bs (Lst listed) (stG n (sts 0)) = mixG loc bs (· < loc.length) (stG n (sts 0)) := by
      funext i
      unfold mixG
      cases hw : which loc i with
      | none => rfl
      | some k =>
        obtain ⟨o, h1, _⟩ := which_some hw
        have hk := (List.getElem?_eq_some_iff.1 h1).1
        simp only
        rw [if_pos hk, if_pos (hallL k (by rw [hall]; simp; omega))]
    rw [← this]; exact hI
  | succ f ih =>
    intro listed tmps w hs hc hlt hf hI
    by_cases hfull : ∀ k, k < loc.length → Lst listed k
    · refine tail_sound htab htl hQ tail loc (sts loc.length) hall (Nat.le_refl _) hK _ listed tmps w hs hc (fun k => ⟨hlt k, fun h => hfull k h⟩) hf ?_
      rw [htext loc.length (Nat.le_refl _)]
      have : mixG loc bs (Lst listed) (stG n (sts 0)) = mixG loc bs (· < loc.length) (stG n (sts 0)) := by
        funext i
        unfold mixG
        cases hw : which loc i with
        | none => rfl
        | some k =>
          obtain ⟨o, h1, _⟩ := which_some hw
          have hk := (List.getElem?_eq_some_iff.1 h1).1
          simp only
          rw [if_pos hk, if_pos (hfull k hk)]
      rw [← this]; exact hI
    · refine ⟨fun h0 => absurd (fun k hk => ready_ne hs htab h0 k (by rw [hall]; simp; omega)) hfull, fun k hk => ?_⟩
      obtain ⟨o, h1, h2, h3⟩ := (ready_iff hs).1 hk
      have hkall := (List.getElem?_eq_some_iff.1 h1).1
      have hkl : k < loc.length := by
        refine Classical.byContradiction fun hge => hfull fun j hj => ?_
        exact anc_listed htab hc k o h1 h3 j (htl k (by omega) hkall j (by omega))
      have hko : loc[k]? = some o := by rw [hall, List.getElem?_append_left hkl] at h1; exact h1
      obtain ⟨d, e1, e2, e3, e4, e5⟩ := hst k o hko
      have hanc := anc_listed htab hc k o h1 h3
      -- what the operation sees
      have hhid : Hid n (stG n ((sts k).hide (hd.getD k []))) (mixG loc bs (Lst listed) (stG n (sts 0))) := by
        refine hid_of (hnone k (by omega)) (by unfold mixG; rw [hwn]; exact hg0n) (fun i hi => ?_)
        rw [htext k (by omega)]
        unfold mixG
        cases hw : which loc i with
        | none => rfl
        | some j =>
          simp only
          obtain ⟨oj, q1, q2⟩ := which_some hw
          have hjl := (List.getElem?_eq_some_iff.1 q1).1
          have hcase := hhd k hkl j hjl
          rw [q1] at hcase
          simp only [Option.bind_some, q2] at hcase
          rcases hcase with ((hh | hh) | hh) | hh
          · subst hh; rw [if_neg (by omega), if_neg h2]
          · rw [if_pos hh.2, if_pos (hanc j hh.1)]
          · have hnj : ¬ Lst listed j := fun hl => by
              have hja : all[j]? = some oj := by rw [hall, List.getElem?_append_left hjl]; exact q1
              exact h2 (anc_listed htab hc j oj hja (hc j oj hja hl) k hh.1)
            rw [if_neg (by omega), if_neg hnj]
          · rw [hh] at hi; cases hi
      have hown : (mixG loc bs (Lst listed) (stG n (sts 0)) d).owner = false := by
        have hw := which_of hnd hko e1
        have e22 := e2.2.2
        rw [htext k (by omega)] at e22
        unfold mixG at e22 ⊢
        rw [hw] at e22 ⊢
        simp only at e22 ⊢
        rw [if_neg h2]
        rw [if_neg (by omega)] at e22
        exact e22
      obtain ⟨c, hfr, hbd⟩ := hI.frm
      have hlg := e4.hide hhid tmps ds w c hI.glob hfr (wpAny X.P .any all.toArray Qp f (listed.setIfInBounds k true)) Qp (fun v w' hw hr => by
        rw [e1]
        refine ih (listed.setIfInBounds k true) _ w' (by simpa using hs) (closed_set hc h1 (by rw [hs]; exact hkall) h3) (fun j hj => ?_) ?_ ?_
        · rw [lst_set (by rw [hs]; exact hkall)] at hj
          rcases hj with hj | hj
          · exact hlt j hj
          · omega
        · have := count_step (by rw [hs]; exact hkall) h2; omega
        · rw [mix_put (S := Lst listed) (k := k) hnd hko e1 (fun j => lst_set (by rw [hs]; exact hkall))]
          exact hI.put ⟨e2.1, e2.2.1⟩ hown hw hfr hbd e3 hr)
      unfold wpOp
      rw [List.getElem?_toArray, h1]
      simp only
      split
      · rename_i hw; rw [if_pos hw] at hlg; exact .inl hlg
      · rename_i hw; rw [if_neg hw] at hlg; exact hlg

theorem lst_repl (m k : Nat) : ¬ Lst (Array.replicate m false) k := by
  intro h
  have hk := lst_lt h
  rw [Array.size_replicate] at hk
  simp [Lst, hk] at h

theorem Inv.drawn {g : Nat → A} {tmps : Array Value} {w : World} (h : Inv X n Z D gc v0 w0 g tmps w) (k : Nat) : Inv X n Z D gc v0 w0 g tmps { w with drawn := k } := by
  obtain ⟨c, hf, hb⟩ := h.frm
  refine ⟨h.size, h.fix, h.os, h.tape, h.output, h.kept, h.grow, X.hG w _ (fun _ _ => rfl) (Nat.le_refl _) h.glob, h.hD, h.base, c, ⟨fun i => ?_, hf.one, hf.uniq, hf.low⟩, hb⟩
  refine ARep.mono (hf.rep i) (fun b _ h => ⟨h, rfl⟩) (Nat.le_refl _) (fun _ _ => rfl) (fun r t hr ho => ⟨hr, rfl, fun b => ∀ j, c j b = 0, c r, ?_, fun _ _ => rfl⟩)
  have := hf.rep r
  rw [hr] at this
  exact this

/-- A REGION WHOSE ORDER IS OPEN. -/
theorem AW_drawS {id : Nat} {ops : Array Oper} (loc tail : List Oper) (tab hd : List (List Nat)) (hops : ops.toList = loc ++ tail) (hm : X.P.follows .mixedOrders = true) (hok : drawOk loc tail tab hd = true)
    (hn : st.find n = none) {sts : Nat → St} {bs : Nat → A} (q1 : sts 0 = st) (q2 : RegP X n Z (loc ++ tail) tail (sts loc.length) (Q .normal))
    (q3 : ∀ k o, loc[k]? = some o → ∃ d, o.dst = some d ∧ dstOk n Z (sts k) d ∧ bs k ≠ .ghost ∧ LG X (loc ++ tail) (stG n ((sts k).hide (hd.getD k []))) o (bs k) ∧ sts (k + 1) = (sts k).put d (bs k)) : AW X n Z (.region id ops true) st Q := by
  intro D gc v0 w0 tmps w hI
  refine wp_region_any hm ?_
  simp only [drawOk, Bool.and_eq_true] at hok
  obtain ⟨o1, o2, o3⟩ := hok
  have hI2 := hI.drawn (w.drawn + 1)
  have hoa : ops = (loc ++ tail).toArray := by rw [← hops]
  subst hoa
  simp only [tailOk, List.all_eq_true, List.mem_range, Bool.or_eq_true, decide_eq_true_eq, List.contains_iff_mem] at o3
  refine loc_sound (K := Q .normal) rfl o1 o2 (fun k h1 h2 j hj => ?_) (fun st' tmps' w' hK hI' => ⟨rfl, st', hK, hI'⟩) (by rw [q1]; exact hn) q2 q3 _ _ tmps _ (by simp) (fun j o hj hl => ?_) (fun k hl => ?_) (by simp) ?_
  · rcases o3 k h2 with e | e
    · omega
    · exact e j hj
  · exact absurd hl (lst_repl _ _)
  · exact absurd hl (lst_repl _ _)
  · have : mixG loc bs (Lst (Array.replicate (loc ++ tail).toArray.size false)) (stG n (sts 0)) = stG n st := by
      funext i
      unfold mixG
      cases which loc i with
      | none => rw [q1]
      | some k =>
        simp only
        rw [if_neg (lst_repl _ _), q1]
    rw [this]; exact hI2
theorem AW_draw {id : Nat} {ops : Array Oper} (loc tail : List Oper) (tab hd : List (List Nat)) (hops : ops.toList = loc ++ tail) (hm : X.P.follows .mixedOrders = true) (hok : drawOk loc tail tab hd = true)
    (h : st.find n = none ∧ drawGo X n Z (loc ++ tail) hd loc st fun s => regC X n Z (loc ++ tail) tail s (Q .normal)) : AW X n Z (.region id ops true) st Q := by
  obtain ⟨hn, h⟩ := h
  obtain ⟨sts, bs, q1, q2, q3⟩ := drawGo_spec _ _ _ h
  exact AW_drawS loc tail tab hd hops hm hok hn q1 (regC_P _ _ q2) q3

end Go.Eng
