/- From the machine's answers to the call. -/
import Derived.Test.YthgemanfbanhnaaDoorDvM
namespace Go.Eng
open Go.RowKit (Below)
set_option linter.unusedVariables false
set_option linter.unusedSimpArgs false
variable {X : Ctx} {Y : DX} {E : Env} {F : FnD} {ρ : Type} {r : ρ}

/-- What is still to come. -/
def Qf (X : Ctx) (n : Nat) (Q : Exit → St → Prop) : List Fr → Exit → St → Prop
  | [] => Q
  | .seq b :: fs => thenC (fun s => AW X n [] b s (Qf X n Q fs)) (Qf X n Q fs)
  | .block id :: fs => blockC id (Qf X n Q fs)
  | .loop c :: fs => loopQ X n [] c (Qf X n Q fs)
theorem Qf_ret {n : Nat} {Q : Exit → St → Prop} {s : St} (h : Q .ret s) : ∀ fs, Qf X n Q fs .ret s
  | [] => h
  | .seq b :: fs => Qf_ret h fs
  | .block id :: fs => Qf_ret h fs
  | .loop c :: fs => Qf_ret h fs
def Claim (X : Ctx) (n : Nat) (Q : Exit → St → Prop) : Tk → DSt → Prop
  | .code c fs, st => AW X n [] c st.toSt (Qf X n Q fs)
  | .norm fs, st => Qf X n Q fs .normal st.toSt
  | .exit id fs, st => Qf X n Q fs (.exit id) st.toSt

abbrev Pos := List (Nat × List Fr × Array Oper × Bool)
def CovC (S : Pos) (c : Code) (fs : List Fr) : Prop := ∀ p ∈ subsC c fs, p ∈ S
def CovF (S : Pos) : List Fr → Prop
  | [] => True
  | .seq b :: fs => CovC S b fs ∧ CovF S fs
  | .block _ :: fs => CovF S fs
  | .loop c :: fs => CovC S c (.loop c :: fs) ∧ CovF S fs
def CovT (S : Pos) : Tk → Prop
  | .code c fs => CovC S c fs ∧ CovF S fs
  | .norm fs => CovF S fs
  | .exit _ fs => CovF S fs

/-- The end. -/
def EndQ (X : Ctx) (F : FnD) (ok : List DT → Prop) (ex : Exit) (s : St) : Prop := (ex = .normal ∨ ex = .ret) ∧ ∃ (s' : DSt) (xs : List DT), GhostTo X F.n [] s s'.toSt ∧ noGhost F.n s'.toSt ∧ slotsOk F.n s'.toSt F.rs (xs.map DT.toT) ∧ (∀ t ∈ xs.map DT.toT, ∀ cs, t ≠ .tup cs) ∧ ok xs

theorem keys_put {n : Nat} (a : DA) (k : Nat) (hk : k < n) : ∀ {st : DSt}, keysOk n st = true → keysOk n (st.put k a) = true
  | [], _ => by simp [DSt.put, keysOk, hk]
  | (i, x) :: r, h => by
    simp only [keysOk, Bool.and_eq_true] at h
    simp only [DSt.put]
    cases Nat.beq k i <;> simp only [cond_true, cond_false, keysOk, Bool.and_eq_true]
    · exact ⟨h.1, keys_put a k hk h.2⟩
    · exact h
theorem keys_map {n : Nat} (f : DA → DA) : ∀ {st : DSt}, keysOk n st = true → keysOk n (st.mapA f) = true
  | [], _ => rfl
  | (i, x) :: r, h => by
    simp only [keysOk, Bool.and_eq_true] at h
    simp only [DSt.mapA, keysOk, Bool.and_eq_true]
    exact ⟨h.1, keys_map f h.2⟩
theorem keys_find {n : Nat} : ∀ {st : DSt}, keysOk n st = true → ∀ {k : Nat} {a : DA}, st.find k = some a → k < n
  | [], _, _, _, h => by cases h
  | (i, x) :: r, h, k, a, hf => by
    simp only [keysOk, Bool.and_eq_true, Nat.blt_eq] at h
    simp only [DSt.find] at hf
    by_cases hk : k = i
    · subst hk; exact h.1
    · rw [beq_ne hk] at hf; exact keys_find h.2 hf
theorem keys_share {n : Nat} {st st' : DSt} {r : Nat} (h : keysOk n st = true) (hs : shareDS st r = some st') : keysOk n st' = true := by
  unfold shareDS at hs
  split at hs
  · rename_i e t l hr
    cases hs
    exact keys_put _ _ (keys_find h hr) (keys_map _ h)
  · cases hs
theorem keys_ret {n : Nat} : ∀ {rs : List Nat} {fz : List Bool} {st st' : DSt}, keysOk n st = true → retDS n [] rs fz st = some st' → keysOk n st' = true
  | [], fz, st, st', hk, h => by cases h; exact hk
  | r :: rs, fz, st, st', hk, h => by
    simp only [retDS] at h
    split at h
    · split at h
      · rename_i s1 hs; exact keys_ret (keys_share hk hs) h
      · cases h
    · cases h
    · exact keys_ret hk h
    · split at h
      · rename_i s1 hs; exact keys_ret (keys_share hk hs) h
      · cases h
    · rename_i s off len hr hfz
      split at h
      · rename_i e t l hs
        split at h
        · refine keys_ret (st := moveDS st s r (.own e t l)) ?_ h
          unfold moveDS
          exact keys_put _ _ (keys_find hk hr) (keys_put _ _ (keys_find hk hs) (keys_map _ hk))
        · cases h
      · cases h
    · cases h

theorem retD_sound {st : DSt} (hw : WF st) {ret : List DT → Option ρ} (h : retD F ret st = some r) {ex : Exit} (hex : ex = .normal ∨ ex = .ret) : EndQ X F (fun xs => ret xs = some r) ex st.toSt := by
  unfold retD at h
  split at h
  · rename_i hb
    simp only [Bool.and_eq_true] at hb
    split at h
    · rename_i st' hs
      split at h
      · rename_i xs hx
        obtain ⟨c1, c2⟩ := clean_sound (X := X) (n := F.n) (Z := []) hw
        exact ⟨hex, st', xs, c1.trans (retDS_sound c2 hb.1 hs), keysOk_spec (keys_ret hb.2 hs), (resultsD_spec (n := F.n) hx).1, (resultsD_spec (n := F.n) hx).2, h⟩
      · cases h
    · cases h
  · cases h

theorem regionF_sound (hY : DXOk Y X) (hE : EnvOk X E) (hm : X.P.follows .mixedOrders = true) {st : DSt} (hw : WF st) {id : Nat} {ops : Array Oper} {op : Bool} {K : DSt → Option ρ} (h : regionF Y E F id ops op st K = some r) {Q : Exit → St → Prop}
    (hQ : ∀ st', WF st' → K st' = some r → Q .normal st'.toSt) : AW X F.n [] (.region id ops op) st.toSt Q := by
  unfold regionF at h
  split at h
  · exact region_sound hY hE hm hw h hQ
  · split at h
    · rename_i st' hs
      obtain ⟨c1, c2⟩ := clean_sound (X := X) (n := F.n) (Z := []) hw
      obtain ⟨h1, h2⟩ := sharesD_sound (X := X) (n := F.n) (Z := []) c2 hs
      exact AW.from (c1.trans h1) (region_sound hY hE hm h2 h hQ)
    · cases h

theorem runD_sound (hY : DXOk Y X) (hE : EnvOk X E) (hm : X.P.follows .mixedOrders = true) {S : Pos} {goto : Nat → DSt → Option ρ} {ret : List DT → Option ρ} {Q : Exit → St → Prop}
    (hQ : ∀ ex s, EndQ X F (fun xs => ret xs = some r) ex s → Q ex s)
    (hG : ∀ id st' fs ops op, WF st' → goto id st' = some r → (id, fs, ops, op) ∈ S → AW X F.n [] (.region id ops op) st'.toSt (Qf X F.n Q fs)) :
    ∀ (fuel : Nat) (tk : Tk) (st : DSt), WF st → CovT S tk → runD Y E F goto ret fuel tk st = some r → Claim X F.n Q tk st
  | 0, _, _, _, _, h => by cases h
  | fuel + 1, .code c fs, st, hw, hcov, h => by
    have ih := runD_sound hY hE hm hQ hG fuel
    obtain ⟨hc, hf⟩ := hcov
    cases c with
    | skip => exact AW_skip (ih (.norm fs) st hw hf h)
    | exit id => exact AW_exit (ih (.exit id fs) st hw hf h)
    | ret => exact AW_ret (Qf_ret (hQ _ _ (retD_sound hw h (.inr rfl))) fs)
    | region id ops op =>
      simp only [runD] at h
      split at h
      · split at h
        · rename_i st' hp
          obtain ⟨h1, h2⟩ := pruneD_sound (X := X) (Z := []) hw hp
          exact AW.from h1 (hG id st' fs ops op h2 h (hc _ (by simp [subsC])))
        · cases h
      · exact regionF_sound hY hE hm hw h (fun st' hw' hk => ih (.norm fs) st' hw' hf hk)
    | seq a b =>
      refine AW_seq (ih (.code a (.seq b :: fs)) st hw ⟨fun p hp => hc p (List.mem_append_left _ hp), fun p hp => hc p (List.mem_append_right _ hp), hf⟩ h)
    | block id c => exact AW_block (ih (.code c (.block id :: fs)) st hw ⟨hc, hf⟩ h)
    | loop c => exact AW_loopL (AWL_of (ih (.code c (.loop c :: fs)) st hw ⟨hc, hc, hf⟩ h))
    | cond x a b =>
      simp only [runD] at h
      split at h
      · rename_i t hx
        obtain ⟨x1, x2⟩ := rdT_spec (n := F.n) (X := X) hY hw (γ := none) trivial hx
        refine AW_cond (x2 trivial) x1 (fun ht => ?_) (fun ht => ?_)
        · rw [if_pos ht] at h
          exact ih (.code a fs) st hw ⟨fun p hp => hc p (List.mem_append_left _ hp), hf⟩ h
        · rw [if_neg (by rw [ht]; simp)] at h
          exact ih (.code b fs) st hw ⟨fun p hp => hc p (List.mem_append_right _ hp), hf⟩ h
      · cases h
    | _ => cases h
  | fuel + 1, .norm fs, st, hw, hcov, h => by
    have ih := runD_sound hY hE hm hQ hG fuel
    cases fs with
    | nil => exact hQ _ _ (retD_sound hw h (.inl rfl))
    | cons f fs =>
      cases f with
      | seq b => exact ih (.code b fs) st hw ⟨hcov.1, hcov.2⟩ h
      | block id => exact ih (.norm fs) st hw hcov h
      | loop c => exact AWL_of (ih (.code c (.loop c :: fs)) st hw ⟨hcov.1, hcov⟩ h)
  | fuel + 1, .exit id fs, st, hw, hcov, h => by
    have ih := runD_sound hY hE hm hQ hG fuel
    cases fs with
    | nil => cases h
    | cons f fs =>
      cases f with
      | seq b => exact ih (.exit id fs) st hw hcov.2 h
      | block j =>
        simp only [runD] at h
        simp only [Claim, Qf, blockC]
        split at h
        · rename_i hb
          rw [if_pos (Nat.eq_of_beq_eq_true hb)]
          exact ih (.norm fs) st hw hcov h
        · rename_i hb
          rw [if_neg (by rintro rfl; rw [Nat.beq_refl] at hb; cases hb)]
          exact ih (.exit id fs) st hw hcov h
      | loop c => exact ih (.exit id fs) st hw hcov.2 h

/-- Each label once. -/
def nodupN : List Nat → Bool
  | [] => true
  | k :: r => !memN r k && nodupN r
theorem look_of : ∀ {S : Pos} {id : Nat} {v : List Fr × Array Oper × Bool}, nodupN (S.map (·.1)) = true → (id, v) ∈ S → look S id = some v
  | [], _, _, _, h => by cases h
  | (k, w) :: r, id, v, hn, h => by
    simp only [List.map_cons, nodupN, Bool.and_eq_true, Bool.not_eq_true'] at hn
    simp only [look]
    rcases List.mem_cons.1 h with e | h2
    · cases e; simp
    · have hne : id ≠ k := by
        rintro rfl
        have : memN (r.map (·.1)) id = true := memN_spec.2 (List.mem_map.2 ⟨(id, v), h2, rfl⟩)
        rw [this] at hn; cases hn.1
      rw [beq_ne hne]; exact look_of hn.2 h2

theorem segD_sound (hY : DXOk Y X) (hE : EnvOk X E) (hm : X.P.follows .mixedOrders = true) {body : Code} {fuel : Nat} (hnd : nodupN ((subsC body []).map (·.1)) = true) {goto : Nat → DSt → Option ρ} {ret : List DT → Option ρ} {Q : Exit → St → Prop}
    (hcov : ∀ id fs ops op, (id, fs, ops, op) ∈ subsC body [] → CovF (subsC body []) fs)
    (hQ : ∀ ex s, EndQ X F (fun xs => ret xs = some r) ex s → Q ex s)
    (hG : ∀ id st' fs ops op, WF st' → goto id st' = some r → (id, fs, ops, op) ∈ subsC body [] → AW X F.n [] (.region id ops op) st'.toSt (Qf X F.n Q fs)) {id : Nat} {st : DSt} (hw : WF st)
    (h : segD Y E F body fuel id st goto ret = some r) {fs : List Fr} {ops : Array Oper} {op : Bool} (hp : (id, fs, ops, op) ∈ subsC body []) : AW X F.n [] (.region id ops op) st.toSt (Qf X F.n Q fs) := by
  unfold segD at h
  rw [look_of hnd hp] at h
  exact regionF_sound hY hE hm hw h (fun st' hw' hk => runD_sound hY hE hm hQ hG fuel (.norm fs) st' hw' (hcov _ _ _ _ hp) hk)

theorem covF_of (S : Pos) : ∀ (c : Code) (fs : List Fr), CovC S c fs → CovF S fs → ∀ id gs ops op, (id, gs, ops, op) ∈ subsC c fs → CovF S gs := by
  intro c
  induction c with
  | region id ops op =>
    intro fs hc hf id' gs ops' op' h
    simp only [subsC, List.mem_singleton, Prod.mk.injEq] at h
    obtain ⟨_, rfl, _⟩ := h; exact hf
  | seq a b iha ihb =>
    intro fs hc hf id gs ops op h
    simp only [subsC, List.mem_append] at h
    have ha : CovC S a (.seq b :: fs) := fun p hp => hc p (List.mem_append_left _ hp)
    have hb : CovC S b fs := fun p hp => hc p (List.mem_append_right _ hp)
    rcases h with h | h
    · exact iha _ ha ⟨hb, hf⟩ id gs ops op h
    · exact ihb _ hb hf id gs ops op h
  | block id c ih => intro fs hc hf id gs ops op h; exact ih (.block _ :: fs) hc hf id gs ops op h
  | loop c ih => intro fs hc hf id gs ops op h; exact ih (.loop c :: fs) hc ⟨hc, hf⟩ id gs ops op h
  | cond x a b iha ihb =>
    intro fs hc hf id gs ops op h
    simp only [subsC, List.mem_append] at h
    rcases h with h | h
    · exact iha _ (fun p hp => hc p (List.mem_append_left _ hp)) hf id gs ops op h
    · exact ihb _ (fun p hp => hc p (List.mem_append_right _ hp)) hf id gs ops op h
  | _ => intro fs hc hf id gs ops op h; cases h

def resT : List T → T
  | [x] => x
  | xs => .tup xs
def outU (n : Nat) : List T := List.replicate n .u
theorem entryD_toSt : ∀ (k : Nat) (xs : List DT), (entryD k xs).toSt = entry k (xs.map DT.toT)
  | _, [] => rfl
  | k, x :: xs => by simp only [entryD, DSt.toSt, List.map_cons, entry, entryD_toSt (k + 1) xs]; rfl
theorem entryD_wf : ∀ (k : Nat) (xs : List DT), WF (entryD k xs)
  | _, [] => fun i a h => by cases h
  | k, x :: xs => by
    intro i a h
    have key : ∀ (k : Nat) (xs : List DT) (i : Nat) (a : DA), (entryD k xs).find i = some a → ∃ x, a = .t x := by
      intro k xs
      induction xs generalizing k with
      | nil => intro i a h; cases h
      | cons x xs ih =>
        intro i a h
        simp only [entryD, DSt.find] at h
        cases hb : Nat.beq i k with
        | true => rw [hb] at h; cases h; exact ⟨x, rfl⟩
        | false => rw [hb] at h; exact ih _ i a h
    obtain ⟨y, rfl⟩ := key _ _ _ _ h
    trivial

/-- FROM THE MACHINE TO THE CALL. -/
theorem APure_of_machine (hY : DXOk Y X) (hE : EnvOk X E) (hm : X.P.follows .mixedOrders = true) {f : FuncId} {fn : Func} {body : Code} (hf : X.P.funcs[f]? = some fn) (hb : fn.body = some body) (hn : fn.ntmps = F.n) (hrs : fn.results = (F.rs.map ResultVar.tmp).toArray) (hndr : F.rs.Nodup)
    {args : List DT} (hlen : args.length ≤ F.n) (hnd : nodupN ((subsC body []).map (·.1)) = true) {fuel : Nat} {L R : Type} (lab : L → Nat × DSt) (step : L → Option (L ⊕ R)) (encR : R → List DT) (hwf : ∀ l, WF (lab l).2)
    (hseg : ∀ (l : L) (goto : Nat → DSt → Option Unit) (ret : List DT → Option Unit), segD Y E F body fuel (lab l).1 (lab l).2 goto ret = (step l).bind (Sum.elim (fun l' => goto (lab l').1 (lab l').2) (fun r => ret (encR r))))
    {ent : Option (L ⊕ R)} (hent : ∀ (goto : Nat → DSt → Option Unit) (ret : List DT → Option Unit), runD Y E F goto ret fuel (.code body []) (entryD 0 args) = ent.bind (Sum.elim (fun l' => goto (lab l').1 (lab l').2) (fun r => ret (encR r))))
    {r : R} (hr : runL step ent = some r) : APure X f (args.map DT.toT) (resT ((encR r).map DT.toT)) := by
  classical
  let S := subsC body []
  let ret : List DT → Option Unit := fun xs => if xs = encR r then some () else none
  let Q : Exit → St → Prop := EndQ X F (fun xs => ret xs = some ())
  have hcovS : CovC S body [] := fun p hp => hp
  have hcov : ∀ id fs ops op, (id, fs, ops, op) ∈ subsC body [] → CovF (subsC body []) fs := covF_of S body [] hcovS trivial
  have hlab : ∀ (k : Nat) (l : L), iterN step k l = some r → ∀ fs ops op, ((lab l).1, fs, ops, op) ∈ subsC body [] → AW X F.n [] (.region (lab l).1 ops op) (lab l).2.toSt (Qf X F.n Q fs) := by
    intro k
    induction k with
    | zero => intro l h; cases h
    | succ k ih =>
      intro l h fs ops op hp
      let goto : Nat → DSt → Option Unit := fun id st => if ∃ l', lab l' = (id, st) ∧ iterN step k l' = some r then some () else none
      refine segD_sound (r := ()) (goto := goto) (ret := ret) (fuel := fuel) hY hE hm hnd hcov (fun ex s h => h) (fun id st' fs ops op hw hg hp => ?_) (hwf l) ?_ hp
      · by_cases hx : ∃ l', lab l' = (id, st') ∧ iterN step k l' = some r
        · obtain ⟨l', e, hk⟩ := hx
          have := ih l' hk fs ops op
          rw [e] at this
          exact this hp
        · simp only [goto, if_neg hx] at hg; cases hg
      · rw [hseg]
        simp only [iterN] at h
        split at h
        · rename_i l' hl'
          rw [hl']
          simp only [Option.bind_some, Sum.elim_inl, goto]
          rw [if_pos ⟨l', rfl, h⟩]
        · rename_i r' hr'
          rw [hr']
          cases h
          simp only [Option.bind_some, Sum.elim_inr, ret, if_true]
        · cases h
  have hbody : AW X F.n [] body (entry 0 (args.map DT.toT)) Q := by
    rw [← entryD_toSt]
    obtain ⟨x, hx, hcase⟩ := runL_some hr
    let goto : Nat → DSt → Option Unit := fun id st => if ∃ l', lab l' = (id, st) ∧ iter step l' = some r then some () else none
    refine runD_sound (r := ()) (goto := goto) (ret := ret) (S := S) hY hE hm (fun ex s h => h) (fun id st' fs ops op hw hg hp => ?_) fuel (.code body []) _ (entryD_wf 0 args) ⟨hcovS, trivial⟩ ?_
    · by_cases hx : ∃ l', lab l' = (id, st') ∧ iter step l' = some r
      · obtain ⟨l', e, hk⟩ := hx
        obtain ⟨k, hk⟩ := iter_some hk
        have := hlab k l' hk fs ops op
        rw [e] at this
        exact this hp
      · simp only [goto, if_neg hx] at hg; cases hg
    · rw [hent, hx]
      rcases hcase with ⟨l, rfl, hl⟩ | rfl
      · simp only [Option.bind_some, Sum.elim_inl, goto]
        rw [if_pos ⟨l, rfl, hl⟩]
      · simp only [Option.bind_some, Sum.elim_inr, ret, if_true]
  refine ACall_of_body (n := F.n) (Z := []) (rs := F.rs) hf hb hn hrs (by rw [List.length_map]; exact hlen) (by simp) hndr (by simp) (AW.to (hbody.mono ?_))
  rintro ex s ⟨hex, s', xs, h1, h2, h3, h5, h4⟩
  refine ⟨s'.toSt, h1, ?_⟩
  have hxs : xs = encR r := by
    by_cases e : xs = encR r
    · exact e
    · simp only [ret, if_neg e] at h4; cases h4
  subst hxs
  have houts : ∀ (m i : Nat), outsOk F.n s'.toSt [] i (List.replicate m .u) := by
    intro m
    induction m with
    | zero => intro i; trivial
    | succ m ih => intro i; exact ⟨by simp, ih (i + 1)⟩
  have hnt : ∀ (rs : List Nat) (ts : List T), slotsOk F.n s'.toSt rs ts → (∀ t ∈ ts, ∀ cs, t ≠ .tup cs) → ∀ K : St → Prop, K s'.toSt → retGo F.n rs s'.toSt K := by
    intro rs
    induction rs with
    | nil => intro ts _ _ K hK; exact hK
    | cons q qs ih =>
      intro ts h ht K hK
      cases ts with
      | nil => exact h.elim
      | cons t ts =>
        obtain ⟨e1, e2⟩ := h
        simp only [retGo, e1]
        cases t with
        | tup cs => exact absurd rfl (ht _ (by simp) cs)
        | _ => exact ih ts e2 (fun t ht' => ht t (by simp [ht'])) K hK
  have hends : ∀ e : Exit, e = .normal ∨ e = .ret → retGo F.n F.rs s'.toSt (fun s => noGhost F.n s ∧ resOk F.n s F.rs (resT ((encR r).map DT.toT)) ∧ outsOk F.n s [] 0 (List.replicate (args.map DT.toT).length .u)) := by
    intro e he
    refine hnt _ _ h3 h5 _ ⟨h2, ?_, houts _ _⟩
    unfold resOk
    cases hrs' : F.rs with
    | nil =>
      rw [hrs'] at h3
      cases hx : (encR r).map DT.toT with
      | nil => trivial
      | cons => rw [hx] at h3; exact h3.elim
    | cons q qs =>
      rw [hrs'] at h3
      cases hx : (encR r).map DT.toT with
      | nil => rw [hx] at h3; exact h3.elim
      | cons x xs =>
        rw [hx] at h3
        cases qs with
        | nil =>
          cases xs with
          | nil => exact h3.1
          | cons => exact h3.2.elim
        | cons q2 qs =>
          cases xs with
          | nil => exact h3.2.elim
          | cons x2 xs => exact h3
  rcases hex with rfl | rfl
  · exact hends _ (.inl rfl)
  · exact hends _ (.inr rfl)
end Go.Eng
