/- A part of the proof: Tree. -/
import Derived.Test.YtnjcbogckfiamaaDoorD3
namespace Go.Eng
set_option linter.unusedVariables false
set_option linter.unusedSimpArgs false
inductive Tr (α:Type) where
 | node (a:α) (ts:List (Tr α))
variable {α:Type}
def Tr.a:Tr α → α | .node a _=>a
def Tr.ts:Tr α → List (Tr α) | .node _ ts=>ts
mutual
def flat:Tr α → List α
 | .node a ts=>flats ts ++ [a]
def flats:List (Tr α) → List α
 | []=>[]
 | t :: ts=>flat t ++ flats ts
end
mutual
def tdeep:Tr α → Nat
 | .node a ts=>tdeeps ts + 1
def tdeeps:List (Tr α) → Nat
 | []=>0
 | t :: ts=>max (tdeep t) (tdeeps ts)
end
mutual
/-- Right at each place: of that number of parts. -/
def okT (ar:α → Nat) (good:Tr α → Bool):Tr α → Prop
 | .node a ts=>ar a = ts.length ∧ good (.node a ts) = true ∧ okF ar good ts
def okF (ar:α → Nat) (good:Tr α → Bool):List (Tr α) → Prop
 | []=>True
 | t :: ts=>okT ar good t ∧ okF ar good ts
end
theorem flats_app:∀ (f g:List (Tr α)),flats (f ++ g) = flats f ++ flats g
 | [],g=>rfl
 | t :: f,g=>by rw [List.cons_append,flats,flats_app f g,flats,List.append_assoc]
theorem flat_pos (t:Tr α):0 < (flat t).length := by cases t; simp [flat]
theorem tdeep_pos (t:Tr α):0 < tdeep t := by cases t; simp [tdeep]
theorem okF_app {ar:α → Nat} {good:Tr α → Bool}:∀ {f g:List (Tr α)},okF ar good (f ++ g) ↔ okF ar good f ∧ okF ar good g
 | [],g=>by simp [okF]
 | t :: f,g=>by rw [List.cons_append,okF,okF,okF_app,and_assoc]
theorem okF_mem {ar:α → Nat} {good:Tr α → Bool}:∀ {f:List (Tr α)},okF ar good f ↔ ∀ t ∈ f,okT ar good t
 | []=>by simp [okF]
 | t :: f=>by rw [okF,okF_mem]; simp
theorem tdeeps_le {f:List (Tr α)}:∀ t ∈ f,tdeep t ≤ tdeeps f := by
 induction f with
 | nil=>simp
 | cons x r ih =>
  intro t ht
  simp only [tdeeps]
  rcases List.mem_cons.1 ht with rfl | ht
  ·omega
  ·have := ih t ht; omega
theorem flat_le {f:List (Tr α)}:∀ t ∈ f,(flat t).length ≤ (flats f).length := by
 induction f with
 | nil=>simp
 | cons x r ih =>
  intro t ht
  simp only [flats,List.length_append]
  rcases List.mem_cons.1 ht with rfl | ht
  ·omega
  ·have := ih t ht; omega
def pushT (ar:α → Nat) (good:Tr α → Bool) (a:α) (st:List (Tr α)):Option (List (Tr α)) :=
 if ar a ≤ st.length ∧ good (.node a (st.drop (st.length - ar a))) = true then some (st.take (st.length - ar a) ++ [.node a (st.drop (st.length - ar a))]) else none
def parseT (ar:α → Nat) (good:Tr α → Bool):List α → List (Tr α) → Option (List (Tr α))
 | [],st=>some st
 | a :: r,st=>match pushT ar good a st with
  | some st'=>parseT ar good r st'
  | none=>none
variable {ar:α → Nat} {good:Tr α → Bool}
mutual
theorem parse_flat:∀ (t:Tr α) (rest:List α) (st:List (Tr α)),okT ar good t → parseT ar good (flat t ++ rest) st = parseT ar good rest (st ++ [t])
 | .node a ts,rest,st,h=>by
  obtain ⟨h1,h2,h3⟩ := h
  rw [flat,List.append_assoc,parse_flats ts _ st h3]
  show parseT ar good (a :: rest) (st ++ ts) = _
  have e:(st ++ ts).length - ar a = st.length := by rw [List.length_append]; omega
  have hd:(st ++ ts).drop st.length = ts := by simp
  have ht:(st ++ ts).take st.length = st := by simp
  rw [parseT,pushT,e,hd,ht,if_pos ⟨by rw [List.length_append]; omega,h2⟩]
theorem parse_flats:∀ (ts:List (Tr α)) (rest:List α) (st:List (Tr α)),okF ar good ts → parseT ar good (flats ts ++ rest) st = parseT ar good rest (st ++ ts)
 | [],rest,st,h=>by rw [flats,List.append_nil]; rfl
 | t :: ts,rest,st,h=>by
  rw [flats,List.append_assoc,parse_flat t _ st h.1,parse_flats ts rest _ h.2,List.append_assoc]; rfl
end
theorem push_spec {a:α} {st st':List (Tr α)} (h:pushT ar good a st = some st') (ho:okF ar good st):okF ar good st' ∧ flats st' = flats st ++ [a] := by
 unfold pushT at h
 split at h
 ·rename_i hc
  cases h
  have e:okF ar good (st.take (st.length - ar a) ++ st.drop (st.length - ar a)) := by rw [List.take_append_drop]; exact ho
  obtain ⟨o1,o2⟩ := okF_app.1 e
  refine ⟨okF_app.2 ⟨o1,⟨by rw [List.length_drop]; omega,hc.2,o2⟩,trivial⟩,?_⟩
  rw [flats_app,flats,flat,flats,List.append_nil,← List.append_assoc,← flats_app,List.take_append_drop]
 ·cases h
theorem parse_spec:∀ {l:List α} {st st':List (Tr α)},parseT ar good l st = some st' → okF ar good st → okF ar good st' ∧ flats st' = flats st ++ l
 | [],st,st',h,ho=>by cases h; exact ⟨ho,by simp⟩
 | a :: r,st,st',h,ho=>by
  rw [parseT] at h
  split at h
  ·rename_i s1 hs
   obtain ⟨o1,e1⟩ := push_spec hs ho
   obtain ⟨o2,e2⟩ := parse_spec h o1
   exact ⟨o2,by rw [e2,e1,List.append_assoc]; rfl⟩
  ·cases h
theorem parse_one {l:List α} {t:Tr α}:parseT ar good l [] = some [t] ↔ okT ar good t ∧ flat t = l := by
 constructor
 ·intro h
  obtain ⟨h1,h2⟩ := parse_spec h trivial
  exact ⟨h1.1,by simpa [flats] using h2⟩
 ·rintro ⟨h1,rfl⟩
  have := parse_flat (ar := ar) (good := good) t [] [] h1
  simpa [parseT] using this
theorem flat_inj {t u:Tr α} (ht:okT ar good t) (hu:okT ar good u) (h:flat t = flat u):t = u := by
 have h1 := parse_one.2 ⟨ht,rfl⟩
 have h2 := parse_one.2 ⟨hu,h.symm⟩
 rw [h1] at h2
 simpa using h2
mutual
def outT:Tr α → Nat → List (Nat × Nat)
 | .node a ts,p=>outF ts p ++ [(p,tdeep (.node a ts))]
def outF:List (Tr α) → Nat → List (Nat × Nat)
 | [],p=>[]
 | t :: ts,p=>outT t p ++ outF ts (p + (flat t).length)
end
theorem outF_app:∀ (f g:List (Tr α)) (p:Nat),outF (f ++ g) p = outF f p ++ outF g (p + (flats f).length)
 | [],g,p=>rfl
 | t :: f,g,p=>by rw [List.cons_append,outF,outF_app f g,outF,List.append_assoc,flats,List.length_append,Nat.add_assoc]
mutual
theorem outT_len:∀ (t:Tr α) (p:Nat),(outT t p).length = (flat t).length
 | .node a ts,p=>by simp only [outT,flat,List.length_append,List.length_singleton,outF_len ts]
theorem outF_len:∀ (f:List (Tr α)) (p:Nat),(outF f p).length = (flats f).length
 | [],p=>rfl
 | t :: f,p=>by simp only [outF,flats,List.length_append,outT_len t,outF_len f]
end
def whF:List (Tr α) → Nat → List (Nat × Nat)
 | [],_=>[]
 | t :: ts,p=>(p,tdeep t) :: whF ts (p + (flat t).length)
theorem whF_app:∀ (f g:List (Tr α)) (p:Nat),whF (f ++ g) p = whF f p ++ whF g (p + (flats f).length)
 | [],g,p=>rfl
 | t :: f,g,p=>by rw [List.cons_append,whF,whF_app f g,whF,flats,List.length_append,Nat.add_assoc]; rfl
theorem whF_len:∀ (f:List (Tr α)) (p:Nat),(whF f p).length = f.length
 | [],p=>rfl
 | t :: f,p=>by rw [whF,List.length_cons,whF_len f,List.length_cons]
theorem whF_take (f:List (Tr α)) (p k:Nat) (h:k ≤ f.length):(whF f p).take k = whF (f.take k) p := by
 have:whF f p = whF (f.take k) p ++ whF (f.drop k) (p + (flats (f.take k)).length) := by rw [← whF_app,List.take_append_drop]
 rw [this,List.take_append_of_le_length (by rw [whF_len,List.length_take]; omega),List.take_of_length_le (by rw [whF_len,List.length_take]; omega)]
theorem whF_drop (f:List (Tr α)) (p k:Nat) (h:k ≤ f.length):(whF f p).drop k = whF (f.drop k) (p + (flats (f.take k)).length) := by
 have e:whF f p = whF (f.take k) p ++ whF (f.drop k) (p + (flats (f.take k)).length) := by rw [← whF_app,List.take_append_drop]
 rw [e,List.drop_append_of_le_length (by rw [whF_len,List.length_take]; omega),List.drop_of_length_le (by rw [whF_len,List.length_take]; omega)]; rfl
end Go.Eng
