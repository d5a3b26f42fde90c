/- A part of the proof: Vq. -/
import Derived.Test.YtnjcbogckfiamaaDoorPq4
namespace Go.Eng
set_option linter.unusedVariables false
set_option linter.unusedSimpArgs false
theorem hex_back (c:UInt8) (h1:(c.toNat:Int) < 32 ∨ 126 < (c.toNat:Int)) (h2:¬ (c.toNat:Int) = 10):hexS (hexHi c) (hexLo c) = (c,4) :=
 all_u8 (p := fun c=>((c.toNat:Int) < 32 ∨ 126 < (c.toNat:Int)) → ¬ (c.toNat:Int) = 10 → hexS (hexHi c) (hexLo c) = (c,4)) (by decide +kernel) c h1 h2
theorem quote_back (q:List UInt8):∀ (s:List UInt8) (f:Nat),(s.flatMap quoteW).length < f → quoteF f (s.flatMap quoteW ++ 34 :: q) = some (s,(s.flatMap quoteW).length + 1)
 | [],f,h=>by
  obtain ⟨g,rfl⟩:∃ g,f = g + 1 := ⟨f - 1,by simp at h; omega⟩
  rfl
 | c :: s,f,h=>by
  obtain ⟨g,rfl⟩:∃ g,f = g + 1 := ⟨f - 1,by omega⟩
  rw [List.flatMap_cons,List.length_append] at h
  have e92:((92:UInt8).toNat:Int) = 92 := rfl
  rw [List.flatMap_cons,List.append_assoc]
  by_cases h1:(c.toNat:Int) = 34 ∨ (c.toNat:Int) = 92
  ·have hq:quoteW c = [92,c] := by unfold quoteW; rw [if_pos h1]
   rw [hq] at h ⊢
   simp only [List.length_cons,List.length_nil] at h
   have he:escS (c :: (s.flatMap quoteW ++ 34 :: q)) = (c,2) := by simp only [escS,if_pos h1]
   simp only [List.cons_append,List.nil_append,quoteF,he]
   rw [if_neg (by decide),if_pos (by decide),if_neg (by decide)]
   show (quoteF g ((c :: (s.flatMap quoteW ++ 34 :: q)).drop 1)).map _ = _
   rw [List.drop_succ_cons,List.drop_zero,quote_back q s g (by omega)]
   simp only [Option.map_some,List.length_cons,List.length_append,List.length_nil,Option.some.injEq,Prod.mk.injEq,true_and]
   show (s.flatMap quoteW).length + 1 + 2 = _
   omega
  ·by_cases h2:(c.toNat:Int) = 10
   ·have hq:quoteW c = [92,110] := by unfold quoteW; rw [if_neg h1,if_pos h2]
    have hc:c = 10 := UInt8.toNat_inj.1 (by have:((10:UInt8).toNat:Int) = 10 := rfl; omega)
    rw [hq] at h ⊢
    simp only [List.length_cons,List.length_nil] at h
    have he:escS (110 :: (s.flatMap quoteW ++ 34 :: q)) = (10,2) := by
     simp only [escS]; rw [if_neg (by decide),if_pos (by decide)]
    simp only [List.cons_append,List.nil_append,quoteF,he]
    rw [if_neg (by decide),if_pos (by decide),if_neg (by decide)]
    show (quoteF g ((110 :: (s.flatMap quoteW ++ 34 :: q)).drop 1)).map _ = _
    rw [List.drop_succ_cons,List.drop_zero,quote_back q s g (by omega),hc]
    simp only [Option.map_some,List.length_cons,List.length_append,List.length_nil,Option.some.injEq,Prod.mk.injEq,true_and]
    show (s.flatMap quoteW).length + 1 + 2 = _
    omega
   ·by_cases h3:(c.toNat:Int) < 32 ∨ 126 < (c.toNat:Int)
    ·have hq:quoteW c = [92,120,hexHi c,hexLo c] := by unfold quoteW; rw [if_neg h1,if_neg h2,if_pos h3]
     rw [hq] at h ⊢
     simp only [List.length_cons,List.length_nil] at h
     have he:escS (120 :: hexHi c :: hexLo c :: (s.flatMap quoteW ++ 34 :: q)) = (c,4) := by
      simp only [escS]; rw [if_neg (by decide),if_neg (by decide),if_pos (by decide)]
      exact hex_back c h3 h2
     simp only [List.cons_append,List.nil_append,quoteF,he]
     rw [if_neg (by decide),if_pos (by decide),if_neg (by decide)]
     show (quoteF g ((120 :: hexHi c :: hexLo c :: (s.flatMap quoteW ++ 34 :: q)).drop 3)).map _ = _
     rw [List.drop_succ_cons,List.drop_succ_cons,List.drop_succ_cons,List.drop_zero,quote_back q s g (by omega)]
     simp only [Option.map_some,List.length_cons,List.length_append,List.length_nil,Option.some.injEq,Prod.mk.injEq,true_and]
     show (s.flatMap quoteW).length + 1 + 4 = _
     omega
    ·have hq:quoteW c = [c] := by unfold quoteW; rw [if_neg h1,if_neg h2,if_neg h3]
     rw [hq] at h ⊢
     simp only [List.length_cons,List.length_nil] at h
     simp only [List.cons_append,List.nil_append,quoteF]
     rw [if_neg (fun e=>h1 (.inl e)),if_neg (fun e=>h1 (.inr e)),if_neg h3,quote_back q s g (by omega)]
     simp only [Option.map_some,List.length_cons,List.length_append,List.length_nil,Option.some.injEq,Prod.mk.injEq,true_and]
     first | done | omega
theorem idx_hex (p:UInt8) (h:0 ≤ Lib.indexByte hexD p):∃ k:Fin 16,hexD.getD k.1 0 = p :=
 all_u8 (p := fun p=>0 ≤ Lib.indexByte hexD p → ∃ k:Fin 16,hexD.getD k.1 0 = p) (by decide +kernel) p h
theorem hex_inv {p q x:UInt8} (h:hexS p q = (x,4)):quoteW x = [92,120,p,q] := by
 have h0 := h
 unfold hexS at h
 split at h
 ·cases h
 ·rename_i hc
  obtain ⟨a,rfl⟩ := idx_hex p (by omega)
  obtain ⟨b,rfl⟩ := idx_hex q (by omega)
  have key:∀ a b:Fin 16,(hexS (hexD.getD a.1 0) (hexD.getD b.1 0)).2 = 4 → quoteW (hexS (hexD.getD a.1 0) (hexD.getD b.1 0)).1 = [92,120,hexD.getD a.1 0,hexD.getD b.1 0] := by decide +kernel
  have := key a b (by rw [h0])
  rw [h0] at this; exact this
theorem quote_inv:∀ (f:Nat) (r t:List UInt8) (n:Nat),quoteF f r = some (t,n) → r.take n = t.flatMap quoteW ++ [34]
 | 0,_,_,_,h=>by cases h
 | _ + 1,[],_,_,h=>by cases h
 | f + 1,c :: r,t,n,h=>by
  simp only [quoteF] at h
  split at h
  ·rename_i h1
   cases h
   have:c = 34 := UInt8.toNat_inj.1 (by have:((34:UInt8).toNat:Int) = 34 := rfl; omega)
   subst this; rfl
  ·rename_i h1
   split at h
   ·rename_i h2
    have hc:c = 92 := UInt8.toNat_inj.1 (by have:((92:UInt8).toNat:Int) = 92 := rfl; omega)
    subst hc
    split at h
    ·cases h
    ·rename_i he
     obtain ⟨⟨t',n'⟩,h3,h4⟩ := Option.map_eq_some_iff.1 h
     cases h4
     cases r with
     | nil=>exact absurd rfl he
     | cons d r =>
      simp only [escS] at he h3 ⊢
      by_cases g1:(d.toNat:Int) = 34 ∨ (d.toNat:Int) = 92
      ·simp only [if_pos g1] at he h3 ⊢
       have ih := quote_inv f _ _ _ (show quoteF f r = some (t',n') from h3)
       show (92 :: d :: r).take (n' + 2) = _
       rw [List.take_succ_cons,List.take_succ_cons,ih,List.flatMap_cons]
       have:quoteW d = [92,d] := by unfold quoteW; rw [if_pos g1]
       rw [this]; rfl
      ·simp only [if_neg g1] at he h3 ⊢
       by_cases g2:(d.toNat:Int) = 110
       ·simp only [if_pos g2] at he h3 ⊢
        have hd:d = 110 := UInt8.toNat_inj.1 (by have:((110:UInt8).toNat:Int) = 110 := rfl; omega)
        subst hd
        have ih := quote_inv f _ _ _ (show quoteF f r = some (t',n') from h3)
        show (92 :: 110 :: r).take (n' + 2) = _
        rw [List.take_succ_cons,List.take_succ_cons,ih,List.flatMap_cons]; rfl
       ·simp only [if_neg g2] at he h3 ⊢
        by_cases g3:(d.toNat:Int) = 120
        ·simp only [if_pos g3] at he h3 ⊢
         have hd:d = 120 := UInt8.toNat_inj.1 (by have:((120:UInt8).toNat:Int) = 120 := rfl; omega)
         subst hd
         cases r with
         | nil=>exact absurd rfl he
         | cons p r =>
          cases r with
          | nil=>exact absurd rfl he
          | cons q r =>
           have hx:escX (p :: q :: r) = hexS p q := rfl
           rw [hx] at he h3 ⊢
           have h4:(hexS p q).2 = 4 := by
            unfold hexS at he ⊢
            split
            ·rename_i hh; rw [if_pos hh] at he; exact absurd rfl he
            ·rfl
           rw [h4] at h3 ⊢
           have ih := quote_inv f _ _ _ (show quoteF f r = some (t',n') from h3)
           show (92 :: 120 :: p :: q :: r).take (n' + 4) = _
           rw [List.take_succ_cons,List.take_succ_cons,List.take_succ_cons,List.take_succ_cons,ih,List.flatMap_cons,hex_inv (x := (hexS p q).1) (by rw [← h4])]; rfl
        ·simp only [if_neg g3] at he
         exact absurd trivial he
   ·rename_i h2
    split at h
    ·cases h
    ·rename_i h3
     obtain ⟨⟨t',n'⟩,h4,h5⟩ := Option.map_eq_some_iff.1 h
     cases h5
     have ih := quote_inv f _ _ _ h4
     have:quoteW c = [c] := by unfold quoteW; rw [if_neg (by omega),if_neg (by omega),if_neg h3]
     rw [List.take_succ_cons,ih,List.flatMap_cons,this]; rfl
theorem unq_quote (s:List UInt8):unqS (quoteT s) = (s,true) := by
 have e:quoteT s = 34 :: ((s.flatMap quoteW) ++ 34 :: []) := by unfold quoteT; simp
 rw [e]
 simp only [unqS]
 rw [if_pos (by decide),quote_back [] s _ (by rw [List.length_append]; omega)]
 simp
theorem quote_unq {s t:List UInt8} (h:unqS s = (t,true)):quoteT t = s := by
 cases s with
 | nil=>cases h
 | cons c r =>
  simp only [unqS] at h
  split at h
  ·rename_i h34
   have hc:c = 34 := UInt8.toNat_inj.1 (by have:((34:UInt8).toNat:Int) = 34 := rfl; omega)
   split at h
   ·rename_i t' n hq
    split at h
    ·rename_i hn
     cases h
     have := quote_inv _ _ _ _ hq
     rw [hn,List.take_length] at this
     unfold quoteT
     rw [hc,this]; simp
    ·cases h
   ·cases h
  ·cases h
theorem scan_quote (q:List UInt8):∀ s:List UInt8,scanQ (s.flatMap quoteW ++ 34 :: q) = some (s.flatMap quoteW).length
 | []=>by
  simp only [List.flatMap_nil,List.nil_append,List.length_nil]
  rw [scanQ.eq_def]; rfl
 | c :: s=>by
  have ih := scan_quote q s
  rw [List.flatMap_cons,List.append_assoc,List.length_append]
  have e92:((92:UInt8).toNat:Int) = 92 := rfl
  have two:∀ (x:UInt8) (l:List UInt8),scanQ (92 :: x :: l) = (scanQ l).map (· + 2) := fun x l=>by
   rw [scanQ.eq_def]
   simp only
   rw [if_neg (by decide),if_pos (by decide)]
  have one:∀ (x:UInt8) (l:List UInt8),¬ (x.toNat:Int) = 34 → ¬ (x.toNat:Int) = 92 → scanQ (x :: l) = (scanQ l).map (· + 1) := fun x l h1 h2=>by
   rw [scanQ.eq_def]
   simp only
   rw [if_neg h1,if_neg h2]
  generalize s.flatMap quoteW = z at *
  unfold quoteW
  split
  ·simp only [List.cons_append,List.nil_append,List.length_cons,List.length_nil]
   rw [two,ih,Option.map_some]; congr 1; omega
  ·rename_i h1
   split
   ·simp only [List.cons_append,List.nil_append,List.length_cons,List.length_nil]
    rw [two,ih,Option.map_some]; congr 1; omega
   ·split
    ·have hh:∀ c:UInt8,(¬ ((hexHi c).toNat:Int) = 34 ∧ ¬ ((hexHi c).toNat:Int) = 92) ∧ (¬ ((hexLo c).toNat:Int) = 34 ∧ ¬ ((hexLo c).toNat:Int) = 92) :=
      fun c=>all_u8 (p := fun c=>(¬ ((hexHi c).toNat:Int) = 34 ∧ ¬ ((hexHi c).toNat:Int) = 92) ∧ (¬ ((hexLo c).toNat:Int) = 34 ∧ ¬ ((hexLo c).toNat:Int) = 92)) (by decide +kernel) c
     obtain ⟨⟨a1,a2⟩,a3,a4⟩ := hh c
     simp only [List.cons_append,List.nil_append,List.length_cons,List.length_nil]
     rw [two,one _ _ a1 a2,one _ _ a3 a4,ih]
     simp only [Option.map_some]
     congr 1; omega
    ·simp only [List.cons_append,List.nil_append,List.length_cons,List.length_nil]
     rw [one _ _ (fun e=>h1 (.inl e)) (fun e=>h1 (.inr e)),ih,Option.map_some]; congr 1; omega
theorem txtV_back (t r:List UInt8):txtV (quoteT t ++ r) = some (txtA t,(quoteT t).length) := by
 have e:quoteT t ++ r = 34 :: (t.flatMap quoteW ++ 34 :: r) := by unfold quoteT; simp
 have hl:(quoteT t).length = (t.flatMap quoteW).length + 2 := by unfold quoteT; simp
 unfold txtV
 have ht:(quoteT t ++ r).tail = t.flatMap quoteW ++ 34 :: r := by rw [e]; rfl
 rw [ht,scan_quote]
 dsimp only
 rw [← hl,List.take_left' rfl,unq_quote]; rfl
theorem txtV_take {s:List UInt8} {x:Tr tAtom} {k:Nat} (h:txtV s = some (x,k)):∃ t,x = txtA t ∧ s.take k = quoteT t := by
 unfold txtV at h
 split at h
 ·cases h
 ·split at h
  ·rename_i hq
   simp only [Option.some.injEq,Prod.mk.injEq] at h
   obtain ⟨rfl,rfl⟩ := h
   refine ⟨_,rfl,(quote_unq (Prod.ext rfl hq)).symm⟩
  ·cases h
end Go.Eng
