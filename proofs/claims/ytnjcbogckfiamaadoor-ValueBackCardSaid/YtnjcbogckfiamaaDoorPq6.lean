/- A part of the proof: Pq6. -/
import Derived.Test.YtnjcbogckfiamaaDoorPq4
namespace Go.Eng
set_option linter.unusedVariables false
set_option linter.unusedSimpArgs false
theorem nDig_le:∀ (k u:Nat),u < 10 ^ (k + 1) → Lib.nDigits u ≤ k + 1
 | 0,u,h=>by rw [Lib.nDigits_small (by simpa using h)]; omega
 | k + 1,u,h=>by
  by_cases hu:u < 10
  ·rw [Lib.nDigits_small hu]; omega
  ·rw [Lib.nDigits_big hu]
   have := nDig_le k (u / 10) (by rw [Nat.pow_succ] at h; omega)
   omega
theorem itoa_len (n:Int) (h1 : -9223372036854775808 < n) (h2:n < 9223372036854775808):(Lib.itoa n).length ≤ 20 := by
 unfold Lib.itoa
 split
 ·have := nDig_le 18 n.natAbs (by omega)
  rw [List.length_cons,Lib.decDigits_length]; omega
 ·have := nDig_le 18 n.toNat (by omega)
  rw [Lib.decDigits_length]; omega
mutual
def printT:Tr tAtom → List UInt8
 | .node a ts=>if a.1 = 1 then Lib.itoa a.2.2.1 else if a.1 = 2 then quoteT a.2.2.2.1 else [91] ++ Lib.join (printTs ts) [44,32] ++ [93]
def printTs:List (Tr tAtom) → List (List UInt8)
 | []=>[]
 | t :: ts=>printT t :: printTs ts
end
theorem printTs_map:∀ ts:List (Tr tAtom),printTs ts = ts.map printT
 | []=>by rw [printTs]; rfl
 | t :: ts=>by rw [printTs,printTs_map ts]; rfl
theorem joinTail_cons (sep x:List UInt8) (r:List (List UInt8)):Lib.joinTail sep (x :: r) = sep ++ x ++ Lib.joinTail sep r := by
 simp [Lib.joinTail]
theorem quoteT_len (s:List UInt8):(quoteT s).length ≤ 4 * s.length + 2 := by
 have:(s.flatMap quoteW).length ≤ 4 * s.length := by
  induction s with
  | nil=>simp
  | cons c r ih =>
   have := quoteW_len c
   simp only [List.flatMap_cons,List.length_append,List.length_cons]; omega
 simp only [quoteT,List.length_append,List.length_cons,List.length_nil]; omega
mutual
theorem printT_len:∀ t:Tr tAtom,okT arV (goodV 32) t → (printT t).length + 2 ≤ 20000 * (flat t).length
 | .node a ts,h=>by
  have hf:(flat (Tr.node a ts)).length = (flats ts).length + 1 := by simp [flat]
  rw [hf,printT]
  have hw:wellA a = true := okT_well h
  rcases wellA_kind hw with ⟨e,_,_,b1,b2⟩ | ⟨e,_,_,b⟩ | ⟨e,_⟩
  ·rw [if_pos e]
   have := itoa_len a.2.2.1 (by omega) (by omega)
   omega
  ·rw [if_neg (by rw [show a.1 = 2 from e]; decide),if_pos e]
   have := quoteT_len a.2.2.2.1
   omega
  ·rw [if_neg (by rw [show a.1 = 3 from e]; decide),if_neg (by rw [show a.1 = 3 from e]; decide)]
   have := printTs_len ts h.2.2
   have hj:(Lib.join (printTs ts) [44,32]).length ≤ 20000 * (flats ts).length := by
    cases ts with
    | nil=>rw [printTs]; simp [Lib.join_nil]
    | cons x r =>
     rw [printTs,Lib.join_cons,List.length_append]
     rw [printTs,joinTail_cons] at this
     simp only [List.length_append,List.length_cons,List.length_nil] at this
     omega
   simp only [List.length_append,List.length_cons,List.length_nil]; omega
theorem printTs_len:∀ ts:List (Tr tAtom),okF arV (goodV 32) ts → (Lib.joinTail [44,32] (printTs ts)).length ≤ 20000 * (flats ts).length
 | [],_=>by rw [printTs]; simp [Lib.joinTail]
 | t :: ts,h=>by
  have h1 := printT_len t h.1
  have h2 := printTs_len ts h.2
  rw [printTs,joinTail_cons,flats]
  simp only [List.length_append,List.length_cons,List.length_nil]; omega
end
theorem join_len (ts:List (Tr tAtom)) (h:okF arV (goodV 32) ts):(Lib.join (printTs ts) [44,32]).length ≤ 20000 * (flats ts).length := by
 have := printTs_len ts h
 cases ts with
 | nil=>rw [printTs]; simp [Lib.join_nil]
 | cons x r =>
  rw [printTs,Lib.join_cons,List.length_append]
  rw [printTs,joinTail_cons] at this
  simp only [List.length_append,List.length_cons,List.length_nil] at this
  omega
theorem print_loop (v:List tAtom) (hv:v.length ≤ 1024) (t:Tr tAtom):∀ (l:List tAtom) (F:List (Tr tAtom)),okF arV (goodV 32) F → flats F ++ l = v → parseT arV (goodV 32) l F = some [t] →
  iter st_value_Print (.l6 (F.map printT) v (v.length:Int) ((flats F).length:Int)) = some (printT t,0)
 | [],F,hF,hl,hp=>by
  cases hp
  rw [iter_eq']
  simp only [st_value_Print,sg_value_Print_6]
  have:(flats [t]).length = v.length := by rw [← hl,List.append_nil]
  rw [this,if_neg (by simp),G_any (by simp)]; rfl
 | a :: l,F,hF,hl,hp=>by
  have hlen:(flats F).length + (l.length + 1) = v.length := by rw [← hl]; simp
  have hFl := len_flats F
  rw [parseT] at hp
  cases hq:pushT arV (goodV 32) a F with
  | none=>rw [hq] at hp; cases hp
  | some F' =>
   rw [hq] at hp
   obtain ⟨o1,o2⟩ := push_spec hq hF
   have ih := print_loop v hv t l F' o1 (by rw [o2,List.append_assoc]; exact hl) hp
   unfold pushT at hq
   split at hq
   ·rename_i hc
    cases hq
    have hget:v.getD (flats F).length dAtom = a := by rw [← hl]; simp [List.getD_eq_getElem?_getD]
    have hw:wellA a = true := by
     have := hc.2
     simp only [goodV,Bool.and_eq_true] at this
     exact this.1
    have hlen2:(flats (F.take (F.length - arV a) ++ [Tr.node a (F.drop (F.length - arV a))])).length = (flats F).length + 1 := by rw [o2]; simp
    rw [hlen2,List.map_append] at ih
    simp only [List.map_cons,List.map_nil] at ih
    rw [iter_eq']
    simp only [st_value_Print,sg_value_Print_6]
    have ei:w64 (((flats F).length:Int) + 1) = (((flats F).length + 1:Nat):Int) := w64_eq (by omega) (by omega)
    rw [if_pos (decide_eq_true (by omega)),G_any (by omega),Int.toNat_natCast,hget,ei]
    have hsl:((F.map printT).length:Int) = (F.length:Int) := by rw [List.length_map]
    rcases wellA_kind hw with ⟨e,e0,_,b1,b2⟩ | ⟨e,e0,_,b⟩ | ⟨e,e0,_⟩
    ·have ha:arV a = 0 := by simp [arV,e0]
     rw [ha,Nat.sub_zero,List.take_of_length_le (Nat.le_refl _),List.drop_of_length_le (Nat.le_refl _),printT,if_pos e] at ih
     have ek:w64 (((F.map printT).length:Int) - a.2.1) = (F.length:Int) := by rw [hsl,e0,w64_eq (by omega) (by omega)]; omega
     rw [if_pos (decide_eq_true e),ek,hsl,Int.toNat_natCast]
     unfold strconv_Itoa
     rw [G_any (by omega),Option.bind_some,G_any (by omega),G_any (by simp only [List.length_cons,List.length_nil]; omega),List.take_of_length_le (by rw [List.length_map]; omega)]
     exact ih
    ·have ha:arV a = 0 := by simp [arV,e0]
     have n1:¬ a.1 = 1 := by rw [e]; decide
     rw [ha,Nat.sub_zero,List.take_of_length_le (Nat.le_refl _),List.drop_of_length_le (Nat.le_refl _),printT,if_neg n1,if_pos e] at ih
     have ek:w64 (((F.map printT).length:Int) - a.2.1) = (F.length:Int) := by rw [hsl,e0,w64_eq (by omega) (by omega)]; omega
     rw [if_neg (by simpa using n1),if_pos (decide_eq_true e),ek,hsl,Int.toNat_natCast,Quote_eq _ (by omega),Option.bind_some,G_any (by omega),G_any (by simp only [List.length_cons,List.length_nil]; omega),List.take_of_length_le (by rw [List.length_map]; omega)]
     exact ih
    ·have n1:¬ a.1 = 1 := by rw [e]; decide
     have n2:¬ a.1 = 2 := by rw [e]; decide
     have ha:(arV a:Int) = a.2.1 := by simp only [arV]; omega
     have hle := hc.1
     have ek:w64 (((F.map printT).length:Int) - a.2.1) = ((F.length - arV a:Nat):Int) := by rw [hsl,w64_eq (by omega) (by omega)]; omega
     rw [printT,if_neg n1,if_neg n2] at ih
     have hokd:okF arV (goodV 32) (F.drop (F.length - arV a)) := by
      have:okF arV (goodV 32) (F.take (F.length - arV a) ++ F.drop (F.length - arV a)) := by rw [List.take_append_drop]; exact hF
      exact (okF_app.1 this).2
     have hj := join_len _ hokd
     have hfd:(flats (F.drop (F.length - arV a))).length ≤ (flats F).length := by
      conv=>rhs; rw [← List.take_append_drop (F.length - arV a) F]
      rw [flats_app,List.length_append]; omega
     have hdl:(printTs (F.drop (F.length - arV a))).length ≤ F.length := by rw [printTs_map,List.length_map,List.length_drop]; omega
     rw [if_neg (by simpa using n1),if_neg (by simpa using n2),if_pos (decide_eq_true e),ek,hsl,Int.toNat_natCast,G_any (by omega),← List.map_drop,← printTs_map]
     unfold strings_Join
     rw [G_any ⟨by omega,by omega⟩,Option.bind_some,G_any (by simp only [List.length_cons,List.length_nil]; omega),G_any (by simp only [List.length_append,List.length_cons,List.length_nil]; omega),G_any (by omega),G_any (by simp only [List.length_cons,List.length_nil]; omega),← List.map_take]
     exact ih
   ·cases hq
open Classical in
noncomputable def printV (v:List tAtom):List UInt8 × Int := if h:∃ t,isV t v then (printT h.choose,0) else ([],checkV v)
theorem printV_of {t:Tr tAtom} {v:List tAtom} (h:isV t v):printV v = (printT t,0) := by
 have he:∃ t,isV t v := ⟨t,h⟩
 unfold printV
 rw [dif_pos he,isV_inj he.choose_spec h]
theorem printV_no {v:List tAtom} (h:¬ checkV v = 0):printV v = ([],checkV v) := by
 unfold printV
 rw [dif_neg fun ⟨t,ht⟩=>h (checkV_of ht)]
theorem vPrint_eq (v:List tAtom):value_Print v = some (printV v) := by
 unfold value_Print en_value_Print
 rw [vcheck_eq,Option.bind_some]
 by_cases hc:checkV v = 0
 ·obtain ⟨t,ht⟩ := checkV_ok hc
  rw [hc,if_neg (by decide),printV_of ht]
  exact print_loop v ht.1 t v [] trivial rfl (isV_par ht)
 ·rw [if_pos (by simpa using hc),printV_no hc]; rfl
end Go.Eng
