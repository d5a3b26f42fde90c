/- A part of the proof: Pq1. -/
import Derived.Test.YtnjcbogckfiamaaDoorPv6
import Derived.Test.YtnjcbogckfiamaaDoorPq0
namespace Go.Eng
set_option linter.unusedVariables false
set_option linter.unusedSimpArgs false
def scanQ:List UInt8 → Option Nat
 | []=>none
 | c :: r=>if (c.toNat:Int) = 34 then some 0 else if (c.toNat:Int) = 92 then (match r with
  | []=>none
  | _ :: r'=>(scanQ r').map (· + 2)) else (scanQ r).map (· + 1)
theorem scanQ_lt:∀ (n:Nat) (l:List UInt8) (j:Nat),l.length ≤ n → scanQ l = some j → j < l.length
 | _,[],j,_,h=>by simp [scanQ] at h
 | 0,c :: r,j,hn,h=>by simp at hn
 | n + 1,c :: r,j,hn,h=>by
  simp only [List.length_cons] at hn ⊢
  unfold scanQ at h
  split at h
  ·cases h; omega
  ·split at h
   ·cases r with
    | nil=>cases h
    | cons e r' =>
     obtain ⟨k,h1,h2⟩ := Option.map_eq_some_iff.1 h
     have := scanQ_lt n r' k (by simp at hn; omega) h1
     simp only [List.length_cons]; omega
   ·obtain ⟨k,h1,h2⟩ := Option.map_eq_some_iff.1 h
    have := scanQ_lt n r k (by omega) h1
    omega
def numA (n:Int):Tr tAtom := .node (1,0,n,[],()) []
def txtA (t:List UInt8):Tr tAtom := .node (2,0,0,t,()) []
def lstA (l:List (Tr tAtom)):Tr tAtom := .node (lastA l.length) l
def cutD (s:List UInt8):List UInt8 := s.takeWhile isD
theorem cutD_take (s:List UInt8):cutD s = s.take (cutD s).length := (List.prefix_iff_eq_take.1 (List.takeWhile_prefix _))
theorem cutD_le (s:List UInt8):(cutD s).length ≤ s.length := (List.takeWhile_prefix _).length_le
def numV:List UInt8 → Option (Tr tAtom × Nat)
 | []=>none
 | c :: r=>if (c.toNat:Int) = 45 then (if (numS (cutD r)).2 = true ∧ 0 < (numS (cutD r)).1 then some (numA (-(numS (cutD r)).1),(cutD r).length + 1) else none)
  else (if (numS (cutD (c :: r))).2 = true then some (numA (numS (cutD (c :: r))).1,(cutD (c :: r)).length) else none)
def txtV (s:List UInt8):Option (Tr tAtom × Nat) := match scanQ s.tail with
 | none=>none
 | some j=>if (unqS (s.take (j + 2))).2 = true then some (txtA (unqS (s.take (j + 2))).1,j + 2) else none
def moreT (val:List UInt8 → Option (Tr tAtom × Nat)):Nat → List UInt8 → Option (List (Tr tAtom) × Nat)
 | 0,_=>none
 | _ + 1,[]=>none
 | f + 1,c :: r=>if (c.toNat:Int) = 93 then some ([],1) else if (c.toNat:Int) = 44 then (match r with
  | []=>none
  | e :: r'=>if (e.toNat:Int) = 32 then (match val r' with
   | some (x,k)=>(match moreT val f (r'.drop k) with
    | some (xs,m)=>some (x :: xs,2 + k + m)
    | none=>none)
   | none=>none) else none) else none
def valT:Nat → List UInt8 → Option (Tr tAtom × Nat)
 | 0,_=>none
 | _ + 1,[]=>none
 | d + 1,c :: r=>if (c.toNat:Int) = 34 then txtV (c :: r) else if (c.toNat:Int) = 91 then (match r with
  | []=>none
  | e :: r'=>if (e.toNat:Int) = 93 then some (lstA [],2) else (match valT d (e :: r') with
   | some (x,k)=>(match moreT (valT d) ((e :: r').length + 1) ((e :: r').drop k) with
    | some (xs,m)=>some (lstA (x :: xs),1 + k + m)
    | none=>none)
   | none=>none)) else numV (c :: r)
def sizeT (x:Tr tAtom) (k n:Nat):Prop := (flat x).length ≤ k ∧ k ≤ n ∧ 1 ≤ k
theorem numV_size {s:List UInt8} {x:Tr tAtom} {k:Nat} (h:numV s = some (x,k)):sizeT x k s.length := by
 cases s with
 | nil=>cases h
 | cons c r =>
  simp only [numV] at h
  have hl := cutD_le r
  have hl2 := cutD_le (c :: r)
  split at h
  ·split at h
   ·cases h; exact ⟨by simp [flat,flats,numA],by simp only [List.length_cons]; omega,by omega⟩
   ·cases h
  ·split at h
   ·rename_i h1
    cases h
    have h0:(cutD (c :: r)) ≠ [] := by
     intro e; rw [e] at h1; simp [numS] at h1
    have := len_pos h0
    exact ⟨by simp [flat,flats,numA]; omega,hl2,by omega⟩
   ·cases h
theorem txtV_size {s:List UInt8} {x:Tr tAtom} {k:Nat} (h0:s ≠ []) (h:txtV s = some (x,k)):sizeT x k s.length := by
 unfold txtV at h
 split at h
 ·cases h
 ·rename_i j hj
  split at h
  ·cases h
   have := scanQ_lt _ _ _ (Nat.le_refl _) hj
   rw [List.length_tail] at this
   exact ⟨by simp [flat,flats,txtA],by omega,by omega⟩
  ·cases h
theorem moreT_size {val:List UInt8 → Option (Tr tAtom × Nat)} (hv:∀ s x k,val s = some (x,k) → sizeT x k s.length):∀ (f:Nat) (s:List UInt8) (xs:List (Tr tAtom)) (m:Nat),moreT val f s = some (xs,m) → (flats xs).length + 1 ≤ m ∧ m ≤ s.length
 | 0,s,xs,m,h=>by cases h
 | f + 1,[],xs,m,h=>by cases h
 | f + 1,c :: r,xs,m,h=>by
  simp only [moreT] at h
  split at h
  ·cases h; simp [flats]
  ·split at h
   ·split at h
    ·cases h
    ·rename_i e r'
     split at h
     ·split at h
      ·rename_i x k hx
       split at h
       ·rename_i xs' m' hm
        cases h
        obtain ⟨a1,a2,a3⟩ := hv _ _ _ hx
        obtain ⟨b1,b2⟩ := moreT_size hv f _ _ _ hm
        rw [List.length_drop] at b2
        simp only [flats,List.length_append,List.length_cons]
        omega
       ·cases h
      ·cases h
     ·cases h
   ·cases h
theorem valT_size:∀ (d:Nat) (s:List UInt8) (x:Tr tAtom) (k:Nat),valT d s = some (x,k) → sizeT x k s.length
 | 0,s,x,k,h=>by cases h
 | d + 1,[],x,k,h=>by cases h
 | d + 1,c :: r,x,k,h=>by
  simp only [valT] at h
  split at h
  ·exact txtV_size (by simp) h
  ·split at h
   ·split at h
    ·cases h
    ·rename_i e r'
     split at h
     ·cases h; simp [sizeT,flat,flats,lstA]
     ·split at h
      ·rename_i y k' hy
       split at h
       ·rename_i xs m hm
        cases h
        obtain ⟨a1,a2,a3⟩ := valT_size d _ _ _ hy
        obtain ⟨b1,b2⟩ := moreT_size (valT_size d) _ _ _ _ hm
        rw [List.length_drop] at b2
        simp only [sizeT,flat,flats,lstA,List.length_append,List.length_cons,List.length_nil] at *
        omega
       ·cases h
      ·cases h
   ·exact numV_size h
def shortA (a:tAtom):Prop := a.2.2.2.1.length ≤ 4096
theorem numF_bd {l:List UInt8} {m:Int} (h:numF l 0 = some m):0 ≤ m ∧ m ≤ 9007199254740992 := by
 have := numF_le l 0 m (by omega) (by omega) h
 omega
theorem numS_bd (s:List UInt8):0 ≤ (numS s).1 ∧ (numS s).1 ≤ 9007199254740992 := by
 unfold numS
 split
 ·exact ⟨by omega,by omega⟩
 ·cases h:numF s 0 with
  | none=>exact ⟨by simp [numR],by simp [numR]⟩
  | some m=>exact numF_bd h
theorem wellA_num {n:Int} (h1 : -9007199254740992 ≤ n) (h2:n ≤ 9007199254740992):wellA (1,0,n,[],()) = true := by
 simp [wellA,value_well,h1,h2]
theorem wellA_txt {s:List UInt8} (h:s.length ≤ 4096):wellA (2,0,0,s,()) = true := by
 have:(s.length:Int) ≤ 4096 := by omega
 simp [wellA,value_well,this]
theorem wellA_lst (n:Nat):wellA (lastA n) = true := by
 have:(0:Int) ≤ (n:Int) := by omega
 simp [wellA,value_well,lastA,this]
def goodX (d:Nat) (x:Tr tAtom):Prop := (∀ a ∈ flat x,shortA a) → okT arV (goodV d) x
theorem okT_leaf {a:tAtom} {d:Nat} (hd:1 ≤ d) (h:wellA a = true) (h0:a.2.1 = 0):okT arV (goodV d) (.node a []) := by
 refine ⟨by simp [arV,h0],?_,trivial⟩
 have e:(Tr.node a []).a = a := rfl
 have e2:tdeep (Tr.node a []) = 1 := rfl
 simp only [goodV,e,h,e2,Bool.true_and,decide_eq_true_eq]
 omega
theorem okT_list {d:Nat} {l:List (Tr tAtom)} (h:∀ x ∈ l,okT arV (goodV d) x):okT arV (goodV ((d + 1:Nat):Int)) (lstA l) := by
 refine ⟨by simp [arV,lastA],?_,okF_mem.2 fun x hx=>okT_up (by omega) x (h x hx)⟩
 have e:(Tr.node (lastA l.length) l).a = lastA l.length := rfl
 have hd:(tdeeps l:Int) ≤ d := by
  clear e
  induction l with
  | nil=>simp [tdeeps]
  | cons y r ih =>
   have h1 := okT_deep (h y List.mem_cons_self)
   have h2 := ih fun x hx=>h x (List.mem_cons_of_mem _ hx)
   simp only [tdeeps]; omega
 unfold goodV
 rw [e,wellA_lst,Bool.true_and,decide_eq_true_eq]
 have e3:tdeep (Tr.node (lastA l.length) l) = tdeeps l + 1 := rfl
 rw [e3]; omega
theorem moreT_good {val:List UInt8 → Option (Tr tAtom × Nat)} {P:Tr tAtom → Prop} (hv:∀ s x k,val s = some (x,k) → P x):∀ (f:Nat) (s:List UInt8) (xs:List (Tr tAtom)) (m:Nat),moreT val f s = some (xs,m) → ∀ x ∈ xs,P x
 | 0,s,xs,m,h=>by cases h
 | f + 1,[],xs,m,h=>by cases h
 | f + 1,c :: r,xs,m,h=>by
  simp only [moreT] at h
  split at h
  ·cases h; intro x hx; cases hx
  ·split at h
   ·split at h
    ·cases h
    ·split at h
     ·split at h
      ·rename_i x k hx
       split at h
       ·rename_i xs' m' hm
        cases h
        intro y hy
        rcases List.mem_cons.1 hy with rfl | hy
        ·exact hv _ _ _ hx
        ·exact moreT_good hv f _ _ _ hm y hy
       ·cases h
      ·cases h
     ·cases h
   ·cases h
theorem flats_mem {xs:List (Tr tAtom)} {x:Tr tAtom} (hx:x ∈ xs) {a:tAtom} (ha:a ∈ flat x):a ∈ flats xs := by
 induction xs with
 | nil=>cases hx
 | cons y r ih =>
  simp only [flats,List.mem_append]
  rcases List.mem_cons.1 hx with rfl | hx
  ·exact .inl ha
  ·exact .inr (ih hx)
theorem valT_good:∀ (d:Nat) (s:List UInt8) (x:Tr tAtom) (k:Nat),valT d s = some (x,k) → goodX d x
 | 0,s,x,k,h=>by cases h
 | d + 1,[],x,k,h=>by cases h
 | d + 1,c :: r,x,k,h=>by
  simp only [valT] at h
  split at h
  ·unfold txtV at h
   split at h
   ·cases h
   ·split at h
    ·cases h
     intro hs
     exact okT_leaf (by omega) (wellA_txt (hs (2,0,0,_,()) (by simp only [flat,flats,txtA,List.nil_append,List.mem_singleton]))) rfl
    ·cases h
  ·split at h
   ·split at h
    ·cases h
    ·rename_i e r'
     split at h
     ·cases h; intro _; exact okT_list (d := d) (l := []) (fun x hx=>by cases hx)
     ·split at h
      ·rename_i y k' hy
       split at h
       ·rename_i xs m hm
        cases h
        intro hs
        have hs':∀ z ∈ y :: xs,∀ a ∈ flat z,shortA a := fun z hz a ha=>hs a (by
         simp only [lstA,flat,List.mem_append]; exact .inl (flats_mem hz ha))
        refine okT_list (d := d) fun z hz=>?_
        rcases List.mem_cons.1 hz with rfl | hz'
        ·exact valT_good d _ _ _ hy (hs' _ hz)
        ·exact moreT_good (P := goodX d) (valT_good d) _ _ _ _ hm z hz' (hs' z hz)
       ·cases h
      ·cases h
   ·cases hn:numV (c :: r) with
    | none=>rw [hn] at h; cases h
    | some p =>
     rw [hn] at h; cases h
     intro _
     simp only [numV] at hn
     have b1 := numS_bd (cutD r)
     have b2 := numS_bd (cutD (c :: r))
     split at hn
     ·split at hn
      ·cases hn; exact okT_leaf (by omega) (wellA_num (by omega) (by omega)) rfl
      ·cases hn
     ·split at hn
      ·cases hn; exact okT_leaf (by omega) (wellA_num (by omega) (by omega)) rfl
      ·cases hn
mutual
theorem okT_short {lim:Int}:∀ (x:Tr tAtom),okT arV (goodV lim) x → ∀ a ∈ flat x,shortA a
 | .node b ts,h,a,ha=>by
  simp only [flat,List.mem_append,List.mem_singleton] at ha
  rcases ha with ha | rfl
  ·exact okF_short ts h.2.2 a ha
  ·have := okT_well h
   rcases wellA_kind this with ⟨_,_,e,_⟩ | ⟨_,_,_,e⟩ | ⟨_,_,_,e⟩
   ·simp only [Tr.a] at e; simp [shortA,e]
   ·exact e
   ·simp only [Tr.a] at e; simp [shortA,e]
theorem okF_short {lim:Int}:∀ (xs:List (Tr tAtom)),okF arV (goodV lim) xs → ∀ a ∈ flats xs,shortA a
 | [],h,a,ha=>by simp [flats] at ha
 | x :: xs,h,a,ha=>by
  simp only [flats,List.mem_append] at ha
  rcases ha with ha | ha
  ·exact okT_short x h.1 a ha
  ·exact okF_short xs h.2 a ha
end
theorem valT_check {s:List UInt8} {x:Tr tAtom} {k:Nat} (h:valT 32 s = some (x,k)):checkV (flat x) = 0 ↔ ((flat x).length ≤ 1024 ∧ ∀ a ∈ flat x,shortA a) := by
 constructor
 ·intro h0
  obtain ⟨t,ht⟩ := checkV_ok h0
  exact ⟨ht.1,fun a ha=>okT_short t ht.2.1 a (by rw [ht.2.2]; exact ha)⟩
 ·rintro ⟨h1,h2⟩
  exact checkV_of (t := x) ⟨h1,valT_good 32 _ _ _ h h2,rfl⟩
end Go.Eng
