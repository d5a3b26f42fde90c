/- A part of the proof: T7. -/
import Derived.Test.YthgemanfbanhnaaT6
import Derived.ProofKit
import Derived.OpenShut
import Derived.JoinedCond
import Derived.Below
namespace Go.Eng
open Go.Proofs
theorem isF4 : isFn Try.prog 4 = true := by kernel_rfl
theorem isF5 : isFn Try.prog 5 = true := by kernel_rfl
theorem isF6 : isFn Try.prog 6 = true := by kernel_rfl
theorem isF7 : isFn Try.prog 7 = true := by kernel_rfl
theorem isF8 : isFn Try.prog 8 = true := by kernel_rfl
theorem isF9 : isFn Try.prog 9 = true := by kernel_rfl
theorem isF10 : isFn Try.prog 10 = true := by kernel_rfl
theorem isF11 : isFn Try.prog 11 = true := by kernel_rfl
theorem isF12 : isFn Try.prog 12 = true := by kernel_rfl
theorem isF13 : isFn Try.prog 13 = true := by kernel_rfl

noncomputable def X0 : Ctx := { P := Try.prog, N := 0, G := fun _ => True, gl := fun _ => none, hN := fun _ _ => Nat.zero_le _, hG := fun _ _ _ _ _ => trivial, hgl := fun _ _ h => by cases h }
theorem X0P : X0.P = Try.prog := rfl

theorem callee {f : FuncId} {args : List T} {res : T} (h1 : isFn Try.prog f = true) (h2 : APure X0 f args res) : ACallee X0 f args false res := .inl ⟨h1, .inl rfl, h2⟩

theorem law (s t : ByteArray) (hs : (bl s).length < 1099511627776) (ht : (bl t).length < 1099511627776) : APure X0 3 [.v (.string s), .v (.string t)] (.v (.bool true)) := by
  have h14 := fun (s : ByteArray) (c : Int) => AExt_indexByteString (X := X0) Try.func14 (by decide +kernel) (by decide +kernel) (by kernel_rfl) (by kernel_rfl) s c
  have h13 := fun s c => callee isF13 (f13 X0 X0P s c (h14 s c))
  have h12 := fun s c => callee isF12 (f12 X0 X0P s c (h13 s c))
  have h10 := fun (i : Nat) (hi : i < (bl t).length) => callee isF10 (f10 X0 X0P t i hi (by omega) h12)
  have h8 := callee isF8 (f8 X0 X0P t 0 (Nat.zero_le _) ht h10)
  have h11 := fun (c : UInt8) => callee isF11 (f11 X0 X0P c.toNat ⟨by omega, by have := c.toNat_lt; omega⟩)
  have h9 := callee isF9 (f9 X0 X0P t 0 (Nat.zero_le _) ht h11)
  exact f3 X0 X0P s t (callee isF4 (f4 X0 X0P t h8)) (callee isF5 (f5 X0 X0P t h9)) (callee isF6 (f6 X0 X0P s hs)) (callee isF7 (f7 X0 X0P s hs))
end Go.Eng
