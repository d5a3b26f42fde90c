/-
  NARROWER THAN 'FOR EVERY INPUT', by the rows' own cells (each row's printed sentence says how): LexWords: laid · LexBlank: laid · LexBegins: laid · LexLays: laid · LexBack: laid.
  DERIVED. THE GIVEN ROWS OF THIS SEAT. 5 by the template 'for every input the law returns true; each argument reads behind the call as it read before'; 0 by the template 'total and deterministic' (their statements: YthgemanfbanhnaaDoorTotals.lean).
  GIVEN WITH THE SEED: the statements are not yours to turn. If you find one false, say at which input.
  Laid BY PROGRAM, IN A SANDBOX (cutbox-rows.mjs): the forced cells as the released guide's own fill.sh prints them over the translation ea6e0336f5adc540… (all of the seat's roots in one cut). By AI agents, Wed Nov 11 2026. No macro, syntax, notation, axiom, sorry.
-/
import Derived.Test.YthgemanfbanhnaaDoorChecked
import GoSem.Claim
import GoSem.ClaimJoined
import GoSem.ClaimMapViews
import Derived.JoinedTies
import Derived.KernelRfl
namespace Go.Proofs.YthgemanfbanhnaaDoor
/- THE CELL 'sum', in the pinned program and in every row, IS THE sha256 OF THE DUMP (.gsa) THAT YthgemanfbanhnaaDoorProg.lean LOADS. Nothing in Lean hashes anything: it is a label: what it is worth is what the hold of that sum in a sandbox is worth. -/
noncomputable def Tryd.pinned : Pinned := { name := "ythgemanfbanhnaadoor", sum := "ea6e0336f5adc540ac2f3ed6529f3b9d99f9a96b860ef2ca2e61761e95588bc7", checked := Tryd.checked }
namespace Rows
def none {H : Type} : Left H := { results := [], args := [] }

/- WHAT THE LISTED PACKAGE-LEVEL VARIABLES READ AS WHEN THE CALL BEGINS. Each datum BY PROGRAM (the guide's laid-datum.mjs) off the statement by which the dump's own 'gosem.cut.vars' lays the variable. In a bare row this is a premise. The card (YthgemanfbanhnaaDoorCards.lean) ties it to the program's text. -/
def laid_onceweb_lex_keys {H : Type} : DataW H := .agg [.lit (.string [99, 101, 108, 108]), .lit (.string [97, 103, 97, 105, 110]), .lit (.string [116, 114, 105, 101, 115]), .lit (.string [98, 97, 115, 101]), .lit (.string [102, 97, 99, 116, 111, 114]), .lit (.string [99, 97, 112]), .lit (.string [99, 108, 111, 115, 101]), .lit (.string [102, 105, 110, 101]), .lit (.string [102, 97, 105, 108]), .lit (.string [112, 97, 110, 105, 99]), .lit (.string [105, 102]), .lit (.string [116, 104, 101, 110]), .lit (.string [101, 108, 115, 101]), .lit (.string [116, 114, 121]), .lit (.string [119, 97, 105, 116]), .lit (.string [108, 101, 116]), .lit (.string [105, 110]), .lit (.string [105, 116, 101, 109]), .lit (.string [115, 105, 122, 101])]

/-- 'onceweblaw01.LexWords': WHATEVER THE INPUT: true; the input reads as it did. -/
def lexWordsSpec : ChangeSpec := { name := "lexWords", fn := fun _ => fun
  | [d] => { results := [.lit (.bool true)], args := [d] }
  | _ => none }
def lexWordsRow : OpenClaim := { program := "ythgemanfbanhnaadoor", sum := "ea6e0336f5adc540ac2f3ed6529f3b9d99f9a96b860ef2ca2e61761e95588bc7", func := "onceweb/onceweblaw01.LexWords", spec := "lexWords", named := ["onceweb/lex.keys"], apart := false, laid := [("onceweb/lex.keys", laid_onceweb_lex_keys)] }
def LexWordsSaid : Prop := lexWordsRow.holds Tryd.pinned (OpenSpec.ofChange lexWordsSpec)

/-- ITS FALSE NEIGHBOUR: 'it returns false'. Refute it at one input. -/
def lexWordsWrong : ChangeSpec := { name := "lexWords", fn := fun _ => fun
  | [d] => { results := [.lit (.bool false)], args := [d] }
  | _ => none }
def LexWordsWrongFalsely : Prop := lexWordsRow.holds Tryd.pinned (OpenSpec.ofChange lexWordsWrong)

/-- 'onceweblaw01.LexBlank': WHATEVER THE INPUT: true; the input reads as it did. -/
def lexBlankSpec : ChangeSpec := { name := "lexBlank", fn := fun _ => fun
  | [d1, d2] => { results := [.lit (.bool true)], args := [d1, d2] }
  | _ => none }
def lexBlankRow : OpenClaim := { program := "ythgemanfbanhnaadoor", sum := "ea6e0336f5adc540ac2f3ed6529f3b9d99f9a96b860ef2ca2e61761e95588bc7", func := "onceweb/onceweblaw01.LexBlank", spec := "lexBlank", inPlace := ["internal/bytealg.IndexByteString"], named := ["onceweb/lex.keys"], apart := false, laid := [("onceweb/lex.keys", laid_onceweb_lex_keys)] }
def LexBlankSaid : Prop := lexBlankRow.holds Tryd.pinned (OpenSpec.ofChange lexBlankSpec)

/-- ITS FALSE NEIGHBOUR: 'it returns false'. Refute it at one input. -/
def lexBlankWrong : ChangeSpec := { name := "lexBlank", fn := fun _ => fun
  | [d1, d2] => { results := [.lit (.bool false)], args := [d1, d2] }
  | _ => none }
def LexBlankWrongFalsely : Prop := lexBlankRow.holds Tryd.pinned (OpenSpec.ofChange lexBlankWrong)

/-- 'onceweblaw01.LexBegins': WHATEVER THE INPUT: true; the input reads as it did. -/
def lexBeginsSpec : ChangeSpec := { name := "lexBegins", fn := fun _ => fun
  | [d1, d2] => { results := [.lit (.bool true)], args := [d1, d2] }
  | _ => none }
def lexBeginsRow : OpenClaim := { program := "ythgemanfbanhnaadoor", sum := "ea6e0336f5adc540ac2f3ed6529f3b9d99f9a96b860ef2ca2e61761e95588bc7", func := "onceweb/onceweblaw01.LexBegins", spec := "lexBegins", inPlace := ["internal/bytealg.IndexByteString"], named := ["onceweb/lex.keys"], apart := false, laid := [("onceweb/lex.keys", laid_onceweb_lex_keys)] }
def LexBeginsSaid : Prop := lexBeginsRow.holds Tryd.pinned (OpenSpec.ofChange lexBeginsSpec)

/-- ITS FALSE NEIGHBOUR: 'it returns false'. Refute it at one input. -/
def lexBeginsWrong : ChangeSpec := { name := "lexBegins", fn := fun _ => fun
  | [d1, d2] => { results := [.lit (.bool false)], args := [d1, d2] }
  | _ => none }
def LexBeginsWrongFalsely : Prop := lexBeginsRow.holds Tryd.pinned (OpenSpec.ofChange lexBeginsWrong)

/-- 'onceweblaw01.LexLays': WHATEVER THE INPUT: true; the input reads as it did. -/
def lexLaysSpec : ChangeSpec := { name := "lexLays", fn := fun _ => fun
  | [d] => { results := [.lit (.bool true)], args := [d] }
  | _ => none }
def lexLaysRow : OpenClaim := { program := "ythgemanfbanhnaadoor", sum := "ea6e0336f5adc540ac2f3ed6529f3b9d99f9a96b860ef2ca2e61761e95588bc7", func := "onceweb/onceweblaw01.LexLays", spec := "lexLays", inPlace := ["internal/bytealg.IndexByteString", "internal/bytealg.IndexString", "internal/abi.NoEscape", "internal/bytealg.MakeNoZero"], named := ["onceweb/lex.keys", "internal/bytealg.MaxLen"], apart := false, laid := [("onceweb/lex.keys", laid_onceweb_lex_keys)] }
def LexLaysSaid : Prop := lexLaysRow.holds Tryd.pinned (OpenSpec.ofChange lexLaysSpec)

/-- ITS FALSE NEIGHBOUR: 'it returns false'. Refute it at one input. -/
def lexLaysWrong : ChangeSpec := { name := "lexLays", fn := fun _ => fun
  | [d] => { results := [.lit (.bool false)], args := [d] }
  | _ => none }
def LexLaysWrongFalsely : Prop := lexLaysRow.holds Tryd.pinned (OpenSpec.ofChange lexLaysWrong)

/-- 'onceweblaw01.LexBack': WHATEVER THE INPUT: true; the input reads as it did. -/
def lexBackSpec : ChangeSpec := { name := "lexBack", fn := fun _ => fun
  | [d1, d2] => { results := [.lit (.bool true)], args := [d1, d2] }
  | _ => none }
def lexBackRow : OpenClaim := { program := "ythgemanfbanhnaadoor", sum := "ea6e0336f5adc540ac2f3ed6529f3b9d99f9a96b860ef2ca2e61761e95588bc7", func := "onceweb/onceweblaw01.LexBack", spec := "lexBack", inPlace := ["internal/bytealg.IndexByteString", "internal/bytealg.IndexString", "internal/abi.NoEscape", "internal/bytealg.MakeNoZero"], named := ["onceweb/lex.keys", "internal/bytealg.MaxLen"], apart := false, laid := [("onceweb/lex.keys", laid_onceweb_lex_keys)] }
def LexBackSaid : Prop := lexBackRow.holds Tryd.pinned (OpenSpec.ofChange lexBackSpec)

/-- ITS FALSE NEIGHBOUR: 'it returns false'. Refute it at one input. -/
def lexBackWrong : ChangeSpec := { name := "lexBack", fn := fun _ => fun
  | [d1, d2] => { results := [.lit (.bool false)], args := [d1, d2] }
  | _ => none }
def LexBackWrongFalsely : Prop := lexBackRow.holds Tryd.pinned (OpenSpec.ofChange lexBackWrong)

/- THE SECOND FORM. 'bulk': how many values and letters a reading holds, each counted each time it is reached (what is shared counts as often as it is met; a slice's spare places count too). A statement '..UptoSaid' is the law's where the arguments, and the package variables that the reading takes, are together of bulk at most 1048576: NARROWER than '..Said'. Prove '..Said' where nothing that the law and all that it calls make is longer than what came in: it says more and counts as full. Else prove '..UptoSaid'. A law counts once. -/
mutual
def uptoBulk {H : Type} : DataW H → Nat
  | .lit (.string bytes) => bytes.length + 1
  | .lit _ => 1
  | .nil => 1
  | .ptr d => uptoBulk d + 1
  | .slice elems spare => uptoBulkAll elems + uptoBulkAll spare + 1
  | .agg parts => uptoBulkAll parts + 1
  | .iface _ d => uptoBulk d + 1
  | .map entries => uptoBulkEntries entries + 1
  | .held _ => 1
def uptoBulkAll {H : Type} : List (DataW H) → Nat
  | [] => 0
  | d :: r => uptoBulk d + uptoBulkAll r
def uptoBulkEntries {H : Type} : List (Lit × DataW H) → Nat
  | [] => 0
  | x :: r => uptoBulkEntry x + uptoBulkEntries r
def uptoBulkEntry {H : Type} : Lit × DataW H → Nat
  | (.string bytes, d) => bytes.length + uptoBulk d + 1
  | (_, d) => uptoBulk d + 1
 end
def uptoSmall : (H : Type) → List (DataW H) → Bool := fun _ ds => decide (uptoBulkAll ds ≤ 1048576)
def OpenSpec.upto (s : _root_.Go.ChangeSpec) : _root_.Go.OpenSpec := { _root_.Go.OpenSpec.ofChange s with cond := some uptoSmall }

/-- 'onceweblaw01.LexWords', WHERE WHAT IT READS IS OF BULK AT MOST 1048576: true; the input reads as it did. -/
def lexWordsUptoRow : OpenClaim := { program := "ythgemanfbanhnaadoor", sum := "ea6e0336f5adc540ac2f3ed6529f3b9d99f9a96b860ef2ca2e61761e95588bc7", func := "onceweb/onceweblaw01.LexWords", spec := "lexWords", named := ["onceweb/lex.keys"], apart := false, laid := [("onceweb/lex.keys", laid_onceweb_lex_keys)], narrowed := true }
def LexWordsUptoSaid : Prop := lexWordsUptoRow.holds Tryd.pinned (OpenSpec.upto lexWordsSpec)

/-- 'onceweblaw01.LexBlank', WHERE WHAT IT READS IS OF BULK AT MOST 1048576: true; the input reads as it did. -/
def lexBlankUptoRow : OpenClaim := { program := "ythgemanfbanhnaadoor", sum := "ea6e0336f5adc540ac2f3ed6529f3b9d99f9a96b860ef2ca2e61761e95588bc7", func := "onceweb/onceweblaw01.LexBlank", spec := "lexBlank", inPlace := ["internal/bytealg.IndexByteString"], named := ["onceweb/lex.keys"], apart := false, laid := [("onceweb/lex.keys", laid_onceweb_lex_keys)], narrowed := true }
def LexBlankUptoSaid : Prop := lexBlankUptoRow.holds Tryd.pinned (OpenSpec.upto lexBlankSpec)

/-- 'onceweblaw01.LexBegins', WHERE WHAT IT READS IS OF BULK AT MOST 1048576: true; the input reads as it did. -/
def lexBeginsUptoRow : OpenClaim := { program := "ythgemanfbanhnaadoor", sum := "ea6e0336f5adc540ac2f3ed6529f3b9d99f9a96b860ef2ca2e61761e95588bc7", func := "onceweb/onceweblaw01.LexBegins", spec := "lexBegins", inPlace := ["internal/bytealg.IndexByteString"], named := ["onceweb/lex.keys"], apart := false, laid := [("onceweb/lex.keys", laid_onceweb_lex_keys)], narrowed := true }
def LexBeginsUptoSaid : Prop := lexBeginsUptoRow.holds Tryd.pinned (OpenSpec.upto lexBeginsSpec)

/-- 'onceweblaw01.LexLays', WHERE WHAT IT READS IS OF BULK AT MOST 1048576: true; the input reads as it did. -/
def lexLaysUptoRow : OpenClaim := { program := "ythgemanfbanhnaadoor", sum := "ea6e0336f5adc540ac2f3ed6529f3b9d99f9a96b860ef2ca2e61761e95588bc7", func := "onceweb/onceweblaw01.LexLays", spec := "lexLays", inPlace := ["internal/bytealg.IndexByteString", "internal/bytealg.IndexString", "internal/abi.NoEscape", "internal/bytealg.MakeNoZero"], named := ["onceweb/lex.keys", "internal/bytealg.MaxLen"], apart := false, laid := [("onceweb/lex.keys", laid_onceweb_lex_keys)], narrowed := true }
def LexLaysUptoSaid : Prop := lexLaysUptoRow.holds Tryd.pinned (OpenSpec.upto lexLaysSpec)

/-- 'onceweblaw01.LexBack', WHERE WHAT IT READS IS OF BULK AT MOST 1048576: true; the input reads as it did. -/
def lexBackUptoRow : OpenClaim := { program := "ythgemanfbanhnaadoor", sum := "ea6e0336f5adc540ac2f3ed6529f3b9d99f9a96b860ef2ca2e61761e95588bc7", func := "onceweb/onceweblaw01.LexBack", spec := "lexBack", inPlace := ["internal/bytealg.IndexByteString", "internal/bytealg.IndexString", "internal/abi.NoEscape", "internal/bytealg.MakeNoZero"], named := ["onceweb/lex.keys", "internal/bytealg.MaxLen"], apart := false, laid := [("onceweb/lex.keys", laid_onceweb_lex_keys)], narrowed := true }
def LexBackUptoSaid : Prop := lexBackUptoRow.holds Tryd.pinned (OpenSpec.upto lexBackSpec)

end Rows
end Go.Proofs.YthgemanfbanhnaaDoor
