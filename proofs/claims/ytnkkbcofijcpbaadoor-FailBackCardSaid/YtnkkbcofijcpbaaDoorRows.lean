/-
  NARROWER THAN 'FOR EVERY INPUT', by the rows' own cells (each row's printed sentence says how): FailChecks: laid · FailParts: laid · FailWraps: laid · FailFinds: laid · FailTexts: laid · FailBack: laid · FailHolds: laid · FailAgrees: laid.
  DERIVED. THE GIVEN ROWS OF THIS SEAT. 8 by the template 'for every input the law returns true; each argument reads behind the call as it read before'; 0 by the template 'total and deterministic' (their statements: YtnkkbcofijcpbaaDoorTotals.lean).
  GIVEN WITH THE SEED: the statements are not yours to turn. If you find one false, say at which input.
  Laid BY PROGRAM, IN A SANDBOX (cutbox-rows.mjs): the forced cells as the released guide's own fill.sh prints them over the translation 057f3ee0f7855354… (all of the seat's roots in one cut). By AI agents, Wed Nov 11 2026. No macro, syntax, notation, axiom, sorry.
-/
import Derived.Test.YtnkkbcofijcpbaaDoorChecked
import GoSem.Claim
import GoSem.ClaimJoined
import GoSem.ClaimMapViews
import Derived.JoinedTies
import Derived.KernelRfl
namespace Go.Proofs.YtnkkbcofijcpbaaDoor
/- THE CELL 'sum', in the pinned program and in every row, IS THE sha256 OF THE DUMP (.gsa) THAT YtnkkbcofijcpbaaDoorProg.lean LOADS. Nothing in Lean hashes anything: it is a label: what it is worth is what the hold of that sum in a sandbox is worth. -/
noncomputable def Tryd.pinned : Pinned := { name := "ytnkkbcofijcpbaadoor", sum := "057f3ee0f7855354724bd9987840289fd1a55d8fff601f73efd371d1cf95319b", checked := Tryd.checked }
namespace Rows
def none {H : Type} : Left H := { results := [], args := [] }

/- WHAT THE LISTED PACKAGE-LEVEL VARIABLES READ AS WHEN THE CALL BEGINS. Each datum BY PROGRAM (the guide's laid-datum.mjs) off the statement by which the dump's own 'gosem.cut.vars' lays the variable. In a bare row this is a premise. The card (YtnkkbcofijcpbaaDoorCards.lean) ties it to the program's text. -/
def laid_onceweb_lex_keys {H : Type} : DataW H := .agg [.lit (.string [99, 101, 108, 108]), .lit (.string [97, 103, 97, 105, 110]), .lit (.string [116, 114, 105, 101, 115]), .lit (.string [98, 97, 115, 101]), .lit (.string [102, 97, 99, 116, 111, 114]), .lit (.string [99, 97, 112]), .lit (.string [99, 108, 111, 115, 101]), .lit (.string [102, 105, 110, 101]), .lit (.string [102, 97, 105, 108]), .lit (.string [112, 97, 110, 105, 99]), .lit (.string [105, 102]), .lit (.string [116, 104, 101, 110]), .lit (.string [101, 108, 115, 101]), .lit (.string [116, 114, 121]), .lit (.string [119, 97, 105, 116]), .lit (.string [108, 101, 116]), .lit (.string [105, 110]), .lit (.string [105, 116, 101, 109]), .lit (.string [115, 105, 122, 101])]
def laid_onceweb_fail_sorts {H : Type} : DataW H := .agg [.lit (.int .i64 0), .lit (.int .i64 1), .lit (.int .i64 1), .lit (.int .i64 1), .lit (.int .i64 1), .lit (.int .i64 1), .lit (.int .i64 1), .lit (.int .i64 1), .lit (.int .i64 2), .lit (.int .i64 3), .lit (.int .i64 4), .lit (.int .i64 1)]
def laid_onceweb_fail_values {H : Type} : DataW H := .agg [.lit (.string [108, 105, 115, 116]), .lit (.string [97, 100, 100]), .lit (.string [115, 117, 98]), .lit (.string [109, 117, 108]), .lit (.string [106, 111, 105, 110]), .lit (.string [105, 116, 101, 109]), .lit (.string [115, 105, 122, 101]), .lit (.string [105, 102]), .lit (.string [102, 97, 105, 108]), .lit (.string [112, 97, 110, 105, 99])]
def laid_onceweb_fail_words {H : Type} : DataW H := .agg [.lit (.string []), .lit (.string [102, 97, 105, 108]), .lit (.string [112, 97, 110, 105, 99]), .lit (.string [118, 97, 108, 117, 101]), .lit (.string [110, 111, 110, 101]), .lit (.string [99, 121, 99, 108, 101]), .lit (.string [100, 101, 112, 116, 104]), .lit (.string [99, 108, 111, 115, 101, 100]), .lit (.string [116, 111, 107, 101, 110]), .lit (.string [99, 101, 108, 108]), .lit (.string [106, 111, 105, 110]), .lit (.string [108, 111, 110, 103])]

/-- 'onceweblaw03.FailChecks': WHATEVER THE INPUT: true; the input reads as it did. -/
def failChecksSpec : ChangeSpec := { name := "failChecks", fn := fun _ => fun
  | [d1, d2, d3] => { results := [.lit (.bool true)], args := [d1, d2, d3] }
  | _ => none }
def failChecksRow : OpenClaim := { program := "ytnkkbcofijcpbaadoor", sum := "057f3ee0f7855354724bd9987840289fd1a55d8fff601f73efd371d1cf95319b", func := "onceweb/onceweblaw03.FailChecks", spec := "failChecks", named := ["onceweb/fail.sorts", "onceweb/fail.values", "onceweb/lex.keys"], apart := false, laid := [("onceweb/lex.keys", laid_onceweb_lex_keys), ("onceweb/fail.sorts", laid_onceweb_fail_sorts), ("onceweb/fail.values", laid_onceweb_fail_values)] }
def FailChecksSaid : Prop := failChecksRow.holds Tryd.pinned (OpenSpec.ofChange failChecksSpec)

/-- ITS FALSE NEIGHBOUR: 'it returns false'. Refute it at one input. -/
def failChecksWrong : ChangeSpec := { name := "failChecks", fn := fun _ => fun
  | [d1, d2, d3] => { results := [.lit (.bool false)], args := [d1, d2, d3] }
  | _ => none }
def FailChecksWrongFalsely : Prop := failChecksRow.holds Tryd.pinned (OpenSpec.ofChange failChecksWrong)

/-- 'onceweblaw03.FailParts': WHATEVER THE INPUT: true; the input reads as it did. -/
def failPartsSpec : ChangeSpec := { name := "failParts", fn := fun _ => fun
  | [d1, d2] => { results := [.lit (.bool true)], args := [d1, d2] }
  | _ => none }
def failPartsRow : OpenClaim := { program := "ytnkkbcofijcpbaadoor", sum := "057f3ee0f7855354724bd9987840289fd1a55d8fff601f73efd371d1cf95319b", func := "onceweb/onceweblaw03.FailParts", spec := "failParts", named := ["onceweb/fail.sorts", "onceweb/fail.values", "onceweb/lex.keys"], apart := false, laid := [("onceweb/lex.keys", laid_onceweb_lex_keys), ("onceweb/fail.sorts", laid_onceweb_fail_sorts), ("onceweb/fail.values", laid_onceweb_fail_values)] }
def FailPartsSaid : Prop := failPartsRow.holds Tryd.pinned (OpenSpec.ofChange failPartsSpec)

/-- ITS FALSE NEIGHBOUR: 'it returns false'. Refute it at one input. -/
def failPartsWrong : ChangeSpec := { name := "failParts", fn := fun _ => fun
  | [d1, d2] => { results := [.lit (.bool false)], args := [d1, d2] }
  | _ => none }
def FailPartsWrongFalsely : Prop := failPartsRow.holds Tryd.pinned (OpenSpec.ofChange failPartsWrong)

/-- 'onceweblaw03.FailWraps': WHATEVER THE INPUT: true; the input reads as it did. -/
def failWrapsSpec : ChangeSpec := { name := "failWraps", fn := fun _ => fun
  | [d1, d2, d3] => { results := [.lit (.bool true)], args := [d1, d2, d3] }
  | _ => none }
def failWrapsRow : OpenClaim := { program := "ytnkkbcofijcpbaadoor", sum := "057f3ee0f7855354724bd9987840289fd1a55d8fff601f73efd371d1cf95319b", func := "onceweb/onceweblaw03.FailWraps", spec := "failWraps", named := ["onceweb/lex.keys", "onceweb/fail.sorts", "onceweb/fail.values"], apart := false, laid := [("onceweb/lex.keys", laid_onceweb_lex_keys), ("onceweb/fail.sorts", laid_onceweb_fail_sorts), ("onceweb/fail.values", laid_onceweb_fail_values)] }
def FailWrapsSaid : Prop := failWrapsRow.holds Tryd.pinned (OpenSpec.ofChange failWrapsSpec)

/-- ITS FALSE NEIGHBOUR: 'it returns false'. Refute it at one input. -/
def failWrapsWrong : ChangeSpec := { name := "failWraps", fn := fun _ => fun
  | [d1, d2, d3] => { results := [.lit (.bool false)], args := [d1, d2, d3] }
  | _ => none }
def FailWrapsWrongFalsely : Prop := failWrapsRow.holds Tryd.pinned (OpenSpec.ofChange failWrapsWrong)

/-- 'onceweblaw03.FailFinds': WHATEVER THE INPUT: true; the input reads as it did. -/
def failFindsSpec : ChangeSpec := { name := "failFinds", fn := fun _ => fun
  | [d1, d2, d3] => { results := [.lit (.bool true)], args := [d1, d2, d3] }
  | _ => none }
def failFindsRow : OpenClaim := { program := "ytnkkbcofijcpbaadoor", sum := "057f3ee0f7855354724bd9987840289fd1a55d8fff601f73efd371d1cf95319b", func := "onceweb/onceweblaw03.FailFinds", spec := "failFinds", unfollowed := true, recurses := true, named := ["onceweb/fail.sorts", "onceweb/fail.values", "onceweb/lex.keys"], apart := false, laid := [("onceweb/lex.keys", laid_onceweb_lex_keys), ("onceweb/fail.sorts", laid_onceweb_fail_sorts), ("onceweb/fail.values", laid_onceweb_fail_values)] }
def FailFindsSaid : Prop := failFindsRow.holds Tryd.pinned (OpenSpec.ofChange failFindsSpec)

/-- ITS FALSE NEIGHBOUR: 'it returns false'. Refute it at one input. -/
def failFindsWrong : ChangeSpec := { name := "failFinds", fn := fun _ => fun
  | [d1, d2, d3] => { results := [.lit (.bool false)], args := [d1, d2, d3] }
  | _ => none }
def FailFindsWrongFalsely : Prop := failFindsRow.holds Tryd.pinned (OpenSpec.ofChange failFindsWrong)

/-- 'onceweblaw03.FailTexts': WHATEVER THE INPUT: true; the input reads as it did. -/
def failTextsSpec : ChangeSpec := { name := "failTexts", fn := fun _ => fun
  | [d1, d2] => { results := [.lit (.bool true)], args := [d1, d2] }
  | _ => none }
def failTextsRow : OpenClaim := { program := "ytnkkbcofijcpbaadoor", sum := "057f3ee0f7855354724bd9987840289fd1a55d8fff601f73efd371d1cf95319b", func := "onceweb/onceweblaw03.FailTexts", spec := "failTexts", inPlace := ["internal/abi.NoEscape", "internal/bytealg.MakeNoZero", "internal/bytealg.IndexByteString"], unfollowed := true, recurses := true, named := ["onceweb/fail.words", "onceweb/fail.sorts", "onceweb/fail.values", "onceweb/lex.keys"], apart := false, laid := [("onceweb/lex.keys", laid_onceweb_lex_keys), ("onceweb/fail.sorts", laid_onceweb_fail_sorts), ("onceweb/fail.values", laid_onceweb_fail_values), ("onceweb/fail.words", laid_onceweb_fail_words)] }
def FailTextsSaid : Prop := failTextsRow.holds Tryd.pinned (OpenSpec.ofChange failTextsSpec)

/-- ITS FALSE NEIGHBOUR: 'it returns false'. Refute it at one input. -/
def failTextsWrong : ChangeSpec := { name := "failTexts", fn := fun _ => fun
  | [d1, d2] => { results := [.lit (.bool false)], args := [d1, d2] }
  | _ => none }
def FailTextsWrongFalsely : Prop := failTextsRow.holds Tryd.pinned (OpenSpec.ofChange failTextsWrong)

/-- 'onceweblaw03.FailBack': WHATEVER THE INPUT: true; the input reads as it did. -/
def failBackSpec : ChangeSpec := { name := "failBack", fn := fun _ => fun
  | [d1, d2] => { results := [.lit (.bool true)], args := [d1, d2] }
  | _ => none }
def failBackRow : OpenClaim := { program := "ytnkkbcofijcpbaadoor", sum := "057f3ee0f7855354724bd9987840289fd1a55d8fff601f73efd371d1cf95319b", func := "onceweb/onceweblaw03.FailBack", spec := "failBack", inPlace := ["internal/abi.NoEscape", "internal/bytealg.MakeNoZero", "internal/bytealg.IndexByteString"], unfollowed := true, recurses := true, named := ["onceweb/fail.words", "onceweb/fail.sorts", "onceweb/fail.values", "onceweb/lex.keys"], apart := false, laid := [("onceweb/lex.keys", laid_onceweb_lex_keys), ("onceweb/fail.sorts", laid_onceweb_fail_sorts), ("onceweb/fail.values", laid_onceweb_fail_values), ("onceweb/fail.words", laid_onceweb_fail_words)] }
def FailBackSaid : Prop := failBackRow.holds Tryd.pinned (OpenSpec.ofChange failBackSpec)

/-- ITS FALSE NEIGHBOUR: 'it returns false'. Refute it at one input. -/
def failBackWrong : ChangeSpec := { name := "failBack", fn := fun _ => fun
  | [d1, d2] => { results := [.lit (.bool false)], args := [d1, d2] }
  | _ => none }
def FailBackWrongFalsely : Prop := failBackRow.holds Tryd.pinned (OpenSpec.ofChange failBackWrong)

/-- 'onceweblaw03.FailHolds': WHATEVER THE INPUT: true; the input reads as it did. -/
def failHoldsSpec : ChangeSpec := { name := "failHolds", fn := fun _ => fun
  | [d1, d2, d3] => { results := [.lit (.bool true)], args := [d1, d2, d3] }
  | _ => none }
def failHoldsRow : OpenClaim := { program := "ytnkkbcofijcpbaadoor", sum := "057f3ee0f7855354724bd9987840289fd1a55d8fff601f73efd371d1cf95319b", func := "onceweb/onceweblaw03.FailHolds", spec := "failHolds", inPlace := ["internal/abi.NoEscape", "internal/bytealg.MakeNoZero", "internal/bytealg.IndexByteString"], unfollowed := true, recurses := true, named := ["onceweb/fail.words", "onceweb/fail.sorts", "onceweb/fail.values", "onceweb/lex.keys"], apart := false, laid := [("onceweb/lex.keys", laid_onceweb_lex_keys), ("onceweb/fail.sorts", laid_onceweb_fail_sorts), ("onceweb/fail.values", laid_onceweb_fail_values), ("onceweb/fail.words", laid_onceweb_fail_words)] }
def FailHoldsSaid : Prop := failHoldsRow.holds Tryd.pinned (OpenSpec.ofChange failHoldsSpec)

/-- ITS FALSE NEIGHBOUR: 'it returns false'. Refute it at one input. -/
def failHoldsWrong : ChangeSpec := { name := "failHolds", fn := fun _ => fun
  | [d1, d2, d3] => { results := [.lit (.bool false)], args := [d1, d2, d3] }
  | _ => none }
def FailHoldsWrongFalsely : Prop := failHoldsRow.holds Tryd.pinned (OpenSpec.ofChange failHoldsWrong)

/-- 'onceweblaw03.FailAgrees': WHATEVER THE INPUT: true; the input reads as it did. -/
def failAgreesSpec : ChangeSpec := { name := "failAgrees", fn := fun _ => fun
  | [d1, d2] => { results := [.lit (.bool true)], args := [d1, d2] }
  | _ => none }
def failAgreesRow : OpenClaim := { program := "ytnkkbcofijcpbaadoor", sum := "057f3ee0f7855354724bd9987840289fd1a55d8fff601f73efd371d1cf95319b", func := "onceweb/onceweblaw03.FailAgrees", spec := "failAgrees", inPlace := ["internal/abi.NoEscape", "internal/bytealg.MakeNoZero", "internal/bytealg.IndexByteString"], unfollowed := true, recurses := true, named := ["onceweb/fail.words", "onceweb/fail.sorts", "onceweb/fail.values", "onceweb/lex.keys"], apart := false, laid := [("onceweb/lex.keys", laid_onceweb_lex_keys), ("onceweb/fail.sorts", laid_onceweb_fail_sorts), ("onceweb/fail.values", laid_onceweb_fail_values), ("onceweb/fail.words", laid_onceweb_fail_words)] }
def FailAgreesSaid : Prop := failAgreesRow.holds Tryd.pinned (OpenSpec.ofChange failAgreesSpec)

/-- ITS FALSE NEIGHBOUR: 'it returns false'. Refute it at one input. -/
def failAgreesWrong : ChangeSpec := { name := "failAgrees", fn := fun _ => fun
  | [d1, d2] => { results := [.lit (.bool false)], args := [d1, d2] }
  | _ => none }
def FailAgreesWrongFalsely : Prop := failAgreesRow.holds Tryd.pinned (OpenSpec.ofChange failAgreesWrong)

/- THE SECOND FORM. 'bulk': how many values and letters a reading holds, each counted each time it is reached (what is shared counts as often as it is met; a slice's spare places count too). A statement '..UptoSaid' is the law's where the arguments, and the package variables that the reading takes, are together of bulk at most 1048576: NARROWER than '..Said'. Prove '..Said' where nothing that the law and all that it calls make is longer than what came in: it says more and counts as full. Else prove '..UptoSaid'. A law counts once. -/
mutual
def uptoBulk {H : Type} : DataW H → Nat
  | .lit (.string bytes) => bytes.length + 1
  | .lit _ => 1
  | .nil => 1
  | .ptr d => uptoBulk d + 1
  | .slice elems spare => uptoBulkAll elems + uptoBulkAll spare + 1
  | .agg parts => uptoBulkAll parts + 1
  | .iface _ d => uptoBulk d + 1
  | .map entries => uptoBulkEntries entries + 1
  | .held _ => 1
def uptoBulkAll {H : Type} : List (DataW H) → Nat
  | [] => 0
  | d :: r => uptoBulk d + uptoBulkAll r
def uptoBulkEntries {H : Type} : List (Lit × DataW H) → Nat
  | [] => 0
  | x :: r => uptoBulkEntry x + uptoBulkEntries r
def uptoBulkEntry {H : Type} : Lit × DataW H → Nat
  | (.string bytes, d) => bytes.length + uptoBulk d + 1
  | (_, d) => uptoBulk d + 1
 end
def uptoSmall : (H : Type) → List (DataW H) → Bool := fun _ ds => decide (uptoBulkAll ds ≤ 1048576)
def OpenSpec.upto (s : _root_.Go.ChangeSpec) : _root_.Go.OpenSpec := { _root_.Go.OpenSpec.ofChange s with cond := some uptoSmall }

/-- 'onceweblaw03.FailChecks', WHERE WHAT IT READS IS OF BULK AT MOST 1048576: true; the input reads as it did. -/
def failChecksUptoRow : OpenClaim := { program := "ytnkkbcofijcpbaadoor", sum := "057f3ee0f7855354724bd9987840289fd1a55d8fff601f73efd371d1cf95319b", func := "onceweb/onceweblaw03.FailChecks", spec := "failChecks", named := ["onceweb/fail.sorts", "onceweb/fail.values", "onceweb/lex.keys"], apart := false, laid := [("onceweb/lex.keys", laid_onceweb_lex_keys), ("onceweb/fail.sorts", laid_onceweb_fail_sorts), ("onceweb/fail.values", laid_onceweb_fail_values)], narrowed := true }
def FailChecksUptoSaid : Prop := failChecksUptoRow.holds Tryd.pinned (OpenSpec.upto failChecksSpec)

/-- 'onceweblaw03.FailParts', WHERE WHAT IT READS IS OF BULK AT MOST 1048576: true; the input reads as it did. -/
def failPartsUptoRow : OpenClaim := { program := "ytnkkbcofijcpbaadoor", sum := "057f3ee0f7855354724bd9987840289fd1a55d8fff601f73efd371d1cf95319b", func := "onceweb/onceweblaw03.FailParts", spec := "failParts", named := ["onceweb/fail.sorts", "onceweb/fail.values", "onceweb/lex.keys"], apart := false, laid := [("onceweb/lex.keys", laid_onceweb_lex_keys), ("onceweb/fail.sorts", laid_onceweb_fail_sorts), ("onceweb/fail.values", laid_onceweb_fail_values)], narrowed := true }
def FailPartsUptoSaid : Prop := failPartsUptoRow.holds Tryd.pinned (OpenSpec.upto failPartsSpec)

/-- 'onceweblaw03.FailWraps', WHERE WHAT IT READS IS OF BULK AT MOST 1048576: true; the input reads as it did. -/
def failWrapsUptoRow : OpenClaim := { program := "ytnkkbcofijcpbaadoor", sum := "057f3ee0f7855354724bd9987840289fd1a55d8fff601f73efd371d1cf95319b", func := "onceweb/onceweblaw03.FailWraps", spec := "failWraps", named := ["onceweb/lex.keys", "onceweb/fail.sorts", "onceweb/fail.values"], apart := false, laid := [("onceweb/lex.keys", laid_onceweb_lex_keys), ("onceweb/fail.sorts", laid_onceweb_fail_sorts), ("onceweb/fail.values", laid_onceweb_fail_values)], narrowed := true }
def FailWrapsUptoSaid : Prop := failWrapsUptoRow.holds Tryd.pinned (OpenSpec.upto failWrapsSpec)

/-- 'onceweblaw03.FailFinds', WHERE WHAT IT READS IS OF BULK AT MOST 1048576: true; the input reads as it did. -/
def failFindsUptoRow : OpenClaim := { program := "ytnkkbcofijcpbaadoor", sum := "057f3ee0f7855354724bd9987840289fd1a55d8fff601f73efd371d1cf95319b", func := "onceweb/onceweblaw03.FailFinds", spec := "failFinds", unfollowed := true, recurses := true, named := ["onceweb/fail.sorts", "onceweb/fail.values", "onceweb/lex.keys"], apart := false, laid := [("onceweb/lex.keys", laid_onceweb_lex_keys), ("onceweb/fail.sorts", laid_onceweb_fail_sorts), ("onceweb/fail.values", laid_onceweb_fail_values)], narrowed := true }
def FailFindsUptoSaid : Prop := failFindsUptoRow.holds Tryd.pinned (OpenSpec.upto failFindsSpec)

/-- 'onceweblaw03.FailTexts', WHERE WHAT IT READS IS OF BULK AT MOST 1048576: true; the input reads as it did. -/
def failTextsUptoRow : OpenClaim := { program := "ytnkkbcofijcpbaadoor", sum := "057f3ee0f7855354724bd9987840289fd1a55d8fff601f73efd371d1cf95319b", func := "onceweb/onceweblaw03.FailTexts", spec := "failTexts", inPlace := ["internal/abi.NoEscape", "internal/bytealg.MakeNoZero", "internal/bytealg.IndexByteString"], unfollowed := true, recurses := true, named := ["onceweb/fail.words", "onceweb/fail.sorts", "onceweb/fail.values", "onceweb/lex.keys"], apart := false, laid := [("onceweb/lex.keys", laid_onceweb_lex_keys), ("onceweb/fail.sorts", laid_onceweb_fail_sorts), ("onceweb/fail.values", laid_onceweb_fail_values), ("onceweb/fail.words", laid_onceweb_fail_words)], narrowed := true }
def FailTextsUptoSaid : Prop := failTextsUptoRow.holds Tryd.pinned (OpenSpec.upto failTextsSpec)

/-- 'onceweblaw03.FailBack', WHERE WHAT IT READS IS OF BULK AT MOST 1048576: true; the input reads as it did. -/
def failBackUptoRow : OpenClaim := { program := "ytnkkbcofijcpbaadoor", sum := "057f3ee0f7855354724bd9987840289fd1a55d8fff601f73efd371d1cf95319b", func := "onceweb/onceweblaw03.FailBack", spec := "failBack", inPlace := ["internal/abi.NoEscape", "internal/bytealg.MakeNoZero", "internal/bytealg.IndexByteString"], unfollowed := true, recurses := true, named := ["onceweb/fail.words", "onceweb/fail.sorts", "onceweb/fail.values", "onceweb/lex.keys"], apart := false, laid := [("onceweb/lex.keys", laid_onceweb_lex_keys), ("onceweb/fail.sorts", laid_onceweb_fail_sorts), ("onceweb/fail.values", laid_onceweb_fail_values), ("onceweb/fail.words", laid_onceweb_fail_words)], narrowed := true }
def FailBackUptoSaid : Prop := failBackUptoRow.holds Tryd.pinned (OpenSpec.upto failBackSpec)

/-- 'onceweblaw03.FailHolds', WHERE WHAT IT READS IS OF BULK AT MOST 1048576: true; the input reads as it did. -/
def failHoldsUptoRow : OpenClaim := { program := "ytnkkbcofijcpbaadoor", sum := "057f3ee0f7855354724bd9987840289fd1a55d8fff601f73efd371d1cf95319b", func := "onceweb/onceweblaw03.FailHolds", spec := "failHolds", inPlace := ["internal/abi.NoEscape", "internal/bytealg.MakeNoZero", "internal/bytealg.IndexByteString"], unfollowed := true, recurses := true, named := ["onceweb/fail.words", "onceweb/fail.sorts", "onceweb/fail.values", "onceweb/lex.keys"], apart := false, laid := [("onceweb/lex.keys", laid_onceweb_lex_keys), ("onceweb/fail.sorts", laid_onceweb_fail_sorts), ("onceweb/fail.values", laid_onceweb_fail_values), ("onceweb/fail.words", laid_onceweb_fail_words)], narrowed := true }
def FailHoldsUptoSaid : Prop := failHoldsUptoRow.holds Tryd.pinned (OpenSpec.upto failHoldsSpec)

/-- 'onceweblaw03.FailAgrees', WHERE WHAT IT READS IS OF BULK AT MOST 1048576: true; the input reads as it did. -/
def failAgreesUptoRow : OpenClaim := { program := "ytnkkbcofijcpbaadoor", sum := "057f3ee0f7855354724bd9987840289fd1a55d8fff601f73efd371d1cf95319b", func := "onceweb/onceweblaw03.FailAgrees", spec := "failAgrees", inPlace := ["internal/abi.NoEscape", "internal/bytealg.MakeNoZero", "internal/bytealg.IndexByteString"], unfollowed := true, recurses := true, named := ["onceweb/fail.words", "onceweb/fail.sorts", "onceweb/fail.values", "onceweb/lex.keys"], apart := false, laid := [("onceweb/lex.keys", laid_onceweb_lex_keys), ("onceweb/fail.sorts", laid_onceweb_fail_sorts), ("onceweb/fail.values", laid_onceweb_fail_values), ("onceweb/fail.words", laid_onceweb_fail_words)], narrowed := true }
def FailAgreesUptoSaid : Prop := failAgreesUptoRow.holds Tryd.pinned (OpenSpec.upto failAgreesSpec)

end Rows
end Go.Proofs.YtnkkbcofijcpbaaDoor
