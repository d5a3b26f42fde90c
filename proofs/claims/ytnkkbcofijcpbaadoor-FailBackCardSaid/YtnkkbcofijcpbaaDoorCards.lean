/-
  DERIVED. GIVEN WITH THE SEED: THE CARDS: each row of YtnkkbcofijcpbaaDoorRows.lean that lists a variable, with what it lists TIED to the program's text (the seventh form; the later family's looks); each row that meets fmt, with fmt's text TOLD by the authors' own Lean function (tested against real Go, not proved from fmt's source: count such statements apart). THE CARD IS WHAT COUNTS. Prove the row's statement (the work); the ties are given (YtnkkbcofijcpbaaDoorTie.lean); close each card by the builder's one call (the guide's Derived/Test/ToyasCard.lean, 'card_holds'). Laid BY PROGRAM, IN A SANDBOX (cutbox-door.mjs). By AI agents, Wed Nov 11 2026. No macro, syntax, notation, axiom, sorry.
-/
import Derived.Test.YtnkkbcofijcpbaaDoorRows
import GoSem.ClaimSeven
namespace Go.Proofs.YtnkkbcofijcpbaaDoor
namespace Rows

/-- THE TIED CARD OF 'onceweblaw03.FailChecks'. -/
def failChecksCard : Claim7 := { stood := { row := failChecksRow, standIns := [], harness := (true, "1e4d3467f2de3f4c589542858c3c157dc144385c17061c84fd2c45f63c7ac889"), looks := false }, kinds := [], alts := [], laidByText := true, laidKinds := [.widerDeep, .data, .widerDeep], laidTests := true, laidLooks := .later }
def FailChecksCardSaid : Prop := Claim7.holds Tryd.pinned (.plain (OpenSpec.ofChange failChecksSpec)) failChecksCard

/-- THE TIED CARD OF 'onceweblaw03.FailParts'. -/
def failPartsCard : Claim7 := { stood := { row := failPartsRow, standIns := [], harness := (true, "1e4d3467f2de3f4c589542858c3c157dc144385c17061c84fd2c45f63c7ac889"), looks := false }, kinds := [], alts := [], laidByText := true, laidKinds := [.widerDeep, .data, .widerDeep], laidTests := true, laidLooks := .later }
def FailPartsCardSaid : Prop := Claim7.holds Tryd.pinned (.plain (OpenSpec.ofChange failPartsSpec)) failPartsCard

/-- THE TIED CARD OF 'onceweblaw03.FailWraps'. -/
def failWrapsCard : Claim7 := { stood := { row := failWrapsRow, standIns := [], harness := (true, "1e4d3467f2de3f4c589542858c3c157dc144385c17061c84fd2c45f63c7ac889"), looks := false }, kinds := [], alts := [], laidByText := true, laidKinds := [.widerDeep, .data, .widerDeep], laidTests := true, laidLooks := .later }
def FailWrapsCardSaid : Prop := Claim7.holds Tryd.pinned (.plain (OpenSpec.ofChange failWrapsSpec)) failWrapsCard

/-- THE TIED CARD OF 'onceweblaw03.FailFinds'. -/
def failFindsCard : Claim7 := { stood := { row := failFindsRow, standIns := [], harness := (true, "1e4d3467f2de3f4c589542858c3c157dc144385c17061c84fd2c45f63c7ac889"), looks := false }, kinds := [], alts := [], laidByText := true, laidKinds := [.widerDeep, .data, .widerDeep], laidTests := true, laidLooks := .later }
def FailFindsCardSaid : Prop := Claim7.holds Tryd.pinned (.plain (OpenSpec.ofChange failFindsSpec)) failFindsCard

/-- THE TIED CARD OF 'onceweblaw03.FailTexts'. -/
def failTextsCard : Claim7 := { stood := { row := failTextsRow, standIns := [], harness := (true, "1e4d3467f2de3f4c589542858c3c157dc144385c17061c84fd2c45f63c7ac889"), looks := false }, kinds := [], alts := [], laidByText := true, laidKinds := [.widerDeep, .data, .widerDeep, .data], laidTests := true, laidLooks := .later }
def FailTextsCardSaid : Prop := Claim7.holds Tryd.pinned (.plain (OpenSpec.ofChange failTextsSpec)) failTextsCard

/-- THE TIED CARD OF 'onceweblaw03.FailBack'. -/
def failBackCard : Claim7 := { stood := { row := failBackRow, standIns := [], harness := (true, "1e4d3467f2de3f4c589542858c3c157dc144385c17061c84fd2c45f63c7ac889"), looks := false }, kinds := [], alts := [], laidByText := true, laidKinds := [.widerDeep, .data, .widerDeep, .data], laidTests := true, laidLooks := .later }
def FailBackCardSaid : Prop := Claim7.holds Tryd.pinned (.plain (OpenSpec.ofChange failBackSpec)) failBackCard

/-- THE TIED CARD OF 'onceweblaw03.FailHolds'. -/
def failHoldsCard : Claim7 := { stood := { row := failHoldsRow, standIns := [], harness := (true, "1e4d3467f2de3f4c589542858c3c157dc144385c17061c84fd2c45f63c7ac889"), looks := false }, kinds := [], alts := [], laidByText := true, laidKinds := [.widerDeep, .data, .widerDeep, .data], laidTests := true, laidLooks := .later }
def FailHoldsCardSaid : Prop := Claim7.holds Tryd.pinned (.plain (OpenSpec.ofChange failHoldsSpec)) failHoldsCard

/-- THE TIED CARD OF 'onceweblaw03.FailAgrees'. -/
def failAgreesCard : Claim7 := { stood := { row := failAgreesRow, standIns := [], harness := (true, "1e4d3467f2de3f4c589542858c3c157dc144385c17061c84fd2c45f63c7ac889"), looks := false }, kinds := [], alts := [], laidByText := true, laidKinds := [.widerDeep, .data, .widerDeep, .data], laidTests := true, laidLooks := .later }
def FailAgreesCardSaid : Prop := Claim7.holds Tryd.pinned (.plain (OpenSpec.ofChange failAgreesSpec)) failAgreesCard

/-- THE SECOND FORM's CARD OF 'onceweblaw03.FailChecks'. -/
def failChecksUptoCard : Claim7 := { stood := { row := failChecksUptoRow, standIns := [], harness := (true, "1e4d3467f2de3f4c589542858c3c157dc144385c17061c84fd2c45f63c7ac889"), looks := false }, kinds := [], alts := [], laidByText := true, laidKinds := [.widerDeep, .data, .widerDeep], laidTests := true, laidLooks := .later }
def FailChecksUptoCardSaid : Prop := Claim7.holds Tryd.pinned (.plain (OpenSpec.upto failChecksSpec)) failChecksUptoCard

/-- THE SECOND FORM's CARD OF 'onceweblaw03.FailParts'. -/
def failPartsUptoCard : Claim7 := { stood := { row := failPartsUptoRow, standIns := [], harness := (true, "1e4d3467f2de3f4c589542858c3c157dc144385c17061c84fd2c45f63c7ac889"), looks := false }, kinds := [], alts := [], laidByText := true, laidKinds := [.widerDeep, .data, .widerDeep], laidTests := true, laidLooks := .later }
def FailPartsUptoCardSaid : Prop := Claim7.holds Tryd.pinned (.plain (OpenSpec.upto failPartsSpec)) failPartsUptoCard

/-- THE SECOND FORM's CARD OF 'onceweblaw03.FailWraps'. -/
def failWrapsUptoCard : Claim7 := { stood := { row := failWrapsUptoRow, standIns := [], harness := (true, "1e4d3467f2de3f4c589542858c3c157dc144385c17061c84fd2c45f63c7ac889"), looks := false }, kinds := [], alts := [], laidByText := true, laidKinds := [.widerDeep, .data, .widerDeep], laidTests := true, laidLooks := .later }
def FailWrapsUptoCardSaid : Prop := Claim7.holds Tryd.pinned (.plain (OpenSpec.upto failWrapsSpec)) failWrapsUptoCard

/-- THE SECOND FORM's CARD OF 'onceweblaw03.FailFinds'. -/
def failFindsUptoCard : Claim7 := { stood := { row := failFindsUptoRow, standIns := [], harness := (true, "1e4d3467f2de3f4c589542858c3c157dc144385c17061c84fd2c45f63c7ac889"), looks := false }, kinds := [], alts := [], laidByText := true, laidKinds := [.widerDeep, .data, .widerDeep], laidTests := true, laidLooks := .later }
def FailFindsUptoCardSaid : Prop := Claim7.holds Tryd.pinned (.plain (OpenSpec.upto failFindsSpec)) failFindsUptoCard

/-- THE SECOND FORM's CARD OF 'onceweblaw03.FailTexts'. -/
def failTextsUptoCard : Claim7 := { stood := { row := failTextsUptoRow, standIns := [], harness := (true, "1e4d3467f2de3f4c589542858c3c157dc144385c17061c84fd2c45f63c7ac889"), looks := false }, kinds := [], alts := [], laidByText := true, laidKinds := [.widerDeep, .data, .widerDeep, .data], laidTests := true, laidLooks := .later }
def FailTextsUptoCardSaid : Prop := Claim7.holds Tryd.pinned (.plain (OpenSpec.upto failTextsSpec)) failTextsUptoCard

/-- THE SECOND FORM's CARD OF 'onceweblaw03.FailBack'. -/
def failBackUptoCard : Claim7 := { stood := { row := failBackUptoRow, standIns := [], harness := (true, "1e4d3467f2de3f4c589542858c3c157dc144385c17061c84fd2c45f63c7ac889"), looks := false }, kinds := [], alts := [], laidByText := true, laidKinds := [.widerDeep, .data, .widerDeep, .data], laidTests := true, laidLooks := .later }
def FailBackUptoCardSaid : Prop := Claim7.holds Tryd.pinned (.plain (OpenSpec.upto failBackSpec)) failBackUptoCard

/-- THE SECOND FORM's CARD OF 'onceweblaw03.FailHolds'. -/
def failHoldsUptoCard : Claim7 := { stood := { row := failHoldsUptoRow, standIns := [], harness := (true, "1e4d3467f2de3f4c589542858c3c157dc144385c17061c84fd2c45f63c7ac889"), looks := false }, kinds := [], alts := [], laidByText := true, laidKinds := [.widerDeep, .data, .widerDeep, .data], laidTests := true, laidLooks := .later }
def FailHoldsUptoCardSaid : Prop := Claim7.holds Tryd.pinned (.plain (OpenSpec.upto failHoldsSpec)) failHoldsUptoCard

/-- THE SECOND FORM's CARD OF 'onceweblaw03.FailAgrees'. -/
def failAgreesUptoCard : Claim7 := { stood := { row := failAgreesUptoRow, standIns := [], harness := (true, "1e4d3467f2de3f4c589542858c3c157dc144385c17061c84fd2c45f63c7ac889"), looks := false }, kinds := [], alts := [], laidByText := true, laidKinds := [.widerDeep, .data, .widerDeep, .data], laidTests := true, laidLooks := .later }
def FailAgreesUptoCardSaid : Prop := Claim7.holds Tryd.pinned (.plain (OpenSpec.upto failAgreesSpec)) failAgreesUptoCard
end Rows
end Go.Proofs.YtnkkbcofijcpbaaDoor
