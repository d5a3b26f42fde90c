/-
  DERIVED. GIVEN WITH THE SEED: THE CARDS: each row of YthgemanfbanhnaaDoorRows.lean that lists a variable, with what it lists TIED to the program's text (the seventh form; the later family's looks); each row that meets fmt, with fmt's text TOLD by the authors' own Lean function (tested against real Go, not proved from fmt's source: count such statements apart). THE CARD IS WHAT COUNTS. Prove the row's statement (the work); the ties are given (YthgemanfbanhnaaDoorTie.lean); close each card by the builder's one call (the guide's Derived/Test/ToyasCard.lean, 'card_holds'). Laid BY PROGRAM, IN A SANDBOX (cutbox-door.mjs). By AI agents, Wed Nov 11 2026. No macro, syntax, notation, axiom, sorry.
-/
import Derived.Test.YthgemanfbanhnaaDoorRows
import GoSem.ClaimSeven
namespace Go.Proofs.YthgemanfbanhnaaDoor
namespace Rows

/-- THE TIED CARD OF 'onceweblaw01.LexWords'. -/
def lexWordsCard : Claim7 := { stood := { row := lexWordsRow, standIns := [], harness := (true, "e9e066a080af8d82f2398c94451c99dec25268f81b8b10edf7ffc48fbe047590"), looks := false }, kinds := [], alts := [], laidByText := true, laidKinds := [.widerDeep], laidTests := true, laidLooks := .later }
def LexWordsCardSaid : Prop := Claim7.holds Tryd.pinned (.plain (OpenSpec.ofChange lexWordsSpec)) lexWordsCard

/-- THE TIED CARD OF 'onceweblaw01.LexBlank'. -/
def lexBlankCard : Claim7 := { stood := { row := lexBlankRow, standIns := [], harness := (true, "e9e066a080af8d82f2398c94451c99dec25268f81b8b10edf7ffc48fbe047590"), looks := false }, kinds := [], alts := [], laidByText := true, laidKinds := [.widerDeep], laidTests := true, laidLooks := .later }
def LexBlankCardSaid : Prop := Claim7.holds Tryd.pinned (.plain (OpenSpec.ofChange lexBlankSpec)) lexBlankCard

/-- THE TIED CARD OF 'onceweblaw01.LexBegins'. -/
def lexBeginsCard : Claim7 := { stood := { row := lexBeginsRow, standIns := [], harness := (true, "e9e066a080af8d82f2398c94451c99dec25268f81b8b10edf7ffc48fbe047590"), looks := false }, kinds := [], alts := [], laidByText := true, laidKinds := [.widerDeep], laidTests := true, laidLooks := .later }
def LexBeginsCardSaid : Prop := Claim7.holds Tryd.pinned (.plain (OpenSpec.ofChange lexBeginsSpec)) lexBeginsCard

/-- THE TIED CARD OF 'onceweblaw01.LexLays'. -/
def lexLaysCard : Claim7 := { stood := { row := lexLaysRow, standIns := [], harness := (true, "e9e066a080af8d82f2398c94451c99dec25268f81b8b10edf7ffc48fbe047590"), looks := false }, kinds := [], alts := [], laidByText := true, laidKinds := [.widerDeep], laidTests := true, laidLooks := .later }
def LexLaysCardSaid : Prop := Claim7.holds Tryd.pinned (.plain (OpenSpec.ofChange lexLaysSpec)) lexLaysCard

/-- THE TIED CARD OF 'onceweblaw01.LexBack'. -/
def lexBackCard : Claim7 := { stood := { row := lexBackRow, standIns := [], harness := (true, "e9e066a080af8d82f2398c94451c99dec25268f81b8b10edf7ffc48fbe047590"), looks := false }, kinds := [], alts := [], laidByText := true, laidKinds := [.widerDeep], laidTests := true, laidLooks := .later }
def LexBackCardSaid : Prop := Claim7.holds Tryd.pinned (.plain (OpenSpec.ofChange lexBackSpec)) lexBackCard

/-- THE SECOND FORM's CARD OF 'onceweblaw01.LexWords'. -/
def lexWordsUptoCard : Claim7 := { stood := { row := lexWordsUptoRow, standIns := [], harness := (true, "e9e066a080af8d82f2398c94451c99dec25268f81b8b10edf7ffc48fbe047590"), looks := false }, kinds := [], alts := [], laidByText := true, laidKinds := [.widerDeep], laidTests := true, laidLooks := .later }
def LexWordsUptoCardSaid : Prop := Claim7.holds Tryd.pinned (.plain (OpenSpec.upto lexWordsSpec)) lexWordsUptoCard

/-- THE SECOND FORM's CARD OF 'onceweblaw01.LexBlank'. -/
def lexBlankUptoCard : Claim7 := { stood := { row := lexBlankUptoRow, standIns := [], harness := (true, "e9e066a080af8d82f2398c94451c99dec25268f81b8b10edf7ffc48fbe047590"), looks := false }, kinds := [], alts := [], laidByText := true, laidKinds := [.widerDeep], laidTests := true, laidLooks := .later }
def LexBlankUptoCardSaid : Prop := Claim7.holds Tryd.pinned (.plain (OpenSpec.upto lexBlankSpec)) lexBlankUptoCard

/-- THE SECOND FORM's CARD OF 'onceweblaw01.LexBegins'. -/
def lexBeginsUptoCard : Claim7 := { stood := { row := lexBeginsUptoRow, standIns := [], harness := (true, "e9e066a080af8d82f2398c94451c99dec25268f81b8b10edf7ffc48fbe047590"), looks := false }, kinds := [], alts := [], laidByText := true, laidKinds := [.widerDeep], laidTests := true, laidLooks := .later }
def LexBeginsUptoCardSaid : Prop := Claim7.holds Tryd.pinned (.plain (OpenSpec.upto lexBeginsSpec)) lexBeginsUptoCard

/-- THE SECOND FORM's CARD OF 'onceweblaw01.LexLays'. -/
def lexLaysUptoCard : Claim7 := { stood := { row := lexLaysUptoRow, standIns := [], harness := (true, "e9e066a080af8d82f2398c94451c99dec25268f81b8b10edf7ffc48fbe047590"), looks := false }, kinds := [], alts := [], laidByText := true, laidKinds := [.widerDeep], laidTests := true, laidLooks := .later }
def LexLaysUptoCardSaid : Prop := Claim7.holds Tryd.pinned (.plain (OpenSpec.upto lexLaysSpec)) lexLaysUptoCard

/-- THE SECOND FORM's CARD OF 'onceweblaw01.LexBack'. -/
def lexBackUptoCard : Claim7 := { stood := { row := lexBackUptoRow, standIns := [], harness := (true, "e9e066a080af8d82f2398c94451c99dec25268f81b8b10edf7ffc48fbe047590"), looks := false }, kinds := [], alts := [], laidByText := true, laidKinds := [.widerDeep], laidTests := true, laidLooks := .later }
def LexBackUptoCardSaid : Prop := Claim7.holds Tryd.pinned (.plain (OpenSpec.upto lexBackSpec)) lexBackUptoCard
end Rows
end Go.Proofs.YthgemanfbanhnaaDoor
