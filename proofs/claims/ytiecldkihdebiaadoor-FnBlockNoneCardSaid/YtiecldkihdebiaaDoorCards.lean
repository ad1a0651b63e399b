/-
  DERIVED. GIVEN WITH THE SEED: THE CARDS: each row of YtiecldkihdebiaaDoorRows.lean that lists a variable, with what it lists TIED to the program's text (the seventh form; the later family's looks); each row that meets fmt, with fmt's text TOLD by the authors' own Lean function (tested against real Go, not proved from fmt's source: count such statements apart). THE CARD IS WHAT COUNTS. Prove the row's statement (the work); the ties are given (YtiecldkihdebiaaDoorTie.lean); close each card by the builder's one call (the guide's Derived/Test/ToyasCard.lean, 'card_holds'). Laid BY PROGRAM, IN A SANDBOX (cutbox-door.mjs). By AI agents, Wed Nov 11 2026. No macro, syntax, notation, axiom, sorry.
-/
import Derived.Test.YtiecldkihdebiaaDoorRows
import GoSem.ClaimSeven
namespace Go.Proofs.YtiecldkihdebiaaDoor
namespace Rows

/-- THE TIED CARD OF 'laws.FnExactDeedRead'. -/
def fnExactDeedReadCard : Claim7 := { stood := { row := fnExactDeedReadRow, standIns := [], harness := (true, "5dad9d61ffc3201665a9bfa0d67bea09036c4e50af7f74f8ee04361a368d29b8"), looks := true }, kinds := [], alts := [], laidByText := true, laidKinds := [.data, .data, .data, .data, .sentinel, .sentinel, .pinned], laidTests := true, laidLooks := .later }
def FnExactDeedReadCardSaid : Prop := Claim7.holds Tryd.pinned (.plain (OpenSpec.ofChange fnExactDeedReadSpec)) fnExactDeedReadCard

/-- THE TIED CARD OF 'laws.FnDeedBack'. -/
def fnDeedBackCard : Claim7 := { stood := { row := fnDeedBackRow, standIns := [], harness := (true, "5dad9d61ffc3201665a9bfa0d67bea09036c4e50af7f74f8ee04361a368d29b8"), looks := true }, kinds := [], alts := [], laidByText := true, laidKinds := [.data, .data, .data, .data, .sentinel, .sentinel, .pinned], laidTests := true, laidLooks := .later }
def FnDeedBackCardSaid : Prop := Claim7.holds Tryd.pinned (.plain (OpenSpec.ofChange fnDeedBackSpec)) fnDeedBackCard

/-- THE TIED CARD OF 'laws.FnDeedStrict'. -/
def fnDeedStrictCard : Claim7 := { stood := { row := fnDeedStrictRow, standIns := [], harness := (true, "5dad9d61ffc3201665a9bfa0d67bea09036c4e50af7f74f8ee04361a368d29b8"), looks := true }, kinds := [], alts := [], laidByText := true, laidKinds := [.data, .data, .data, .data, .sentinel, .sentinel, .pinned], laidTests := true, laidLooks := .later }
def FnDeedStrictCardSaid : Prop := Claim7.holds Tryd.pinned (.plain (OpenSpec.ofChange fnDeedStrictSpec)) fnDeedStrictCard

/-- THE TIED CARD OF 'laws.FnExactBlockRead'. -/
def fnExactBlockReadCard : Claim7 := { stood := { row := fnExactBlockReadRow, standIns := [], harness := (true, "5dad9d61ffc3201665a9bfa0d67bea09036c4e50af7f74f8ee04361a368d29b8"), looks := true }, kinds := [], alts := [], laidByText := true, laidKinds := [.data, .data, .data, .data, .sentinel, .sentinel, .pinned], laidTests := true, laidLooks := .later }
def FnExactBlockReadCardSaid : Prop := Claim7.holds Tryd.pinned (.plain (OpenSpec.ofChange fnExactBlockReadSpec)) fnExactBlockReadCard

/-- THE TIED CARD OF 'laws.FnBlockByte'. -/
def fnBlockByteCard : Claim7 := { stood := { row := fnBlockByteRow, standIns := [], harness := (true, "5dad9d61ffc3201665a9bfa0d67bea09036c4e50af7f74f8ee04361a368d29b8"), looks := true }, kinds := [], alts := [], laidByText := true, laidKinds := [.data, .data, .data, .data, .sentinel, .sentinel, .pinned], laidTests := true, laidLooks := .later }
def FnBlockByteCardSaid : Prop := Claim7.holds Tryd.pinned (.plain (OpenSpec.ofChange fnBlockByteSpec)) fnBlockByteCard

/-- THE TIED CARD OF 'laws.FnBlockTorn'. -/
def fnBlockTornCard : Claim7 := { stood := { row := fnBlockTornRow, standIns := [], harness := (true, "5dad9d61ffc3201665a9bfa0d67bea09036c4e50af7f74f8ee04361a368d29b8"), looks := true }, kinds := [], alts := [], laidByText := true, laidKinds := [.data, .data, .data, .data, .sentinel, .sentinel, .pinned], laidTests := true, laidLooks := .later }
def FnBlockTornCardSaid : Prop := Claim7.holds Tryd.pinned (.plain (OpenSpec.ofChange fnBlockTornSpec)) fnBlockTornCard

/-- THE TIED CARD OF 'laws.FnBlockBack'. -/
def fnBlockBackCard : Claim7 := { stood := { row := fnBlockBackRow, standIns := [], harness := (true, "5dad9d61ffc3201665a9bfa0d67bea09036c4e50af7f74f8ee04361a368d29b8"), looks := true }, kinds := [], alts := [], laidByText := true, laidKinds := [.data, .data, .data, .data, .sentinel, .sentinel, .pinned], laidTests := true, laidLooks := .later }
def FnBlockBackCardSaid : Prop := Claim7.holds Tryd.pinned (.plain (OpenSpec.ofChange fnBlockBackSpec)) fnBlockBackCard

/-- THE TIED CARD OF 'laws.FnBlockNone'. -/
def fnBlockNoneCard : Claim7 := { stood := { row := fnBlockNoneRow, standIns := [], harness := (true, "5dad9d61ffc3201665a9bfa0d67bea09036c4e50af7f74f8ee04361a368d29b8"), looks := true }, kinds := [], alts := [], laidByText := true, laidKinds := [.data, .data, .data, .data, .sentinel, .sentinel, .pinned], laidTests := true, laidLooks := .later }
def FnBlockNoneCardSaid : Prop := Claim7.holds Tryd.pinned (.plain (OpenSpec.ofChange fnBlockNoneSpec)) fnBlockNoneCard

/-- THE TIED CARD OF 'laws.FnBlockStrict'. -/
def fnBlockStrictCard : Claim7 := { stood := { row := fnBlockStrictRow, standIns := [], harness := (true, "5dad9d61ffc3201665a9bfa0d67bea09036c4e50af7f74f8ee04361a368d29b8"), looks := true }, kinds := [], alts := [], laidByText := true, laidKinds := [.data, .data, .data, .data, .sentinel, .sentinel, .pinned], laidTests := true, laidLooks := .later }
def FnBlockStrictCardSaid : Prop := Claim7.holds Tryd.pinned (.plain (OpenSpec.ofChange fnBlockStrictSpec)) fnBlockStrictCard

/-- THE SECOND FORM's CARD OF 'laws.FnExactDeedRead'. -/
def fnExactDeedReadUptoCard : Claim7 := { stood := { row := fnExactDeedReadUptoRow, standIns := [], harness := (true, "5dad9d61ffc3201665a9bfa0d67bea09036c4e50af7f74f8ee04361a368d29b8"), looks := true }, kinds := [], alts := [], laidByText := true, laidKinds := [.data, .data, .data, .data, .sentinel, .sentinel, .pinned], laidTests := true, laidLooks := .later }
def FnExactDeedReadUptoCardSaid : Prop := Claim7.holds Tryd.pinned (.plain (OpenSpec.upto fnExactDeedReadSpec)) fnExactDeedReadUptoCard

/-- THE SECOND FORM's CARD OF 'laws.FnDeedBack'. -/
def fnDeedBackUptoCard : Claim7 := { stood := { row := fnDeedBackUptoRow, standIns := [], harness := (true, "5dad9d61ffc3201665a9bfa0d67bea09036c4e50af7f74f8ee04361a368d29b8"), looks := true }, kinds := [], alts := [], laidByText := true, laidKinds := [.data, .data, .data, .data, .sentinel, .sentinel, .pinned], laidTests := true, laidLooks := .later }
def FnDeedBackUptoCardSaid : Prop := Claim7.holds Tryd.pinned (.plain (OpenSpec.upto fnDeedBackSpec)) fnDeedBackUptoCard

/-- THE SECOND FORM's CARD OF 'laws.FnDeedStrict'. -/
def fnDeedStrictUptoCard : Claim7 := { stood := { row := fnDeedStrictUptoRow, standIns := [], harness := (true, "5dad9d61ffc3201665a9bfa0d67bea09036c4e50af7f74f8ee04361a368d29b8"), looks := true }, kinds := [], alts := [], laidByText := true, laidKinds := [.data, .data, .data, .data, .sentinel, .sentinel, .pinned], laidTests := true, laidLooks := .later }
def FnDeedStrictUptoCardSaid : Prop := Claim7.holds Tryd.pinned (.plain (OpenSpec.upto fnDeedStrictSpec)) fnDeedStrictUptoCard

/-- THE SECOND FORM's CARD OF 'laws.FnExactBlockRead'. -/
def fnExactBlockReadUptoCard : Claim7 := { stood := { row := fnExactBlockReadUptoRow, standIns := [], harness := (true, "5dad9d61ffc3201665a9bfa0d67bea09036c4e50af7f74f8ee04361a368d29b8"), looks := true }, kinds := [], alts := [], laidByText := true, laidKinds := [.data, .data, .data, .data, .sentinel, .sentinel, .pinned], laidTests := true, laidLooks := .later }
def FnExactBlockReadUptoCardSaid : Prop := Claim7.holds Tryd.pinned (.plain (OpenSpec.upto fnExactBlockReadSpec)) fnExactBlockReadUptoCard

/-- THE SECOND FORM's CARD OF 'laws.FnBlockByte'. -/
def fnBlockByteUptoCard : Claim7 := { stood := { row := fnBlockByteUptoRow, standIns := [], harness := (true, "5dad9d61ffc3201665a9bfa0d67bea09036c4e50af7f74f8ee04361a368d29b8"), looks := true }, kinds := [], alts := [], laidByText := true, laidKinds := [.data, .data, .data, .data, .sentinel, .sentinel, .pinned], laidTests := true, laidLooks := .later }
def FnBlockByteUptoCardSaid : Prop := Claim7.holds Tryd.pinned (.plain (OpenSpec.upto fnBlockByteSpec)) fnBlockByteUptoCard

/-- THE SECOND FORM's CARD OF 'laws.FnBlockTorn'. -/
def fnBlockTornUptoCard : Claim7 := { stood := { row := fnBlockTornUptoRow, standIns := [], harness := (true, "5dad9d61ffc3201665a9bfa0d67bea09036c4e50af7f74f8ee04361a368d29b8"), looks := true }, kinds := [], alts := [], laidByText := true, laidKinds := [.data, .data, .data, .data, .sentinel, .sentinel, .pinned], laidTests := true, laidLooks := .later }
def FnBlockTornUptoCardSaid : Prop := Claim7.holds Tryd.pinned (.plain (OpenSpec.upto fnBlockTornSpec)) fnBlockTornUptoCard

/-- THE SECOND FORM's CARD OF 'laws.FnBlockBack'. -/
def fnBlockBackUptoCard : Claim7 := { stood := { row := fnBlockBackUptoRow, standIns := [], harness := (true, "5dad9d61ffc3201665a9bfa0d67bea09036c4e50af7f74f8ee04361a368d29b8"), looks := true }, kinds := [], alts := [], laidByText := true, laidKinds := [.data, .data, .data, .data, .sentinel, .sentinel, .pinned], laidTests := true, laidLooks := .later }
def FnBlockBackUptoCardSaid : Prop := Claim7.holds Tryd.pinned (.plain (OpenSpec.upto fnBlockBackSpec)) fnBlockBackUptoCard

/-- THE SECOND FORM's CARD OF 'laws.FnBlockNone'. -/
def fnBlockNoneUptoCard : Claim7 := { stood := { row := fnBlockNoneUptoRow, standIns := [], harness := (true, "5dad9d61ffc3201665a9bfa0d67bea09036c4e50af7f74f8ee04361a368d29b8"), looks := true }, kinds := [], alts := [], laidByText := true, laidKinds := [.data, .data, .data, .data, .sentinel, .sentinel, .pinned], laidTests := true, laidLooks := .later }
def FnBlockNoneUptoCardSaid : Prop := Claim7.holds Tryd.pinned (.plain (OpenSpec.upto fnBlockNoneSpec)) fnBlockNoneUptoCard

/-- THE SECOND FORM's CARD OF 'laws.FnBlockStrict'. -/
def fnBlockStrictUptoCard : Claim7 := { stood := { row := fnBlockStrictUptoRow, standIns := [], harness := (true, "5dad9d61ffc3201665a9bfa0d67bea09036c4e50af7f74f8ee04361a368d29b8"), looks := true }, kinds := [], alts := [], laidByText := true, laidKinds := [.data, .data, .data, .data, .sentinel, .sentinel, .pinned], laidTests := true, laidLooks := .later }
def FnBlockStrictUptoCardSaid : Prop := Claim7.holds Tryd.pinned (.plain (OpenSpec.upto fnBlockStrictSpec)) fnBlockStrictUptoCard
end Rows
end Go.Proofs.YtiecldkihdebiaaDoor
