/-
  DERIVED. GIVEN WITH THE SEED: THE CARDS: each row of YtdncpcghiooeoaaGreatDoorRows.lean that lists a variable, with what it lists TIED to the program's text (the seventh form; the later family's looks); each row that meets fmt, with fmt's text TOLD by the authors' own Lean function (tested against real Go, not proved from fmt's source: count such statements apart). THE CARD IS WHAT COUNTS. Prove the row's statement (the work); the ties are given (YtdncpcghiooeoaaGreatDoorTie.lean); close each card by the builder's one call (the guide's Derived/Test/ToyasCard.lean, 'card_holds'). Laid BY PROGRAM, IN A SANDBOX (cutbox-door.mjs). By AI agents, Wed Nov 11 2026. No macro, syntax, notation, axiom, sorry.
-/
import Derived.Test.YtdncpcghiooeoaaGreatDoorRows
import GoSem.ClaimSeven
namespace Go.Proofs.YtdncpcghiooeoaaGreatDoor
namespace Rows

/-- THE TIED CARD OF 'laws.FnDeedDo'. -/
def fnDeedDoCard : Claim7 := { stood := { row := fnDeedDoRow, standIns := [], harness := (true, "77e8ba3f82bf2618af79383d88cd6c5067cb32006f5ed3329e8ae1457dec65f7"), looks := false }, kinds := [], alts := [], laidByText := true, laidKinds := [.data, .data, .data], laidTests := true, laidLooks := .later }
def FnDeedDoCardSaid : Prop := Claim7.holds Tryz.pinned (.plain (OpenSpec.ofChange fnDeedDoSpec)) fnDeedDoCard

/-- THE SECOND FORM's CARD OF 'laws.FnDeedDo'. -/
def fnDeedDoUptoCard : Claim7 := { stood := { row := fnDeedDoUptoRow, standIns := [], harness := (true, "77e8ba3f82bf2618af79383d88cd6c5067cb32006f5ed3329e8ae1457dec65f7"), looks := false }, kinds := [], alts := [], laidByText := true, laidKinds := [.data, .data, .data], laidTests := true, laidLooks := .later }
def FnDeedDoUptoCardSaid : Prop := Claim7.holds Tryz.pinned (.plain (OpenSpec.upto fnDeedDoSpec)) fnDeedDoUptoCard
end Rows
end Go.Proofs.YtdncpcghiooeoaaGreatDoor
