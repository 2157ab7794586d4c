/-
  DERIVED. GIVEN WITH THE SEED: THE CARDS: each row of YtacaaddoflbldaaGreatDoorRows.lean that lists a variable, with what it lists TIED to the program's text (the seventh form; the later family's looks); each row that meets fmt, with fmt's text TOLD by the authors' own Lean function (tested against real Go, not proved from fmt's source: count such statements apart). THE CARD IS WHAT COUNTS. Prove the row's statement (the work); the ties are given (YtacaaddoflbldaaGreatDoorTie.lean); close each card by the builder's one call (the guide's Derived/Test/ToyasCard.lean, 'card_holds'). Laid BY PROGRAM, IN A SANDBOX (cutbox-door.mjs). By AI agents, Wed Nov 11 2026. No macro, syntax, notation, axiom, sorry.
-/
import Derived.Test.YtacaaddoflbldaaGreatDoorRows
import GoSem.ClaimSeven
namespace Go.Proofs.YtacaaddoflbldaaGreatDoor
namespace Rows

/-- THE TIED CARD OF 'understudylaw20.StreamNil'. -/
def streamNilCard : Claim7 := { stood := { row := streamNilRow, standIns := [], harness := (true, "6b9e80cd074012278e66812bc857fca3081ee3782cea4c7ffb7d4490fca99075"), looks := false }, kinds := [], alts := [], laidByText := true, laidKinds := [.data, .data, .data], laidTests := true, laidLooks := .later }
def StreamNilCardSaid : Prop := Claim7.holds Tryz.pinned (.plain (OpenSpec.ofChange streamNilSpec)) streamNilCard

/-- THE SECOND FORM's CARD OF 'understudylaw20.StreamNil'. -/
def streamNilUptoCard : Claim7 := { stood := { row := streamNilUptoRow, standIns := [], harness := (true, "6b9e80cd074012278e66812bc857fca3081ee3782cea4c7ffb7d4490fca99075"), looks := false }, kinds := [], alts := [], laidByText := true, laidKinds := [.data, .data, .data], laidTests := true, laidLooks := .later }
def StreamNilUptoCardSaid : Prop := Claim7.holds Tryz.pinned (.plain (OpenSpec.upto streamNilSpec)) streamNilUptoCard
end Rows
end Go.Proofs.YtacaaddoflbldaaGreatDoor
