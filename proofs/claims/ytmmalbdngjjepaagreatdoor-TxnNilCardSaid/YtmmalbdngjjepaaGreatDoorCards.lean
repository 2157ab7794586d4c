/-
  DERIVED. GIVEN WITH THE SEED: THE CARDS: each row of YtmmalbdngjjepaaGreatDoorRows.lean that lists a variable, with what it lists TIED to the program's text (the seventh form; the later family's looks); each row that meets fmt, with fmt's text TOLD by the authors' own Lean function (tested against real Go, not proved from fmt's source: count such statements apart). THE CARD IS WHAT COUNTS. Prove the row's statement (the work); the ties are given (YtmmalbdngjjepaaGreatDoorTie.lean); close each card by the builder's one call (the guide's Derived/Test/ToyasCard.lean, 'card_holds'). Laid BY PROGRAM, IN A SANDBOX (cutbox-door.mjs). By AI agents, Wed Nov 11 2026. No macro, syntax, notation, axiom, sorry.
-/
import Derived.Test.YtmmalbdngjjepaaGreatDoorRows
import GoSem.ClaimSeven
namespace Go.Proofs.YtmmalbdngjjepaaGreatDoor
namespace Rows

/-- THE TIED CARD OF 'understudylaw14.TxnOnce'. -/
def txnOnceCard : Claim7 := { stood := { row := txnOnceRow, standIns := [], harness := (true, "2d90664a570bf9ff176dcca2a63297b3aed35a5f6629b45fdb20ef88a311d7e0"), looks := false }, kinds := [], alts := [], laidByText := true, laidKinds := [.data, .data, .data], laidTests := true, laidLooks := .later }
def TxnOnceCardSaid : Prop := Claim7.holds Tryz.pinned (.plain (OpenSpec.ofChange txnOnceSpec)) txnOnceCard

/-- THE TIED CARD OF 'understudylaw14.TxnNil'. -/
def txnNilCard : Claim7 := { stood := { row := txnNilRow, standIns := [], harness := (true, "2d90664a570bf9ff176dcca2a63297b3aed35a5f6629b45fdb20ef88a311d7e0"), looks := false }, kinds := [], alts := [], laidByText := true, laidKinds := [.data, .data, .data], laidTests := true, laidLooks := .later }
def TxnNilCardSaid : Prop := Claim7.holds Tryz.pinned (.plain (OpenSpec.ofChange txnNilSpec)) txnNilCard

/-- THE SECOND FORM's CARD OF 'understudylaw14.TxnOnce'. -/
def txnOnceUptoCard : Claim7 := { stood := { row := txnOnceUptoRow, standIns := [], harness := (true, "2d90664a570bf9ff176dcca2a63297b3aed35a5f6629b45fdb20ef88a311d7e0"), looks := false }, kinds := [], alts := [], laidByText := true, laidKinds := [.data, .data, .data], laidTests := true, laidLooks := .later }
def TxnOnceUptoCardSaid : Prop := Claim7.holds Tryz.pinned (.plain (OpenSpec.upto txnOnceSpec)) txnOnceUptoCard

/-- THE SECOND FORM's CARD OF 'understudylaw14.TxnNil'. -/
def txnNilUptoCard : Claim7 := { stood := { row := txnNilUptoRow, standIns := [], harness := (true, "2d90664a570bf9ff176dcca2a63297b3aed35a5f6629b45fdb20ef88a311d7e0"), looks := false }, kinds := [], alts := [], laidByText := true, laidKinds := [.data, .data, .data], laidTests := true, laidLooks := .later }
def TxnNilUptoCardSaid : Prop := Claim7.holds Tryz.pinned (.plain (OpenSpec.upto txnNilSpec)) txnNilUptoCard
end Rows
end Go.Proofs.YtmmalbdngjjepaaGreatDoor
