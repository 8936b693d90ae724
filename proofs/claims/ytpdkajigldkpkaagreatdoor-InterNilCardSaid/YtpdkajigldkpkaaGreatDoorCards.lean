/-
  DERIVED. GIVEN WITH THE SEED: THE CARDS: each row of YtpdkajigldkpkaaGreatDoorRows.lean that lists a variable, with what it lists TIED to the program's text (the seventh form; the later family's looks); each row that meets fmt, with fmt's text TOLD by the authors' own Lean function (tested against real Go, not proved from fmt's source: count such statements apart). THE CARD IS WHAT COUNTS. Prove the row's statement (the work); the ties are given (YtpdkajigldkpkaaGreatDoorTie.lean); close each card by the builder's one call (the guide's Derived/Test/ToyasCard.lean, 'card_holds'). Laid BY PROGRAM, IN A SANDBOX (cutbox-door.mjs). By AI agents, Wed Nov 11 2026. No macro, syntax, notation, axiom, sorry.
-/
import Derived.Test.YtpdkajigldkpkaaGreatDoorRows
import GoSem.ClaimSeven
namespace Go.Proofs.YtpdkajigldkpkaaGreatDoor
namespace Rows

/-- THE TIED CARD OF 'dispatcherlaw21.FenceNil'. -/
def fenceNilCard : Claim7 := { stood := { row := fenceNilRow, standIns := [], harness := (true, "ab0ee7f1c38a9556a626d1a5ec627d4cffb8e08fe85eb04770294c97614dbe4a"), looks := false }, kinds := [], alts := [], laidByText := true, laidKinds := [.data, .data, .data, .data], laidTests := true, laidLooks := .later }
def FenceNilCardSaid : Prop := Claim7.holds Tryz.pinned (.plain (OpenSpec.ofChange fenceNilSpec)) fenceNilCard

/-- THE TIED CARD OF 'dispatcherlaw20.InterNil'. -/
def interNilCard : Claim7 := { stood := { row := interNilRow, standIns := [], harness := (true, "ab0ee7f1c38a9556a626d1a5ec627d4cffb8e08fe85eb04770294c97614dbe4a"), looks := false }, kinds := [], alts := [], laidByText := true, laidKinds := [.data, .data, .data, .data], laidTests := true, laidLooks := .later }
def InterNilCardSaid : Prop := Claim7.holds Tryz.pinned (.plain (OpenSpec.ofChange interNilSpec)) interNilCard

/-- THE SECOND FORM's CARD OF 'dispatcherlaw21.FenceNil'. -/
def fenceNilUptoCard : Claim7 := { stood := { row := fenceNilUptoRow, standIns := [], harness := (true, "ab0ee7f1c38a9556a626d1a5ec627d4cffb8e08fe85eb04770294c97614dbe4a"), looks := false }, kinds := [], alts := [], laidByText := true, laidKinds := [.data, .data, .data, .data], laidTests := true, laidLooks := .later }
def FenceNilUptoCardSaid : Prop := Claim7.holds Tryz.pinned (.plain (OpenSpec.upto fenceNilSpec)) fenceNilUptoCard

/-- THE SECOND FORM's CARD OF 'dispatcherlaw20.InterNil'. -/
def interNilUptoCard : Claim7 := { stood := { row := interNilUptoRow, standIns := [], harness := (true, "ab0ee7f1c38a9556a626d1a5ec627d4cffb8e08fe85eb04770294c97614dbe4a"), looks := false }, kinds := [], alts := [], laidByText := true, laidKinds := [.data, .data, .data, .data], laidTests := true, laidLooks := .later }
def InterNilUptoCardSaid : Prop := Claim7.holds Tryz.pinned (.plain (OpenSpec.upto interNilSpec)) interNilUptoCard
end Rows
end Go.Proofs.YtpdkajigldkpkaaGreatDoor
