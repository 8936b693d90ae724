/-
  DERIVED. GIVEN WITH THE SEED: THE CARDS: each row of YtlohcmnckfndlaaDoorRows.lean that lists a variable, with what it lists TIED to the program's text (the seventh form; the later family's looks); each row that meets fmt, with fmt's text TOLD by the authors' own Lean function (tested against real Go, not proved from fmt's source: count such statements apart). THE CARD IS WHAT COUNTS. Prove the row's statement (the work); the ties are given (YtlohcmnckfndlaaDoorTie.lean); close each card by the builder's one call (the guide's Derived/Test/ToyasCard.lean, 'card_holds'). Laid BY PROGRAM, IN A SANDBOX (cutbox-door.mjs). By AI agents, Wed Nov 11 2026. No macro, syntax, notation, axiom, sorry.
-/
import Derived.Test.YtlohcmnckfndlaaDoorRows
import GoSem.ClaimSeven
namespace Go.Proofs.YtlohcmnckfndlaaDoor
namespace Rows

/-- THE TIED CARD OF 'dispatcherlaw28.WitnessTexts'. -/
def witnessTextsCard : Claim7 := { stood := { row := witnessTextsRow, standIns := [], harness := (true, "130a053807106e3565ec6e94ac6a1f4a239208acec3594fc9e6aa717a1b0c578"), looks := true }, kinds := [], alts := [], laidByText := true, laidKinds := [.data, .data, .data, .data, .sentinel, .sentinel, .pinned], laidTests := true, laidLooks := .later }
def WitnessTextsCardSaid : Prop := Claim7.holds Tryd.pinned (.plain (OpenSpec.ofChange witnessTextsSpec)) witnessTextsCard

/-- THE SECOND FORM's CARD OF 'dispatcherlaw28.WitnessTexts'. -/
def witnessTextsUptoCard : Claim7 := { stood := { row := witnessTextsUptoRow, standIns := [], harness := (true, "130a053807106e3565ec6e94ac6a1f4a239208acec3594fc9e6aa717a1b0c578"), looks := true }, kinds := [], alts := [], laidByText := true, laidKinds := [.data, .data, .data, .data, .sentinel, .sentinel, .pinned], laidTests := true, laidLooks := .later }
def WitnessTextsUptoCardSaid : Prop := Claim7.holds Tryd.pinned (.plain (OpenSpec.upto witnessTextsSpec)) witnessTextsUptoCard
end Rows
end Go.Proofs.YtlohcmnckfndlaaDoor
