/-
  DERIVED. GIVEN WITH THE SEED: THE CARDS: each row of YtdbpldkemkphiaaGreatDoorRows.lean that lists a variable, with what it lists TIED to the program's text (the seventh form; the later family's looks); each row that meets fmt, with fmt's text TOLD by the authors' own Lean function (tested against real Go, not proved from fmt's source: count such statements apart). THE CARD IS WHAT COUNTS. Prove the row's statement (the work); the ties are given (YtdbpldkemkphiaaGreatDoorTie.lean); close each card by the builder's one call (the guide's Derived/Test/ToyasCard.lean, 'card_holds'). Laid BY PROGRAM, IN A SANDBOX (cutbox-door.mjs). By AI agents, Wed Nov 11 2026. No macro, syntax, notation, axiom, sorry.
-/
import Derived.Test.YtdbpldkemkphiaaGreatDoorRows
import GoSem.ClaimSeven
namespace Go.Proofs.YtdbpldkemkphiaaGreatDoor
namespace Rows

/-- THE TIED CARD OF 'rallentandolaw28.WitnessNames'. -/
def witnessNamesCard : Claim7 := { stood := { row := witnessNamesRow, standIns := [], harness := (true, "ee9fd303fd13cba68f487c64b08e2960d27e2fbecd178be24227beb8014aa9a6"), looks := true }, kinds := [], alts := [], laidByText := true, laidKinds := [.data, .data, .data, .sentinel, .sentinel], laidTests := true, laidLooks := .later }
def WitnessNamesCardSaid : Prop := Claim7.holds Tryz.pinned (.plain (OpenSpec.ofChange witnessNamesSpec)) witnessNamesCard

/-- THE TIED CARD OF 'rallentandolaw28.WitnessMakes'. -/
def witnessMakesCard : Claim7 := { stood := { row := witnessMakesRow, standIns := [], harness := (true, "ee9fd303fd13cba68f487c64b08e2960d27e2fbecd178be24227beb8014aa9a6"), looks := true }, kinds := [], alts := [], laidByText := true, laidKinds := [.data, .data, .data, .sentinel, .sentinel], laidTests := true, laidLooks := .later }
def WitnessMakesCardSaid : Prop := Claim7.holds Tryz.pinned (.plain (OpenSpec.ofChange witnessMakesSpec)) witnessMakesCard

/-- THE TIED CARD OF 'rallentandolaw28.WitnessJoins'. -/
def witnessJoinsCard : Claim7 := { stood := { row := witnessJoinsRow, standIns := [], harness := (true, "ee9fd303fd13cba68f487c64b08e2960d27e2fbecd178be24227beb8014aa9a6"), looks := true }, kinds := [], alts := [], laidByText := true, laidKinds := [.data, .data, .data, .sentinel, .sentinel], laidTests := true, laidLooks := .later }
def WitnessJoinsCardSaid : Prop := Claim7.holds Tryz.pinned (.plain (OpenSpec.ofChange witnessJoinsSpec)) witnessJoinsCard

/-- THE TIED CARD OF 'rallentandolaw28.WitnessStays'. -/
def witnessStaysCard : Claim7 := { stood := { row := witnessStaysRow, standIns := [], harness := (true, "ee9fd303fd13cba68f487c64b08e2960d27e2fbecd178be24227beb8014aa9a6"), looks := true }, kinds := [], alts := [], laidByText := true, laidKinds := [.data, .data, .data, .sentinel, .sentinel], laidTests := true, laidLooks := .later }
def WitnessStaysCardSaid : Prop := Claim7.holds Tryz.pinned (.plain (OpenSpec.ofChange witnessStaysSpec)) witnessStaysCard

/-- THE SECOND FORM's CARD OF 'rallentandolaw28.WitnessNames'. -/
def witnessNamesUptoCard : Claim7 := { stood := { row := witnessNamesUptoRow, standIns := [], harness := (true, "ee9fd303fd13cba68f487c64b08e2960d27e2fbecd178be24227beb8014aa9a6"), looks := true }, kinds := [], alts := [], laidByText := true, laidKinds := [.data, .data, .data, .sentinel, .sentinel], laidTests := true, laidLooks := .later }
def WitnessNamesUptoCardSaid : Prop := Claim7.holds Tryz.pinned (.plain (OpenSpec.upto witnessNamesSpec)) witnessNamesUptoCard

/-- THE SECOND FORM's CARD OF 'rallentandolaw28.WitnessMakes'. -/
def witnessMakesUptoCard : Claim7 := { stood := { row := witnessMakesUptoRow, standIns := [], harness := (true, "ee9fd303fd13cba68f487c64b08e2960d27e2fbecd178be24227beb8014aa9a6"), looks := true }, kinds := [], alts := [], laidByText := true, laidKinds := [.data, .data, .data, .sentinel, .sentinel], laidTests := true, laidLooks := .later }
def WitnessMakesUptoCardSaid : Prop := Claim7.holds Tryz.pinned (.plain (OpenSpec.upto witnessMakesSpec)) witnessMakesUptoCard

/-- THE SECOND FORM's CARD OF 'rallentandolaw28.WitnessJoins'. -/
def witnessJoinsUptoCard : Claim7 := { stood := { row := witnessJoinsUptoRow, standIns := [], harness := (true, "ee9fd303fd13cba68f487c64b08e2960d27e2fbecd178be24227beb8014aa9a6"), looks := true }, kinds := [], alts := [], laidByText := true, laidKinds := [.data, .data, .data, .sentinel, .sentinel], laidTests := true, laidLooks := .later }
def WitnessJoinsUptoCardSaid : Prop := Claim7.holds Tryz.pinned (.plain (OpenSpec.upto witnessJoinsSpec)) witnessJoinsUptoCard

/-- THE SECOND FORM's CARD OF 'rallentandolaw28.WitnessStays'. -/
def witnessStaysUptoCard : Claim7 := { stood := { row := witnessStaysUptoRow, standIns := [], harness := (true, "ee9fd303fd13cba68f487c64b08e2960d27e2fbecd178be24227beb8014aa9a6"), looks := true }, kinds := [], alts := [], laidByText := true, laidKinds := [.data, .data, .data, .sentinel, .sentinel], laidTests := true, laidLooks := .later }
def WitnessStaysUptoCardSaid : Prop := Claim7.holds Tryz.pinned (.plain (OpenSpec.upto witnessStaysSpec)) witnessStaysUptoCard
end Rows
end Go.Proofs.YtdbpldkemkphiaaGreatDoor
