/-
  DERIVED. GIVEN WITH THE SEED: THE CARDS: each row of YtnademkndfecoaaDoorRows.lean that lists a variable, with what it lists TIED to the program's text (the seventh form; the later family's looks); each row that meets fmt, with fmt's text TOLD by the authors' own Lean function (tested against real Go, not proved from fmt's source: count such statements apart). THE CARD IS WHAT COUNTS. Prove the row's statement (the work); the ties are given (YtnademkndfecoaaDoorTie.lean); close each card by the builder's one call (the guide's Derived/Test/ToyasCard.lean, 'card_holds'). Laid BY PROGRAM, IN A SANDBOX (cutbox-door.mjs). By AI agents, Wed Nov 11 2026. No macro, syntax, notation, axiom, sorry.
-/
import Derived.Test.YtnademkndfecoaaDoorRows
import GoSem.ClaimSeven
namespace Go.Proofs.YtnademkndfecoaaDoor
namespace Rows

/-- THE TIED CARD OF 'sedimentlaw14.ManifestNames'. -/
def manifestNamesCard : Claim7 := { stood := { row := manifestNamesRow, standIns := [], harness := (true, "d2052d17d68b0082b702cc141d9348b7a35ad7a3c0c7971d4b3787daf9db8385"), looks := true }, kinds := [], alts := [], laidByText := true, laidKinds := [.data, .data, .data, .sentinel, .sentinel], laidTests := true, laidLooks := .later }
def ManifestNamesCardSaid : Prop := Claim7.holds Tryd.pinned (.plain (OpenSpec.ofChange manifestNamesSpec)) manifestNamesCard

/-- THE TIED CARD OF 'sedimentlaw12.TablesNames'. -/
def tablesNamesCard : Claim7 := { stood := { row := tablesNamesRow, standIns := [], harness := (true, "d2052d17d68b0082b702cc141d9348b7a35ad7a3c0c7971d4b3787daf9db8385"), looks := true }, kinds := [], alts := [], laidByText := true, laidKinds := [.data, .data, .data, .sentinel, .sentinel], laidTests := true, laidLooks := .later }
def TablesNamesCardSaid : Prop := Claim7.holds Tryd.pinned (.plain (OpenSpec.ofChange tablesNamesSpec)) tablesNamesCard

/-- THE SECOND FORM's CARD OF 'sedimentlaw14.ManifestNames'. -/
def manifestNamesUptoCard : Claim7 := { stood := { row := manifestNamesUptoRow, standIns := [], harness := (true, "d2052d17d68b0082b702cc141d9348b7a35ad7a3c0c7971d4b3787daf9db8385"), looks := true }, kinds := [], alts := [], laidByText := true, laidKinds := [.data, .data, .data, .sentinel, .sentinel], laidTests := true, laidLooks := .later }
def ManifestNamesUptoCardSaid : Prop := Claim7.holds Tryd.pinned (.plain (OpenSpec.upto manifestNamesSpec)) manifestNamesUptoCard

/-- THE SECOND FORM's CARD OF 'sedimentlaw12.TablesNames'. -/
def tablesNamesUptoCard : Claim7 := { stood := { row := tablesNamesUptoRow, standIns := [], harness := (true, "d2052d17d68b0082b702cc141d9348b7a35ad7a3c0c7971d4b3787daf9db8385"), looks := true }, kinds := [], alts := [], laidByText := true, laidKinds := [.data, .data, .data, .sentinel, .sentinel], laidTests := true, laidLooks := .later }
def TablesNamesUptoCardSaid : Prop := Claim7.holds Tryd.pinned (.plain (OpenSpec.upto tablesNamesSpec)) tablesNamesUptoCard
end Rows
end Go.Proofs.YtnademkndfecoaaDoor
