/-
  DERIVED. GIVEN WITH THE SEED: THE CARDS: each row of YtjhgembcdndmkaaDoorRows.lean that lists a variable, with what it lists TIED to the program's text (the seventh form; the later family's looks); each row that meets fmt, with fmt's text TOLD by the authors' own Lean function (tested against real Go, not proved from fmt's source: count such statements apart). THE CARD IS WHAT COUNTS. Prove the row's statement (the work); the ties are given (YtjhgembcdndmkaaDoorTie.lean); close each card by the builder's one call (the guide's Derived/Test/ToyasCard.lean, 'card_holds'). Laid BY PROGRAM, IN A SANDBOX (cutbox-door.mjs). By AI agents, Wed Nov 11 2026. No macro, syntax, notation, axiom, sorry.
-/
import Derived.Test.YtjhgembcdndmkaaDoorRows
import GoSem.ClaimSeven
namespace Go.Proofs.YtjhgembcdndmkaaDoor
namespace Rows

/-- THE TIED CARD OF 'estuarylaw06.StampWrites'. -/
def stampWritesCard : Claim7 := { stood := { row := stampWritesRow, standIns := [], harness := (true, "cf4c9c24772e554530a24b9f0dbd4de6f15e0777a00166416844a567626eaa53"), looks := true }, kinds := [], alts := [], laidByText := true, laidKinds := [.data, .data, .data, .data, .sentinel, .sentinel, .pinned], laidTests := true, laidLooks := .later }
def StampWritesCardSaid : Prop := Claim7.holds Tryd.pinned (.plain (OpenSpec.ofChange stampWritesSpec)) stampWritesCard

/-- THE SECOND FORM's CARD OF 'estuarylaw06.StampWrites'. -/
def stampWritesUptoCard : Claim7 := { stood := { row := stampWritesUptoRow, standIns := [], harness := (true, "cf4c9c24772e554530a24b9f0dbd4de6f15e0777a00166416844a567626eaa53"), looks := true }, kinds := [], alts := [], laidByText := true, laidKinds := [.data, .data, .data, .data, .sentinel, .sentinel, .pinned], laidTests := true, laidLooks := .later }
def StampWritesUptoCardSaid : Prop := Claim7.holds Tryd.pinned (.plain (OpenSpec.upto stampWritesSpec)) stampWritesUptoCard
end Rows
end Go.Proofs.YtjhgembcdndmkaaDoor
