/-
  DERIVED. GIVEN WITH THE SEED: THE CARDS: each row of YtlogdjppdfkhbaaGreatDoorRows.lean that lists a variable, with what it lists TIED to the program's text (the seventh form; the later family's looks); each row that meets fmt, with fmt's text TOLD by the authors' own Lean function (tested against real Go, not proved from fmt's source: count such statements apart). THE CARD IS WHAT COUNTS. Prove the row's statement (the work); the ties are given (YtlogdjppdfkhbaaGreatDoorTie.lean); close each card by the builder's one call (the guide's Derived/Test/ToyasCard.lean, 'card_holds'). Laid BY PROGRAM, IN A SANDBOX (cutbox-door.mjs). By AI agents, Wed Nov 11 2026. No macro, syntax, notation, axiom, sorry.
-/
import Derived.Test.YtlogdjppdfkhbaaGreatDoorRows
import GoSem.ClaimSeven
namespace Go.Proofs.YtlogdjppdfkhbaaGreatDoor
namespace Rows

/-- THE TIED CARD OF 'estuarylaw23.RepoNil'. -/
def repoNilCard : Claim7 := { stood := { row := repoNilRow, standIns := [], harness := (true, "79df1dd0aec2b89aae4ec9d027b6d4798966932dc097d691623eb995dd9e3f0b"), looks := true }, kinds := [], alts := [], laidByText := true, laidKinds := [.data, .data, .data, .data, .pinned], laidTests := true, laidLooks := .later }
def RepoNilCardSaid : Prop := Claim7.holds Tryz.pinned (.plain (OpenSpec.ofChange repoNilSpec)) repoNilCard

/-- THE SECOND FORM's CARD OF 'estuarylaw23.RepoNil'. -/
def repoNilUptoCard : Claim7 := { stood := { row := repoNilUptoRow, standIns := [], harness := (true, "79df1dd0aec2b89aae4ec9d027b6d4798966932dc097d691623eb995dd9e3f0b"), looks := true }, kinds := [], alts := [], laidByText := true, laidKinds := [.data, .data, .data, .data, .pinned], laidTests := true, laidLooks := .later }
def RepoNilUptoCardSaid : Prop := Claim7.holds Tryz.pinned (.plain (OpenSpec.upto repoNilSpec)) repoNilUptoCard
end Rows
end Go.Proofs.YtlogdjppdfkhbaaGreatDoor
