/-
  DERIVED. GIVEN WITH THE SEED: THE CARDS: each row of YtialpccieggaoaaGreatDoorRows.lean that lists a variable, with what it lists TIED to the program's text (the seventh form; the later family's looks); each row that meets fmt, with fmt's text TOLD by the authors' own Lean function (tested against real Go, not proved from fmt's source: count such statements apart). THE CARD IS WHAT COUNTS. Prove the row's statement (the work); the ties are given (YtialpccieggaoaaGreatDoorTie.lean); close each card by the builder's one call (the guide's Derived/Test/ToyasCard.lean, 'card_holds'). Laid BY PROGRAM, IN A SANDBOX (cutbox-door.mjs). By AI agents, Wed Nov 11 2026. No macro, syntax, notation, axiom, sorry.
-/
import Derived.Test.YtialpccieggaoaaGreatDoorRows
import GoSem.ClaimSeven
namespace Go.Proofs.YtialpccieggaoaaGreatDoor
namespace Rows

/-- THE TIED CARD OF 'estuarylaw16.OpsNil'. -/
def opsNilCard : Claim7 := { stood := { row := opsNilRow, standIns := [], harness := (true, "8fe59bf7d603d1362e0ed128f00bc3af15790c08dd7ebe8983a9f0f656650b29"), looks := true }, kinds := [], alts := [], laidByText := true, laidKinds := [.data, .data, .data, .data, .sentinel, .sentinel, .pinned], laidTests := true, laidLooks := .later }
def OpsNilCardSaid : Prop := Claim7.holds Tryz.pinned (.plain (OpenSpec.ofChange opsNilSpec)) opsNilCard

/-- THE SECOND FORM's CARD OF 'estuarylaw16.OpsNil'. -/
def opsNilUptoCard : Claim7 := { stood := { row := opsNilUptoRow, standIns := [], harness := (true, "8fe59bf7d603d1362e0ed128f00bc3af15790c08dd7ebe8983a9f0f656650b29"), looks := true }, kinds := [], alts := [], laidByText := true, laidKinds := [.data, .data, .data, .data, .sentinel, .sentinel, .pinned], laidTests := true, laidLooks := .later }
def OpsNilUptoCardSaid : Prop := Claim7.holds Tryz.pinned (.plain (OpenSpec.upto opsNilSpec)) opsNilUptoCard
end Rows
end Go.Proofs.YtialpccieggaoaaGreatDoor
