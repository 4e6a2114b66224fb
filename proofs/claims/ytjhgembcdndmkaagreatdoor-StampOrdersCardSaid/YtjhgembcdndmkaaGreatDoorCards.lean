/-
  DERIVED. GIVEN WITH THE SEED: THE CARDS: each row of YtjhgembcdndmkaaGreatDoorRows.lean that lists a variable, with what it lists TIED to the program's text (the seventh form; the later family's looks); each row that meets fmt, with fmt's text TOLD by the authors' own Lean function (tested against real Go, not proved from fmt's source: count such statements apart). THE CARD IS WHAT COUNTS. Prove the row's statement (the work); the ties are given (YtjhgembcdndmkaaGreatDoorTie.lean); close each card by the builder's one call (the guide's Derived/Test/ToyasCard.lean, 'card_holds'). Laid BY PROGRAM, IN A SANDBOX (cutbox-door.mjs). By AI agents, Wed Nov 11 2026. No macro, syntax, notation, axiom, sorry.
-/
import Derived.Test.YtjhgembcdndmkaaGreatDoorRows
import GoSem.ClaimSeven
namespace Go.Proofs.YtjhgembcdndmkaaGreatDoor
namespace Rows

/-- THE TIED CARD OF 'estuarylaw06.StampParses'. -/
def stampParsesCard : Claim7 := { stood := { row := stampParsesRow, standIns := [], harness := (true, "209862056e3896506a1f9acee25c7737523930c1a243fc30bdbdacdf4e7dd12e"), looks := true }, kinds := [], alts := [], laidByText := true, laidKinds := [.data, .data, .data, .data, .sentinel, .sentinel, .pinned], laidTests := true, laidLooks := .later }
def StampParsesCardSaid : Prop := Claim7.holds Tryz.pinned (.plain (OpenSpec.ofChange stampParsesSpec)) stampParsesCard

/-- THE TIED CARD OF 'estuarylaw06.StampTakes'. -/
def stampTakesCard : Claim7 := { stood := { row := stampTakesRow, standIns := [], harness := (true, "209862056e3896506a1f9acee25c7737523930c1a243fc30bdbdacdf4e7dd12e"), looks := true }, kinds := [], alts := [], laidByText := true, laidKinds := [.data, .data, .data, .data, .sentinel, .sentinel, .pinned], laidTests := true, laidLooks := .later }
def StampTakesCardSaid : Prop := Claim7.holds Tryz.pinned (.plain (OpenSpec.ofChange stampTakesSpec)) stampTakesCard

/-- THE TIED CARD OF 'estuarylaw06.StampOrder'. -/
def stampOrderCard : Claim7 := { stood := { row := stampOrderRow, standIns := [], harness := (true, "209862056e3896506a1f9acee25c7737523930c1a243fc30bdbdacdf4e7dd12e"), looks := true }, kinds := [], alts := [], laidByText := true, laidKinds := [.data, .data, .data, .data, .sentinel, .sentinel, .pinned], laidTests := true, laidLooks := .later }
def StampOrderCardSaid : Prop := Claim7.holds Tryz.pinned (.plain (OpenSpec.ofChange stampOrderSpec)) stampOrderCard

/-- THE TIED CARD OF 'estuarylaw06.StampOrders'. -/
def stampOrdersCard : Claim7 := { stood := { row := stampOrdersRow, standIns := [], harness := (true, "209862056e3896506a1f9acee25c7737523930c1a243fc30bdbdacdf4e7dd12e"), looks := true }, kinds := [], alts := [], laidByText := true, laidKinds := [.data, .data, .data, .data, .sentinel, .sentinel, .pinned], laidTests := true, laidLooks := .later }
def StampOrdersCardSaid : Prop := Claim7.holds Tryz.pinned (.plain (OpenSpec.ofChange stampOrdersSpec)) stampOrdersCard

/-- THE TIED CARD OF 'estuarylaw06.StampNil'. -/
def stampNilCard : Claim7 := { stood := { row := stampNilRow, standIns := [], harness := (true, "209862056e3896506a1f9acee25c7737523930c1a243fc30bdbdacdf4e7dd12e"), looks := true }, kinds := [], alts := [], laidByText := true, laidKinds := [.data, .data, .data, .data, .sentinel, .sentinel, .pinned], laidTests := true, laidLooks := .later }
def StampNilCardSaid : Prop := Claim7.holds Tryz.pinned (.plain (OpenSpec.ofChange stampNilSpec)) stampNilCard

/-- THE SECOND FORM's CARD OF 'estuarylaw06.StampParses'. -/
def stampParsesUptoCard : Claim7 := { stood := { row := stampParsesUptoRow, standIns := [], harness := (true, "209862056e3896506a1f9acee25c7737523930c1a243fc30bdbdacdf4e7dd12e"), looks := true }, kinds := [], alts := [], laidByText := true, laidKinds := [.data, .data, .data, .data, .sentinel, .sentinel, .pinned], laidTests := true, laidLooks := .later }
def StampParsesUptoCardSaid : Prop := Claim7.holds Tryz.pinned (.plain (OpenSpec.upto stampParsesSpec)) stampParsesUptoCard

/-- THE SECOND FORM's CARD OF 'estuarylaw06.StampTakes'. -/
def stampTakesUptoCard : Claim7 := { stood := { row := stampTakesUptoRow, standIns := [], harness := (true, "209862056e3896506a1f9acee25c7737523930c1a243fc30bdbdacdf4e7dd12e"), looks := true }, kinds := [], alts := [], laidByText := true, laidKinds := [.data, .data, .data, .data, .sentinel, .sentinel, .pinned], laidTests := true, laidLooks := .later }
def StampTakesUptoCardSaid : Prop := Claim7.holds Tryz.pinned (.plain (OpenSpec.upto stampTakesSpec)) stampTakesUptoCard

/-- THE SECOND FORM's CARD OF 'estuarylaw06.StampOrder'. -/
def stampOrderUptoCard : Claim7 := { stood := { row := stampOrderUptoRow, standIns := [], harness := (true, "209862056e3896506a1f9acee25c7737523930c1a243fc30bdbdacdf4e7dd12e"), looks := true }, kinds := [], alts := [], laidByText := true, laidKinds := [.data, .data, .data, .data, .sentinel, .sentinel, .pinned], laidTests := true, laidLooks := .later }
def StampOrderUptoCardSaid : Prop := Claim7.holds Tryz.pinned (.plain (OpenSpec.upto stampOrderSpec)) stampOrderUptoCard

/-- THE SECOND FORM's CARD OF 'estuarylaw06.StampOrders'. -/
def stampOrdersUptoCard : Claim7 := { stood := { row := stampOrdersUptoRow, standIns := [], harness := (true, "209862056e3896506a1f9acee25c7737523930c1a243fc30bdbdacdf4e7dd12e"), looks := true }, kinds := [], alts := [], laidByText := true, laidKinds := [.data, .data, .data, .data, .sentinel, .sentinel, .pinned], laidTests := true, laidLooks := .later }
def StampOrdersUptoCardSaid : Prop := Claim7.holds Tryz.pinned (.plain (OpenSpec.upto stampOrdersSpec)) stampOrdersUptoCard

/-- THE SECOND FORM's CARD OF 'estuarylaw06.StampNil'. -/
def stampNilUptoCard : Claim7 := { stood := { row := stampNilUptoRow, standIns := [], harness := (true, "209862056e3896506a1f9acee25c7737523930c1a243fc30bdbdacdf4e7dd12e"), looks := true }, kinds := [], alts := [], laidByText := true, laidKinds := [.data, .data, .data, .data, .sentinel, .sentinel, .pinned], laidTests := true, laidLooks := .later }
def StampNilUptoCardSaid : Prop := Claim7.holds Tryz.pinned (.plain (OpenSpec.upto stampNilSpec)) stampNilUptoCard
end Rows
end Go.Proofs.YtjhgembcdndmkaaGreatDoor
