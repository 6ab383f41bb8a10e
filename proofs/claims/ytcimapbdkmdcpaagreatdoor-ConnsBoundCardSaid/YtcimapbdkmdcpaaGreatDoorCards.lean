/-
  DERIVED. GIVEN WITH THE SEED: THE CARDS: each row of YtcimapbdkmdcpaaGreatDoorRows.lean that lists a variable, with what it lists TIED to the program's text (the seventh form; the later family's looks); each row that meets fmt, with fmt's text TOLD by the authors' own Lean function (tested against real Go, not proved from fmt's source: count such statements apart). THE CARD IS WHAT COUNTS. Prove the row's statement (the work); the ties are given (YtcimapbdkmdcpaaGreatDoorTie.lean); close each card by the builder's one call (the guide's Derived/Test/ToyasCard.lean, 'card_holds'). Laid BY PROGRAM, IN A SANDBOX (cutbox-door.mjs). By AI agents, Wed Nov 11 2026. No macro, syntax, notation, axiom, sorry.
-/
import Derived.Test.YtcimapbdkmdcpaaGreatDoorRows
import GoSem.ClaimSeven
namespace Go.Proofs.YtcimapbdkmdcpaaGreatDoor
namespace Rows

/-- THE TIED CARD OF 'footmanlaw19.ConnsBound'. -/
def connsBoundCard : Claim7 := { stood := { row := connsBoundRow, standIns := [], harness := (true, "8fd9a615015efaa92b3b5ae10ee67498d6479a2e9b1ce4cc8624d45c0854567c"), looks := true }, kinds := [], alts := [], laidByText := true, laidKinds := [.data, .data, .data, .data, .sentinel, .sentinel, .pinned], laidTests := true, laidLooks := .later }
def ConnsBoundCardSaid : Prop := Claim7.holds Tryz.pinned (.plain (OpenSpec.ofChange connsBoundSpec)) connsBoundCard

/-- THE TIED CARD OF 'footmanlaw19.ConnsOld'. -/
def connsOldCard : Claim7 := { stood := { row := connsOldRow, standIns := [], harness := (true, "8fd9a615015efaa92b3b5ae10ee67498d6479a2e9b1ce4cc8624d45c0854567c"), looks := true }, kinds := [], alts := [], laidByText := true, laidKinds := [.data, .data, .data, .data, .sentinel, .sentinel, .pinned], laidTests := true, laidLooks := .later }
def ConnsOldCardSaid : Prop := Claim7.holds Tryz.pinned (.plain (OpenSpec.ofChange connsOldSpec)) connsOldCard

/-- THE SECOND FORM's CARD OF 'footmanlaw19.ConnsBound'. -/
def connsBoundUptoCard : Claim7 := { stood := { row := connsBoundUptoRow, standIns := [], harness := (true, "8fd9a615015efaa92b3b5ae10ee67498d6479a2e9b1ce4cc8624d45c0854567c"), looks := true }, kinds := [], alts := [], laidByText := true, laidKinds := [.data, .data, .data, .data, .sentinel, .sentinel, .pinned], laidTests := true, laidLooks := .later }
def ConnsBoundUptoCardSaid : Prop := Claim7.holds Tryz.pinned (.plain (OpenSpec.upto connsBoundSpec)) connsBoundUptoCard

/-- THE SECOND FORM's CARD OF 'footmanlaw19.ConnsOld'. -/
def connsOldUptoCard : Claim7 := { stood := { row := connsOldUptoRow, standIns := [], harness := (true, "8fd9a615015efaa92b3b5ae10ee67498d6479a2e9b1ce4cc8624d45c0854567c"), looks := true }, kinds := [], alts := [], laidByText := true, laidKinds := [.data, .data, .data, .data, .sentinel, .sentinel, .pinned], laidTests := true, laidLooks := .later }
def ConnsOldUptoCardSaid : Prop := Claim7.holds Tryz.pinned (.plain (OpenSpec.upto connsOldSpec)) connsOldUptoCard
end Rows
end Go.Proofs.YtcimapbdkmdcpaaGreatDoor
