/-
  DERIVED. GIVEN WITH THE SEED: THE CARDS: each row of YtjmlekhgnbbjoaaGreatDoorRows.lean that lists a variable, with what it lists TIED to the program's text (the seventh form; the later family's looks); each row that meets fmt, with fmt's text TOLD by the authors' own Lean function (tested against real Go, not proved from fmt's source: count such statements apart). THE CARD IS WHAT COUNTS. Prove the row's statement (the work); the ties are given (YtjmlekhgnbbjoaaGreatDoorTie.lean); close each card by the builder's one call (the guide's Derived/Test/ToyasCard.lean, 'card_holds'). Laid BY PROGRAM, IN A SANDBOX (cutbox-door.mjs). By AI agents, Wed Nov 11 2026. No macro, syntax, notation, axiom, sorry.
-/
import Derived.Test.YtjmlekhgnbbjoaaGreatDoorRows
import GoSem.ClaimSeven
namespace Go.Proofs.YtjmlekhgnbbjoaaGreatDoor
namespace Rows

/-- THE TIED CARD OF 'laws.FnTripText'. -/
def fnTripTextCard : Claim7 := { stood := { row := fnTripTextRow, standIns := [], harness := (true, "a5dd381460fe5d75a2f6bc5bc7cfaf9f44d19b2d861de0e199392172fc1822a0"), looks := true }, kinds := [], alts := [], laidByText := true, laidKinds := [.data, .data, .data, .data, .sentinel, .sentinel, .pinned], laidTests := true, laidLooks := .later }
def FnTripTextCardSaid : Prop := Claim7.holds Tryz.pinned (.plain (OpenSpec.ofChange fnTripTextSpec)) fnTripTextCard

/-- THE SECOND FORM's CARD OF 'laws.FnTripText'. -/
def fnTripTextUptoCard : Claim7 := { stood := { row := fnTripTextUptoRow, standIns := [], harness := (true, "a5dd381460fe5d75a2f6bc5bc7cfaf9f44d19b2d861de0e199392172fc1822a0"), looks := true }, kinds := [], alts := [], laidByText := true, laidKinds := [.data, .data, .data, .data, .sentinel, .sentinel, .pinned], laidTests := true, laidLooks := .later }
def FnTripTextUptoCardSaid : Prop := Claim7.holds Tryz.pinned (.plain (OpenSpec.upto fnTripTextSpec)) fnTripTextUptoCard
end Rows
end Go.Proofs.YtjmlekhgnbbjoaaGreatDoor
