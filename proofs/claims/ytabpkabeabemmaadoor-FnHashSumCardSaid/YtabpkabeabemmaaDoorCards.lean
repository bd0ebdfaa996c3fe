/-
  DERIVED. GIVEN WITH THE SEED: THE CARDS: each row of YtabpkabeabemmaaDoorRows.lean that lists a variable, with what it lists TIED to the program's text (the seventh form; the later family's looks); each row that meets fmt, with fmt's text TOLD by the authors' own Lean function (tested against real Go, not proved from fmt's source: count such statements apart). THE CARD IS WHAT COUNTS. Prove the row's statement (the work); the ties are given (YtabpkabeabemmaaDoorTie.lean); close each card by the builder's one call (the guide's Derived/Test/ToyasCard.lean, 'card_holds'). Laid BY PROGRAM, IN A SANDBOX (cutbox-door.mjs). By AI agents, Wed Nov 11 2026. No macro, syntax, notation, axiom, sorry.
-/
import Derived.Test.YtabpkabeabemmaaDoorRows
import GoSem.ClaimSeven
namespace Go.Proofs.YtabpkabeabemmaaDoor
namespace Rows

/-- THE TIED CARD OF 'laws.FnExactHashSum'. -/
def fnExactHashSumCard : Claim7 := { stood := { row := fnExactHashSumRow, standIns := [], harness := (true, "c05d8b6e1f4d85921401d92d8cff9797229aa20329fc477895b14857fbb48779"), looks := false }, kinds := [], alts := [], laidByText := true, laidKinds := [.data, .data, .data, .data, .data], laidTests := true, laidLooks := .later }
def FnExactHashSumCardSaid : Prop := Claim7.holds Tryd.pinned (.plain (OpenSpec.ofChange fnExactHashSumSpec)) fnExactHashSumCard

/-- THE TIED CARD OF 'laws.FnHashSum'. -/
def fnHashSumCard : Claim7 := { stood := { row := fnHashSumRow, standIns := [], harness := (true, "c05d8b6e1f4d85921401d92d8cff9797229aa20329fc477895b14857fbb48779"), looks := false }, kinds := [], alts := [], laidByText := true, laidKinds := [.data, .data, .data, .data, .data], laidTests := true, laidLooks := .later }
def FnHashSumCardSaid : Prop := Claim7.holds Tryd.pinned (.plain (OpenSpec.ofChange fnHashSumSpec)) fnHashSumCard

/-- THE SECOND FORM's CARD OF 'laws.FnExactHashSum'. -/
def fnExactHashSumUptoCard : Claim7 := { stood := { row := fnExactHashSumUptoRow, standIns := [], harness := (true, "c05d8b6e1f4d85921401d92d8cff9797229aa20329fc477895b14857fbb48779"), looks := false }, kinds := [], alts := [], laidByText := true, laidKinds := [.data, .data, .data, .data, .data], laidTests := true, laidLooks := .later }
def FnExactHashSumUptoCardSaid : Prop := Claim7.holds Tryd.pinned (.plain (OpenSpec.upto fnExactHashSumSpec)) fnExactHashSumUptoCard

/-- THE SECOND FORM's CARD OF 'laws.FnHashSum'. -/
def fnHashSumUptoCard : Claim7 := { stood := { row := fnHashSumUptoRow, standIns := [], harness := (true, "c05d8b6e1f4d85921401d92d8cff9797229aa20329fc477895b14857fbb48779"), looks := false }, kinds := [], alts := [], laidByText := true, laidKinds := [.data, .data, .data, .data, .data], laidTests := true, laidLooks := .later }
def FnHashSumUptoCardSaid : Prop := Claim7.holds Tryd.pinned (.plain (OpenSpec.upto fnHashSumSpec)) fnHashSumUptoCard
end Rows
end Go.Proofs.YtabpkabeabemmaaDoor
