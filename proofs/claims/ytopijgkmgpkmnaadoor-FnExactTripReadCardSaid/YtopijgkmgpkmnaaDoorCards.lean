/-
  DERIVED. GIVEN WITH THE SEED: THE CARDS: each row of YtopijgkmgpkmnaaDoorRows.lean that lists a variable, with what it lists TIED to the program's text (the seventh form; the later family's looks); each row that meets fmt, with fmt's text TOLD by the authors' own Lean function (tested against real Go, not proved from fmt's source: count such statements apart). THE CARD IS WHAT COUNTS. Prove the row's statement (the work); the ties are given (YtopijgkmgpkmnaaDoorTie.lean); close each card by the builder's one call (the guide's Derived/Test/ToyasCard.lean, 'card_holds'). Laid BY PROGRAM, IN A SANDBOX (cutbox-door.mjs). By AI agents, Wed Nov 11 2026. No macro, syntax, notation, axiom, sorry.
-/
import Derived.Test.YtopijgkmgpkmnaaDoorRows
import GoSem.ClaimSeven
namespace Go.Proofs.YtopijgkmgpkmnaaDoor
namespace Rows

/-- THE TIED CARD OF 'laws.FnExactWirePut'. -/
def fnExactWirePutCard : Claim7 := { stood := { row := fnExactWirePutRow, standIns := [], harness := (true, "39a9e612d16f4110fbde39408928efc1986b012ac1b9aff1fd2642e9a83eba7c"), looks := true }, kinds := [], alts := [], laidByText := true, laidKinds := [.data, .data, .data], laidTests := true, laidLooks := .later }
def FnExactWirePutCardSaid : Prop := Claim7.holds Tryd.pinned (.plain (OpenSpec.ofChange fnExactWirePutSpec)) fnExactWirePutCard

/-- THE TIED CARD OF 'laws.FnWireBoth'. -/
def fnWireBothCard : Claim7 := { stood := { row := fnWireBothRow, standIns := [], harness := (true, "39a9e612d16f4110fbde39408928efc1986b012ac1b9aff1fd2642e9a83eba7c"), looks := true }, kinds := [], alts := [], laidByText := true, laidKinds := [.data, .data, .data], laidTests := true, laidLooks := .later }
def FnWireBothCardSaid : Prop := Claim7.holds Tryd.pinned (.plain (OpenSpec.ofChange fnWireBothSpec)) fnWireBothCard

/-- THE TIED CARD OF 'laws.FnExactMoneyWrite'. -/
def fnExactMoneyWriteCard : Claim7 := { stood := { row := fnExactMoneyWriteRow, standIns := [], harness := (true, "39a9e612d16f4110fbde39408928efc1986b012ac1b9aff1fd2642e9a83eba7c"), looks := true }, kinds := [], alts := [], laidByText := true, laidKinds := [.data, .data, .data], laidTests := true, laidLooks := .later }
def FnExactMoneyWriteCardSaid : Prop := Claim7.holds Tryd.pinned (.plain (OpenSpec.ofChange fnExactMoneyWriteSpec)) fnExactMoneyWriteCard

/-- THE TIED CARD OF 'laws.FnExactTripWrite'. -/
def fnExactTripWriteCard : Claim7 := { stood := { row := fnExactTripWriteRow, standIns := [], harness := (true, "39a9e612d16f4110fbde39408928efc1986b012ac1b9aff1fd2642e9a83eba7c"), looks := true }, kinds := [], alts := [], laidByText := true, laidKinds := [.data, .data, .data], laidTests := true, laidLooks := .later }
def FnExactTripWriteCardSaid : Prop := Claim7.holds Tryd.pinned (.plain (OpenSpec.ofChange fnExactTripWriteSpec)) fnExactTripWriteCard

/-- THE TIED CARD OF 'laws.FnExactWireGet'. -/
def fnExactWireGetCard : Claim7 := { stood := { row := fnExactWireGetRow, standIns := [], harness := (true, "39a9e612d16f4110fbde39408928efc1986b012ac1b9aff1fd2642e9a83eba7c"), looks := true }, kinds := [], alts := [], laidByText := true, laidKinds := [.data, .data, .data, .sentinel, .sentinel], laidTests := true, laidLooks := .later }
def FnExactWireGetCardSaid : Prop := Claim7.holds Tryd.pinned (.plain (OpenSpec.ofChange fnExactWireGetSpec)) fnExactWireGetCard

/-- THE TIED CARD OF 'laws.FnWireText'. -/
def fnWireTextCard : Claim7 := { stood := { row := fnWireTextRow, standIns := [], harness := (true, "39a9e612d16f4110fbde39408928efc1986b012ac1b9aff1fd2642e9a83eba7c"), looks := true }, kinds := [], alts := [], laidByText := true, laidKinds := [.data, .data, .data, .sentinel, .sentinel], laidTests := true, laidLooks := .later }
def FnWireTextCardSaid : Prop := Claim7.holds Tryd.pinned (.plain (OpenSpec.ofChange fnWireTextSpec)) fnWireTextCard

/-- THE TIED CARD OF 'laws.FnExactMoneyRead'. -/
def fnExactMoneyReadCard : Claim7 := { stood := { row := fnExactMoneyReadRow, standIns := [], harness := (true, "39a9e612d16f4110fbde39408928efc1986b012ac1b9aff1fd2642e9a83eba7c"), looks := true }, kinds := [], alts := [], laidByText := true, laidKinds := [.data, .data, .data, .data, .sentinel, .sentinel, .pinned], laidTests := true, laidLooks := .later }
def FnExactMoneyReadCardSaid : Prop := Claim7.holds Tryd.pinned (.plain (OpenSpec.ofChange fnExactMoneyReadSpec)) fnExactMoneyReadCard

/-- THE TIED CARD OF 'laws.FnMoneyText'. -/
def fnMoneyTextCard : Claim7 := { stood := { row := fnMoneyTextRow, standIns := [], harness := (true, "39a9e612d16f4110fbde39408928efc1986b012ac1b9aff1fd2642e9a83eba7c"), looks := true }, kinds := [], alts := [], laidByText := true, laidKinds := [.data, .data, .data, .data, .sentinel, .sentinel, .pinned], laidTests := true, laidLooks := .later }
def FnMoneyTextCardSaid : Prop := Claim7.holds Tryd.pinned (.plain (OpenSpec.ofChange fnMoneyTextSpec)) fnMoneyTextCard

/-- THE TIED CARD OF 'laws.FnExactTripRead'. -/
def fnExactTripReadCard : Claim7 := { stood := { row := fnExactTripReadRow, standIns := [], harness := (true, "39a9e612d16f4110fbde39408928efc1986b012ac1b9aff1fd2642e9a83eba7c"), looks := true }, kinds := [], alts := [], laidByText := true, laidKinds := [.data, .data, .data, .data, .sentinel, .sentinel, .pinned], laidTests := true, laidLooks := .later }
def FnExactTripReadCardSaid : Prop := Claim7.holds Tryd.pinned (.plain (OpenSpec.ofChange fnExactTripReadSpec)) fnExactTripReadCard

/-- THE SECOND FORM's CARD OF 'laws.FnExactWirePut'. -/
def fnExactWirePutUptoCard : Claim7 := { stood := { row := fnExactWirePutUptoRow, standIns := [], harness := (true, "39a9e612d16f4110fbde39408928efc1986b012ac1b9aff1fd2642e9a83eba7c"), looks := true }, kinds := [], alts := [], laidByText := true, laidKinds := [.data, .data, .data], laidTests := true, laidLooks := .later }
def FnExactWirePutUptoCardSaid : Prop := Claim7.holds Tryd.pinned (.plain (OpenSpec.upto fnExactWirePutSpec)) fnExactWirePutUptoCard

/-- THE SECOND FORM's CARD OF 'laws.FnWireBoth'. -/
def fnWireBothUptoCard : Claim7 := { stood := { row := fnWireBothUptoRow, standIns := [], harness := (true, "39a9e612d16f4110fbde39408928efc1986b012ac1b9aff1fd2642e9a83eba7c"), looks := true }, kinds := [], alts := [], laidByText := true, laidKinds := [.data, .data, .data], laidTests := true, laidLooks := .later }
def FnWireBothUptoCardSaid : Prop := Claim7.holds Tryd.pinned (.plain (OpenSpec.upto fnWireBothSpec)) fnWireBothUptoCard

/-- THE SECOND FORM's CARD OF 'laws.FnExactMoneyWrite'. -/
def fnExactMoneyWriteUptoCard : Claim7 := { stood := { row := fnExactMoneyWriteUptoRow, standIns := [], harness := (true, "39a9e612d16f4110fbde39408928efc1986b012ac1b9aff1fd2642e9a83eba7c"), looks := true }, kinds := [], alts := [], laidByText := true, laidKinds := [.data, .data, .data], laidTests := true, laidLooks := .later }
def FnExactMoneyWriteUptoCardSaid : Prop := Claim7.holds Tryd.pinned (.plain (OpenSpec.upto fnExactMoneyWriteSpec)) fnExactMoneyWriteUptoCard

/-- THE SECOND FORM's CARD OF 'laws.FnExactTripWrite'. -/
def fnExactTripWriteUptoCard : Claim7 := { stood := { row := fnExactTripWriteUptoRow, standIns := [], harness := (true, "39a9e612d16f4110fbde39408928efc1986b012ac1b9aff1fd2642e9a83eba7c"), looks := true }, kinds := [], alts := [], laidByText := true, laidKinds := [.data, .data, .data], laidTests := true, laidLooks := .later }
def FnExactTripWriteUptoCardSaid : Prop := Claim7.holds Tryd.pinned (.plain (OpenSpec.upto fnExactTripWriteSpec)) fnExactTripWriteUptoCard

/-- THE SECOND FORM's CARD OF 'laws.FnExactWireGet'. -/
def fnExactWireGetUptoCard : Claim7 := { stood := { row := fnExactWireGetUptoRow, standIns := [], harness := (true, "39a9e612d16f4110fbde39408928efc1986b012ac1b9aff1fd2642e9a83eba7c"), looks := true }, kinds := [], alts := [], laidByText := true, laidKinds := [.data, .data, .data, .sentinel, .sentinel], laidTests := true, laidLooks := .later }
def FnExactWireGetUptoCardSaid : Prop := Claim7.holds Tryd.pinned (.plain (OpenSpec.upto fnExactWireGetSpec)) fnExactWireGetUptoCard

/-- THE SECOND FORM's CARD OF 'laws.FnWireText'. -/
def fnWireTextUptoCard : Claim7 := { stood := { row := fnWireTextUptoRow, standIns := [], harness := (true, "39a9e612d16f4110fbde39408928efc1986b012ac1b9aff1fd2642e9a83eba7c"), looks := true }, kinds := [], alts := [], laidByText := true, laidKinds := [.data, .data, .data, .sentinel, .sentinel], laidTests := true, laidLooks := .later }
def FnWireTextUptoCardSaid : Prop := Claim7.holds Tryd.pinned (.plain (OpenSpec.upto fnWireTextSpec)) fnWireTextUptoCard

/-- THE SECOND FORM's CARD OF 'laws.FnExactMoneyRead'. -/
def fnExactMoneyReadUptoCard : Claim7 := { stood := { row := fnExactMoneyReadUptoRow, standIns := [], harness := (true, "39a9e612d16f4110fbde39408928efc1986b012ac1b9aff1fd2642e9a83eba7c"), looks := true }, kinds := [], alts := [], laidByText := true, laidKinds := [.data, .data, .data, .data, .sentinel, .sentinel, .pinned], laidTests := true, laidLooks := .later }
def FnExactMoneyReadUptoCardSaid : Prop := Claim7.holds Tryd.pinned (.plain (OpenSpec.upto fnExactMoneyReadSpec)) fnExactMoneyReadUptoCard

/-- THE SECOND FORM's CARD OF 'laws.FnMoneyText'. -/
def fnMoneyTextUptoCard : Claim7 := { stood := { row := fnMoneyTextUptoRow, standIns := [], harness := (true, "39a9e612d16f4110fbde39408928efc1986b012ac1b9aff1fd2642e9a83eba7c"), looks := true }, kinds := [], alts := [], laidByText := true, laidKinds := [.data, .data, .data, .data, .sentinel, .sentinel, .pinned], laidTests := true, laidLooks := .later }
def FnMoneyTextUptoCardSaid : Prop := Claim7.holds Tryd.pinned (.plain (OpenSpec.upto fnMoneyTextSpec)) fnMoneyTextUptoCard

/-- THE SECOND FORM's CARD OF 'laws.FnExactTripRead'. -/
def fnExactTripReadUptoCard : Claim7 := { stood := { row := fnExactTripReadUptoRow, standIns := [], harness := (true, "39a9e612d16f4110fbde39408928efc1986b012ac1b9aff1fd2642e9a83eba7c"), looks := true }, kinds := [], alts := [], laidByText := true, laidKinds := [.data, .data, .data, .data, .sentinel, .sentinel, .pinned], laidTests := true, laidLooks := .later }
def FnExactTripReadUptoCardSaid : Prop := Claim7.holds Tryd.pinned (.plain (OpenSpec.upto fnExactTripReadSpec)) fnExactTripReadUptoCard
end Rows
end Go.Proofs.YtopijgkmgpkmnaaDoor
