/-
  No cell of these rows narrows 'for every input' (looked for: loops, veiled, ifaces, maps, wideKeys, modest, calm, conditions, laid).
  DERIVED. THE GIVEN ROWS OF THIS SEAT. 5 by the template 'for every input the law returns true; each argument reads behind the call as it read before'; 0 by the template 'total and deterministic' (their statements: YtmjemgelekceoaaTotals.lean).
  GIVEN WITH THE SEED: the statements are not yours to turn. If you find one false, say at which input.
  Laid BY PROGRAM, IN A SANDBOX (cutbox-rows.mjs): the forced cells as the released guide's own fill.sh prints them over the translation e238b5af386c8d4e… (all of the seat's roots in one cut). By AI agents, Wed Nov 11 2026. No macro, syntax, notation, axiom, sorry.
-/
import Derived.Test.YtmjemgelekceoaaChecked
import GoSem.Claim
import GoSem.ClaimJoined
import GoSem.ClaimMapViews
import Derived.JoinedTies
import Derived.KernelRfl
namespace Go.Proofs.Ytmjemgelekceoaa
/- THE CELL 'sum', in the pinned program and in every row, IS THE sha256 OF THE DUMP (.gsa) THAT YtmjemgelekceoaaProg.lean LOADS. Nothing in Lean hashes anything: it is a label: what it is worth is what the hold of that sum in a sandbox is worth. -/
noncomputable def Try.pinned : Pinned := { name := "ytmjemgelekceoaa", sum := "e238b5af386c8d4efd47def8cc63a68e07d10593d3294c1c2ccdf25f5a30bc5d", checked := Try.checked }
namespace Rows
def none {H : Type} : Left H := { results := [], args := [] }

/-- 'laws.FnExactMoneyShare': WHATEVER THE INPUT: true; the input reads as it did. -/
def fnExactMoneyShareSpec : ChangeSpec := { name := "fnExactMoneyShare", fn := fun _ => fun
  | [d1, d2] => { results := [.lit (.bool true)], args := [d1, d2] }
  | _ => none }
def fnExactMoneyShareRow : OpenClaim := { program := "ytmjemgelekceoaa", sum := "e238b5af386c8d4efd47def8cc63a68e07d10593d3294c1c2ccdf25f5a30bc5d", func := "loop.example/stopover/laws.FnExactMoneyShare", spec := "fnExactMoneyShare", apart := false }
def FnExactMoneyShareSaid : Prop := fnExactMoneyShareRow.holds Try.pinned (OpenSpec.ofChange fnExactMoneyShareSpec)

/-- ITS FALSE NEIGHBOUR: 'it returns false'. Refute it at one input. -/
def fnExactMoneyShareWrong : ChangeSpec := { name := "fnExactMoneyShare", fn := fun _ => fun
  | [d1, d2] => { results := [.lit (.bool false)], args := [d1, d2] }
  | _ => none }
def FnExactMoneyShareWrongFalsely : Prop := fnExactMoneyShareRow.holds Try.pinned (OpenSpec.ofChange fnExactMoneyShareWrong)

/-- 'laws.FnExactFareShares': WHATEVER THE INPUT: true; the input reads as it did. -/
def fnExactFareSharesSpec : ChangeSpec := { name := "fnExactFareShares", fn := fun _ => fun
  | [d1, d2] => { results := [.lit (.bool true)], args := [d1, d2] }
  | _ => none }
def fnExactFareSharesRow : OpenClaim := { program := "ytmjemgelekceoaa", sum := "e238b5af386c8d4efd47def8cc63a68e07d10593d3294c1c2ccdf25f5a30bc5d", func := "loop.example/stopover/laws.FnExactFareShares", spec := "fnExactFareShares", apart := false }
def FnExactFareSharesSaid : Prop := fnExactFareSharesRow.holds Try.pinned (OpenSpec.ofChange fnExactFareSharesSpec)

/-- ITS FALSE NEIGHBOUR: 'it returns false'. Refute it at one input. -/
def fnExactFareSharesWrong : ChangeSpec := { name := "fnExactFareShares", fn := fun _ => fun
  | [d1, d2] => { results := [.lit (.bool false)], args := [d1, d2] }
  | _ => none }
def FnExactFareSharesWrongFalsely : Prop := fnExactFareSharesRow.holds Try.pinned (OpenSpec.ofChange fnExactFareSharesWrong)

/-- 'laws.FnMoneyShare': WHATEVER THE INPUT: true; the input reads as it did. -/
def fnMoneyShareSpec : ChangeSpec := { name := "fnMoneyShare", fn := fun _ => fun
  | [d] => { results := [.lit (.bool true)], args := [d] }
  | _ => none }
def fnMoneyShareRow : OpenClaim := { program := "ytmjemgelekceoaa", sum := "e238b5af386c8d4efd47def8cc63a68e07d10593d3294c1c2ccdf25f5a30bc5d", func := "loop.example/stopover/laws.FnMoneyShare", spec := "fnMoneyShare", apart := false }
def FnMoneyShareSaid : Prop := fnMoneyShareRow.holds Try.pinned (OpenSpec.ofChange fnMoneyShareSpec)

/-- ITS FALSE NEIGHBOUR: 'it returns false'. Refute it at one input. -/
def fnMoneyShareWrong : ChangeSpec := { name := "fnMoneyShare", fn := fun _ => fun
  | [d] => { results := [.lit (.bool false)], args := [d] }
  | _ => none }
def FnMoneyShareWrongFalsely : Prop := fnMoneyShareRow.holds Try.pinned (OpenSpec.ofChange fnMoneyShareWrong)

/-- 'laws.FnMoneyTurn': WHATEVER THE INPUT: true; the input reads as it did. -/
def fnMoneyTurnSpec : ChangeSpec := { name := "fnMoneyTurn", fn := fun _ => fun
  | [d] => { results := [.lit (.bool true)], args := [d] }
  | _ => none }
def fnMoneyTurnRow : OpenClaim := { program := "ytmjemgelekceoaa", sum := "e238b5af386c8d4efd47def8cc63a68e07d10593d3294c1c2ccdf25f5a30bc5d", func := "loop.example/stopover/laws.FnMoneyTurn", spec := "fnMoneyTurn", apart := false }
def FnMoneyTurnSaid : Prop := fnMoneyTurnRow.holds Try.pinned (OpenSpec.ofChange fnMoneyTurnSpec)

/-- ITS FALSE NEIGHBOUR: 'it returns false'. Refute it at one input. -/
def fnMoneyTurnWrong : ChangeSpec := { name := "fnMoneyTurn", fn := fun _ => fun
  | [d] => { results := [.lit (.bool false)], args := [d] }
  | _ => none }
def FnMoneyTurnWrongFalsely : Prop := fnMoneyTurnRow.holds Try.pinned (OpenSpec.ofChange fnMoneyTurnWrong)

/-- 'laws.FnFareShares': WHATEVER THE INPUT: true; the input reads as it did. -/
def fnFareSharesSpec : ChangeSpec := { name := "fnFareShares", fn := fun _ => fun
  | [d] => { results := [.lit (.bool true)], args := [d] }
  | _ => none }
def fnFareSharesRow : OpenClaim := { program := "ytmjemgelekceoaa", sum := "e238b5af386c8d4efd47def8cc63a68e07d10593d3294c1c2ccdf25f5a30bc5d", func := "loop.example/stopover/laws.FnFareShares", spec := "fnFareShares", apart := false }
def FnFareSharesSaid : Prop := fnFareSharesRow.holds Try.pinned (OpenSpec.ofChange fnFareSharesSpec)

/-- ITS FALSE NEIGHBOUR: 'it returns false'. Refute it at one input. -/
def fnFareSharesWrong : ChangeSpec := { name := "fnFareShares", fn := fun _ => fun
  | [d] => { results := [.lit (.bool false)], args := [d] }
  | _ => none }
def FnFareSharesWrongFalsely : Prop := fnFareSharesRow.holds Try.pinned (OpenSpec.ofChange fnFareSharesWrong)

/- THE SECOND FORM. 'bulk': how many values and letters a reading holds, each counted each time it is reached (what is shared counts as often as it is met; a slice's spare places count too). A statement '..UptoSaid' is the law's where the arguments, and the package variables that the reading takes, are together of bulk at most 1048576: NARROWER than '..Said'. Prove '..Said' where nothing that the law and all that it calls make is longer than what came in: it says more and counts as full. Else prove '..UptoSaid'. A law counts once. -/
mutual
def uptoBulk {H : Type} : DataW H → Nat
  | .lit (.string bytes) => bytes.length + 1
  | .lit _ => 1
  | .nil => 1
  | .ptr d => uptoBulk d + 1
  | .slice elems spare => uptoBulkAll elems + uptoBulkAll spare + 1
  | .agg parts => uptoBulkAll parts + 1
  | .iface _ d => uptoBulk d + 1
  | .map entries => uptoBulkEntries entries + 1
  | .held _ => 1
def uptoBulkAll {H : Type} : List (DataW H) → Nat
  | [] => 0
  | d :: r => uptoBulk d + uptoBulkAll r
def uptoBulkEntries {H : Type} : List (Lit × DataW H) → Nat
  | [] => 0
  | x :: r => uptoBulkEntry x + uptoBulkEntries r
def uptoBulkEntry {H : Type} : Lit × DataW H → Nat
  | (.string bytes, d) => bytes.length + uptoBulk d + 1
  | (_, d) => uptoBulk d + 1
 end
def uptoSmall : (H : Type) → List (DataW H) → Bool := fun _ ds => decide (uptoBulkAll ds ≤ 1048576)
def OpenSpec.upto (s : _root_.Go.ChangeSpec) : _root_.Go.OpenSpec := { _root_.Go.OpenSpec.ofChange s with cond := some uptoSmall }

/-- 'laws.FnExactMoneyShare', WHERE WHAT IT READS IS OF BULK AT MOST 1048576: true; the input reads as it did. -/
def fnExactMoneyShareUptoRow : OpenClaim := { program := "ytmjemgelekceoaa", sum := "e238b5af386c8d4efd47def8cc63a68e07d10593d3294c1c2ccdf25f5a30bc5d", func := "loop.example/stopover/laws.FnExactMoneyShare", spec := "fnExactMoneyShare", apart := false, narrowed := true }
def FnExactMoneyShareUptoSaid : Prop := fnExactMoneyShareUptoRow.holds Try.pinned (OpenSpec.upto fnExactMoneyShareSpec)

/-- 'laws.FnExactFareShares', WHERE WHAT IT READS IS OF BULK AT MOST 1048576: true; the input reads as it did. -/
def fnExactFareSharesUptoRow : OpenClaim := { program := "ytmjemgelekceoaa", sum := "e238b5af386c8d4efd47def8cc63a68e07d10593d3294c1c2ccdf25f5a30bc5d", func := "loop.example/stopover/laws.FnExactFareShares", spec := "fnExactFareShares", apart := false, narrowed := true }
def FnExactFareSharesUptoSaid : Prop := fnExactFareSharesUptoRow.holds Try.pinned (OpenSpec.upto fnExactFareSharesSpec)

/-- 'laws.FnMoneyShare', WHERE WHAT IT READS IS OF BULK AT MOST 1048576: true; the input reads as it did. -/
def fnMoneyShareUptoRow : OpenClaim := { program := "ytmjemgelekceoaa", sum := "e238b5af386c8d4efd47def8cc63a68e07d10593d3294c1c2ccdf25f5a30bc5d", func := "loop.example/stopover/laws.FnMoneyShare", spec := "fnMoneyShare", apart := false, narrowed := true }
def FnMoneyShareUptoSaid : Prop := fnMoneyShareUptoRow.holds Try.pinned (OpenSpec.upto fnMoneyShareSpec)

/-- 'laws.FnMoneyTurn', WHERE WHAT IT READS IS OF BULK AT MOST 1048576: true; the input reads as it did. -/
def fnMoneyTurnUptoRow : OpenClaim := { program := "ytmjemgelekceoaa", sum := "e238b5af386c8d4efd47def8cc63a68e07d10593d3294c1c2ccdf25f5a30bc5d", func := "loop.example/stopover/laws.FnMoneyTurn", spec := "fnMoneyTurn", apart := false, narrowed := true }
def FnMoneyTurnUptoSaid : Prop := fnMoneyTurnUptoRow.holds Try.pinned (OpenSpec.upto fnMoneyTurnSpec)

/-- 'laws.FnFareShares', WHERE WHAT IT READS IS OF BULK AT MOST 1048576: true; the input reads as it did. -/
def fnFareSharesUptoRow : OpenClaim := { program := "ytmjemgelekceoaa", sum := "e238b5af386c8d4efd47def8cc63a68e07d10593d3294c1c2ccdf25f5a30bc5d", func := "loop.example/stopover/laws.FnFareShares", spec := "fnFareShares", apart := false, narrowed := true }
def FnFareSharesUptoSaid : Prop := fnFareSharesUptoRow.holds Try.pinned (OpenSpec.upto fnFareSharesSpec)

end Rows
end Go.Proofs.Ytmjemgelekceoaa
