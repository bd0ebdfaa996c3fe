/-
  No cell of these rows narrows 'for every input' (looked for: loops, veiled, ifaces, maps, wideKeys, modest, calm, conditions, laid).
  DERIVED. THE GIVEN ROWS OF THIS SEAT. 10 by the template 'for every input the law returns true; each argument reads behind the call as it read before'; 0 by the template 'total and deterministic' (their statements: YtdoiklcaiafcpaaTotals.lean).
  GIVEN WITH THE SEED: the statements are not yours to turn. If you find one false, say at which input.
  Laid BY PROGRAM, IN A SANDBOX (cutbox-rows.mjs): the forced cells as the released guide's own fill.sh prints them over the translation 93c9a07623e657e7… (all of the seat's roots in one cut). By AI agents, Wed Nov 11 2026. No macro, syntax, notation, axiom, sorry.
-/
import Derived.Test.YtdoiklcaiafcpaaChecked
import GoSem.Claim
import GoSem.ClaimJoined
import GoSem.ClaimMapViews
import Derived.JoinedTies
import Derived.KernelRfl
namespace Go.Proofs.Ytdoiklcaiafcpaa
/- THE CELL 'sum', in the pinned program and in every row, IS THE sha256 OF THE DUMP (.gsa) THAT YtdoiklcaiafcpaaProg.lean LOADS. Nothing in Lean hashes anything: it is a label: what it is worth is what the hold of that sum in a sandbox is worth. -/
noncomputable def Try.pinned : Pinned := { name := "ytdoiklcaiafcpaa", sum := "93c9a07623e657e73c7e98a4e570f624dc9a0335c18ae95ede58274d3984ca7c", checked := Try.checked }
namespace Rows
def none {H : Type} : Left H := { results := [], args := [] }

/-- 'laws.FnExactConstants': WHATEVER THE INPUT: true; the input reads as it did. -/
def fnExactConstantsSpec : ChangeSpec := { name := "fnExactConstants", fn := fun _ => fun
  | [] => { results := [.lit (.bool true)], args := [] }
  | _ => none }
def fnExactConstantsRow : OpenClaim := { program := "ytdoiklcaiafcpaa", sum := "93c9a07623e657e73c7e98a4e570f624dc9a0335c18ae95ede58274d3984ca7c", func := "loop.example/stopover/laws.FnExactConstants", spec := "fnExactConstants", apart := false }
def FnExactConstantsSaid : Prop := fnExactConstantsRow.holds Try.pinned (OpenSpec.ofChange fnExactConstantsSpec)

/-- ITS FALSE NEIGHBOUR: 'it returns false'. Refute it at one input. -/
def fnExactConstantsWrong : ChangeSpec := { name := "fnExactConstants", fn := fun _ => fun
  | [] => { results := [.lit (.bool false)], args := [] }
  | _ => none }
def FnExactConstantsWrongFalsely : Prop := fnExactConstantsRow.holds Try.pinned (OpenSpec.ofChange fnExactConstantsWrong)

/-- 'laws.FnExactMoneyOk': WHATEVER THE INPUT: true; the input reads as it did. -/
def fnExactMoneyOkSpec : ChangeSpec := { name := "fnExactMoneyOk", fn := fun _ => fun
  | [d] => { results := [.lit (.bool true)], args := [d] }
  | _ => none }
def fnExactMoneyOkRow : OpenClaim := { program := "ytdoiklcaiafcpaa", sum := "93c9a07623e657e73c7e98a4e570f624dc9a0335c18ae95ede58274d3984ca7c", func := "loop.example/stopover/laws.FnExactMoneyOk", spec := "fnExactMoneyOk", apart := false }
def FnExactMoneyOkSaid : Prop := fnExactMoneyOkRow.holds Try.pinned (OpenSpec.ofChange fnExactMoneyOkSpec)

/-- ITS FALSE NEIGHBOUR: 'it returns false'. Refute it at one input. -/
def fnExactMoneyOkWrong : ChangeSpec := { name := "fnExactMoneyOk", fn := fun _ => fun
  | [d] => { results := [.lit (.bool false)], args := [d] }
  | _ => none }
def FnExactMoneyOkWrongFalsely : Prop := fnExactMoneyOkRow.holds Try.pinned (OpenSpec.ofChange fnExactMoneyOkWrong)

/-- 'laws.FnExactNameOk': WHATEVER THE INPUT: true; the input reads as it did. -/
def fnExactNameOkSpec : ChangeSpec := { name := "fnExactNameOk", fn := fun _ => fun
  | [d] => { results := [.lit (.bool true)], args := [d] }
  | _ => none }
def fnExactNameOkRow : OpenClaim := { program := "ytdoiklcaiafcpaa", sum := "93c9a07623e657e73c7e98a4e570f624dc9a0335c18ae95ede58274d3984ca7c", func := "loop.example/stopover/laws.FnExactNameOk", spec := "fnExactNameOk", apart := false }
def FnExactNameOkSaid : Prop := fnExactNameOkRow.holds Try.pinned (OpenSpec.ofChange fnExactNameOkSpec)

/-- ITS FALSE NEIGHBOUR: 'it returns false'. Refute it at one input. -/
def fnExactNameOkWrong : ChangeSpec := { name := "fnExactNameOk", fn := fun _ => fun
  | [d] => { results := [.lit (.bool false)], args := [d] }
  | _ => none }
def FnExactNameOkWrongFalsely : Prop := fnExactNameOkRow.holds Try.pinned (OpenSpec.ofChange fnExactNameOkWrong)

/-- 'laws.FnExactMoneyAdd': WHATEVER THE INPUT: true; the input reads as it did. -/
def fnExactMoneyAddSpec : ChangeSpec := { name := "fnExactMoneyAdd", fn := fun _ => fun
  | [d1, d2] => { results := [.lit (.bool true)], args := [d1, d2] }
  | _ => none }
def fnExactMoneyAddRow : OpenClaim := { program := "ytdoiklcaiafcpaa", sum := "93c9a07623e657e73c7e98a4e570f624dc9a0335c18ae95ede58274d3984ca7c", func := "loop.example/stopover/laws.FnExactMoneyAdd", spec := "fnExactMoneyAdd", apart := false }
def FnExactMoneyAddSaid : Prop := fnExactMoneyAddRow.holds Try.pinned (OpenSpec.ofChange fnExactMoneyAddSpec)

/-- ITS FALSE NEIGHBOUR: 'it returns false'. Refute it at one input. -/
def fnExactMoneyAddWrong : ChangeSpec := { name := "fnExactMoneyAdd", fn := fun _ => fun
  | [d1, d2] => { results := [.lit (.bool false)], args := [d1, d2] }
  | _ => none }
def FnExactMoneyAddWrongFalsely : Prop := fnExactMoneyAddRow.holds Try.pinned (OpenSpec.ofChange fnExactMoneyAddWrong)

/-- 'laws.FnMoneyAdd': WHATEVER THE INPUT: true; the input reads as it did. -/
def fnMoneyAddSpec : ChangeSpec := { name := "fnMoneyAdd", fn := fun _ => fun
  | [d] => { results := [.lit (.bool true)], args := [d] }
  | _ => none }
def fnMoneyAddRow : OpenClaim := { program := "ytdoiklcaiafcpaa", sum := "93c9a07623e657e73c7e98a4e570f624dc9a0335c18ae95ede58274d3984ca7c", func := "loop.example/stopover/laws.FnMoneyAdd", spec := "fnMoneyAdd", apart := false }
def FnMoneyAddSaid : Prop := fnMoneyAddRow.holds Try.pinned (OpenSpec.ofChange fnMoneyAddSpec)

/-- ITS FALSE NEIGHBOUR: 'it returns false'. Refute it at one input. -/
def fnMoneyAddWrong : ChangeSpec := { name := "fnMoneyAdd", fn := fun _ => fun
  | [d] => { results := [.lit (.bool false)], args := [d] }
  | _ => none }
def FnMoneyAddWrongFalsely : Prop := fnMoneyAddRow.holds Try.pinned (OpenSpec.ofChange fnMoneyAddWrong)

/-- 'laws.FnNameOk': WHATEVER THE INPUT: true; the input reads as it did. -/
def fnNameOkSpec : ChangeSpec := { name := "fnNameOk", fn := fun _ => fun
  | [d] => { results := [.lit (.bool true)], args := [d] }
  | _ => none }
def fnNameOkRow : OpenClaim := { program := "ytdoiklcaiafcpaa", sum := "93c9a07623e657e73c7e98a4e570f624dc9a0335c18ae95ede58274d3984ca7c", func := "loop.example/stopover/laws.FnNameOk", spec := "fnNameOk", apart := false }
def FnNameOkSaid : Prop := fnNameOkRow.holds Try.pinned (OpenSpec.ofChange fnNameOkSpec)

/-- ITS FALSE NEIGHBOUR: 'it returns false'. Refute it at one input. -/
def fnNameOkWrong : ChangeSpec := { name := "fnNameOk", fn := fun _ => fun
  | [d] => { results := [.lit (.bool false)], args := [d] }
  | _ => none }
def FnNameOkWrongFalsely : Prop := fnNameOkRow.holds Try.pinned (OpenSpec.ofChange fnNameOkWrong)

/-- 'laws.FnExactMoneyPart': WHATEVER THE INPUT: true; the input reads as it did. -/
def fnExactMoneyPartSpec : ChangeSpec := { name := "fnExactMoneyPart", fn := fun _ => fun
  | [d1, d2, d3] => { results := [.lit (.bool true)], args := [d1, d2, d3] }
  | _ => none }
def fnExactMoneyPartRow : OpenClaim := { program := "ytdoiklcaiafcpaa", sum := "93c9a07623e657e73c7e98a4e570f624dc9a0335c18ae95ede58274d3984ca7c", func := "loop.example/stopover/laws.FnExactMoneyPart", spec := "fnExactMoneyPart", apart := false }
def FnExactMoneyPartSaid : Prop := fnExactMoneyPartRow.holds Try.pinned (OpenSpec.ofChange fnExactMoneyPartSpec)

/-- ITS FALSE NEIGHBOUR: 'it returns false'. Refute it at one input. -/
def fnExactMoneyPartWrong : ChangeSpec := { name := "fnExactMoneyPart", fn := fun _ => fun
  | [d1, d2, d3] => { results := [.lit (.bool false)], args := [d1, d2, d3] }
  | _ => none }
def FnExactMoneyPartWrongFalsely : Prop := fnExactMoneyPartRow.holds Try.pinned (OpenSpec.ofChange fnExactMoneyPartWrong)

/-- 'laws.FnMoneyPart': WHATEVER THE INPUT: true; the input reads as it did. -/
def fnMoneyPartSpec : ChangeSpec := { name := "fnMoneyPart", fn := fun _ => fun
  | [d] => { results := [.lit (.bool true)], args := [d] }
  | _ => none }
def fnMoneyPartRow : OpenClaim := { program := "ytdoiklcaiafcpaa", sum := "93c9a07623e657e73c7e98a4e570f624dc9a0335c18ae95ede58274d3984ca7c", func := "loop.example/stopover/laws.FnMoneyPart", spec := "fnMoneyPart", apart := false }
def FnMoneyPartSaid : Prop := fnMoneyPartRow.holds Try.pinned (OpenSpec.ofChange fnMoneyPartSpec)

/-- ITS FALSE NEIGHBOUR: 'it returns false'. Refute it at one input. -/
def fnMoneyPartWrong : ChangeSpec := { name := "fnMoneyPart", fn := fun _ => fun
  | [d] => { results := [.lit (.bool false)], args := [d] }
  | _ => none }
def FnMoneyPartWrongFalsely : Prop := fnMoneyPartRow.holds Try.pinned (OpenSpec.ofChange fnMoneyPartWrong)

/-- 'laws.FnTiersGrow': WHATEVER THE INPUT: true; the input reads as it did. -/
def fnTiersGrowSpec : ChangeSpec := { name := "fnTiersGrow", fn := fun _ => fun
  | [d] => { results := [.lit (.bool true)], args := [d] }
  | _ => none }
def fnTiersGrowRow : OpenClaim := { program := "ytdoiklcaiafcpaa", sum := "93c9a07623e657e73c7e98a4e570f624dc9a0335c18ae95ede58274d3984ca7c", func := "loop.example/stopover/laws.FnTiersGrow", spec := "fnTiersGrow", apart := false }
def FnTiersGrowSaid : Prop := fnTiersGrowRow.holds Try.pinned (OpenSpec.ofChange fnTiersGrowSpec)

/-- ITS FALSE NEIGHBOUR: 'it returns false'. Refute it at one input. -/
def fnTiersGrowWrong : ChangeSpec := { name := "fnTiersGrow", fn := fun _ => fun
  | [d] => { results := [.lit (.bool false)], args := [d] }
  | _ => none }
def FnTiersGrowWrongFalsely : Prop := fnTiersGrowRow.holds Try.pinned (OpenSpec.ofChange fnTiersGrowWrong)

/-- 'laws.FnExactTiersOf': WHATEVER THE INPUT: true; the input reads as it did. -/
def fnExactTiersOfSpec : ChangeSpec := { name := "fnExactTiersOf", fn := fun _ => fun
  | [d1, d2] => { results := [.lit (.bool true)], args := [d1, d2] }
  | _ => none }
def fnExactTiersOfRow : OpenClaim := { program := "ytdoiklcaiafcpaa", sum := "93c9a07623e657e73c7e98a4e570f624dc9a0335c18ae95ede58274d3984ca7c", func := "loop.example/stopover/laws.FnExactTiersOf", spec := "fnExactTiersOf", apart := false }
def FnExactTiersOfSaid : Prop := fnExactTiersOfRow.holds Try.pinned (OpenSpec.ofChange fnExactTiersOfSpec)

/-- ITS FALSE NEIGHBOUR: 'it returns false'. Refute it at one input. -/
def fnExactTiersOfWrong : ChangeSpec := { name := "fnExactTiersOf", fn := fun _ => fun
  | [d1, d2] => { results := [.lit (.bool false)], args := [d1, d2] }
  | _ => none }
def FnExactTiersOfWrongFalsely : Prop := fnExactTiersOfRow.holds Try.pinned (OpenSpec.ofChange fnExactTiersOfWrong)

/- THE SECOND FORM. 'bulk': how many values and letters a reading holds, each counted each time it is reached (what is shared counts as often as it is met; a slice's spare places count too). A statement '..UptoSaid' is the law's where the arguments, and the package variables that the reading takes, are together of bulk at most 1048576: NARROWER than '..Said'. Prove '..Said' where nothing that the law and all that it calls make is longer than what came in: it says more and counts as full. Else prove '..UptoSaid'. A law counts once. -/
mutual
def uptoBulk {H : Type} : DataW H → Nat
  | .lit (.string bytes) => bytes.length + 1
  | .lit _ => 1
  | .nil => 1
  | .ptr d => uptoBulk d + 1
  | .slice elems spare => uptoBulkAll elems + uptoBulkAll spare + 1
  | .agg parts => uptoBulkAll parts + 1
  | .iface _ d => uptoBulk d + 1
  | .map entries => uptoBulkEntries entries + 1
  | .held _ => 1
def uptoBulkAll {H : Type} : List (DataW H) → Nat
  | [] => 0
  | d :: r => uptoBulk d + uptoBulkAll r
def uptoBulkEntries {H : Type} : List (Lit × DataW H) → Nat
  | [] => 0
  | x :: r => uptoBulkEntry x + uptoBulkEntries r
def uptoBulkEntry {H : Type} : Lit × DataW H → Nat
  | (.string bytes, d) => bytes.length + uptoBulk d + 1
  | (_, d) => uptoBulk d + 1
 end
def uptoSmall : (H : Type) → List (DataW H) → Bool := fun _ ds => decide (uptoBulkAll ds ≤ 1048576)
def OpenSpec.upto (s : _root_.Go.ChangeSpec) : _root_.Go.OpenSpec := { _root_.Go.OpenSpec.ofChange s with cond := some uptoSmall }

/-- 'laws.FnExactConstants', WHERE WHAT IT READS IS OF BULK AT MOST 1048576: true; the input reads as it did. -/
def fnExactConstantsUptoRow : OpenClaim := { program := "ytdoiklcaiafcpaa", sum := "93c9a07623e657e73c7e98a4e570f624dc9a0335c18ae95ede58274d3984ca7c", func := "loop.example/stopover/laws.FnExactConstants", spec := "fnExactConstants", apart := false, narrowed := true }
def FnExactConstantsUptoSaid : Prop := fnExactConstantsUptoRow.holds Try.pinned (OpenSpec.upto fnExactConstantsSpec)

/-- 'laws.FnExactMoneyOk', WHERE WHAT IT READS IS OF BULK AT MOST 1048576: true; the input reads as it did. -/
def fnExactMoneyOkUptoRow : OpenClaim := { program := "ytdoiklcaiafcpaa", sum := "93c9a07623e657e73c7e98a4e570f624dc9a0335c18ae95ede58274d3984ca7c", func := "loop.example/stopover/laws.FnExactMoneyOk", spec := "fnExactMoneyOk", apart := false, narrowed := true }
def FnExactMoneyOkUptoSaid : Prop := fnExactMoneyOkUptoRow.holds Try.pinned (OpenSpec.upto fnExactMoneyOkSpec)

/-- 'laws.FnExactNameOk', WHERE WHAT IT READS IS OF BULK AT MOST 1048576: true; the input reads as it did. -/
def fnExactNameOkUptoRow : OpenClaim := { program := "ytdoiklcaiafcpaa", sum := "93c9a07623e657e73c7e98a4e570f624dc9a0335c18ae95ede58274d3984ca7c", func := "loop.example/stopover/laws.FnExactNameOk", spec := "fnExactNameOk", apart := false, narrowed := true }
def FnExactNameOkUptoSaid : Prop := fnExactNameOkUptoRow.holds Try.pinned (OpenSpec.upto fnExactNameOkSpec)

/-- 'laws.FnExactMoneyAdd', WHERE WHAT IT READS IS OF BULK AT MOST 1048576: true; the input reads as it did. -/
def fnExactMoneyAddUptoRow : OpenClaim := { program := "ytdoiklcaiafcpaa", sum := "93c9a07623e657e73c7e98a4e570f624dc9a0335c18ae95ede58274d3984ca7c", func := "loop.example/stopover/laws.FnExactMoneyAdd", spec := "fnExactMoneyAdd", apart := false, narrowed := true }
def FnExactMoneyAddUptoSaid : Prop := fnExactMoneyAddUptoRow.holds Try.pinned (OpenSpec.upto fnExactMoneyAddSpec)

/-- 'laws.FnMoneyAdd', WHERE WHAT IT READS IS OF BULK AT MOST 1048576: true; the input reads as it did. -/
def fnMoneyAddUptoRow : OpenClaim := { program := "ytdoiklcaiafcpaa", sum := "93c9a07623e657e73c7e98a4e570f624dc9a0335c18ae95ede58274d3984ca7c", func := "loop.example/stopover/laws.FnMoneyAdd", spec := "fnMoneyAdd", apart := false, narrowed := true }
def FnMoneyAddUptoSaid : Prop := fnMoneyAddUptoRow.holds Try.pinned (OpenSpec.upto fnMoneyAddSpec)

/-- 'laws.FnNameOk', WHERE WHAT IT READS IS OF BULK AT MOST 1048576: true; the input reads as it did. -/
def fnNameOkUptoRow : OpenClaim := { program := "ytdoiklcaiafcpaa", sum := "93c9a07623e657e73c7e98a4e570f624dc9a0335c18ae95ede58274d3984ca7c", func := "loop.example/stopover/laws.FnNameOk", spec := "fnNameOk", apart := false, narrowed := true }
def FnNameOkUptoSaid : Prop := fnNameOkUptoRow.holds Try.pinned (OpenSpec.upto fnNameOkSpec)

/-- 'laws.FnExactMoneyPart', WHERE WHAT IT READS IS OF BULK AT MOST 1048576: true; the input reads as it did. -/
def fnExactMoneyPartUptoRow : OpenClaim := { program := "ytdoiklcaiafcpaa", sum := "93c9a07623e657e73c7e98a4e570f624dc9a0335c18ae95ede58274d3984ca7c", func := "loop.example/stopover/laws.FnExactMoneyPart", spec := "fnExactMoneyPart", apart := false, narrowed := true }
def FnExactMoneyPartUptoSaid : Prop := fnExactMoneyPartUptoRow.holds Try.pinned (OpenSpec.upto fnExactMoneyPartSpec)

/-- 'laws.FnMoneyPart', WHERE WHAT IT READS IS OF BULK AT MOST 1048576: true; the input reads as it did. -/
def fnMoneyPartUptoRow : OpenClaim := { program := "ytdoiklcaiafcpaa", sum := "93c9a07623e657e73c7e98a4e570f624dc9a0335c18ae95ede58274d3984ca7c", func := "loop.example/stopover/laws.FnMoneyPart", spec := "fnMoneyPart", apart := false, narrowed := true }
def FnMoneyPartUptoSaid : Prop := fnMoneyPartUptoRow.holds Try.pinned (OpenSpec.upto fnMoneyPartSpec)

/-- 'laws.FnTiersGrow', WHERE WHAT IT READS IS OF BULK AT MOST 1048576: true; the input reads as it did. -/
def fnTiersGrowUptoRow : OpenClaim := { program := "ytdoiklcaiafcpaa", sum := "93c9a07623e657e73c7e98a4e570f624dc9a0335c18ae95ede58274d3984ca7c", func := "loop.example/stopover/laws.FnTiersGrow", spec := "fnTiersGrow", apart := false, narrowed := true }
def FnTiersGrowUptoSaid : Prop := fnTiersGrowUptoRow.holds Try.pinned (OpenSpec.upto fnTiersGrowSpec)

/-- 'laws.FnExactTiersOf', WHERE WHAT IT READS IS OF BULK AT MOST 1048576: true; the input reads as it did. -/
def fnExactTiersOfUptoRow : OpenClaim := { program := "ytdoiklcaiafcpaa", sum := "93c9a07623e657e73c7e98a4e570f624dc9a0335c18ae95ede58274d3984ca7c", func := "loop.example/stopover/laws.FnExactTiersOf", spec := "fnExactTiersOf", apart := false, narrowed := true }
def FnExactTiersOfUptoSaid : Prop := fnExactTiersOfUptoRow.holds Try.pinned (OpenSpec.upto fnExactTiersOfSpec)

end Rows
end Go.Proofs.Ytdoiklcaiafcpaa
