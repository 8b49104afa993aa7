/-
  No cell of these rows narrows 'for every input' (looked for: loops, veiled, ifaces, maps, wideKeys, modest, calm, conditions, laid).
  DERIVED. THE GIVEN ROWS OF THIS SEAT. 9 by the template 'for every input the law returns true; each argument reads behind the call as it read before'; 0 by the template 'total and deterministic' (their statements: YtpfmaiiolifblaaTotals.lean).
  GIVEN WITH THE SEED: the statements are not yours to turn. If you find one false, say at which input.
  Laid BY PROGRAM, IN A SANDBOX (cutbox-rows.mjs): the forced cells as the released guide's own fill.sh prints them over the translation 3e395fda72cf252c… (all of the seat's roots in one cut). By AI agents, Wed Nov 11 2026. No macro, syntax, notation, axiom, sorry.
-/
import Derived.Test.YtpfmaiiolifblaaChecked
import GoSem.Claim
import GoSem.ClaimJoined
import GoSem.ClaimMapViews
import Derived.JoinedTies
import Derived.KernelRfl
namespace Go.Proofs.Ytpfmaiiolifblaa
/- THE CELL 'sum', in the pinned program and in every row, IS THE sha256 OF THE DUMP (.gsa) THAT YtpfmaiiolifblaaProg.lean LOADS. Nothing in Lean hashes anything: it is a label: what it is worth is what the hold of that sum in a sandbox is worth. -/
noncomputable def Try.pinned : Pinned := { name := "ytpfmaiiolifblaa", sum := "3e395fda72cf252ca042dbde0f5e01fae2a2ea2c8189d080c8fa68329582be12", checked := Try.checked }
namespace Rows
def none {H : Type} : Left H := { results := [], args := [] }

/-- 'laws.FnBox': WHATEVER THE INPUT: true; the input reads as it did. -/
def fnBoxSpec : ChangeSpec := { name := "fnBox", fn := fun _ => fun
  | [d] => { results := [.lit (.bool true)], args := [d] }
  | _ => none }
def fnBoxRow : OpenClaim := { program := "ytpfmaiiolifblaa", sum := "3e395fda72cf252ca042dbde0f5e01fae2a2ea2c8189d080c8fa68329582be12", func := "loop.example/g00699/laws.FnBox", spec := "fnBox", unfollowed := true, recurses := true, apart := false }
def FnBoxSaid : Prop := fnBoxRow.holds Try.pinned (OpenSpec.ofChange fnBoxSpec)

/-- ITS FALSE NEIGHBOUR: 'it returns false'. Refute it at one input. -/
def fnBoxWrong : ChangeSpec := { name := "fnBox", fn := fun _ => fun
  | [d] => { results := [.lit (.bool false)], args := [d] }
  | _ => none }
def FnBoxWrongFalsely : Prop := fnBoxRow.holds Try.pinned (OpenSpec.ofChange fnBoxWrong)

/-- 'laws.FnPoll': WHATEVER THE INPUT: true; the input reads as it did. -/
def fnPollSpec : ChangeSpec := { name := "fnPoll", fn := fun _ => fun
  | [d] => { results := [.lit (.bool true)], args := [d] }
  | _ => none }
def fnPollRow : OpenClaim := { program := "ytpfmaiiolifblaa", sum := "3e395fda72cf252ca042dbde0f5e01fae2a2ea2c8189d080c8fa68329582be12", func := "loop.example/g00699/laws.FnPoll", spec := "fnPoll", apart := false }
def FnPollSaid : Prop := fnPollRow.holds Try.pinned (OpenSpec.ofChange fnPollSpec)

/-- ITS FALSE NEIGHBOUR: 'it returns false'. Refute it at one input. -/
def fnPollWrong : ChangeSpec := { name := "fnPoll", fn := fun _ => fun
  | [d] => { results := [.lit (.bool false)], args := [d] }
  | _ => none }
def FnPollWrongFalsely : Prop := fnPollRow.holds Try.pinned (OpenSpec.ofChange fnPollWrong)

/-- 'laws.FnPuts': WHATEVER THE INPUT: true; the input reads as it did. -/
def fnPutsSpec : ChangeSpec := { name := "fnPuts", fn := fun _ => fun
  | [d] => { results := [.lit (.bool true)], args := [d] }
  | _ => none }
def fnPutsRow : OpenClaim := { program := "ytpfmaiiolifblaa", sum := "3e395fda72cf252ca042dbde0f5e01fae2a2ea2c8189d080c8fa68329582be12", func := "loop.example/g00699/laws.FnPuts", spec := "fnPuts", apart := false }
def FnPutsSaid : Prop := fnPutsRow.holds Try.pinned (OpenSpec.ofChange fnPutsSpec)

/-- ITS FALSE NEIGHBOUR: 'it returns false'. Refute it at one input. -/
def fnPutsWrong : ChangeSpec := { name := "fnPuts", fn := fun _ => fun
  | [d] => { results := [.lit (.bool false)], args := [d] }
  | _ => none }
def FnPutsWrongFalsely : Prop := fnPutsRow.holds Try.pinned (OpenSpec.ofChange fnPutsWrong)

/-- 'laws.FnTake': WHATEVER THE INPUT: true; the input reads as it did. -/
def fnTakeSpec : ChangeSpec := { name := "fnTake", fn := fun _ => fun
  | [d] => { results := [.lit (.bool true)], args := [d] }
  | _ => none }
def fnTakeRow : OpenClaim := { program := "ytpfmaiiolifblaa", sum := "3e395fda72cf252ca042dbde0f5e01fae2a2ea2c8189d080c8fa68329582be12", func := "loop.example/g00699/laws.FnTake", spec := "fnTake", apart := false }
def FnTakeSaid : Prop := fnTakeRow.holds Try.pinned (OpenSpec.ofChange fnTakeSpec)

/-- ITS FALSE NEIGHBOUR: 'it returns false'. Refute it at one input. -/
def fnTakeWrong : ChangeSpec := { name := "fnTake", fn := fun _ => fun
  | [d] => { results := [.lit (.bool false)], args := [d] }
  | _ => none }
def FnTakeWrongFalsely : Prop := fnTakeRow.holds Try.pinned (OpenSpec.ofChange fnTakeWrong)

/-- 'laws.FnPolicy': WHATEVER THE INPUT: true; the input reads as it did. -/
def fnPolicySpec : ChangeSpec := { name := "fnPolicy", fn := fun _ => fun
  | [d] => { results := [.lit (.bool true)], args := [d] }
  | _ => none }
def fnPolicyRow : OpenClaim := { program := "ytpfmaiiolifblaa", sum := "3e395fda72cf252ca042dbde0f5e01fae2a2ea2c8189d080c8fa68329582be12", func := "loop.example/g00699/laws.FnPolicy", spec := "fnPolicy", inPlace := ["slices.overlaps[loop.example/g00699/impl.Punct]"], unfollowed := true, recurses := true, apart := false }
def FnPolicySaid : Prop := fnPolicyRow.holds Try.pinned (OpenSpec.ofChange fnPolicySpec)

/-- ITS FALSE NEIGHBOUR: 'it returns false'. Refute it at one input. -/
def fnPolicyWrong : ChangeSpec := { name := "fnPolicy", fn := fun _ => fun
  | [d] => { results := [.lit (.bool false)], args := [d] }
  | _ => none }
def FnPolicyWrongFalsely : Prop := fnPolicyRow.holds Try.pinned (OpenSpec.ofChange fnPolicyWrong)

/-- 'laws.FnBoth': WHATEVER THE INPUT: true; the input reads as it did. -/
def fnBothSpec : ChangeSpec := { name := "fnBoth", fn := fun _ => fun
  | [d] => { results := [.lit (.bool true)], args := [d] }
  | _ => none }
def fnBothRow : OpenClaim := { program := "ytpfmaiiolifblaa", sum := "3e395fda72cf252ca042dbde0f5e01fae2a2ea2c8189d080c8fa68329582be12", func := "loop.example/g00699/laws.FnBoth", spec := "fnBoth", unfollowed := true, recurses := true, apart := false }
def FnBothSaid : Prop := fnBothRow.holds Try.pinned (OpenSpec.ofChange fnBothSpec)

/-- ITS FALSE NEIGHBOUR: 'it returns false'. Refute it at one input. -/
def fnBothWrong : ChangeSpec := { name := "fnBoth", fn := fun _ => fun
  | [d] => { results := [.lit (.bool false)], args := [d] }
  | _ => none }
def FnBothWrongFalsely : Prop := fnBothRow.holds Try.pinned (OpenSpec.ofChange fnBothWrong)

/-- 'laws.FnPanesSort': WHATEVER THE INPUT: true; the input reads as it did. -/
def fnPanesSortSpec : ChangeSpec := { name := "fnPanesSort", fn := fun _ => fun
  | [d] => { results := [.lit (.bool true)], args := [d] }
  | _ => none }
def fnPanesSortRow : OpenClaim := { program := "ytpfmaiiolifblaa", sum := "3e395fda72cf252ca042dbde0f5e01fae2a2ea2c8189d080c8fa68329582be12", func := "loop.example/g00699/laws.FnPanesSort", spec := "fnPanesSort", unfollowed := true, recurses := true, apart := false }
def FnPanesSortSaid : Prop := fnPanesSortRow.holds Try.pinned (OpenSpec.ofChange fnPanesSortSpec)

/-- ITS FALSE NEIGHBOUR: 'it returns false'. Refute it at one input. -/
def fnPanesSortWrong : ChangeSpec := { name := "fnPanesSort", fn := fun _ => fun
  | [d] => { results := [.lit (.bool false)], args := [d] }
  | _ => none }
def FnPanesSortWrongFalsely : Prop := fnPanesSortRow.holds Try.pinned (OpenSpec.ofChange fnPanesSortWrong)

/-- 'laws.FnAggJoin': WHATEVER THE INPUT: true; the input reads as it did. -/
def fnAggJoinSpec : ChangeSpec := { name := "fnAggJoin", fn := fun _ => fun
  | [d] => { results := [.lit (.bool true)], args := [d] }
  | _ => none }
def fnAggJoinRow : OpenClaim := { program := "ytpfmaiiolifblaa", sum := "3e395fda72cf252ca042dbde0f5e01fae2a2ea2c8189d080c8fa68329582be12", func := "loop.example/g00699/laws.FnAggJoin", spec := "fnAggJoin", inPlace := ["math/bits.Add64"], unfollowed := true, recurses := true, apart := false }
def FnAggJoinSaid : Prop := fnAggJoinRow.holds Try.pinned (OpenSpec.ofChange fnAggJoinSpec)

/-- ITS FALSE NEIGHBOUR: 'it returns false'. Refute it at one input. -/
def fnAggJoinWrong : ChangeSpec := { name := "fnAggJoin", fn := fun _ => fun
  | [d] => { results := [.lit (.bool false)], args := [d] }
  | _ => none }
def FnAggJoinWrongFalsely : Prop := fnAggJoinRow.holds Try.pinned (OpenSpec.ofChange fnAggJoinWrong)

/-- 'laws.FnAggDone': WHATEVER THE INPUT: true; the input reads as it did. -/
def fnAggDoneSpec : ChangeSpec := { name := "fnAggDone", fn := fun _ => fun
  | [d] => { results := [.lit (.bool true)], args := [d] }
  | _ => none }
def fnAggDoneRow : OpenClaim := { program := "ytpfmaiiolifblaa", sum := "3e395fda72cf252ca042dbde0f5e01fae2a2ea2c8189d080c8fa68329582be12", func := "loop.example/g00699/laws.FnAggDone", spec := "fnAggDone", inPlace := ["math/bits.Add64"], unfollowed := true, recurses := true, named := ["math/bits.divideError", "math/bits.overflowError"], apart := false }
def FnAggDoneSaid : Prop := fnAggDoneRow.holds Try.pinned (OpenSpec.ofChange fnAggDoneSpec)

/-- ITS FALSE NEIGHBOUR: 'it returns false'. Refute it at one input. -/
def fnAggDoneWrong : ChangeSpec := { name := "fnAggDone", fn := fun _ => fun
  | [d] => { results := [.lit (.bool false)], args := [d] }
  | _ => none }
def FnAggDoneWrongFalsely : Prop := fnAggDoneRow.holds Try.pinned (OpenSpec.ofChange fnAggDoneWrong)

/- THE SECOND FORM. 'bulk': how many values and letters a reading holds, each counted each time it is reached (what is shared counts as often as it is met; a slice's spare places count too). A statement '..UptoSaid' is the law's where the arguments, and the package variables that the reading takes, are together of bulk at most 1048576: NARROWER than '..Said'. Prove '..Said' where nothing that the law and all that it calls make is longer than what came in: it says more and counts as full. Else prove '..UptoSaid'. A law counts once. -/
mutual
def uptoBulk {H : Type} : DataW H → Nat
  | .lit (.string bytes) => bytes.length + 1
  | .lit _ => 1
  | .nil => 1
  | .ptr d => uptoBulk d + 1
  | .slice elems spare => uptoBulkAll elems + uptoBulkAll spare + 1
  | .agg parts => uptoBulkAll parts + 1
  | .iface _ d => uptoBulk d + 1
  | .map entries => uptoBulkEntries entries + 1
  | .held _ => 1
def uptoBulkAll {H : Type} : List (DataW H) → Nat
  | [] => 0
  | d :: r => uptoBulk d + uptoBulkAll r
def uptoBulkEntries {H : Type} : List (Lit × DataW H) → Nat
  | [] => 0
  | x :: r => uptoBulkEntry x + uptoBulkEntries r
def uptoBulkEntry {H : Type} : Lit × DataW H → Nat
  | (.string bytes, d) => bytes.length + uptoBulk d + 1
  | (_, d) => uptoBulk d + 1
 end
def uptoSmall : (H : Type) → List (DataW H) → Bool := fun _ ds => decide (uptoBulkAll ds ≤ 1048576)
def OpenSpec.upto (s : _root_.Go.ChangeSpec) : _root_.Go.OpenSpec := { _root_.Go.OpenSpec.ofChange s with cond := some uptoSmall }

/-- 'laws.FnBox', WHERE WHAT IT READS IS OF BULK AT MOST 1048576: true; the input reads as it did. -/
def fnBoxUptoRow : OpenClaim := { program := "ytpfmaiiolifblaa", sum := "3e395fda72cf252ca042dbde0f5e01fae2a2ea2c8189d080c8fa68329582be12", func := "loop.example/g00699/laws.FnBox", spec := "fnBox", unfollowed := true, recurses := true, apart := false, narrowed := true }
def FnBoxUptoSaid : Prop := fnBoxUptoRow.holds Try.pinned (OpenSpec.upto fnBoxSpec)

/-- 'laws.FnPoll', WHERE WHAT IT READS IS OF BULK AT MOST 1048576: true; the input reads as it did. -/
def fnPollUptoRow : OpenClaim := { program := "ytpfmaiiolifblaa", sum := "3e395fda72cf252ca042dbde0f5e01fae2a2ea2c8189d080c8fa68329582be12", func := "loop.example/g00699/laws.FnPoll", spec := "fnPoll", apart := false, narrowed := true }
def FnPollUptoSaid : Prop := fnPollUptoRow.holds Try.pinned (OpenSpec.upto fnPollSpec)

/-- 'laws.FnPuts', WHERE WHAT IT READS IS OF BULK AT MOST 1048576: true; the input reads as it did. -/
def fnPutsUptoRow : OpenClaim := { program := "ytpfmaiiolifblaa", sum := "3e395fda72cf252ca042dbde0f5e01fae2a2ea2c8189d080c8fa68329582be12", func := "loop.example/g00699/laws.FnPuts", spec := "fnPuts", apart := false, narrowed := true }
def FnPutsUptoSaid : Prop := fnPutsUptoRow.holds Try.pinned (OpenSpec.upto fnPutsSpec)

/-- 'laws.FnTake', WHERE WHAT IT READS IS OF BULK AT MOST 1048576: true; the input reads as it did. -/
def fnTakeUptoRow : OpenClaim := { program := "ytpfmaiiolifblaa", sum := "3e395fda72cf252ca042dbde0f5e01fae2a2ea2c8189d080c8fa68329582be12", func := "loop.example/g00699/laws.FnTake", spec := "fnTake", apart := false, narrowed := true }
def FnTakeUptoSaid : Prop := fnTakeUptoRow.holds Try.pinned (OpenSpec.upto fnTakeSpec)

/-- 'laws.FnPolicy', WHERE WHAT IT READS IS OF BULK AT MOST 1048576: true; the input reads as it did. -/
def fnPolicyUptoRow : OpenClaim := { program := "ytpfmaiiolifblaa", sum := "3e395fda72cf252ca042dbde0f5e01fae2a2ea2c8189d080c8fa68329582be12", func := "loop.example/g00699/laws.FnPolicy", spec := "fnPolicy", inPlace := ["slices.overlaps[loop.example/g00699/impl.Punct]"], unfollowed := true, recurses := true, apart := false, narrowed := true }
def FnPolicyUptoSaid : Prop := fnPolicyUptoRow.holds Try.pinned (OpenSpec.upto fnPolicySpec)

/-- 'laws.FnBoth', WHERE WHAT IT READS IS OF BULK AT MOST 1048576: true; the input reads as it did. -/
def fnBothUptoRow : OpenClaim := { program := "ytpfmaiiolifblaa", sum := "3e395fda72cf252ca042dbde0f5e01fae2a2ea2c8189d080c8fa68329582be12", func := "loop.example/g00699/laws.FnBoth", spec := "fnBoth", unfollowed := true, recurses := true, apart := false, narrowed := true }
def FnBothUptoSaid : Prop := fnBothUptoRow.holds Try.pinned (OpenSpec.upto fnBothSpec)

/-- 'laws.FnPanesSort', WHERE WHAT IT READS IS OF BULK AT MOST 1048576: true; the input reads as it did. -/
def fnPanesSortUptoRow : OpenClaim := { program := "ytpfmaiiolifblaa", sum := "3e395fda72cf252ca042dbde0f5e01fae2a2ea2c8189d080c8fa68329582be12", func := "loop.example/g00699/laws.FnPanesSort", spec := "fnPanesSort", unfollowed := true, recurses := true, apart := false, narrowed := true }
def FnPanesSortUptoSaid : Prop := fnPanesSortUptoRow.holds Try.pinned (OpenSpec.upto fnPanesSortSpec)

/-- 'laws.FnAggJoin', WHERE WHAT IT READS IS OF BULK AT MOST 1048576: true; the input reads as it did. -/
def fnAggJoinUptoRow : OpenClaim := { program := "ytpfmaiiolifblaa", sum := "3e395fda72cf252ca042dbde0f5e01fae2a2ea2c8189d080c8fa68329582be12", func := "loop.example/g00699/laws.FnAggJoin", spec := "fnAggJoin", inPlace := ["math/bits.Add64"], unfollowed := true, recurses := true, apart := false, narrowed := true }
def FnAggJoinUptoSaid : Prop := fnAggJoinUptoRow.holds Try.pinned (OpenSpec.upto fnAggJoinSpec)

/-- 'laws.FnAggDone', WHERE WHAT IT READS IS OF BULK AT MOST 1048576: true; the input reads as it did. -/
def fnAggDoneUptoRow : OpenClaim := { program := "ytpfmaiiolifblaa", sum := "3e395fda72cf252ca042dbde0f5e01fae2a2ea2c8189d080c8fa68329582be12", func := "loop.example/g00699/laws.FnAggDone", spec := "fnAggDone", inPlace := ["math/bits.Add64"], unfollowed := true, recurses := true, named := ["math/bits.divideError", "math/bits.overflowError"], apart := false, narrowed := true }
def FnAggDoneUptoSaid : Prop := fnAggDoneUptoRow.holds Try.pinned (OpenSpec.upto fnAggDoneSpec)

end Rows
end Go.Proofs.Ytpfmaiiolifblaa
