/-
  No cell of these rows narrows 'for every input' (looked for: loops, veiled, ifaces, maps, wideKeys, modest, calm, conditions, laid).
  DERIVED. THE GIVEN ROWS OF THIS SEAT. 5 by the template 'for every input the law returns true; each argument reads behind the call as it read before'; 0 by the template 'total and deterministic' (their statements: YtkikbhcicpkhgaaTotals.lean).
  GIVEN WITH THE SEED: the statements are not yours to turn. If you find one false, say at which input.
  Laid BY PROGRAM, IN A SANDBOX (cutbox-rows.mjs): the forced cells as the released guide's own fill.sh prints them over the translation 0493d93df5da3207… (all of the seat's roots in one cut). By AI agents, Wed Nov 11 2026. No macro, syntax, notation, axiom, sorry.
-/
import Derived.Test.YtkikbhcicpkhgaaChecked
import GoSem.Claim
import GoSem.ClaimJoined
import GoSem.ClaimMapViews
import Derived.JoinedTies
import Derived.KernelRfl
namespace Go.Proofs.Ytkikbhcicpkhgaa
/- THE CELL 'sum', in the pinned program and in every row, IS THE sha256 OF THE DUMP (.gsa) THAT YtkikbhcicpkhgaaProg.lean LOADS. Nothing in Lean hashes anything: it is a label: what it is worth is what the hold of that sum in a sandbox is worth. -/
noncomputable def Try.pinned : Pinned := { name := "ytkikbhcicpkhgaa", sum := "0493d93df5da3207c6b75b8b6c1ecc8118a11a2620cd902d345675e9635163cb", checked := Try.checked }
namespace Rows
def none {H : Type} : Left H := { results := [], args := [] }

/-- 'laws.FnMean': WHATEVER THE INPUT: true; the input reads as it did. -/
def fnMeanSpec : ChangeSpec := { name := "fnMean", fn := fun _ => fun
  | [d] => { results := [.lit (.bool true)], args := [d] }
  | _ => none }
def fnMeanRow : OpenClaim := { program := "ytkikbhcicpkhgaa", sum := "0493d93df5da3207c6b75b8b6c1ecc8118a11a2620cd902d345675e9635163cb", func := "loop.example/g00699/laws.FnMean", spec := "fnMean", inPlace := ["math/bits.Add64"], named := ["math/bits.divideError", "math/bits.overflowError"], apart := false }
def FnMeanSaid : Prop := fnMeanRow.holds Try.pinned (OpenSpec.ofChange fnMeanSpec)

/-- ITS FALSE NEIGHBOUR: 'it returns false'. Refute it at one input. -/
def fnMeanWrong : ChangeSpec := { name := "fnMean", fn := fun _ => fun
  | [d] => { results := [.lit (.bool false)], args := [d] }
  | _ => none }
def FnMeanWrongFalsely : Prop := fnMeanRow.holds Try.pinned (OpenSpec.ofChange fnMeanWrong)

/-- 'laws.FnAggJoin': WHATEVER THE INPUT: true; the input reads as it did. -/
def fnAggJoinSpec : ChangeSpec := { name := "fnAggJoin", fn := fun _ => fun
  | [d] => { results := [.lit (.bool true)], args := [d] }
  | _ => none }
def fnAggJoinRow : OpenClaim := { program := "ytkikbhcicpkhgaa", sum := "0493d93df5da3207c6b75b8b6c1ecc8118a11a2620cd902d345675e9635163cb", func := "loop.example/g00699/laws.FnAggJoin", spec := "fnAggJoin", inPlace := ["math/bits.Add64"], unfollowed := true, recurses := true, apart := false }
def FnAggJoinSaid : Prop := fnAggJoinRow.holds Try.pinned (OpenSpec.ofChange fnAggJoinSpec)

/-- ITS FALSE NEIGHBOUR: 'it returns false'. Refute it at one input. -/
def fnAggJoinWrong : ChangeSpec := { name := "fnAggJoin", fn := fun _ => fun
  | [d] => { results := [.lit (.bool false)], args := [d] }
  | _ => none }
def FnAggJoinWrongFalsely : Prop := fnAggJoinRow.holds Try.pinned (OpenSpec.ofChange fnAggJoinWrong)

/-- 'laws.FnAggDone': WHATEVER THE INPUT: true; the input reads as it did. -/
def fnAggDoneSpec : ChangeSpec := { name := "fnAggDone", fn := fun _ => fun
  | [d] => { results := [.lit (.bool true)], args := [d] }
  | _ => none }
def fnAggDoneRow : OpenClaim := { program := "ytkikbhcicpkhgaa", sum := "0493d93df5da3207c6b75b8b6c1ecc8118a11a2620cd902d345675e9635163cb", func := "loop.example/g00699/laws.FnAggDone", spec := "fnAggDone", inPlace := ["math/bits.Add64"], unfollowed := true, recurses := true, named := ["math/bits.divideError", "math/bits.overflowError"], apart := false }
def FnAggDoneSaid : Prop := fnAggDoneRow.holds Try.pinned (OpenSpec.ofChange fnAggDoneSpec)

/-- ITS FALSE NEIGHBOUR: 'it returns false'. Refute it at one input. -/
def fnAggDoneWrong : ChangeSpec := { name := "fnAggDone", fn := fun _ => fun
  | [d] => { results := [.lit (.bool false)], args := [d] }
  | _ => none }
def FnAggDoneWrongFalsely : Prop := fnAggDoneRow.holds Try.pinned (OpenSpec.ofChange fnAggDoneWrong)

/-- 'laws.FnSessions': WHATEVER THE INPUT: true; the input reads as it did. -/
def fnSessionsSpec : ChangeSpec := { name := "fnSessions", fn := fun _ => fun
  | [d] => { results := [.lit (.bool true)], args := [d] }
  | _ => none }
def fnSessionsRow : OpenClaim := { program := "ytkikbhcicpkhgaa", sum := "0493d93df5da3207c6b75b8b6c1ecc8118a11a2620cd902d345675e9635163cb", func := "loop.example/g00699/laws.FnSessions", spec := "fnSessions", apart := false }
def FnSessionsSaid : Prop := fnSessionsRow.holds Try.pinned (OpenSpec.ofChange fnSessionsSpec)

/-- ITS FALSE NEIGHBOUR: 'it returns false'. Refute it at one input. -/
def fnSessionsWrong : ChangeSpec := { name := "fnSessions", fn := fun _ => fun
  | [d] => { results := [.lit (.bool false)], args := [d] }
  | _ => none }
def FnSessionsWrongFalsely : Prop := fnSessionsRow.holds Try.pinned (OpenSpec.ofChange fnSessionsWrong)

/-- 'laws.FnBox': WHATEVER THE INPUT: true; the input reads as it did. -/
def fnBoxSpec : ChangeSpec := { name := "fnBox", fn := fun _ => fun
  | [d] => { results := [.lit (.bool true)], args := [d] }
  | _ => none }
def fnBoxRow : OpenClaim := { program := "ytkikbhcicpkhgaa", sum := "0493d93df5da3207c6b75b8b6c1ecc8118a11a2620cd902d345675e9635163cb", func := "loop.example/g00699/laws.FnBox", spec := "fnBox", unfollowed := true, recurses := true, apart := false }
def FnBoxSaid : Prop := fnBoxRow.holds Try.pinned (OpenSpec.ofChange fnBoxSpec)

/-- ITS FALSE NEIGHBOUR: 'it returns false'. Refute it at one input. -/
def fnBoxWrong : ChangeSpec := { name := "fnBox", fn := fun _ => fun
  | [d] => { results := [.lit (.bool false)], args := [d] }
  | _ => none }
def FnBoxWrongFalsely : Prop := fnBoxRow.holds Try.pinned (OpenSpec.ofChange fnBoxWrong)

/- THE SECOND FORM. 'bulk': how many values and letters a reading holds, each counted each time it is reached (what is shared counts as often as it is met; a slice's spare places count too). A statement '..UptoSaid' is the law's where the arguments, and the package variables that the reading takes, are together of bulk at most 1048576: NARROWER than '..Said'. Prove '..Said' where nothing that the law and all that it calls make is longer than what came in: it says more and counts as full. Else prove '..UptoSaid'. A law counts once. -/
mutual
def uptoBulk {H : Type} : DataW H → Nat
  | .lit (.string bytes) => bytes.length + 1
  | .lit _ => 1
  | .nil => 1
  | .ptr d => uptoBulk d + 1
  | .slice elems spare => uptoBulkAll elems + uptoBulkAll spare + 1
  | .agg parts => uptoBulkAll parts + 1
  | .iface _ d => uptoBulk d + 1
  | .map entries => uptoBulkEntries entries + 1
  | .held _ => 1
def uptoBulkAll {H : Type} : List (DataW H) → Nat
  | [] => 0
  | d :: r => uptoBulk d + uptoBulkAll r
def uptoBulkEntries {H : Type} : List (Lit × DataW H) → Nat
  | [] => 0
  | x :: r => uptoBulkEntry x + uptoBulkEntries r
def uptoBulkEntry {H : Type} : Lit × DataW H → Nat
  | (.string bytes, d) => bytes.length + uptoBulk d + 1
  | (_, d) => uptoBulk d + 1
 end
def uptoSmall : (H : Type) → List (DataW H) → Bool := fun _ ds => decide (uptoBulkAll ds ≤ 1048576)
def OpenSpec.upto (s : _root_.Go.ChangeSpec) : _root_.Go.OpenSpec := { _root_.Go.OpenSpec.ofChange s with cond := some uptoSmall }

/-- 'laws.FnMean', WHERE WHAT IT READS IS OF BULK AT MOST 1048576: true; the input reads as it did. -/
def fnMeanUptoRow : OpenClaim := { program := "ytkikbhcicpkhgaa", sum := "0493d93df5da3207c6b75b8b6c1ecc8118a11a2620cd902d345675e9635163cb", func := "loop.example/g00699/laws.FnMean", spec := "fnMean", inPlace := ["math/bits.Add64"], named := ["math/bits.divideError", "math/bits.overflowError"], apart := false, narrowed := true }
def FnMeanUptoSaid : Prop := fnMeanUptoRow.holds Try.pinned (OpenSpec.upto fnMeanSpec)

/-- 'laws.FnAggJoin', WHERE WHAT IT READS IS OF BULK AT MOST 1048576: true; the input reads as it did. -/
def fnAggJoinUptoRow : OpenClaim := { program := "ytkikbhcicpkhgaa", sum := "0493d93df5da3207c6b75b8b6c1ecc8118a11a2620cd902d345675e9635163cb", func := "loop.example/g00699/laws.FnAggJoin", spec := "fnAggJoin", inPlace := ["math/bits.Add64"], unfollowed := true, recurses := true, apart := false, narrowed := true }
def FnAggJoinUptoSaid : Prop := fnAggJoinUptoRow.holds Try.pinned (OpenSpec.upto fnAggJoinSpec)

/-- 'laws.FnAggDone', WHERE WHAT IT READS IS OF BULK AT MOST 1048576: true; the input reads as it did. -/
def fnAggDoneUptoRow : OpenClaim := { program := "ytkikbhcicpkhgaa", sum := "0493d93df5da3207c6b75b8b6c1ecc8118a11a2620cd902d345675e9635163cb", func := "loop.example/g00699/laws.FnAggDone", spec := "fnAggDone", inPlace := ["math/bits.Add64"], unfollowed := true, recurses := true, named := ["math/bits.divideError", "math/bits.overflowError"], apart := false, narrowed := true }
def FnAggDoneUptoSaid : Prop := fnAggDoneUptoRow.holds Try.pinned (OpenSpec.upto fnAggDoneSpec)

/-- 'laws.FnSessions', WHERE WHAT IT READS IS OF BULK AT MOST 1048576: true; the input reads as it did. -/
def fnSessionsUptoRow : OpenClaim := { program := "ytkikbhcicpkhgaa", sum := "0493d93df5da3207c6b75b8b6c1ecc8118a11a2620cd902d345675e9635163cb", func := "loop.example/g00699/laws.FnSessions", spec := "fnSessions", apart := false, narrowed := true }
def FnSessionsUptoSaid : Prop := fnSessionsUptoRow.holds Try.pinned (OpenSpec.upto fnSessionsSpec)

/-- 'laws.FnBox', WHERE WHAT IT READS IS OF BULK AT MOST 1048576: true; the input reads as it did. -/
def fnBoxUptoRow : OpenClaim := { program := "ytkikbhcicpkhgaa", sum := "0493d93df5da3207c6b75b8b6c1ecc8118a11a2620cd902d345675e9635163cb", func := "loop.example/g00699/laws.FnBox", spec := "fnBox", unfollowed := true, recurses := true, apart := false, narrowed := true }
def FnBoxUptoSaid : Prop := fnBoxUptoRow.holds Try.pinned (OpenSpec.upto fnBoxSpec)

end Rows
end Go.Proofs.Ytkikbhcicpkhgaa
