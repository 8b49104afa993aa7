/-
  No cell of these rows narrows 'for every input' (looked for: loops, veiled, ifaces, maps, wideKeys, modest, calm, conditions, laid).
  DERIVED. THE GIVEN ROWS OF THIS SEAT. 6 by the template 'for every input the law returns true; each argument reads behind the call as it read before'; 0 by the template 'total and deterministic' (their statements: YtajekdeommaceaaTotals.lean).
  GIVEN WITH THE SEED: the statements are not yours to turn. If you find one false, say at which input.
  Laid BY PROGRAM, IN A SANDBOX (cutbox-rows.mjs): the forced cells as the released guide's own fill.sh prints them over the translation 4829ee9f989d3fe3… (all of the seat's roots in one cut). By AI agents, Wed Nov 11 2026. No macro, syntax, notation, axiom, sorry.
-/
import Derived.Test.YtajekdeommaceaaChecked
import GoSem.Claim
import GoSem.ClaimJoined
import GoSem.ClaimMapViews
import Derived.JoinedTies
import Derived.KernelRfl
namespace Go.Proofs.Ytajekdeommaceaa
/- THE CELL 'sum', in the pinned program and in every row, IS THE sha256 OF THE DUMP (.gsa) THAT YtajekdeommaceaaProg.lean LOADS. Nothing in Lean hashes anything: it is a label: what it is worth is what the hold of that sum in a sandbox is worth. -/
noncomputable def Try.pinned : Pinned := { name := "ytajekdeommaceaa", sum := "4829ee9f989d3fe38c09b9f2d6177829e1032dc0d7786d67fb98f9923a78fcf7", checked := Try.checked }
namespace Rows
def none {H : Type} : Left H := { results := [], args := [] }

/-- 'laws.FnLatEdges': WHATEVER THE INPUT: true; the input reads as it did. -/
def fnLatEdgesSpec : ChangeSpec := { name := "fnLatEdges", fn := fun _ => fun
  | [d] => { results := [.lit (.bool true)], args := [d] }
  | _ => none }
def fnLatEdgesRow : OpenClaim := { program := "ytajekdeommaceaa", sum := "4829ee9f989d3fe38c09b9f2d6177829e1032dc0d7786d67fb98f9923a78fcf7", func := "loop.example/g00699/laws.FnLatEdges", spec := "fnLatEdges", unfollowed := true, recurses := true, apart := false }
def FnLatEdgesSaid : Prop := fnLatEdgesRow.holds Try.pinned (OpenSpec.ofChange fnLatEdgesSpec)

/-- ITS FALSE NEIGHBOUR: 'it returns false'. Refute it at one input. -/
def fnLatEdgesWrong : ChangeSpec := { name := "fnLatEdges", fn := fun _ => fun
  | [d] => { results := [.lit (.bool false)], args := [d] }
  | _ => none }
def FnLatEdgesWrongFalsely : Prop := fnLatEdgesRow.holds Try.pinned (OpenSpec.ofChange fnLatEdgesWrong)

/-- 'laws.FnLatBounds': WHATEVER THE INPUT: true; the input reads as it did. -/
def fnLatBoundsSpec : ChangeSpec := { name := "fnLatBounds", fn := fun _ => fun
  | [d] => { results := [.lit (.bool true)], args := [d] }
  | _ => none }
def fnLatBoundsRow : OpenClaim := { program := "ytajekdeommaceaa", sum := "4829ee9f989d3fe38c09b9f2d6177829e1032dc0d7786d67fb98f9923a78fcf7", func := "loop.example/g00699/laws.FnLatBounds", spec := "fnLatBounds", unfollowed := true, recurses := true, apart := false }
def FnLatBoundsSaid : Prop := fnLatBoundsRow.holds Try.pinned (OpenSpec.ofChange fnLatBoundsSpec)

/-- ITS FALSE NEIGHBOUR: 'it returns false'. Refute it at one input. -/
def fnLatBoundsWrong : ChangeSpec := { name := "fnLatBounds", fn := fun _ => fun
  | [d] => { results := [.lit (.bool false)], args := [d] }
  | _ => none }
def FnLatBoundsWrongFalsely : Prop := fnLatBoundsRow.holds Try.pinned (OpenSpec.ofChange fnLatBoundsWrong)

/-- 'laws.FnLatDown': WHATEVER THE INPUT: true; the input reads as it did. -/
def fnLatDownSpec : ChangeSpec := { name := "fnLatDown", fn := fun _ => fun
  | [d] => { results := [.lit (.bool true)], args := [d] }
  | _ => none }
def fnLatDownRow : OpenClaim := { program := "ytajekdeommaceaa", sum := "4829ee9f989d3fe38c09b9f2d6177829e1032dc0d7786d67fb98f9923a78fcf7", func := "loop.example/g00699/laws.FnLatDown", spec := "fnLatDown", unfollowed := true, recurses := true, apart := false }
def FnLatDownSaid : Prop := fnLatDownRow.holds Try.pinned (OpenSpec.ofChange fnLatDownSpec)

/-- ITS FALSE NEIGHBOUR: 'it returns false'. Refute it at one input. -/
def fnLatDownWrong : ChangeSpec := { name := "fnLatDown", fn := fun _ => fun
  | [d] => { results := [.lit (.bool false)], args := [d] }
  | _ => none }
def FnLatDownWrongFalsely : Prop := fnLatDownRow.holds Try.pinned (OpenSpec.ofChange fnLatDownWrong)

/-- 'laws.FnClosed': WHATEVER THE INPUT: true; the input reads as it did. -/
def fnClosedSpec : ChangeSpec := { name := "fnClosed", fn := fun _ => fun
  | [d] => { results := [.lit (.bool true)], args := [d] }
  | _ => none }
def fnClosedRow : OpenClaim := { program := "ytajekdeommaceaa", sum := "4829ee9f989d3fe38c09b9f2d6177829e1032dc0d7786d67fb98f9923a78fcf7", func := "loop.example/g00699/laws.FnClosed", spec := "fnClosed", unfollowed := true, recurses := true, apart := false }
def FnClosedSaid : Prop := fnClosedRow.holds Try.pinned (OpenSpec.ofChange fnClosedSpec)

/-- ITS FALSE NEIGHBOUR: 'it returns false'. Refute it at one input. -/
def fnClosedWrong : ChangeSpec := { name := "fnClosed", fn := fun _ => fun
  | [d] => { results := [.lit (.bool false)], args := [d] }
  | _ => none }
def FnClosedWrongFalsely : Prop := fnClosedRow.holds Try.pinned (OpenSpec.ofChange fnClosedWrong)

/-- 'laws.FnPolicy': WHATEVER THE INPUT: true; the input reads as it did. -/
def fnPolicySpec : ChangeSpec := { name := "fnPolicy", fn := fun _ => fun
  | [d] => { results := [.lit (.bool true)], args := [d] }
  | _ => none }
def fnPolicyRow : OpenClaim := { program := "ytajekdeommaceaa", sum := "4829ee9f989d3fe38c09b9f2d6177829e1032dc0d7786d67fb98f9923a78fcf7", func := "loop.example/g00699/laws.FnPolicy", spec := "fnPolicy", inPlace := ["slices.overlaps[loop.example/g00699/impl.Punct]"], unfollowed := true, recurses := true, apart := false }
def FnPolicySaid : Prop := fnPolicyRow.holds Try.pinned (OpenSpec.ofChange fnPolicySpec)

/-- ITS FALSE NEIGHBOUR: 'it returns false'. Refute it at one input. -/
def fnPolicyWrong : ChangeSpec := { name := "fnPolicy", fn := fun _ => fun
  | [d] => { results := [.lit (.bool false)], args := [d] }
  | _ => none }
def FnPolicyWrongFalsely : Prop := fnPolicyRow.holds Try.pinned (OpenSpec.ofChange fnPolicyWrong)

/-- 'laws.FnBoth': WHATEVER THE INPUT: true; the input reads as it did. -/
def fnBothSpec : ChangeSpec := { name := "fnBoth", fn := fun _ => fun
  | [d] => { results := [.lit (.bool true)], args := [d] }
  | _ => none }
def fnBothRow : OpenClaim := { program := "ytajekdeommaceaa", sum := "4829ee9f989d3fe38c09b9f2d6177829e1032dc0d7786d67fb98f9923a78fcf7", func := "loop.example/g00699/laws.FnBoth", spec := "fnBoth", unfollowed := true, recurses := true, apart := false }
def FnBothSaid : Prop := fnBothRow.holds Try.pinned (OpenSpec.ofChange fnBothSpec)

/-- ITS FALSE NEIGHBOUR: 'it returns false'. Refute it at one input. -/
def fnBothWrong : ChangeSpec := { name := "fnBoth", fn := fun _ => fun
  | [d] => { results := [.lit (.bool false)], args := [d] }
  | _ => none }
def FnBothWrongFalsely : Prop := fnBothRow.holds Try.pinned (OpenSpec.ofChange fnBothWrong)

/- THE SECOND FORM. 'bulk': how many values and letters a reading holds, each counted each time it is reached (what is shared counts as often as it is met; a slice's spare places count too). A statement '..UptoSaid' is the law's where the arguments, and the package variables that the reading takes, are together of bulk at most 1048576: NARROWER than '..Said'. Prove '..Said' where nothing that the law and all that it calls make is longer than what came in: it says more and counts as full. Else prove '..UptoSaid'. A law counts once. -/
mutual
def uptoBulk {H : Type} : DataW H → Nat
  | .lit (.string bytes) => bytes.length + 1
  | .lit _ => 1
  | .nil => 1
  | .ptr d => uptoBulk d + 1
  | .slice elems spare => uptoBulkAll elems + uptoBulkAll spare + 1
  | .agg parts => uptoBulkAll parts + 1
  | .iface _ d => uptoBulk d + 1
  | .map entries => uptoBulkEntries entries + 1
  | .held _ => 1
def uptoBulkAll {H : Type} : List (DataW H) → Nat
  | [] => 0
  | d :: r => uptoBulk d + uptoBulkAll r
def uptoBulkEntries {H : Type} : List (Lit × DataW H) → Nat
  | [] => 0
  | x :: r => uptoBulkEntry x + uptoBulkEntries r
def uptoBulkEntry {H : Type} : Lit × DataW H → Nat
  | (.string bytes, d) => bytes.length + uptoBulk d + 1
  | (_, d) => uptoBulk d + 1
 end
def uptoSmall : (H : Type) → List (DataW H) → Bool := fun _ ds => decide (uptoBulkAll ds ≤ 1048576)
def OpenSpec.upto (s : _root_.Go.ChangeSpec) : _root_.Go.OpenSpec := { _root_.Go.OpenSpec.ofChange s with cond := some uptoSmall }

/-- 'laws.FnLatEdges', WHERE WHAT IT READS IS OF BULK AT MOST 1048576: true; the input reads as it did. -/
def fnLatEdgesUptoRow : OpenClaim := { program := "ytajekdeommaceaa", sum := "4829ee9f989d3fe38c09b9f2d6177829e1032dc0d7786d67fb98f9923a78fcf7", func := "loop.example/g00699/laws.FnLatEdges", spec := "fnLatEdges", unfollowed := true, recurses := true, apart := false, narrowed := true }
def FnLatEdgesUptoSaid : Prop := fnLatEdgesUptoRow.holds Try.pinned (OpenSpec.upto fnLatEdgesSpec)

/-- 'laws.FnLatBounds', WHERE WHAT IT READS IS OF BULK AT MOST 1048576: true; the input reads as it did. -/
def fnLatBoundsUptoRow : OpenClaim := { program := "ytajekdeommaceaa", sum := "4829ee9f989d3fe38c09b9f2d6177829e1032dc0d7786d67fb98f9923a78fcf7", func := "loop.example/g00699/laws.FnLatBounds", spec := "fnLatBounds", unfollowed := true, recurses := true, apart := false, narrowed := true }
def FnLatBoundsUptoSaid : Prop := fnLatBoundsUptoRow.holds Try.pinned (OpenSpec.upto fnLatBoundsSpec)

/-- 'laws.FnLatDown', WHERE WHAT IT READS IS OF BULK AT MOST 1048576: true; the input reads as it did. -/
def fnLatDownUptoRow : OpenClaim := { program := "ytajekdeommaceaa", sum := "4829ee9f989d3fe38c09b9f2d6177829e1032dc0d7786d67fb98f9923a78fcf7", func := "loop.example/g00699/laws.FnLatDown", spec := "fnLatDown", unfollowed := true, recurses := true, apart := false, narrowed := true }
def FnLatDownUptoSaid : Prop := fnLatDownUptoRow.holds Try.pinned (OpenSpec.upto fnLatDownSpec)

/-- 'laws.FnClosed', WHERE WHAT IT READS IS OF BULK AT MOST 1048576: true; the input reads as it did. -/
def fnClosedUptoRow : OpenClaim := { program := "ytajekdeommaceaa", sum := "4829ee9f989d3fe38c09b9f2d6177829e1032dc0d7786d67fb98f9923a78fcf7", func := "loop.example/g00699/laws.FnClosed", spec := "fnClosed", unfollowed := true, recurses := true, apart := false, narrowed := true }
def FnClosedUptoSaid : Prop := fnClosedUptoRow.holds Try.pinned (OpenSpec.upto fnClosedSpec)

/-- 'laws.FnPolicy', WHERE WHAT IT READS IS OF BULK AT MOST 1048576: true; the input reads as it did. -/
def fnPolicyUptoRow : OpenClaim := { program := "ytajekdeommaceaa", sum := "4829ee9f989d3fe38c09b9f2d6177829e1032dc0d7786d67fb98f9923a78fcf7", func := "loop.example/g00699/laws.FnPolicy", spec := "fnPolicy", inPlace := ["slices.overlaps[loop.example/g00699/impl.Punct]"], unfollowed := true, recurses := true, apart := false, narrowed := true }
def FnPolicyUptoSaid : Prop := fnPolicyUptoRow.holds Try.pinned (OpenSpec.upto fnPolicySpec)

/-- 'laws.FnBoth', WHERE WHAT IT READS IS OF BULK AT MOST 1048576: true; the input reads as it did. -/
def fnBothUptoRow : OpenClaim := { program := "ytajekdeommaceaa", sum := "4829ee9f989d3fe38c09b9f2d6177829e1032dc0d7786d67fb98f9923a78fcf7", func := "loop.example/g00699/laws.FnBoth", spec := "fnBoth", unfollowed := true, recurses := true, apart := false, narrowed := true }
def FnBothUptoSaid : Prop := fnBothUptoRow.holds Try.pinned (OpenSpec.upto fnBothSpec)

end Rows
end Go.Proofs.Ytajekdeommaceaa
