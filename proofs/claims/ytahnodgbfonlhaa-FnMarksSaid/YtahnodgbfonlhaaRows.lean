/-
  No cell of these rows narrows 'for every input' (looked for: loops, veiled, ifaces, maps, wideKeys, modest, calm, conditions, laid).
  DERIVED. THE GIVEN ROWS OF THIS SEAT. 6 by the template 'for every input the law returns true; each argument reads behind the call as it read before'; 0 by the template 'total and deterministic' (their statements: YtahnodgbfonlhaaTotals.lean).
  GIVEN WITH THE SEED: the statements are not yours to turn. If you find one false, say at which input.
  Laid BY PROGRAM, IN A SANDBOX (cutbox-rows.mjs): the forced cells as the released guide's own fill.sh prints them over the translation c16560b384494198… (all of the seat's roots in one cut). By AI agents, Wed Nov 11 2026. No macro, syntax, notation, axiom, sorry.
-/
import Derived.Test.YtahnodgbfonlhaaChecked
import GoSem.Claim
import GoSem.ClaimJoined
import GoSem.ClaimMapViews
import Derived.JoinedTies
import Derived.KernelRfl
namespace Go.Proofs.Ytahnodgbfonlhaa
/- THE CELL 'sum', in the pinned program and in every row, IS THE sha256 OF THE DUMP (.gsa) THAT YtahnodgbfonlhaaProg.lean LOADS. Nothing in Lean hashes anything: it is a label: what it is worth is what the hold of that sum in a sandbox is worth. -/
noncomputable def Try.pinned : Pinned := { name := "ytahnodgbfonlhaa", sum := "c16560b384494198fd449b1676e570c4709641a2874465c34cc1e0cb8a78669f", checked := Try.checked }
namespace Rows
def none {H : Type} : Left H := { results := [], args := [] }

/-- 'laws.FnExactSlotsOk': WHATEVER THE INPUT: true; the input reads as it did. -/
def fnExactSlotsOkSpec : ChangeSpec := { name := "fnExactSlotsOk", fn := fun _ => fun
  | [d] => { results := [.lit (.bool true)], args := [d] }
  | _ => none }
def fnExactSlotsOkRow : OpenClaim := { program := "ytahnodgbfonlhaa", sum := "c16560b384494198fd449b1676e570c4709641a2874465c34cc1e0cb8a78669f", func := "loop.example/g00699/laws.FnExactSlotsOk", spec := "fnExactSlotsOk", apart := false }
def FnExactSlotsOkSaid : Prop := fnExactSlotsOkRow.holds Try.pinned (OpenSpec.ofChange fnExactSlotsOkSpec)

/-- ITS FALSE NEIGHBOUR: 'it returns false'. Refute it at one input. -/
def fnExactSlotsOkWrong : ChangeSpec := { name := "fnExactSlotsOk", fn := fun _ => fun
  | [d] => { results := [.lit (.bool false)], args := [d] }
  | _ => none }
def FnExactSlotsOkWrongFalsely : Prop := fnExactSlotsOkRow.holds Try.pinned (OpenSpec.ofChange fnExactSlotsOkWrong)

/-- 'laws.FnNumBack': WHATEVER THE INPUT: true; the input reads as it did. -/
def fnNumBackSpec : ChangeSpec := { name := "fnNumBack", fn := fun _ => fun
  | [d] => { results := [.lit (.bool true)], args := [d] }
  | _ => none }
def fnNumBackRow : OpenClaim := { program := "ytahnodgbfonlhaa", sum := "c16560b384494198fd449b1676e570c4709641a2874465c34cc1e0cb8a78669f", func := "loop.example/g00699/laws.FnNumBack", spec := "fnNumBack", apart := false }
def FnNumBackSaid : Prop := fnNumBackRow.holds Try.pinned (OpenSpec.ofChange fnNumBackSpec)

/-- ITS FALSE NEIGHBOUR: 'it returns false'. Refute it at one input. -/
def fnNumBackWrong : ChangeSpec := { name := "fnNumBack", fn := fun _ => fun
  | [d] => { results := [.lit (.bool false)], args := [d] }
  | _ => none }
def FnNumBackWrongFalsely : Prop := fnNumBackRow.holds Try.pinned (OpenSpec.ofChange fnNumBackWrong)

/-- 'laws.FnWins': WHATEVER THE INPUT: true; the input reads as it did. -/
def fnWinsSpec : ChangeSpec := { name := "fnWins", fn := fun _ => fun
  | [d] => { results := [.lit (.bool true)], args := [d] }
  | _ => none }
def fnWinsRow : OpenClaim := { program := "ytahnodgbfonlhaa", sum := "c16560b384494198fd449b1676e570c4709641a2874465c34cc1e0cb8a78669f", func := "loop.example/g00699/laws.FnWins", spec := "fnWins", apart := false }
def FnWinsSaid : Prop := fnWinsRow.holds Try.pinned (OpenSpec.ofChange fnWinsSpec)

/-- ITS FALSE NEIGHBOUR: 'it returns false'. Refute it at one input. -/
def fnWinsWrong : ChangeSpec := { name := "fnWins", fn := fun _ => fun
  | [d] => { results := [.lit (.bool false)], args := [d] }
  | _ => none }
def FnWinsWrongFalsely : Prop := fnWinsRow.holds Try.pinned (OpenSpec.ofChange fnWinsWrong)

/-- 'laws.FnSessAdd': WHATEVER THE INPUT: true; the input reads as it did. -/
def fnSessAddSpec : ChangeSpec := { name := "fnSessAdd", fn := fun _ => fun
  | [d] => { results := [.lit (.bool true)], args := [d] }
  | _ => none }
def fnSessAddRow : OpenClaim := { program := "ytahnodgbfonlhaa", sum := "c16560b384494198fd449b1676e570c4709641a2874465c34cc1e0cb8a78669f", func := "loop.example/g00699/laws.FnSessAdd", spec := "fnSessAdd", apart := false }
def FnSessAddSaid : Prop := fnSessAddRow.holds Try.pinned (OpenSpec.ofChange fnSessAddSpec)

/-- ITS FALSE NEIGHBOUR: 'it returns false'. Refute it at one input. -/
def fnSessAddWrong : ChangeSpec := { name := "fnSessAdd", fn := fun _ => fun
  | [d] => { results := [.lit (.bool false)], args := [d] }
  | _ => none }
def FnSessAddWrongFalsely : Prop := fnSessAddRow.holds Try.pinned (OpenSpec.ofChange fnSessAddWrong)

/-- 'laws.FnMarks': WHATEVER THE INPUT: true; the input reads as it did. -/
def fnMarksSpec : ChangeSpec := { name := "fnMarks", fn := fun _ => fun
  | [d] => { results := [.lit (.bool true)], args := [d] }
  | _ => none }
def fnMarksRow : OpenClaim := { program := "ytahnodgbfonlhaa", sum := "c16560b384494198fd449b1676e570c4709641a2874465c34cc1e0cb8a78669f", func := "loop.example/g00699/laws.FnMarks", spec := "fnMarks", apart := false }
def FnMarksSaid : Prop := fnMarksRow.holds Try.pinned (OpenSpec.ofChange fnMarksSpec)

/-- ITS FALSE NEIGHBOUR: 'it returns false'. Refute it at one input. -/
def fnMarksWrong : ChangeSpec := { name := "fnMarks", fn := fun _ => fun
  | [d] => { results := [.lit (.bool false)], args := [d] }
  | _ => none }
def FnMarksWrongFalsely : Prop := fnMarksRow.holds Try.pinned (OpenSpec.ofChange fnMarksWrong)

/-- 'laws.FnExprTwice': WHATEVER THE INPUT: true; the input reads as it did. -/
def fnExprTwiceSpec : ChangeSpec := { name := "fnExprTwice", fn := fun _ => fun
  | [d] => { results := [.lit (.bool true)], args := [d] }
  | _ => none }
def fnExprTwiceRow : OpenClaim := { program := "ytahnodgbfonlhaa", sum := "c16560b384494198fd449b1676e570c4709641a2874465c34cc1e0cb8a78669f", func := "loop.example/g00699/laws.FnExprTwice", spec := "fnExprTwice", apart := false }
def FnExprTwiceSaid : Prop := fnExprTwiceRow.holds Try.pinned (OpenSpec.ofChange fnExprTwiceSpec)

/-- ITS FALSE NEIGHBOUR: 'it returns false'. Refute it at one input. -/
def fnExprTwiceWrong : ChangeSpec := { name := "fnExprTwice", fn := fun _ => fun
  | [d] => { results := [.lit (.bool false)], args := [d] }
  | _ => none }
def FnExprTwiceWrongFalsely : Prop := fnExprTwiceRow.holds Try.pinned (OpenSpec.ofChange fnExprTwiceWrong)

/- THE SECOND FORM. 'bulk': how many values and letters a reading holds, each counted each time it is reached (what is shared counts as often as it is met; a slice's spare places count too). A statement '..UptoSaid' is the law's where the arguments, and the package variables that the reading takes, are together of bulk at most 1048576: NARROWER than '..Said'. Prove '..Said' where nothing that the law and all that it calls make is longer than what came in: it says more and counts as full. Else prove '..UptoSaid'. A law counts once. -/
mutual
def uptoBulk {H : Type} : DataW H → Nat
  | .lit (.string bytes) => bytes.length + 1
  | .lit _ => 1
  | .nil => 1
  | .ptr d => uptoBulk d + 1
  | .slice elems spare => uptoBulkAll elems + uptoBulkAll spare + 1
  | .agg parts => uptoBulkAll parts + 1
  | .iface _ d => uptoBulk d + 1
  | .map entries => uptoBulkEntries entries + 1
  | .held _ => 1
def uptoBulkAll {H : Type} : List (DataW H) → Nat
  | [] => 0
  | d :: r => uptoBulk d + uptoBulkAll r
def uptoBulkEntries {H : Type} : List (Lit × DataW H) → Nat
  | [] => 0
  | x :: r => uptoBulkEntry x + uptoBulkEntries r
def uptoBulkEntry {H : Type} : Lit × DataW H → Nat
  | (.string bytes, d) => bytes.length + uptoBulk d + 1
  | (_, d) => uptoBulk d + 1
 end
def uptoSmall : (H : Type) → List (DataW H) → Bool := fun _ ds => decide (uptoBulkAll ds ≤ 1048576)
def OpenSpec.upto (s : _root_.Go.ChangeSpec) : _root_.Go.OpenSpec := { _root_.Go.OpenSpec.ofChange s with cond := some uptoSmall }

/-- 'laws.FnExactSlotsOk', WHERE WHAT IT READS IS OF BULK AT MOST 1048576: true; the input reads as it did. -/
def fnExactSlotsOkUptoRow : OpenClaim := { program := "ytahnodgbfonlhaa", sum := "c16560b384494198fd449b1676e570c4709641a2874465c34cc1e0cb8a78669f", func := "loop.example/g00699/laws.FnExactSlotsOk", spec := "fnExactSlotsOk", apart := false, narrowed := true }
def FnExactSlotsOkUptoSaid : Prop := fnExactSlotsOkUptoRow.holds Try.pinned (OpenSpec.upto fnExactSlotsOkSpec)

/-- 'laws.FnNumBack', WHERE WHAT IT READS IS OF BULK AT MOST 1048576: true; the input reads as it did. -/
def fnNumBackUptoRow : OpenClaim := { program := "ytahnodgbfonlhaa", sum := "c16560b384494198fd449b1676e570c4709641a2874465c34cc1e0cb8a78669f", func := "loop.example/g00699/laws.FnNumBack", spec := "fnNumBack", apart := false, narrowed := true }
def FnNumBackUptoSaid : Prop := fnNumBackUptoRow.holds Try.pinned (OpenSpec.upto fnNumBackSpec)

/-- 'laws.FnWins', WHERE WHAT IT READS IS OF BULK AT MOST 1048576: true; the input reads as it did. -/
def fnWinsUptoRow : OpenClaim := { program := "ytahnodgbfonlhaa", sum := "c16560b384494198fd449b1676e570c4709641a2874465c34cc1e0cb8a78669f", func := "loop.example/g00699/laws.FnWins", spec := "fnWins", apart := false, narrowed := true }
def FnWinsUptoSaid : Prop := fnWinsUptoRow.holds Try.pinned (OpenSpec.upto fnWinsSpec)

/-- 'laws.FnSessAdd', WHERE WHAT IT READS IS OF BULK AT MOST 1048576: true; the input reads as it did. -/
def fnSessAddUptoRow : OpenClaim := { program := "ytahnodgbfonlhaa", sum := "c16560b384494198fd449b1676e570c4709641a2874465c34cc1e0cb8a78669f", func := "loop.example/g00699/laws.FnSessAdd", spec := "fnSessAdd", apart := false, narrowed := true }
def FnSessAddUptoSaid : Prop := fnSessAddUptoRow.holds Try.pinned (OpenSpec.upto fnSessAddSpec)

/-- 'laws.FnMarks', WHERE WHAT IT READS IS OF BULK AT MOST 1048576: true; the input reads as it did. -/
def fnMarksUptoRow : OpenClaim := { program := "ytahnodgbfonlhaa", sum := "c16560b384494198fd449b1676e570c4709641a2874465c34cc1e0cb8a78669f", func := "loop.example/g00699/laws.FnMarks", spec := "fnMarks", apart := false, narrowed := true }
def FnMarksUptoSaid : Prop := fnMarksUptoRow.holds Try.pinned (OpenSpec.upto fnMarksSpec)

/-- 'laws.FnExprTwice', WHERE WHAT IT READS IS OF BULK AT MOST 1048576: true; the input reads as it did. -/
def fnExprTwiceUptoRow : OpenClaim := { program := "ytahnodgbfonlhaa", sum := "c16560b384494198fd449b1676e570c4709641a2874465c34cc1e0cb8a78669f", func := "loop.example/g00699/laws.FnExprTwice", spec := "fnExprTwice", apart := false, narrowed := true }
def FnExprTwiceUptoSaid : Prop := fnExprTwiceUptoRow.holds Try.pinned (OpenSpec.upto fnExprTwiceSpec)

end Rows
end Go.Proofs.Ytahnodgbfonlhaa
