/-
  No cell of these rows narrows 'for every input' (looked for: loops, veiled, ifaces, maps, wideKeys, modest, calm, conditions, laid).
  DERIVED. THE GIVEN ROWS OF THIS SEAT. 7 by the template 'for every input the law returns true; each argument reads behind the call as it read before'; 0 by the template 'total and deterministic' (their statements: YtenocjjbfkgflaaTotals.lean).
  GIVEN WITH THE SEED: the statements are not yours to turn. If you find one false, say at which input.
  Laid BY PROGRAM, IN A SANDBOX (cutbox-rows.mjs): the forced cells as the released guide's own fill.sh prints them over the translation b8e17c775461d785… (all of the seat's roots in one cut). By AI agents, Wed Nov 11 2026. No macro, syntax, notation, axiom, sorry.
-/
import Derived.Test.YtenocjjbfkgflaaChecked
import GoSem.Claim
import GoSem.ClaimJoined
import GoSem.ClaimMapViews
import Derived.JoinedTies
import Derived.KernelRfl
namespace Go.Proofs.Ytenocjjbfkgflaa
/- THE CELL 'sum', in the pinned program and in every row, IS THE sha256 OF THE DUMP (.gsa) THAT YtenocjjbfkgflaaProg.lean LOADS. Nothing in Lean hashes anything: it is a label: what it is worth is what the hold of that sum in a sandbox is worth. -/
noncomputable def Try.pinned : Pinned := { name := "ytenocjjbfkgflaa", sum := "b8e17c775461d7852c228fa7e00a6dd296d3f2591741e6cffaf8efee66b15480", checked := Try.checked }
namespace Rows
def none {H : Type} : Left H := { results := [], args := [] }

/-- 'laws.FnImage': WHATEVER THE INPUT: true; the input reads as it did. -/
def fnImageSpec : ChangeSpec := { name := "fnImage", fn := fun _ => fun
  | [d] => { results := [.lit (.bool true)], args := [d] }
  | _ => none }
def fnImageRow : OpenClaim := { program := "ytenocjjbfkgflaa", sum := "b8e17c775461d7852c228fa7e00a6dd296d3f2591741e6cffaf8efee66b15480", func := "loop.example/g00699/laws.FnImage", spec := "fnImage", apart := false }
def FnImageSaid : Prop := fnImageRow.holds Try.pinned (OpenSpec.ofChange fnImageSpec)

/-- ITS FALSE NEIGHBOUR: 'it returns false'. Refute it at one input. -/
def fnImageWrong : ChangeSpec := { name := "fnImage", fn := fun _ => fun
  | [d] => { results := [.lit (.bool false)], args := [d] }
  | _ => none }
def FnImageWrongFalsely : Prop := fnImageRow.holds Try.pinned (OpenSpec.ofChange fnImageWrong)

/-- 'laws.FnExactImageOf': WHATEVER THE INPUT: true; the input reads as it did. -/
def fnExactImageOfSpec : ChangeSpec := { name := "fnExactImageOf", fn := fun _ => fun
  | [d1, d2] => { results := [.lit (.bool true)], args := [d1, d2] }
  | _ => none }
def fnExactImageOfRow : OpenClaim := { program := "ytenocjjbfkgflaa", sum := "b8e17c775461d7852c228fa7e00a6dd296d3f2591741e6cffaf8efee66b15480", func := "loop.example/g00699/laws.FnExactImageOf", spec := "fnExactImageOf", apart := false }
def FnExactImageOfSaid : Prop := fnExactImageOfRow.holds Try.pinned (OpenSpec.ofChange fnExactImageOfSpec)

/-- ITS FALSE NEIGHBOUR: 'it returns false'. Refute it at one input. -/
def fnExactImageOfWrong : ChangeSpec := { name := "fnExactImageOf", fn := fun _ => fun
  | [d1, d2] => { results := [.lit (.bool false)], args := [d1, d2] }
  | _ => none }
def FnExactImageOfWrongFalsely : Prop := fnExactImageOfRow.holds Try.pinned (OpenSpec.ofChange fnExactImageOfWrong)

/-- 'laws.FnExactImageRead': WHATEVER THE INPUT: true; the input reads as it did. -/
def fnExactImageReadSpec : ChangeSpec := { name := "fnExactImageRead", fn := fun _ => fun
  | [d] => { results := [.lit (.bool true)], args := [d] }
  | _ => none }
def fnExactImageReadRow : OpenClaim := { program := "ytenocjjbfkgflaa", sum := "b8e17c775461d7852c228fa7e00a6dd296d3f2591741e6cffaf8efee66b15480", func := "loop.example/g00699/laws.FnExactImageRead", spec := "fnExactImageRead", apart := false }
def FnExactImageReadSaid : Prop := fnExactImageReadRow.holds Try.pinned (OpenSpec.ofChange fnExactImageReadSpec)

/-- ITS FALSE NEIGHBOUR: 'it returns false'. Refute it at one input. -/
def fnExactImageReadWrong : ChangeSpec := { name := "fnExactImageRead", fn := fun _ => fun
  | [d] => { results := [.lit (.bool false)], args := [d] }
  | _ => none }
def FnExactImageReadWrongFalsely : Prop := fnExactImageReadRow.holds Try.pinned (OpenSpec.ofChange fnExactImageReadWrong)

/-- 'laws.FnExactSlotsBest': WHATEVER THE INPUT: true; the input reads as it did. -/
def fnExactSlotsBestSpec : ChangeSpec := { name := "fnExactSlotsBest", fn := fun _ => fun
  | [d] => { results := [.lit (.bool true)], args := [d] }
  | _ => none }
def fnExactSlotsBestRow : OpenClaim := { program := "ytenocjjbfkgflaa", sum := "b8e17c775461d7852c228fa7e00a6dd296d3f2591741e6cffaf8efee66b15480", func := "loop.example/g00699/laws.FnExactSlotsBest", spec := "fnExactSlotsBest", apart := false }
def FnExactSlotsBestSaid : Prop := fnExactSlotsBestRow.holds Try.pinned (OpenSpec.ofChange fnExactSlotsBestSpec)

/-- ITS FALSE NEIGHBOUR: 'it returns false'. Refute it at one input. -/
def fnExactSlotsBestWrong : ChangeSpec := { name := "fnExactSlotsBest", fn := fun _ => fun
  | [d] => { results := [.lit (.bool false)], args := [d] }
  | _ => none }
def FnExactSlotsBestWrongFalsely : Prop := fnExactSlotsBestRow.holds Try.pinned (OpenSpec.ofChange fnExactSlotsBestWrong)

/-- 'laws.FnExactSlotsPut': WHATEVER THE INPUT: true; the input reads as it did. -/
def fnExactSlotsPutSpec : ChangeSpec := { name := "fnExactSlotsPut", fn := fun _ => fun
  | [d1, d2, d3] => { results := [.lit (.bool true)], args := [d1, d2, d3] }
  | _ => none }
def fnExactSlotsPutRow : OpenClaim := { program := "ytenocjjbfkgflaa", sum := "b8e17c775461d7852c228fa7e00a6dd296d3f2591741e6cffaf8efee66b15480", func := "loop.example/g00699/laws.FnExactSlotsPut", spec := "fnExactSlotsPut", apart := false }
def FnExactSlotsPutSaid : Prop := fnExactSlotsPutRow.holds Try.pinned (OpenSpec.ofChange fnExactSlotsPutSpec)

/-- ITS FALSE NEIGHBOUR: 'it returns false'. Refute it at one input. -/
def fnExactSlotsPutWrong : ChangeSpec := { name := "fnExactSlotsPut", fn := fun _ => fun
  | [d1, d2, d3] => { results := [.lit (.bool false)], args := [d1, d2, d3] }
  | _ => none }
def FnExactSlotsPutWrongFalsely : Prop := fnExactSlotsPutRow.holds Try.pinned (OpenSpec.ofChange fnExactSlotsPutWrong)

/-- 'laws.FnSlots': WHATEVER THE INPUT: true; the input reads as it did. -/
def fnSlotsSpec : ChangeSpec := { name := "fnSlots", fn := fun _ => fun
  | [d] => { results := [.lit (.bool true)], args := [d] }
  | _ => none }
def fnSlotsRow : OpenClaim := { program := "ytenocjjbfkgflaa", sum := "b8e17c775461d7852c228fa7e00a6dd296d3f2591741e6cffaf8efee66b15480", func := "loop.example/g00699/laws.FnSlots", spec := "fnSlots", apart := false }
def FnSlotsSaid : Prop := fnSlotsRow.holds Try.pinned (OpenSpec.ofChange fnSlotsSpec)

/-- ITS FALSE NEIGHBOUR: 'it returns false'. Refute it at one input. -/
def fnSlotsWrong : ChangeSpec := { name := "fnSlots", fn := fun _ => fun
  | [d] => { results := [.lit (.bool false)], args := [d] }
  | _ => none }
def FnSlotsWrongFalsely : Prop := fnSlotsRow.holds Try.pinned (OpenSpec.ofChange fnSlotsWrong)

/-- 'laws.FnRecordTold': WHATEVER THE INPUT: true; the input reads as it did. -/
def fnRecordToldSpec : ChangeSpec := { name := "fnRecordTold", fn := fun _ => fun
  | [d] => { results := [.lit (.bool true)], args := [d] }
  | _ => none }
def fnRecordToldRow : OpenClaim := { program := "ytenocjjbfkgflaa", sum := "b8e17c775461d7852c228fa7e00a6dd296d3f2591741e6cffaf8efee66b15480", func := "loop.example/g00699/laws.FnRecordTold", spec := "fnRecordTold", apart := false }
def FnRecordToldSaid : Prop := fnRecordToldRow.holds Try.pinned (OpenSpec.ofChange fnRecordToldSpec)

/-- ITS FALSE NEIGHBOUR: 'it returns false'. Refute it at one input. -/
def fnRecordToldWrong : ChangeSpec := { name := "fnRecordTold", fn := fun _ => fun
  | [d] => { results := [.lit (.bool false)], args := [d] }
  | _ => none }
def FnRecordToldWrongFalsely : Prop := fnRecordToldRow.holds Try.pinned (OpenSpec.ofChange fnRecordToldWrong)

/- THE SECOND FORM. 'bulk': how many values and letters a reading holds, each counted each time it is reached (what is shared counts as often as it is met; a slice's spare places count too). A statement '..UptoSaid' is the law's where the arguments, and the package variables that the reading takes, are together of bulk at most 1048576: NARROWER than '..Said'. Prove '..Said' where nothing that the law and all that it calls make is longer than what came in: it says more and counts as full. Else prove '..UptoSaid'. A law counts once. -/
mutual
def uptoBulk {H : Type} : DataW H → Nat
  | .lit (.string bytes) => bytes.length + 1
  | .lit _ => 1
  | .nil => 1
  | .ptr d => uptoBulk d + 1
  | .slice elems spare => uptoBulkAll elems + uptoBulkAll spare + 1
  | .agg parts => uptoBulkAll parts + 1
  | .iface _ d => uptoBulk d + 1
  | .map entries => uptoBulkEntries entries + 1
  | .held _ => 1
def uptoBulkAll {H : Type} : List (DataW H) → Nat
  | [] => 0
  | d :: r => uptoBulk d + uptoBulkAll r
def uptoBulkEntries {H : Type} : List (Lit × DataW H) → Nat
  | [] => 0
  | x :: r => uptoBulkEntry x + uptoBulkEntries r
def uptoBulkEntry {H : Type} : Lit × DataW H → Nat
  | (.string bytes, d) => bytes.length + uptoBulk d + 1
  | (_, d) => uptoBulk d + 1
 end
def uptoSmall : (H : Type) → List (DataW H) → Bool := fun _ ds => decide (uptoBulkAll ds ≤ 1048576)
def OpenSpec.upto (s : _root_.Go.ChangeSpec) : _root_.Go.OpenSpec := { _root_.Go.OpenSpec.ofChange s with cond := some uptoSmall }

/-- 'laws.FnImage', WHERE WHAT IT READS IS OF BULK AT MOST 1048576: true; the input reads as it did. -/
def fnImageUptoRow : OpenClaim := { program := "ytenocjjbfkgflaa", sum := "b8e17c775461d7852c228fa7e00a6dd296d3f2591741e6cffaf8efee66b15480", func := "loop.example/g00699/laws.FnImage", spec := "fnImage", apart := false, narrowed := true }
def FnImageUptoSaid : Prop := fnImageUptoRow.holds Try.pinned (OpenSpec.upto fnImageSpec)

/-- 'laws.FnExactImageOf', WHERE WHAT IT READS IS OF BULK AT MOST 1048576: true; the input reads as it did. -/
def fnExactImageOfUptoRow : OpenClaim := { program := "ytenocjjbfkgflaa", sum := "b8e17c775461d7852c228fa7e00a6dd296d3f2591741e6cffaf8efee66b15480", func := "loop.example/g00699/laws.FnExactImageOf", spec := "fnExactImageOf", apart := false, narrowed := true }
def FnExactImageOfUptoSaid : Prop := fnExactImageOfUptoRow.holds Try.pinned (OpenSpec.upto fnExactImageOfSpec)

/-- 'laws.FnExactImageRead', WHERE WHAT IT READS IS OF BULK AT MOST 1048576: true; the input reads as it did. -/
def fnExactImageReadUptoRow : OpenClaim := { program := "ytenocjjbfkgflaa", sum := "b8e17c775461d7852c228fa7e00a6dd296d3f2591741e6cffaf8efee66b15480", func := "loop.example/g00699/laws.FnExactImageRead", spec := "fnExactImageRead", apart := false, narrowed := true }
def FnExactImageReadUptoSaid : Prop := fnExactImageReadUptoRow.holds Try.pinned (OpenSpec.upto fnExactImageReadSpec)

/-- 'laws.FnExactSlotsBest', WHERE WHAT IT READS IS OF BULK AT MOST 1048576: true; the input reads as it did. -/
def fnExactSlotsBestUptoRow : OpenClaim := { program := "ytenocjjbfkgflaa", sum := "b8e17c775461d7852c228fa7e00a6dd296d3f2591741e6cffaf8efee66b15480", func := "loop.example/g00699/laws.FnExactSlotsBest", spec := "fnExactSlotsBest", apart := false, narrowed := true }
def FnExactSlotsBestUptoSaid : Prop := fnExactSlotsBestUptoRow.holds Try.pinned (OpenSpec.upto fnExactSlotsBestSpec)

/-- 'laws.FnExactSlotsPut', WHERE WHAT IT READS IS OF BULK AT MOST 1048576: true; the input reads as it did. -/
def fnExactSlotsPutUptoRow : OpenClaim := { program := "ytenocjjbfkgflaa", sum := "b8e17c775461d7852c228fa7e00a6dd296d3f2591741e6cffaf8efee66b15480", func := "loop.example/g00699/laws.FnExactSlotsPut", spec := "fnExactSlotsPut", apart := false, narrowed := true }
def FnExactSlotsPutUptoSaid : Prop := fnExactSlotsPutUptoRow.holds Try.pinned (OpenSpec.upto fnExactSlotsPutSpec)

/-- 'laws.FnSlots', WHERE WHAT IT READS IS OF BULK AT MOST 1048576: true; the input reads as it did. -/
def fnSlotsUptoRow : OpenClaim := { program := "ytenocjjbfkgflaa", sum := "b8e17c775461d7852c228fa7e00a6dd296d3f2591741e6cffaf8efee66b15480", func := "loop.example/g00699/laws.FnSlots", spec := "fnSlots", apart := false, narrowed := true }
def FnSlotsUptoSaid : Prop := fnSlotsUptoRow.holds Try.pinned (OpenSpec.upto fnSlotsSpec)

/-- 'laws.FnRecordTold', WHERE WHAT IT READS IS OF BULK AT MOST 1048576: true; the input reads as it did. -/
def fnRecordToldUptoRow : OpenClaim := { program := "ytenocjjbfkgflaa", sum := "b8e17c775461d7852c228fa7e00a6dd296d3f2591741e6cffaf8efee66b15480", func := "loop.example/g00699/laws.FnRecordTold", spec := "fnRecordTold", apart := false, narrowed := true }
def FnRecordToldUptoSaid : Prop := fnRecordToldUptoRow.holds Try.pinned (OpenSpec.upto fnRecordToldSpec)

end Rows
end Go.Proofs.Ytenocjjbfkgflaa
