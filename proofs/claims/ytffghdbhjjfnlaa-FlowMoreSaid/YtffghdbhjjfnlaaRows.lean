/-
  No cell of these rows narrows 'for every input' (looked for: loops, veiled, ifaces, maps, wideKeys, modest, calm, conditions, laid).
  DERIVED. THE GIVEN ROWS OF THIS SEAT. 6 by the template 'for every input the law returns true; each argument reads behind the call as it read before'; 0 by the template 'total and deterministic' (their statements: YtffghdbhjjfnlaaTotals.lean).
  GIVEN WITH THE SEED: the statements are not yours to turn. If you find one false, say at which input.
  Laid BY PROGRAM, IN A SANDBOX (cutbox-rows.mjs): the forced cells as the released guide's own fill.sh prints them over the translation 3720ba350900f58c… (all of the seat's roots in one cut). By AI agents, Wed Nov 11 2026. No macro, syntax, notation, axiom, sorry.
-/
import Derived.Test.YtffghdbhjjfnlaaChecked
import GoSem.Claim
import GoSem.ClaimJoined
import GoSem.ClaimMapViews
import Derived.JoinedTies
import Derived.KernelRfl
namespace Go.Proofs.Ytffghdbhjjfnlaa
/- THE CELL 'sum', in the pinned program and in every row, IS THE sha256 OF THE DUMP (.gsa) THAT YtffghdbhjjfnlaaProg.lean LOADS. Nothing in Lean hashes anything: it is a label: what it is worth is what the hold of that sum in a sandbox is worth. -/
noncomputable def Try.pinned : Pinned := { name := "ytffghdbhjjfnlaa", sum := "3720ba350900f58cd157505bd3e537ece407c1738c7ffaf6f2e06894fa6f599b", checked := Try.checked }
namespace Rows
def none {H : Type} : Left H := { results := [], args := [] }

/-- 'horariumlaw25.FlowCut': WHATEVER THE INPUT: true; the input reads as it did. -/
def flowCutSpec : ChangeSpec := { name := "flowCut", fn := fun _ => fun
  | [d1, d2, d3, d4] => { results := [.lit (.bool true)], args := [d1, d2, d3, d4] }
  | _ => none }
def flowCutRow : OpenClaim := { program := "ytffghdbhjjfnlaa", sum := "3720ba350900f58cd157505bd3e537ece407c1738c7ffaf6f2e06894fa6f599b", func := "horarium/horariumlaw25.FlowCut", spec := "flowCut", unfollowed := true, recurses := true, apart := false }
def FlowCutSaid : Prop := flowCutRow.holds Try.pinned (OpenSpec.ofChange flowCutSpec)

/-- ITS FALSE NEIGHBOUR: 'it returns false'. Refute it at one input. -/
def flowCutWrong : ChangeSpec := { name := "flowCut", fn := fun _ => fun
  | [d1, d2, d3, d4] => { results := [.lit (.bool false)], args := [d1, d2, d3, d4] }
  | _ => none }
def FlowCutWrongFalsely : Prop := flowCutRow.holds Try.pinned (OpenSpec.ofChange flowCutWrong)

/-- 'horariumlaw25.FlowSizes': WHATEVER THE INPUT: true; the input reads as it did. -/
def flowSizesSpec : ChangeSpec := { name := "flowSizes", fn := fun _ => fun
  | [d1, d2, d3, d4] => { results := [.lit (.bool true)], args := [d1, d2, d3, d4] }
  | _ => none }
def flowSizesRow : OpenClaim := { program := "ytffghdbhjjfnlaa", sum := "3720ba350900f58cd157505bd3e537ece407c1738c7ffaf6f2e06894fa6f599b", func := "horarium/horariumlaw25.FlowSizes", spec := "flowSizes", unfollowed := true, recurses := true, apart := false }
def FlowSizesSaid : Prop := flowSizesRow.holds Try.pinned (OpenSpec.ofChange flowSizesSpec)

/-- ITS FALSE NEIGHBOUR: 'it returns false'. Refute it at one input. -/
def flowSizesWrong : ChangeSpec := { name := "flowSizes", fn := fun _ => fun
  | [d1, d2, d3, d4] => { results := [.lit (.bool false)], args := [d1, d2, d3, d4] }
  | _ => none }
def FlowSizesWrongFalsely : Prop := flowSizesRow.holds Try.pinned (OpenSpec.ofChange flowSizesWrong)

/-- 'horariumlaw25.FlowEdges': WHATEVER THE INPUT: true; the input reads as it did. -/
def flowEdgesSpec : ChangeSpec := { name := "flowEdges", fn := fun _ => fun
  | [d1, d2] => { results := [.lit (.bool true)], args := [d1, d2] }
  | _ => none }
def flowEdgesRow : OpenClaim := { program := "ytffghdbhjjfnlaa", sum := "3720ba350900f58cd157505bd3e537ece407c1738c7ffaf6f2e06894fa6f599b", func := "horarium/horariumlaw25.FlowEdges", spec := "flowEdges", unfollowed := true, recurses := true, apart := false }
def FlowEdgesSaid : Prop := flowEdgesRow.holds Try.pinned (OpenSpec.ofChange flowEdgesSpec)

/-- ITS FALSE NEIGHBOUR: 'it returns false'. Refute it at one input. -/
def flowEdgesWrong : ChangeSpec := { name := "flowEdges", fn := fun _ => fun
  | [d1, d2] => { results := [.lit (.bool false)], args := [d1, d2] }
  | _ => none }
def FlowEdgesWrongFalsely : Prop := flowEdgesRow.holds Try.pinned (OpenSpec.ofChange flowEdgesWrong)

/-- 'horariumlaw25.FlowAgain': WHATEVER THE INPUT: true; the input reads as it did. -/
def flowAgainSpec : ChangeSpec := { name := "flowAgain", fn := fun _ => fun
  | [d1, d2, d3, d4] => { results := [.lit (.bool true)], args := [d1, d2, d3, d4] }
  | _ => none }
def flowAgainRow : OpenClaim := { program := "ytffghdbhjjfnlaa", sum := "3720ba350900f58cd157505bd3e537ece407c1738c7ffaf6f2e06894fa6f599b", func := "horarium/horariumlaw25.FlowAgain", spec := "flowAgain", unfollowed := true, recurses := true, apart := false }
def FlowAgainSaid : Prop := flowAgainRow.holds Try.pinned (OpenSpec.ofChange flowAgainSpec)

/-- ITS FALSE NEIGHBOUR: 'it returns false'. Refute it at one input. -/
def flowAgainWrong : ChangeSpec := { name := "flowAgain", fn := fun _ => fun
  | [d1, d2, d3, d4] => { results := [.lit (.bool false)], args := [d1, d2, d3, d4] }
  | _ => none }
def FlowAgainWrongFalsely : Prop := flowAgainRow.holds Try.pinned (OpenSpec.ofChange flowAgainWrong)

/-- 'horariumlaw25.FlowMore': WHATEVER THE INPUT: true; the input reads as it did. -/
def flowMoreSpec : ChangeSpec := { name := "flowMore", fn := fun _ => fun
  | [d1, d2, d3, d4] => { results := [.lit (.bool true)], args := [d1, d2, d3, d4] }
  | _ => none }
def flowMoreRow : OpenClaim := { program := "ytffghdbhjjfnlaa", sum := "3720ba350900f58cd157505bd3e537ece407c1738c7ffaf6f2e06894fa6f599b", func := "horarium/horariumlaw25.FlowMore", spec := "flowMore", unfollowed := true, recurses := true, apart := false }
def FlowMoreSaid : Prop := flowMoreRow.holds Try.pinned (OpenSpec.ofChange flowMoreSpec)

/-- ITS FALSE NEIGHBOUR: 'it returns false'. Refute it at one input. -/
def flowMoreWrong : ChangeSpec := { name := "flowMore", fn := fun _ => fun
  | [d1, d2, d3, d4] => { results := [.lit (.bool false)], args := [d1, d2, d3, d4] }
  | _ => none }
def FlowMoreWrongFalsely : Prop := flowMoreRow.holds Try.pinned (OpenSpec.ofChange flowMoreWrong)

/-- 'horariumlaw25.FlowNil': WHATEVER THE INPUT: true; the input reads as it did. -/
def flowNilSpec : ChangeSpec := { name := "flowNil", fn := fun _ => fun
  | [d1, d2, d3] => { results := [.lit (.bool true)], args := [d1, d2, d3] }
  | _ => none }
def flowNilRow : OpenClaim := { program := "ytffghdbhjjfnlaa", sum := "3720ba350900f58cd157505bd3e537ece407c1738c7ffaf6f2e06894fa6f599b", func := "horarium/horariumlaw25.FlowNil", spec := "flowNil", unfollowed := true, recurses := true, apart := false }
def FlowNilSaid : Prop := flowNilRow.holds Try.pinned (OpenSpec.ofChange flowNilSpec)

/-- ITS FALSE NEIGHBOUR: 'it returns false'. Refute it at one input. -/
def flowNilWrong : ChangeSpec := { name := "flowNil", fn := fun _ => fun
  | [d1, d2, d3] => { results := [.lit (.bool false)], args := [d1, d2, d3] }
  | _ => none }
def FlowNilWrongFalsely : Prop := flowNilRow.holds Try.pinned (OpenSpec.ofChange flowNilWrong)

/- THE SECOND FORM. 'bulk': how many values and letters a reading holds, each counted each time it is reached (what is shared counts as often as it is met; a slice's spare places count too). A statement '..UptoSaid' is the law's where the arguments, and the package variables that the reading takes, are together of bulk at most 1048576: NARROWER than '..Said'. Prove '..Said' where nothing that the law and all that it calls make is longer than what came in: it says more and counts as full. Else prove '..UptoSaid'. A law counts once. -/
mutual
def uptoBulk {H : Type} : DataW H → Nat
  | .lit (.string bytes) => bytes.length + 1
  | .lit _ => 1
  | .nil => 1
  | .ptr d => uptoBulk d + 1
  | .slice elems spare => uptoBulkAll elems + uptoBulkAll spare + 1
  | .agg parts => uptoBulkAll parts + 1
  | .iface _ d => uptoBulk d + 1
  | .map entries => uptoBulkEntries entries + 1
  | .held _ => 1
def uptoBulkAll {H : Type} : List (DataW H) → Nat
  | [] => 0
  | d :: r => uptoBulk d + uptoBulkAll r
def uptoBulkEntries {H : Type} : List (Lit × DataW H) → Nat
  | [] => 0
  | x :: r => uptoBulkEntry x + uptoBulkEntries r
def uptoBulkEntry {H : Type} : Lit × DataW H → Nat
  | (.string bytes, d) => bytes.length + uptoBulk d + 1
  | (_, d) => uptoBulk d + 1
 end
def uptoSmall : (H : Type) → List (DataW H) → Bool := fun _ ds => decide (uptoBulkAll ds ≤ 1048576)
def OpenSpec.upto (s : _root_.Go.ChangeSpec) : _root_.Go.OpenSpec := { _root_.Go.OpenSpec.ofChange s with cond := some uptoSmall }

/-- 'horariumlaw25.FlowCut', WHERE WHAT IT READS IS OF BULK AT MOST 1048576: true; the input reads as it did. -/
def flowCutUptoRow : OpenClaim := { program := "ytffghdbhjjfnlaa", sum := "3720ba350900f58cd157505bd3e537ece407c1738c7ffaf6f2e06894fa6f599b", func := "horarium/horariumlaw25.FlowCut", spec := "flowCut", unfollowed := true, recurses := true, apart := false, narrowed := true }
def FlowCutUptoSaid : Prop := flowCutUptoRow.holds Try.pinned (OpenSpec.upto flowCutSpec)

/-- 'horariumlaw25.FlowSizes', WHERE WHAT IT READS IS OF BULK AT MOST 1048576: true; the input reads as it did. -/
def flowSizesUptoRow : OpenClaim := { program := "ytffghdbhjjfnlaa", sum := "3720ba350900f58cd157505bd3e537ece407c1738c7ffaf6f2e06894fa6f599b", func := "horarium/horariumlaw25.FlowSizes", spec := "flowSizes", unfollowed := true, recurses := true, apart := false, narrowed := true }
def FlowSizesUptoSaid : Prop := flowSizesUptoRow.holds Try.pinned (OpenSpec.upto flowSizesSpec)

/-- 'horariumlaw25.FlowEdges', WHERE WHAT IT READS IS OF BULK AT MOST 1048576: true; the input reads as it did. -/
def flowEdgesUptoRow : OpenClaim := { program := "ytffghdbhjjfnlaa", sum := "3720ba350900f58cd157505bd3e537ece407c1738c7ffaf6f2e06894fa6f599b", func := "horarium/horariumlaw25.FlowEdges", spec := "flowEdges", unfollowed := true, recurses := true, apart := false, narrowed := true }
def FlowEdgesUptoSaid : Prop := flowEdgesUptoRow.holds Try.pinned (OpenSpec.upto flowEdgesSpec)

/-- 'horariumlaw25.FlowAgain', WHERE WHAT IT READS IS OF BULK AT MOST 1048576: true; the input reads as it did. -/
def flowAgainUptoRow : OpenClaim := { program := "ytffghdbhjjfnlaa", sum := "3720ba350900f58cd157505bd3e537ece407c1738c7ffaf6f2e06894fa6f599b", func := "horarium/horariumlaw25.FlowAgain", spec := "flowAgain", unfollowed := true, recurses := true, apart := false, narrowed := true }
def FlowAgainUptoSaid : Prop := flowAgainUptoRow.holds Try.pinned (OpenSpec.upto flowAgainSpec)

/-- 'horariumlaw25.FlowMore', WHERE WHAT IT READS IS OF BULK AT MOST 1048576: true; the input reads as it did. -/
def flowMoreUptoRow : OpenClaim := { program := "ytffghdbhjjfnlaa", sum := "3720ba350900f58cd157505bd3e537ece407c1738c7ffaf6f2e06894fa6f599b", func := "horarium/horariumlaw25.FlowMore", spec := "flowMore", unfollowed := true, recurses := true, apart := false, narrowed := true }
def FlowMoreUptoSaid : Prop := flowMoreUptoRow.holds Try.pinned (OpenSpec.upto flowMoreSpec)

/-- 'horariumlaw25.FlowNil', WHERE WHAT IT READS IS OF BULK AT MOST 1048576: true; the input reads as it did. -/
def flowNilUptoRow : OpenClaim := { program := "ytffghdbhjjfnlaa", sum := "3720ba350900f58cd157505bd3e537ece407c1738c7ffaf6f2e06894fa6f599b", func := "horarium/horariumlaw25.FlowNil", spec := "flowNil", unfollowed := true, recurses := true, apart := false, narrowed := true }
def FlowNilUptoSaid : Prop := flowNilUptoRow.holds Try.pinned (OpenSpec.upto flowNilSpec)

end Rows
end Go.Proofs.Ytffghdbhjjfnlaa
