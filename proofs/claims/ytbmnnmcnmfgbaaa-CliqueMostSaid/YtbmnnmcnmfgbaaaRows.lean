/-
  No cell of these rows narrows 'for every input' (looked for: loops, veiled, ifaces, maps, wideKeys, modest, calm, conditions, laid).
  DERIVED. THE GIVEN ROWS OF THIS SEAT. 12 by the template 'for every input the law returns true; each argument reads behind the call as it read before'; 0 by the template 'total and deterministic' (their statements: YtbmnnmcnmfgbaaaTotals.lean).
  GIVEN WITH THE SEED: the statements are not yours to turn. If you find one false, say at which input.
  Laid BY PROGRAM, IN A SANDBOX (cutbox-rows.mjs): the forced cells as the released guide's own fill.sh prints them over the translation d5f7f3e0e8a5ea48… (all of the seat's roots in one cut). By AI agents, Wed Nov 11 2026. No macro, syntax, notation, axiom, sorry.
-/
import Derived.Test.YtbmnnmcnmfgbaaaChecked
import GoSem.Claim
import GoSem.ClaimJoined
import GoSem.ClaimMapViews
import Derived.JoinedTies
import Derived.KernelRfl
namespace Go.Proofs.Ytbmnnmcnmfgbaaa
/- THE CELL 'sum', in the pinned program and in every row, IS THE sha256 OF THE DUMP (.gsa) THAT YtbmnnmcnmfgbaaaProg.lean LOADS. Nothing in Lean hashes anything: it is a label: what it is worth is what the hold of that sum in a sandbox is worth. -/
noncomputable def Try.pinned : Pinned := { name := "ytbmnnmcnmfgbaaa", sum := "d5f7f3e0e8a5ea48a7bb0455ab2370fce0ca9145cee022d2c28c5120f59466ae", checked := Try.checked }
namespace Rows
def none {H : Type} : Left H := { results := [], args := [] }

/-- 'horariumlaw05.BitsLists': WHATEVER THE INPUT: true; the input reads as it did. -/
def bitsListsSpec : ChangeSpec := { name := "bitsLists", fn := fun _ => fun
  | [d1, d2, d3] => { results := [.lit (.bool true)], args := [d1, d2, d3] }
  | _ => none }
def bitsListsRow : OpenClaim := { program := "ytbmnnmcnmfgbaaa", sum := "d5f7f3e0e8a5ea48a7bb0455ab2370fce0ca9145cee022d2c28c5120f59466ae", func := "horarium/horariumlaw05.BitsLists", spec := "bitsLists", unfollowed := true, recurses := true, apart := false }
def BitsListsSaid : Prop := bitsListsRow.holds Try.pinned (OpenSpec.ofChange bitsListsSpec)

/-- ITS FALSE NEIGHBOUR: 'it returns false'. Refute it at one input. -/
def bitsListsWrong : ChangeSpec := { name := "bitsLists", fn := fun _ => fun
  | [d1, d2, d3] => { results := [.lit (.bool false)], args := [d1, d2, d3] }
  | _ => none }
def BitsListsWrongFalsely : Prop := bitsListsRow.holds Try.pinned (OpenSpec.ofChange bitsListsWrong)

/-- 'horariumlaw05.BitsGreat': WHATEVER THE INPUT: true; the input reads as it did. -/
def bitsGreatSpec : ChangeSpec := { name := "bitsGreat", fn := fun _ => fun
  | [d1, d2] => { results := [.lit (.bool true)], args := [d1, d2] }
  | _ => none }
def bitsGreatRow : OpenClaim := { program := "ytbmnnmcnmfgbaaa", sum := "d5f7f3e0e8a5ea48a7bb0455ab2370fce0ca9145cee022d2c28c5120f59466ae", func := "horarium/horariumlaw05.BitsGreat", spec := "bitsGreat", unfollowed := true, recurses := true, apart := false }
def BitsGreatSaid : Prop := bitsGreatRow.holds Try.pinned (OpenSpec.ofChange bitsGreatSpec)

/-- ITS FALSE NEIGHBOUR: 'it returns false'. Refute it at one input. -/
def bitsGreatWrong : ChangeSpec := { name := "bitsGreat", fn := fun _ => fun
  | [d1, d2] => { results := [.lit (.bool false)], args := [d1, d2] }
  | _ => none }
def BitsGreatWrongFalsely : Prop := bitsGreatRow.holds Try.pinned (OpenSpec.ofChange bitsGreatWrong)

/-- 'horariumlaw05.BitsBack': WHATEVER THE INPUT: true; the input reads as it did. -/
def bitsBackSpec : ChangeSpec := { name := "bitsBack", fn := fun _ => fun
  | [d] => { results := [.lit (.bool true)], args := [d] }
  | _ => none }
def bitsBackRow : OpenClaim := { program := "ytbmnnmcnmfgbaaa", sum := "d5f7f3e0e8a5ea48a7bb0455ab2370fce0ca9145cee022d2c28c5120f59466ae", func := "horarium/horariumlaw05.BitsBack", spec := "bitsBack", unfollowed := true, recurses := true, apart := false }
def BitsBackSaid : Prop := bitsBackRow.holds Try.pinned (OpenSpec.ofChange bitsBackSpec)

/-- ITS FALSE NEIGHBOUR: 'it returns false'. Refute it at one input. -/
def bitsBackWrong : ChangeSpec := { name := "bitsBack", fn := fun _ => fun
  | [d] => { results := [.lit (.bool false)], args := [d] }
  | _ => none }
def BitsBackWrongFalsely : Prop := bitsBackRow.holds Try.pinned (OpenSpec.ofChange bitsBackWrong)

/-- 'horariumlaw05.BitsRules': WHATEVER THE INPUT: true; the input reads as it did. -/
def bitsRulesSpec : ChangeSpec := { name := "bitsRules", fn := fun _ => fun
  | [d1, d2] => { results := [.lit (.bool true)], args := [d1, d2] }
  | _ => none }
def bitsRulesRow : OpenClaim := { program := "ytbmnnmcnmfgbaaa", sum := "d5f7f3e0e8a5ea48a7bb0455ab2370fce0ca9145cee022d2c28c5120f59466ae", func := "horarium/horariumlaw05.BitsRules", spec := "bitsRules", unfollowed := true, recurses := true, apart := false }
def BitsRulesSaid : Prop := bitsRulesRow.holds Try.pinned (OpenSpec.ofChange bitsRulesSpec)

/-- ITS FALSE NEIGHBOUR: 'it returns false'. Refute it at one input. -/
def bitsRulesWrong : ChangeSpec := { name := "bitsRules", fn := fun _ => fun
  | [d1, d2] => { results := [.lit (.bool false)], args := [d1, d2] }
  | _ => none }
def BitsRulesWrongFalsely : Prop := bitsRulesRow.holds Try.pinned (OpenSpec.ofChange bitsRulesWrong)

/-- 'horariumlaw26.CliqueOrders': WHATEVER THE INPUT: true; the input reads as it did. -/
def cliqueOrdersSpec : ChangeSpec := { name := "cliqueOrders", fn := fun _ => fun
  | [d1, d2, d3] => { results := [.lit (.bool true)], args := [d1, d2, d3] }
  | _ => none }
def cliqueOrdersRow : OpenClaim := { program := "ytbmnnmcnmfgbaaa", sum := "d5f7f3e0e8a5ea48a7bb0455ab2370fce0ca9145cee022d2c28c5120f59466ae", func := "horarium/horariumlaw26.CliqueOrders", spec := "cliqueOrders", unfollowed := true, recurses := true, apart := false }
def CliqueOrdersSaid : Prop := cliqueOrdersRow.holds Try.pinned (OpenSpec.ofChange cliqueOrdersSpec)

/-- ITS FALSE NEIGHBOUR: 'it returns false'. Refute it at one input. -/
def cliqueOrdersWrong : ChangeSpec := { name := "cliqueOrders", fn := fun _ => fun
  | [d1, d2, d3] => { results := [.lit (.bool false)], args := [d1, d2, d3] }
  | _ => none }
def CliqueOrdersWrongFalsely : Prop := cliqueOrdersRow.holds Try.pinned (OpenSpec.ofChange cliqueOrdersWrong)

/-- 'horariumlaw05.BitsSets': WHATEVER THE INPUT: true; the input reads as it did. -/
def bitsSetsSpec : ChangeSpec := { name := "bitsSets", fn := fun _ => fun
  | [d1, d2, d3, d4] => { results := [.lit (.bool true)], args := [d1, d2, d3, d4] }
  | _ => none }
def bitsSetsRow : OpenClaim := { program := "ytbmnnmcnmfgbaaa", sum := "d5f7f3e0e8a5ea48a7bb0455ab2370fce0ca9145cee022d2c28c5120f59466ae", func := "horarium/horariumlaw05.BitsSets", spec := "bitsSets", unfollowed := true, recurses := true, apart := false }
def BitsSetsSaid : Prop := bitsSetsRow.holds Try.pinned (OpenSpec.ofChange bitsSetsSpec)

/-- ITS FALSE NEIGHBOUR: 'it returns false'. Refute it at one input. -/
def bitsSetsWrong : ChangeSpec := { name := "bitsSets", fn := fun _ => fun
  | [d1, d2, d3, d4] => { results := [.lit (.bool false)], args := [d1, d2, d3, d4] }
  | _ => none }
def BitsSetsWrongFalsely : Prop := bitsSetsRow.holds Try.pinned (OpenSpec.ofChange bitsSetsWrong)

/-- 'horariumlaw26.CliqueNobody': WHATEVER THE INPUT: true; the input reads as it did. -/
def cliqueNobodySpec : ChangeSpec := { name := "cliqueNobody", fn := fun _ => fun
  | [d1, d2] => { results := [.lit (.bool true)], args := [d1, d2] }
  | _ => none }
def cliqueNobodyRow : OpenClaim := { program := "ytbmnnmcnmfgbaaa", sum := "d5f7f3e0e8a5ea48a7bb0455ab2370fce0ca9145cee022d2c28c5120f59466ae", func := "horarium/horariumlaw26.CliqueNobody", spec := "cliqueNobody", unfollowed := true, recurses := true, apart := false }
def CliqueNobodySaid : Prop := cliqueNobodyRow.holds Try.pinned (OpenSpec.ofChange cliqueNobodySpec)

/-- ITS FALSE NEIGHBOUR: 'it returns false'. Refute it at one input. -/
def cliqueNobodyWrong : ChangeSpec := { name := "cliqueNobody", fn := fun _ => fun
  | [d1, d2] => { results := [.lit (.bool false)], args := [d1, d2] }
  | _ => none }
def CliqueNobodyWrongFalsely : Prop := cliqueNobodyRow.holds Try.pinned (OpenSpec.ofChange cliqueNobodyWrong)

/-- 'horariumlaw05.BitsTells': WHATEVER THE INPUT: true; the input reads as it did. -/
def bitsTellsSpec : ChangeSpec := { name := "bitsTells", fn := fun _ => fun
  | [d1, d2, d3, d4] => { results := [.lit (.bool true)], args := [d1, d2, d3, d4] }
  | _ => none }
def bitsTellsRow : OpenClaim := { program := "ytbmnnmcnmfgbaaa", sum := "d5f7f3e0e8a5ea48a7bb0455ab2370fce0ca9145cee022d2c28c5120f59466ae", func := "horarium/horariumlaw05.BitsTells", spec := "bitsTells", unfollowed := true, recurses := true, apart := false }
def BitsTellsSaid : Prop := bitsTellsRow.holds Try.pinned (OpenSpec.ofChange bitsTellsSpec)

/-- ITS FALSE NEIGHBOUR: 'it returns false'. Refute it at one input. -/
def bitsTellsWrong : ChangeSpec := { name := "bitsTells", fn := fun _ => fun
  | [d1, d2, d3, d4] => { results := [.lit (.bool false)], args := [d1, d2, d3, d4] }
  | _ => none }
def BitsTellsWrongFalsely : Prop := bitsTellsRow.holds Try.pinned (OpenSpec.ofChange bitsTellsWrong)

/-- 'horariumlaw26.CliqueGrows': WHATEVER THE INPUT: true; the input reads as it did. -/
def cliqueGrowsSpec : ChangeSpec := { name := "cliqueGrows", fn := fun _ => fun
  | [d1, d2, d3] => { results := [.lit (.bool true)], args := [d1, d2, d3] }
  | _ => none }
def cliqueGrowsRow : OpenClaim := { program := "ytbmnnmcnmfgbaaa", sum := "d5f7f3e0e8a5ea48a7bb0455ab2370fce0ca9145cee022d2c28c5120f59466ae", func := "horarium/horariumlaw26.CliqueGrows", spec := "cliqueGrows", unfollowed := true, recurses := true, apart := false }
def CliqueGrowsSaid : Prop := cliqueGrowsRow.holds Try.pinned (OpenSpec.ofChange cliqueGrowsSpec)

/-- ITS FALSE NEIGHBOUR: 'it returns false'. Refute it at one input. -/
def cliqueGrowsWrong : ChangeSpec := { name := "cliqueGrows", fn := fun _ => fun
  | [d1, d2, d3] => { results := [.lit (.bool false)], args := [d1, d2, d3] }
  | _ => none }
def CliqueGrowsWrongFalsely : Prop := cliqueGrowsRow.holds Try.pinned (OpenSpec.ofChange cliqueGrowsWrong)

/-- 'horariumlaw26.CliqueMost': WHATEVER THE INPUT: true; the input reads as it did. -/
def cliqueMostSpec : ChangeSpec := { name := "cliqueMost", fn := fun _ => fun
  | [d1, d2] => { results := [.lit (.bool true)], args := [d1, d2] }
  | _ => none }
def cliqueMostRow : OpenClaim := { program := "ytbmnnmcnmfgbaaa", sum := "d5f7f3e0e8a5ea48a7bb0455ab2370fce0ca9145cee022d2c28c5120f59466ae", func := "horarium/horariumlaw26.CliqueMost", spec := "cliqueMost", unfollowed := true, recurses := true, apart := false }
def CliqueMostSaid : Prop := cliqueMostRow.holds Try.pinned (OpenSpec.ofChange cliqueMostSpec)

/-- ITS FALSE NEIGHBOUR: 'it returns false'. Refute it at one input. -/
def cliqueMostWrong : ChangeSpec := { name := "cliqueMost", fn := fun _ => fun
  | [d1, d2] => { results := [.lit (.bool false)], args := [d1, d2] }
  | _ => none }
def CliqueMostWrongFalsely : Prop := cliqueMostRow.holds Try.pinned (OpenSpec.ofChange cliqueMostWrong)

/-- 'horariumlaw26.CliqueTells': WHATEVER THE INPUT: true; the input reads as it did. -/
def cliqueTellsSpec : ChangeSpec := { name := "cliqueTells", fn := fun _ => fun
  | [d1, d2, d3, d4] => { results := [.lit (.bool true)], args := [d1, d2, d3, d4] }
  | _ => none }
def cliqueTellsRow : OpenClaim := { program := "ytbmnnmcnmfgbaaa", sum := "d5f7f3e0e8a5ea48a7bb0455ab2370fce0ca9145cee022d2c28c5120f59466ae", func := "horarium/horariumlaw26.CliqueTells", spec := "cliqueTells", unfollowed := true, recurses := true, apart := false }
def CliqueTellsSaid : Prop := cliqueTellsRow.holds Try.pinned (OpenSpec.ofChange cliqueTellsSpec)

/-- ITS FALSE NEIGHBOUR: 'it returns false'. Refute it at one input. -/
def cliqueTellsWrong : ChangeSpec := { name := "cliqueTells", fn := fun _ => fun
  | [d1, d2, d3, d4] => { results := [.lit (.bool false)], args := [d1, d2, d3, d4] }
  | _ => none }
def CliqueTellsWrongFalsely : Prop := cliqueTellsRow.holds Try.pinned (OpenSpec.ofChange cliqueTellsWrong)

/-- 'horariumlaw26.CliqueBounds': WHATEVER THE INPUT: true; the input reads as it did. -/
def cliqueBoundsSpec : ChangeSpec := { name := "cliqueBounds", fn := fun _ => fun
  | [d1, d2, d3, d4] => { results := [.lit (.bool true)], args := [d1, d2, d3, d4] }
  | _ => none }
def cliqueBoundsRow : OpenClaim := { program := "ytbmnnmcnmfgbaaa", sum := "d5f7f3e0e8a5ea48a7bb0455ab2370fce0ca9145cee022d2c28c5120f59466ae", func := "horarium/horariumlaw26.CliqueBounds", spec := "cliqueBounds", unfollowed := true, recurses := true, apart := false }
def CliqueBoundsSaid : Prop := cliqueBoundsRow.holds Try.pinned (OpenSpec.ofChange cliqueBoundsSpec)

/-- ITS FALSE NEIGHBOUR: 'it returns false'. Refute it at one input. -/
def cliqueBoundsWrong : ChangeSpec := { name := "cliqueBounds", fn := fun _ => fun
  | [d1, d2, d3, d4] => { results := [.lit (.bool false)], args := [d1, d2, d3, d4] }
  | _ => none }
def CliqueBoundsWrongFalsely : Prop := cliqueBoundsRow.holds Try.pinned (OpenSpec.ofChange cliqueBoundsWrong)

/- THE SECOND FORM. 'bulk': how many values and letters a reading holds, each counted each time it is reached (what is shared counts as often as it is met; a slice's spare places count too). A statement '..UptoSaid' is the law's where the arguments, and the package variables that the reading takes, are together of bulk at most 1048576: NARROWER than '..Said'. Prove '..Said' where nothing that the law and all that it calls make is longer than what came in: it says more and counts as full. Else prove '..UptoSaid'. A law counts once. -/
mutual
def uptoBulk {H : Type} : DataW H → Nat
  | .lit (.string bytes) => bytes.length + 1
  | .lit _ => 1
  | .nil => 1
  | .ptr d => uptoBulk d + 1
  | .slice elems spare => uptoBulkAll elems + uptoBulkAll spare + 1
  | .agg parts => uptoBulkAll parts + 1
  | .iface _ d => uptoBulk d + 1
  | .map entries => uptoBulkEntries entries + 1
  | .held _ => 1
def uptoBulkAll {H : Type} : List (DataW H) → Nat
  | [] => 0
  | d :: r => uptoBulk d + uptoBulkAll r
def uptoBulkEntries {H : Type} : List (Lit × DataW H) → Nat
  | [] => 0
  | x :: r => uptoBulkEntry x + uptoBulkEntries r
def uptoBulkEntry {H : Type} : Lit × DataW H → Nat
  | (.string bytes, d) => bytes.length + uptoBulk d + 1
  | (_, d) => uptoBulk d + 1
 end
def uptoSmall : (H : Type) → List (DataW H) → Bool := fun _ ds => decide (uptoBulkAll ds ≤ 1048576)
def OpenSpec.upto (s : _root_.Go.ChangeSpec) : _root_.Go.OpenSpec := { _root_.Go.OpenSpec.ofChange s with cond := some uptoSmall }

/-- 'horariumlaw05.BitsLists', WHERE WHAT IT READS IS OF BULK AT MOST 1048576: true; the input reads as it did. -/
def bitsListsUptoRow : OpenClaim := { program := "ytbmnnmcnmfgbaaa", sum := "d5f7f3e0e8a5ea48a7bb0455ab2370fce0ca9145cee022d2c28c5120f59466ae", func := "horarium/horariumlaw05.BitsLists", spec := "bitsLists", unfollowed := true, recurses := true, apart := false, narrowed := true }
def BitsListsUptoSaid : Prop := bitsListsUptoRow.holds Try.pinned (OpenSpec.upto bitsListsSpec)

/-- 'horariumlaw05.BitsGreat', WHERE WHAT IT READS IS OF BULK AT MOST 1048576: true; the input reads as it did. -/
def bitsGreatUptoRow : OpenClaim := { program := "ytbmnnmcnmfgbaaa", sum := "d5f7f3e0e8a5ea48a7bb0455ab2370fce0ca9145cee022d2c28c5120f59466ae", func := "horarium/horariumlaw05.BitsGreat", spec := "bitsGreat", unfollowed := true, recurses := true, apart := false, narrowed := true }
def BitsGreatUptoSaid : Prop := bitsGreatUptoRow.holds Try.pinned (OpenSpec.upto bitsGreatSpec)

/-- 'horariumlaw05.BitsBack', WHERE WHAT IT READS IS OF BULK AT MOST 1048576: true; the input reads as it did. -/
def bitsBackUptoRow : OpenClaim := { program := "ytbmnnmcnmfgbaaa", sum := "d5f7f3e0e8a5ea48a7bb0455ab2370fce0ca9145cee022d2c28c5120f59466ae", func := "horarium/horariumlaw05.BitsBack", spec := "bitsBack", unfollowed := true, recurses := true, apart := false, narrowed := true }
def BitsBackUptoSaid : Prop := bitsBackUptoRow.holds Try.pinned (OpenSpec.upto bitsBackSpec)

/-- 'horariumlaw05.BitsRules', WHERE WHAT IT READS IS OF BULK AT MOST 1048576: true; the input reads as it did. -/
def bitsRulesUptoRow : OpenClaim := { program := "ytbmnnmcnmfgbaaa", sum := "d5f7f3e0e8a5ea48a7bb0455ab2370fce0ca9145cee022d2c28c5120f59466ae", func := "horarium/horariumlaw05.BitsRules", spec := "bitsRules", unfollowed := true, recurses := true, apart := false, narrowed := true }
def BitsRulesUptoSaid : Prop := bitsRulesUptoRow.holds Try.pinned (OpenSpec.upto bitsRulesSpec)

/-- 'horariumlaw26.CliqueOrders', WHERE WHAT IT READS IS OF BULK AT MOST 1048576: true; the input reads as it did. -/
def cliqueOrdersUptoRow : OpenClaim := { program := "ytbmnnmcnmfgbaaa", sum := "d5f7f3e0e8a5ea48a7bb0455ab2370fce0ca9145cee022d2c28c5120f59466ae", func := "horarium/horariumlaw26.CliqueOrders", spec := "cliqueOrders", unfollowed := true, recurses := true, apart := false, narrowed := true }
def CliqueOrdersUptoSaid : Prop := cliqueOrdersUptoRow.holds Try.pinned (OpenSpec.upto cliqueOrdersSpec)

/-- 'horariumlaw05.BitsSets', WHERE WHAT IT READS IS OF BULK AT MOST 1048576: true; the input reads as it did. -/
def bitsSetsUptoRow : OpenClaim := { program := "ytbmnnmcnmfgbaaa", sum := "d5f7f3e0e8a5ea48a7bb0455ab2370fce0ca9145cee022d2c28c5120f59466ae", func := "horarium/horariumlaw05.BitsSets", spec := "bitsSets", unfollowed := true, recurses := true, apart := false, narrowed := true }
def BitsSetsUptoSaid : Prop := bitsSetsUptoRow.holds Try.pinned (OpenSpec.upto bitsSetsSpec)

/-- 'horariumlaw26.CliqueNobody', WHERE WHAT IT READS IS OF BULK AT MOST 1048576: true; the input reads as it did. -/
def cliqueNobodyUptoRow : OpenClaim := { program := "ytbmnnmcnmfgbaaa", sum := "d5f7f3e0e8a5ea48a7bb0455ab2370fce0ca9145cee022d2c28c5120f59466ae", func := "horarium/horariumlaw26.CliqueNobody", spec := "cliqueNobody", unfollowed := true, recurses := true, apart := false, narrowed := true }
def CliqueNobodyUptoSaid : Prop := cliqueNobodyUptoRow.holds Try.pinned (OpenSpec.upto cliqueNobodySpec)

/-- 'horariumlaw05.BitsTells', WHERE WHAT IT READS IS OF BULK AT MOST 1048576: true; the input reads as it did. -/
def bitsTellsUptoRow : OpenClaim := { program := "ytbmnnmcnmfgbaaa", sum := "d5f7f3e0e8a5ea48a7bb0455ab2370fce0ca9145cee022d2c28c5120f59466ae", func := "horarium/horariumlaw05.BitsTells", spec := "bitsTells", unfollowed := true, recurses := true, apart := false, narrowed := true }
def BitsTellsUptoSaid : Prop := bitsTellsUptoRow.holds Try.pinned (OpenSpec.upto bitsTellsSpec)

/-- 'horariumlaw26.CliqueGrows', WHERE WHAT IT READS IS OF BULK AT MOST 1048576: true; the input reads as it did. -/
def cliqueGrowsUptoRow : OpenClaim := { program := "ytbmnnmcnmfgbaaa", sum := "d5f7f3e0e8a5ea48a7bb0455ab2370fce0ca9145cee022d2c28c5120f59466ae", func := "horarium/horariumlaw26.CliqueGrows", spec := "cliqueGrows", unfollowed := true, recurses := true, apart := false, narrowed := true }
def CliqueGrowsUptoSaid : Prop := cliqueGrowsUptoRow.holds Try.pinned (OpenSpec.upto cliqueGrowsSpec)

/-- 'horariumlaw26.CliqueMost', WHERE WHAT IT READS IS OF BULK AT MOST 1048576: true; the input reads as it did. -/
def cliqueMostUptoRow : OpenClaim := { program := "ytbmnnmcnmfgbaaa", sum := "d5f7f3e0e8a5ea48a7bb0455ab2370fce0ca9145cee022d2c28c5120f59466ae", func := "horarium/horariumlaw26.CliqueMost", spec := "cliqueMost", unfollowed := true, recurses := true, apart := false, narrowed := true }
def CliqueMostUptoSaid : Prop := cliqueMostUptoRow.holds Try.pinned (OpenSpec.upto cliqueMostSpec)

/-- 'horariumlaw26.CliqueTells', WHERE WHAT IT READS IS OF BULK AT MOST 1048576: true; the input reads as it did. -/
def cliqueTellsUptoRow : OpenClaim := { program := "ytbmnnmcnmfgbaaa", sum := "d5f7f3e0e8a5ea48a7bb0455ab2370fce0ca9145cee022d2c28c5120f59466ae", func := "horarium/horariumlaw26.CliqueTells", spec := "cliqueTells", unfollowed := true, recurses := true, apart := false, narrowed := true }
def CliqueTellsUptoSaid : Prop := cliqueTellsUptoRow.holds Try.pinned (OpenSpec.upto cliqueTellsSpec)

/-- 'horariumlaw26.CliqueBounds', WHERE WHAT IT READS IS OF BULK AT MOST 1048576: true; the input reads as it did. -/
def cliqueBoundsUptoRow : OpenClaim := { program := "ytbmnnmcnmfgbaaa", sum := "d5f7f3e0e8a5ea48a7bb0455ab2370fce0ca9145cee022d2c28c5120f59466ae", func := "horarium/horariumlaw26.CliqueBounds", spec := "cliqueBounds", unfollowed := true, recurses := true, apart := false, narrowed := true }
def CliqueBoundsUptoSaid : Prop := cliqueBoundsUptoRow.holds Try.pinned (OpenSpec.upto cliqueBoundsSpec)

end Rows
end Go.Proofs.Ytbmnnmcnmfgbaaa
