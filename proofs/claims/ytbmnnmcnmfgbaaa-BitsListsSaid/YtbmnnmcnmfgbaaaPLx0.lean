-- Printed by wip/printbase.py (the session's caller of the kit's printer) out of the translation. Not trusted: Lean checks it.
import Derived.Test.YtbmnnmcnmfgbaaaProg
import Derived.Below
import Derived.Deep.Draws
import Derived.Deep.AppendLies
import Derived.Maps.AppendAt
import Derived.OwnWalk
import Derived.Laws.BytesArg
import Derived.Laws.MakeOwn
import Derived.Laws.OwnMore
import Derived.Deep.OwnRows
import Derived.Tactics
import Derived.Lib.ConvBytes
import Derived.Laws.Slices
import Derived.WalkKit
import Derived.KernelRfl
import Derived.RowKit3
import Derived.Deep.LoopGhost
import Derived.Deep.QuietTactic
import Derived.BigQuiet
import Derived.WideLaws
import Derived.Deep.DeepCutAuto
import Derived.Deep.CutBlock
import Derived.Deep.RegionHeld3
import Derived.Laws.Rows
import Derived.Lib.AppendStr
import Derived.ArgAppend
import Derived.Laws.IdiomCopy
import Derived.OrdersHeld
import Derived.Laws.BitsLemmas
import Derived.RowKit
import Derived.Test.YtbmnnmcnmfgbaaaPBx
import Derived.Test.YtbmnnmcnmfgbaaaSeq
import Derived.Test.YtbmnnmcnmfgbaaaWWords
import Derived.Test.YtbmnnmcnmfgbaaaWLast
import Derived.Test.YtbmnnmcnmfgbaaaWTab
import Derived.Test.YtbmnnmcnmfgbaaaWFour
import Derived.Test.YtbmnnmcnmfgbaaaWQPut
import Derived.Test.YtbmnnmcnmfgbaaaWApart
import Derived.Test.YtbmnnmcnmfgbaaaWArr
import Derived.Test.YtbmnnmcnmfgbaaaWZeros
import Derived.Test.YtbmnnmcnmfgbaaaWFoot
import Derived.Test.YtbmnnmcnmfgbaaaWKept
import Derived.Test.YtbmnnmcnmfgbaaaWShare
import Derived.Test.YtbmnnmcnmfgbaaaWN
import Derived.Test.YtbmnnmcnmfgbaaaWFootNe
import Derived.Test.YtbmnnmcnmfgbaaaWAt
import Derived.Test.YtbmnnmcnmfgbaaaWEqStruct
import Derived.Test.YtbmnnmcnmfgbaaaWRepsOne
import Derived.Test.YtbmnnmcnmfgbaaaWInv
import Derived.Test.YtbmnnmcnmfgbaaaWInvWords
import Derived.Test.YtbmnnmcnmfgbaaaWGuard
import Derived.Test.YtbmnnmcnmfgbaaaWNEv
import Derived.Test.YtbmnnmcnmfgbaaaWMore
namespace Go.Proofs.Ytbmnnmcnmfgbaaa.PL
open Go.RowKit Go.Proofs.YtbmnnmcnmfgbaaaW.PrintWords Go.Proofs.YtbmnnmcnmfgbaaaW.PrintLast Go.Proofs.YtbmnnmcnmfgbaaaW.PrintMore
attribute [local go_sem] max2_int min2_int max_two min_two max_three min_three max_four min_four   -- for this text's walks alone
open Go.Proofs.Ytbmnnmcnmfgbaaa.PB
set_option linter.unusedVariables false
set_option linter.unusedSimpArgs false



def errW : Option Int → Value
  | none => .nilIface
  | some c => .iface 0 (.int .i64 c)
theorem errW_none : errW none = .nilIface := rfl
theorem errW_some (c : Int) : errW (some c) = .iface 0 (.int .i64 c) := rfl

theorem info3 : (Try.prog.info? 3).map (fun i => (i.zero, i.size, i.bytes)) = some (some (.int .i64 0), 1, 8) := by kernel_rfl
theorem info37 : (Try.prog.info? 37).map (fun i => (i.zero, i.size, i.bytes)) = some (some (.int .u64 0), 1, 8) := by kernel_rfl
theorem rows_len_ {α : Type} {Rr : α → List Value → Prop} {sz : Nat} {W : World} {A : Option Addr} {n m : Nat} {ys : List α} (h : n = m) (hr : ReadsRow Rr sz W A n ys) : ReadsRow Rr sz W A m ys := h ▸ hr
-- the values' own types

end Go.Proofs.Ytbmnnmcnmfgbaaa.PL
