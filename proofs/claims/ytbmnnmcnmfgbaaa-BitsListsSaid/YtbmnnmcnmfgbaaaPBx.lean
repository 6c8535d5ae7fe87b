-- Printed by wip/printbase.py (the session's caller of the kit's printer) out of the translation. Not trusted: Lean checks it.
import Derived.Test.YtbmnnmcnmfgbaaaPBx0
import Derived.Test.YtbmnnmcnmfgbaaaPBx1
import Derived.Test.YtbmnnmcnmfgbaaaPBx2
import Derived.Test.YtbmnnmcnmfgbaaaPBx3
import Derived.Test.YtbmnnmcnmfgbaaaPBx4
import Derived.Test.YtbmnnmcnmfgbaaaPBx5
namespace Go.Proofs.Ytbmnnmcnmfgbaaa.PB
open Go.RowKit Go.Proofs.YtbmnnmcnmfgbaaaW.PrintWords Go.Proofs.YtbmnnmcnmfgbaaaW.PrintLast Go.Proofs.YtbmnnmcnmfgbaaaW.PrintMore
attribute [local go_sem] max2_int min2_int max_two min_two max_three min_three max_four min_four   -- for this text's walks alone
set_option linter.unusedVariables false
set_option linter.unusedSimpArgs false

end Go.Proofs.Ytbmnnmcnmfgbaaa.PB
