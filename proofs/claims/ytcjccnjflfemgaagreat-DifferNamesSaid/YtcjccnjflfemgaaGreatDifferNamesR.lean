/- The law DifferNames, run by the evaluator, gives true: a closed fact that the kernel reckons. -/
import Derived.Test.YtcjccnjflfemgaaGreatDifferNamesM
import Derived.KernelRfl
namespace Go.Proofs.YtcjccnjflfemgaaGreat.differNames
open Go Go.VE
set_option maxRecDepth 100000
theorem ran : isRes ((CFn W mt20 2000).f 3 [] h0) (.bool true) = true := by kernel_rfl
theorem ran_ex : ∃ n h, callF vp n 3 [] h0 = some (.bool true, h) := law_fast hW mok20 ran
end Go.Proofs.YtcjccnjflfemgaaGreat.differNames
