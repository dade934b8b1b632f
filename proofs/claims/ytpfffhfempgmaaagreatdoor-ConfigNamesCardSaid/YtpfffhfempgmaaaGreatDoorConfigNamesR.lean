/- The law ConfigNames, run by the evaluator, gives true: a closed fact that the kernel reckons. -/
import Derived.Test.YtpfffhfempgmaaaGreatDoorConfigNamesM
import Derived.KernelRfl
namespace Go.Proofs.YtpfffhfempgmaaaGreatDoor.configNames
open Go Go.VE
set_option maxRecDepth 100000
theorem ran : isRes ((CFn W mt21 2000).f 3 [] h0) (.bool true) = true := by kernel_rfl
theorem ran_ex : ∃ n h, callF vp n 3 [] h0 = some (.bool true, h) := law_fast hW mok21 ran
end Go.Proofs.YtpfffhfempgmaaaGreatDoor.configNames
