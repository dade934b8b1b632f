/- The law ModelNames, run by the evaluator, gives true: a closed fact that the kernel reckons. -/
import Derived.Test.YtocgoabopiikoaaGreatDoorModelNamesT
import Derived.KernelRfl
namespace Go.Proofs.YtocgoabopiikoaaGreatDoor.modelNames
open Go Go.VE
set_option maxRecDepth 100000
theorem ran : (callF vp 112744 3 [] h0).map (·.1) = some (.bool true) := by kernel_rfl
theorem ran_ex : ∃ h, callF vp 112744 3 [] h0 = some (.bool true, h) := by
  have e := ran
  cases hc : callF vp 112744 3 [] h0 with
  | none => rw [hc] at e; cases e
  | some x =>
    rw [hc] at e
    obtain ⟨v, h⟩ := x
    cases e
    exact ⟨h, rfl⟩
end Go.Proofs.YtocgoabopiikoaaGreatDoor.modelNames
