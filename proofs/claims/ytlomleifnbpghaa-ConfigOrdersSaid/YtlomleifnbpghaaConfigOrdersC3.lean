/- Each function of the table is what the compiler makes of the program's function (part 3). -/
import Derived.Test.YtlomleifnbpghaaConfigOrdersT
import Derived.Test.YtlomleifnbpghaaVeFinal
import Derived.Test.YtlomleifnbpghaaChecked
import Derived.KernelRfl
set_option linter.all false
namespace Go.Proofs.Ytlomleifnbpghaa.configOrders
open Go Go.VE Go.VE.CO
set_option maxRecDepth 100000
theorem q23 : TabQ Try.prog (fun _ => none) pu 23 v23 := ⟨⟨Try.f23, Try.func23, by kernel_rfl⟩, .inl rfl⟩
theorem q24 : TabQ Try.prog (fun _ => none) pu 24 v24 := ⟨⟨Try.f24, Try.func24, by kernel_rfl⟩, .inl rfl⟩
theorem q25 : TabQ Try.prog (fun _ => none) pu 25 v25 := ⟨⟨Try.f25, Try.func25, by kernel_rfl⟩, .inl rfl⟩
theorem q26 : TabQ Try.prog (fun _ => none) pu 26 v26 := ⟨⟨Try.f26, Try.func26, by kernel_rfl⟩, .inl rfl⟩
theorem q27 : TabQ Try.prog (fun _ => none) pu 27 v27 := ⟨⟨Try.f27, Try.func27, by kernel_rfl⟩, .inl rfl⟩
theorem q28 : TabQ Try.prog (fun _ => none) pu 28 v28 := ⟨⟨Try.f28, Try.func28, by kernel_rfl⟩, .inl rfl⟩
theorem q29 : TabQ Try.prog (fun _ => none) pu 29 v29 := ⟨⟨Try.f29, Try.func29, by kernel_rfl⟩, .inl rfl⟩
theorem q30 : TabQ Try.prog (fun _ => none) pu 30 v30 := ⟨⟨Try.f30, Try.func30, by kernel_rfl⟩, .inl rfl⟩
theorem q31 : TabQ Try.prog (fun _ => none) pu 31 v31 := ⟨⟨Try.f31, Try.func31, by kernel_rfl⟩, .inl rfl⟩
theorem q32 : TabQ Try.prog (fun _ => none) pu 32 v32 := ⟨⟨Try.f32, Try.func32, by kernel_rfl⟩, .inl rfl⟩
end Go.Proofs.Ytlomleifnbpghaa.configOrders
