/- Each function of the table is what the compiler makes of the program's function (part 2). -/
import Derived.Test.YtlomleifnbpghaaConfigOrdersT
import Derived.Test.YtlomleifnbpghaaVeFinal
import Derived.Test.YtlomleifnbpghaaChecked
import Derived.KernelRfl
set_option linter.all false
namespace Go.Proofs.Ytlomleifnbpghaa.configOrders
open Go Go.VE Go.VE.CO
set_option maxRecDepth 100000
theorem q13 : TabQ Try.prog (fun _ => none) pu 13 v13 := ⟨⟨Try.f13, Try.func13, by kernel_rfl⟩, .inl rfl⟩
theorem q14 : TabQ Try.prog (fun _ => none) pu 14 v14 := ⟨⟨Try.f14, Try.func14, by kernel_rfl⟩, .inl rfl⟩
theorem q15 : TabQ Try.prog (fun _ => none) pu 15 v15 := ⟨⟨Try.f15, Try.func15, by kernel_rfl⟩, .inl rfl⟩
theorem q16 : TabQ Try.prog (fun _ => none) pu 16 v16 := ⟨⟨Try.f16, Try.func16, by kernel_rfl⟩, .inl rfl⟩
theorem q17 : TabQ Try.prog (fun _ => none) pu 17 v17 := ⟨⟨Try.f17, Try.func17, by kernel_rfl⟩, .inl rfl⟩
theorem q18 : TabQ Try.prog (fun _ => none) pu 18 v18 := ⟨⟨Try.f18, Try.func18, by kernel_rfl⟩, .inl rfl⟩
theorem q19 : TabQ Try.prog (fun _ => none) pu 19 v19 := ⟨⟨Try.f19, Try.func19, by kernel_rfl⟩, .inl rfl⟩
theorem q20 : TabQ Try.prog (fun _ => none) pu 20 v20 := ⟨⟨Try.f20, Try.func20, by kernel_rfl⟩, .inl rfl⟩
theorem q21 : TabQ Try.prog (fun _ => none) pu 21 v21 := ⟨⟨Try.f21, Try.func21, by kernel_rfl⟩, .inl rfl⟩
theorem q22 : TabQ Try.prog (fun _ => none) pu 22 v22 := ⟨⟨Try.f22, Try.func22, by kernel_rfl⟩, .inl rfl⟩
end Go.Proofs.Ytlomleifnbpghaa.configOrders
