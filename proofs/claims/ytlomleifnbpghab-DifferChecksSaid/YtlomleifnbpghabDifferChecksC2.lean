/- Each function of the table is what the compiler makes of the program's function (part 2). -/
import Derived.Test.YtlomleifnbpghabDifferChecksT
import Derived.Test.YtlomleifnbpghabVeFinal
import Derived.Test.YtlomleifnbpghabChecked
import Derived.KernelRfl
set_option linter.all false
namespace Go.Proofs.Ytlomleifnbpghab.differChecks
open Go Go.VE Go.VE.LB
set_option maxRecDepth 100000
theorem q17 : TabQ Try.prog (fun _ => none) pu 17 v17 := ⟨⟨Try.f17, Try.func17, by kernel_rfl⟩, .inl rfl⟩
theorem q18 : TabQ Try.prog (fun _ => none) pu 18 v18 := ⟨⟨Try.f18, Try.func18, by kernel_rfl⟩, .inl rfl⟩
theorem q19 : TabQ Try.prog (fun _ => none) pu 19 v19 := ⟨⟨Try.f19, Try.func19, by kernel_rfl⟩, .inl rfl⟩
theorem q20 : TabQ Try.prog (fun _ => none) pu 20 v20 := ⟨⟨Try.f20, Try.func20, by kernel_rfl⟩, .inl rfl⟩
theorem q21 : TabQ Try.prog (fun _ => none) pu 21 v21 := ⟨⟨Try.f21, Try.func21, by kernel_rfl⟩, .inl rfl⟩
theorem q22 : TabQ Try.prog (fun _ => none) pu 22 v22 := ⟨⟨Try.f22, Try.func22, by kernel_rfl⟩, .inl rfl⟩
theorem q23 : TabQ Try.prog (fun _ => none) pu 23 v23 := ⟨⟨Try.f23, Try.func23, by kernel_rfl⟩, .inl rfl⟩
theorem q24 : TabQ Try.prog (fun _ => none) pu 24 v24 := ⟨⟨Try.f24, Try.func24, by kernel_rfl⟩, .inl rfl⟩
theorem q25 : TabQ Try.prog (fun _ => none) pu 25 v25 := ⟨⟨Try.f25, Try.func25, by kernel_rfl⟩, .inl rfl⟩
theorem q26 : TabQ Try.prog (fun _ => none) pu 26 v26 := ⟨⟨Try.f26, Try.func26, by kernel_rfl⟩, .inl rfl⟩
theorem q27 : TabQ Try.prog (fun _ => none) pu 27 v27 := ⟨⟨Try.f27, Try.func27, by kernel_rfl⟩, .inl rfl⟩
theorem q28 : TabQ Try.prog (fun _ => none) pu 28 v28 := ⟨⟨Try.f28, Try.func28, by kernel_rfl⟩, .inl rfl⟩
theorem q29 : TabQ Try.prog (fun _ => none) pu 29 v29 := ⟨⟨Try.f29, Try.func29, by kernel_rfl⟩, .inl rfl⟩
theorem q30 : TabQ Try.prog (fun _ => none) pu 30 v30 := ⟨⟨Try.f30, Try.func30, by kernel_rfl⟩, .inl rfl⟩
end Go.Proofs.Ytlomleifnbpghab.differChecks
