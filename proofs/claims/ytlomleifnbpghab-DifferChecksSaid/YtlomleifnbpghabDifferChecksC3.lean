/- Each function of the table is what the compiler makes of the program's function (part 3). -/
import Derived.Test.YtlomleifnbpghabDifferChecksT
import Derived.Test.YtlomleifnbpghabVeFinal
import Derived.Test.YtlomleifnbpghabChecked
import Derived.KernelRfl
set_option linter.all false
namespace Go.Proofs.Ytlomleifnbpghab.differChecks
open Go Go.VE Go.VE.LB
set_option maxRecDepth 100000
theorem q31 : TabQ Try.prog (fun _ => none) pu 31 v31 := ⟨⟨Try.f31, Try.func31, by kernel_rfl⟩, .inl rfl⟩
theorem q32 : TabQ Try.prog (fun _ => none) pu 32 v32 := ⟨⟨Try.f32, Try.func32, by kernel_rfl⟩, .inl rfl⟩
theorem q33 : TabQ Try.prog (fun _ => none) pu 33 v33 := ⟨⟨Try.f33, Try.func33, by kernel_rfl⟩, .inl rfl⟩
theorem q34 : TabQ Try.prog (fun _ => none) pu 34 v34 := ⟨⟨Try.f34, Try.func34, by kernel_rfl⟩, .inl rfl⟩
theorem q35 : TabQ Try.prog (fun _ => none) pu 35 v35 := ⟨⟨Try.f35, Try.func35, by kernel_rfl⟩, .inl rfl⟩
theorem q36 : TabQ Try.prog (fun _ => none) pu 36 v36 := ⟨⟨Try.f36, Try.func36, by kernel_rfl⟩, .inl rfl⟩
theorem q37 : TabQ Try.prog (fun _ => none) pu 37 v37 := ⟨⟨Try.f37, Try.func37, by kernel_rfl⟩, .inl rfl⟩
theorem q38 : TabQ Try.prog (fun _ => none) pu 38 v38 := ⟨⟨Try.f38, Try.func38, by kernel_rfl⟩, .inl rfl⟩
theorem q39 : TabQ Try.prog (fun _ => none) pu 39 v39 := ⟨⟨Try.f39, Try.func39, by kernel_rfl⟩, .inl rfl⟩
theorem q40 : TabQ Try.prog (fun _ => none) pu 40 v40 := ⟨⟨Try.f40, Try.func40, by kernel_rfl⟩, .inl rfl⟩
theorem q41 : TabQ Try.prog (fun _ => none) pu 41 v41 := ⟨⟨Try.f41, Try.func41, by kernel_rfl⟩, .inl rfl⟩
theorem q42 : TabQ Try.prog (fun _ => none) pu 42 v42 := ⟨⟨Try.f42, Try.func42, by kernel_rfl⟩, .inl rfl⟩
theorem q43 : TabQ Try.prog (fun _ => none) pu 43 v43 := ⟨⟨Try.f43, Try.func43, by kernel_rfl⟩, .inl rfl⟩
theorem q44 : TabQ Try.prog (fun _ => none) pu 44 v44 := ⟨⟨Try.f44, Try.func44, by kernel_rfl⟩, .inl rfl⟩
end Go.Proofs.Ytlomleifnbpghab.differChecks
