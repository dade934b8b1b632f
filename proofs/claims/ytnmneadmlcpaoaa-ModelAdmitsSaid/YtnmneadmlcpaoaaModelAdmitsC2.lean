/- Each function of the table is what the compiler makes of the program's function (part 2). -/
import Derived.Test.YtnmneadmlcpaoaaModelAdmitsT
import Derived.Test.YtnmneadmlcpaoaaVeFinal
import Derived.Test.YtnmneadmlcpaoaaChecked
import Derived.KernelRfl
import Derived.Test.YtnmneadmlcpaoaaModelAdmitsI
set_option linter.all false
namespace Go.Proofs.Ytnmneadmlcpaoaa.modelAdmits
open Go Go.VE Go.VE.LB
set_option maxRecDepth 100000
theorem q26 : TabQ Try.prog (fun _ => none) pu 26 v26 := ⟨⟨Try.f26, Try.func26, by kernel_rfl⟩, .inl rfl⟩
theorem q27 : TabQ Try.prog (fun _ => none) pu 27 v27 := ⟨⟨Try.f27, Try.func27, by kernel_rfl⟩, .inl rfl⟩
theorem q28 : TabQ Try.prog (fun _ => none) pu 28 v28 := ⟨⟨Try.f28, Try.func28, by kernel_rfl⟩, .inl rfl⟩
theorem q29 : TabQ Try.prog (fun _ => none) pu 29 v29 := ⟨⟨Try.f29, Try.func29, by kernel_rfl⟩, .inl rfl⟩
theorem q30 : TabQ Try.prog (fun _ => none) pu 30 v30 := ⟨⟨Try.f30, Try.func30, by kernel_rfl⟩, .inl rfl⟩
theorem q31 : TabQ Try.prog (fun _ => none) pu 31 v31 := ⟨⟨Try.f31, Try.func31, by kernel_rfl⟩, .inl rfl⟩
theorem q32 : TabQ Try.prog (fun _ => none) pu 32 v32 := ⟨⟨Try.f32, Try.func32, by kernel_rfl⟩, .inl rfl⟩
theorem q33 : TabQ Try.prog (fun _ => none) pu 33 v33 := ⟨⟨Try.f33, Try.func33, by kernel_rfl⟩, .inl rfl⟩
theorem q34 : TabQ Try.prog (fun _ => none) pu 34 v34 := ⟨⟨Try.f34, Try.func34, by kernel_rfl⟩, .inl rfl⟩
theorem q35 : TabQ Try.prog (fun _ => none) pu 35 v35 := ⟨⟨Try.f35, Try.func35, by kernel_rfl⟩, .inl rfl⟩
theorem q36 : TabQ Try.prog (fun _ => none) pu 36 v36 := ⟨⟨Try.f36, Try.func36, by kernel_rfl⟩, .inl rfl⟩
theorem q37 : TabQ Try.prog (fun _ => none) pu 37 v37 := ⟨⟨Try.f37, Try.func37, by kernel_rfl⟩, .inl rfl⟩
theorem q38 : TabQ Try.prog (fun _ => none) pu 38 v38 := ⟨⟨Try.f38, Try.func38, by kernel_rfl⟩, .inl rfl⟩
theorem q39 : TabQ Try.prog (fun _ => none) pu 39 v39 := ⟨⟨Try.f39, Try.func39, by kernel_rfl⟩, .inl rfl⟩
theorem q40 : TabQ Try.prog (fun _ => none) pu 40 v40 := ⟨⟨Try.f40, Try.func40, by kernel_rfl⟩, .inl rfl⟩
theorem q41 : TabQ Try.prog (fun _ => none) pu 41 v41 := ⟨⟨Try.f41, Try.func41, by kernel_rfl⟩, .inr insw41⟩
theorem q42 : TabQ Try.prog (fun _ => none) pu 42 v42 := ⟨⟨Try.f42, Try.func42, by kernel_rfl⟩, .inl rfl⟩
theorem q43 : TabQ Try.prog (fun _ => none) pu 43 v43 := ⟨⟨Try.f43, Try.func43, by kernel_rfl⟩, .inl rfl⟩
theorem q44 : TabQ Try.prog (fun _ => none) pu 44 v44 := ⟨⟨Try.f44, Try.func44, by kernel_rfl⟩, .inl rfl⟩
theorem q45 : TabQ Try.prog (fun _ => none) pu 45 v45 := ⟨⟨Try.f45, Try.func45, by kernel_rfl⟩, .inl rfl⟩
theorem q46 : TabQ Try.prog (fun _ => none) pu 46 v46 := ⟨⟨Try.f46, Try.func46, by kernel_rfl⟩, .inl rfl⟩
theorem q47 : TabQ Try.prog (fun _ => none) pu 47 v47 := ⟨⟨Try.f47, Try.func47, by kernel_rfl⟩, .inl rfl⟩
theorem q50 : TabQ Try.prog (fun _ => none) pu 50 v50 := ⟨⟨Try.f50, Try.func50, by kernel_rfl⟩, .inl rfl⟩
end Go.Proofs.Ytnmneadmlcpaoaa.modelAdmits
