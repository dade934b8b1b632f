/- Each function of the table is what the compiler makes of the program's function (part 3). -/
import Derived.Test.YtnmneadmlcpaoaaModelAdmitsT
import Derived.Test.YtnmneadmlcpaoaaVeFinal
import Derived.Test.YtnmneadmlcpaoaaChecked
import Derived.KernelRfl
import Derived.Test.YtnmneadmlcpaoaaModelAdmitsI
set_option linter.all false
namespace Go.Proofs.Ytnmneadmlcpaoaa.modelAdmits
open Go Go.VE Go.VE.LB
set_option maxRecDepth 100000
theorem q51 : TabQ Try.prog (fun _ => none) pu 51 v51 := ⟨⟨Try.f51, Try.func51, by kernel_rfl⟩, .inl rfl⟩
theorem q52 : TabQ Try.prog (fun _ => none) pu 52 v52 := ⟨⟨Try.f52, Try.func52, by kernel_rfl⟩, .inl rfl⟩
theorem q53 : TabQ Try.prog (fun _ => none) pu 53 v53 := ⟨⟨Try.f53, Try.func53, by kernel_rfl⟩, .inl rfl⟩
theorem q54 : TabQ Try.prog (fun _ => none) pu 54 v54 := ⟨⟨Try.f54, Try.func54, by kernel_rfl⟩, .inl rfl⟩
theorem q55 : TabQ Try.prog (fun _ => none) pu 55 v55 := ⟨⟨Try.f55, Try.func55, by kernel_rfl⟩, .inl rfl⟩
theorem q56 : TabQ Try.prog (fun _ => none) pu 56 v56 := ⟨⟨Try.f56, Try.func56, by kernel_rfl⟩, .inl rfl⟩
theorem q57 : TabQ Try.prog (fun _ => none) pu 57 v57 := ⟨⟨Try.f57, Try.func57, by kernel_rfl⟩, .inl rfl⟩
theorem q58 : TabQ Try.prog (fun _ => none) pu 58 v58 := ⟨⟨Try.f58, Try.func58, by kernel_rfl⟩, .inl rfl⟩
theorem q60 : TabQ Try.prog (fun _ => none) pu 60 v60 := ⟨⟨Try.f60, Try.func60, by kernel_rfl⟩, .inl rfl⟩
theorem q61 : TabQ Try.prog (fun _ => none) pu 61 v61 := ⟨⟨Try.f61, Try.func61, by kernel_rfl⟩, .inl rfl⟩
theorem q62 : TabQ Try.prog (fun _ => none) pu 62 v62 := ⟨⟨Try.f62, Try.func62, by kernel_rfl⟩, .inl rfl⟩
theorem q63 : TabQ Try.prog (fun _ => none) pu 63 v63 := ⟨⟨Try.f63, Try.func63, by kernel_rfl⟩, .inl rfl⟩
theorem q64 : TabQ Try.prog (fun _ => none) pu 64 v64 := ⟨⟨Try.f64, Try.func64, by kernel_rfl⟩, .inl rfl⟩
theorem q66 : TabQ Try.prog (fun _ => none) pu 66 v66 := ⟨⟨Try.f66, Try.func66, by kernel_rfl⟩, .inl rfl⟩
theorem q67 : TabQ Try.prog (fun _ => none) pu 67 v67 := ⟨⟨Try.f67, Try.func67, by kernel_rfl⟩, .inl rfl⟩
theorem q68 : TabQ Try.prog (fun _ => none) pu 68 v68 := ⟨⟨Try.f68, Try.func68, by kernel_rfl⟩, .inl rfl⟩
theorem q70 : TabQ Try.prog (fun _ => none) pu 70 v70 := ⟨⟨Try.f70, Try.func70, by kernel_rfl⟩, .inl rfl⟩
theorem q71 : TabQ Try.prog (fun _ => none) pu 71 v71 := ⟨⟨Try.f71, Try.func71, by kernel_rfl⟩, .inl rfl⟩
theorem q72 : TabQ Try.prog (fun _ => none) pu 72 v72 := ⟨⟨Try.f72, Try.func72, by kernel_rfl⟩, .inl rfl⟩
theorem q74 : TabQ Try.prog (fun _ => none) pu 74 v74 := ⟨⟨Try.f74, Try.func74, by kernel_rfl⟩, .inl rfl⟩
theorem q75 : TabQ Try.prog (fun _ => none) pu 75 v75 := ⟨⟨Try.f75, Try.func75, by kernel_rfl⟩, .inl rfl⟩
end Go.Proofs.Ytnmneadmlcpaoaa.modelAdmits
