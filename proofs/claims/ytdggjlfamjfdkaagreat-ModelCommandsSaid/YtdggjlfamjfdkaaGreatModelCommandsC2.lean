/- Each function of the table is what the compiler makes of the program's function (part 2). -/
import Derived.Test.YtdggjlfamjfdkaaGreatModelCommandsT
import Derived.Test.YtdggjlfamjfdkaaGreatVeFinal
import Derived.Test.YtdggjlfamjfdkaaGreatChecked
import Derived.KernelRfl
import Derived.Test.YtdggjlfamjfdkaaGreatModelCommandsI
set_option linter.all false
namespace Go.Proofs.YtdggjlfamjfdkaaGreat.modelCommands
open Go Go.VE Go.VE.LB
set_option maxRecDepth 100000
theorem q36 : TabQ Tryz.prog (fun _ => none) pu 36 v36 := ⟨⟨Tryz.f36, Tryz.func36, by kernel_rfl⟩, .inl rfl⟩
theorem q37 : TabQ Tryz.prog (fun _ => none) pu 37 v37 := ⟨⟨Tryz.f37, Tryz.func37, by kernel_rfl⟩, .inl rfl⟩
theorem q38 : TabQ Tryz.prog (fun _ => none) pu 38 v38 := ⟨⟨Tryz.f38, Tryz.func38, by kernel_rfl⟩, .inl rfl⟩
theorem q39 : TabQ Tryz.prog (fun _ => none) pu 39 v39 := ⟨⟨Tryz.f39, Tryz.func39, by kernel_rfl⟩, .inl rfl⟩
theorem q40 : TabQ Tryz.prog (fun _ => none) pu 40 v40 := ⟨⟨Tryz.f40, Tryz.func40, by kernel_rfl⟩, .inl rfl⟩
theorem q41 : TabQ Tryz.prog (fun _ => none) pu 41 v41 := ⟨⟨Tryz.f41, Tryz.func41, by kernel_rfl⟩, .inr insw41⟩
theorem q42 : TabQ Tryz.prog (fun _ => none) pu 42 v42 := ⟨⟨Tryz.f42, Tryz.func42, by kernel_rfl⟩, .inl rfl⟩
theorem q43 : TabQ Tryz.prog (fun _ => none) pu 43 v43 := ⟨⟨Tryz.f43, Tryz.func43, by kernel_rfl⟩, .inl rfl⟩
theorem q44 : TabQ Tryz.prog (fun _ => none) pu 44 v44 := ⟨⟨Tryz.f44, Tryz.func44, by kernel_rfl⟩, .inl rfl⟩
theorem q45 : TabQ Tryz.prog (fun _ => none) pu 45 v45 := ⟨⟨Tryz.f45, Tryz.func45, by kernel_rfl⟩, .inl rfl⟩
theorem q46 : TabQ Tryz.prog (fun _ => none) pu 46 v46 := ⟨⟨Tryz.f46, Tryz.func46, by kernel_rfl⟩, .inl rfl⟩
theorem q47 : TabQ Tryz.prog (fun _ => none) pu 47 v47 := ⟨⟨Tryz.f47, Tryz.func47, by kernel_rfl⟩, .inl rfl⟩
theorem q48 : TabQ Tryz.prog (fun _ => none) pu 48 v48 := ⟨⟨Tryz.f48, Tryz.func48, by kernel_rfl⟩, .inl rfl⟩
theorem q49 : TabQ Tryz.prog (fun _ => none) pu 49 v49 := ⟨⟨Tryz.f49, Tryz.func49, by kernel_rfl⟩, .inl rfl⟩
theorem q50 : TabQ Tryz.prog (fun _ => none) pu 50 v50 := ⟨⟨Tryz.f50, Tryz.func50, by kernel_rfl⟩, .inl rfl⟩
theorem q51 : TabQ Tryz.prog (fun _ => none) pu 51 v51 := ⟨⟨Tryz.f51, Tryz.func51, by kernel_rfl⟩, .inl rfl⟩
theorem q52 : TabQ Tryz.prog (fun _ => none) pu 52 v52 := ⟨⟨Tryz.f52, Tryz.func52, by kernel_rfl⟩, .inl rfl⟩
theorem q53 : TabQ Tryz.prog (fun _ => none) pu 53 v53 := ⟨⟨Tryz.f53, Tryz.func53, by kernel_rfl⟩, .inl rfl⟩
theorem q54 : TabQ Tryz.prog (fun _ => none) pu 54 v54 := ⟨⟨Tryz.f54, Tryz.func54, by kernel_rfl⟩, .inl rfl⟩
theorem q55 : TabQ Tryz.prog (fun _ => none) pu 55 v55 := ⟨⟨Tryz.f55, Tryz.func55, by kernel_rfl⟩, .inl rfl⟩
theorem q56 : TabQ Tryz.prog (fun _ => none) pu 56 v56 := ⟨⟨Tryz.f56, Tryz.func56, by kernel_rfl⟩, .inl rfl⟩
theorem q57 : TabQ Tryz.prog (fun _ => none) pu 57 v57 := ⟨⟨Tryz.f57, Tryz.func57, by kernel_rfl⟩, .inl rfl⟩
theorem q58 : TabQ Tryz.prog (fun _ => none) pu 58 v58 := ⟨⟨Tryz.f58, Tryz.func58, by kernel_rfl⟩, .inl rfl⟩
theorem q59 : TabQ Tryz.prog (fun _ => none) pu 59 v59 := ⟨⟨Tryz.f59, Tryz.func59, by kernel_rfl⟩, .inl rfl⟩
theorem q60 : TabQ Tryz.prog (fun _ => none) pu 60 v60 := ⟨⟨Tryz.f60, Tryz.func60, by kernel_rfl⟩, .inl rfl⟩
theorem q61 : TabQ Tryz.prog (fun _ => none) pu 61 v61 := ⟨⟨Tryz.f61, Tryz.func61, by kernel_rfl⟩, .inl rfl⟩
theorem q62 : TabQ Tryz.prog (fun _ => none) pu 62 v62 := ⟨⟨Tryz.f62, Tryz.func62, by kernel_rfl⟩, .inl rfl⟩
theorem q63 : TabQ Tryz.prog (fun _ => none) pu 63 v63 := ⟨⟨Tryz.f63, Tryz.func63, by kernel_rfl⟩, .inl rfl⟩
theorem q64 : TabQ Tryz.prog (fun _ => none) pu 64 v64 := ⟨⟨Tryz.f64, Tryz.func64, by kernel_rfl⟩, .inl rfl⟩
theorem q67 : TabQ Tryz.prog (fun _ => none) pu 67 v67 := ⟨⟨Tryz.f67, Tryz.func67, by kernel_rfl⟩, .inl rfl⟩
theorem q68 : TabQ Tryz.prog (fun _ => none) pu 68 v68 := ⟨⟨Tryz.f68, Tryz.func68, by kernel_rfl⟩, .inl rfl⟩
theorem q69 : TabQ Tryz.prog (fun _ => none) pu 69 v69 := ⟨⟨Tryz.f69, Tryz.func69, by kernel_rfl⟩, .inl rfl⟩
theorem q70 : TabQ Tryz.prog (fun _ => none) pu 70 v70 := ⟨⟨Tryz.f70, Tryz.func70, by kernel_rfl⟩, .inr insw70⟩
end Go.Proofs.YtdggjlfamjfdkaaGreat.modelCommands
