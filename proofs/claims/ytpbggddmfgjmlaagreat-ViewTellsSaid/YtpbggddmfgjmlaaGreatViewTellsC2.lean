/- Each function of the table is what the compiler makes of the program's function (part 2). -/
import Derived.Test.YtpbggddmfgjmlaaGreatViewTellsT
import Derived.Test.YtpbggddmfgjmlaaGreatVeFinal
import Derived.Test.YtpbggddmfgjmlaaGreatChecked
import Derived.KernelRfl
import Derived.Test.YtpbggddmfgjmlaaGreatViewTellsI
set_option linter.all false
namespace Go.Proofs.YtpbggddmfgjmlaaGreat.viewTells
open Go Go.VE Go.VE.LB
set_option maxRecDepth 100000
abbrev Q1 (i : Nat) (v : VFn) : Prop := TabQ Tryz.prog (fun _ => none) pu i v
theorem q47 : Q1 47 v47 := ⟨⟨Tryz.f47, Tryz.func47, by kernel_rfl⟩, .inl rfl⟩
theorem q48 : Q1 48 v48 := ⟨⟨Tryz.f48, Tryz.func48, by kernel_rfl⟩, .inl rfl⟩
theorem q49 : Q1 49 v49 := ⟨⟨Tryz.f49, Tryz.func49, by kernel_rfl⟩, .inl rfl⟩
theorem q50 : Q1 50 v50 := ⟨⟨Tryz.f50, Tryz.func50, by kernel_rfl⟩, .inl rfl⟩
theorem q51 : Q1 51 v51 := ⟨⟨Tryz.f51, Tryz.func51, by kernel_rfl⟩, .inl rfl⟩
theorem q52 : Q1 52 v52 := ⟨⟨Tryz.f52, Tryz.func52, by kernel_rfl⟩, .inl rfl⟩
theorem q53 : Q1 53 v53 := ⟨⟨Tryz.f53, Tryz.func53, by kernel_rfl⟩, .inl rfl⟩
theorem q54 : Q1 54 v54 := ⟨⟨Tryz.f54, Tryz.func54, by kernel_rfl⟩, .inl rfl⟩
theorem q55 : Q1 55 v55 := ⟨⟨Tryz.f55, Tryz.func55, by kernel_rfl⟩, .inl rfl⟩
theorem q56 : Q1 56 v56 := ⟨⟨Tryz.f56, Tryz.func56, by kernel_rfl⟩, .inl rfl⟩
theorem q57 : Q1 57 v57 := ⟨⟨Tryz.f57, Tryz.func57, by kernel_rfl⟩, .inl rfl⟩
theorem q58 : Q1 58 v58 := ⟨⟨Tryz.f58, Tryz.func58, by kernel_rfl⟩, .inl rfl⟩
theorem q59 : Q1 59 v59 := ⟨⟨Tryz.f59, Tryz.func59, by kernel_rfl⟩, .inl rfl⟩
theorem q60 : Q1 60 v60 := ⟨⟨Tryz.f60, Tryz.func60, by kernel_rfl⟩, .inl rfl⟩
theorem q61 : Q1 61 v61 := ⟨⟨Tryz.f61, Tryz.func61, by kernel_rfl⟩, .inl rfl⟩
theorem q62 : Q1 62 v62 := ⟨⟨Tryz.f62, Tryz.func62, by kernel_rfl⟩, .inl rfl⟩
theorem q63 : Q1 63 v63 := ⟨⟨Tryz.f63, Tryz.func63, by kernel_rfl⟩, .inl rfl⟩
theorem q64 : Q1 64 v64 := ⟨⟨Tryz.f64, Tryz.func64, by kernel_rfl⟩, .inl rfl⟩
theorem q65 : Q1 65 v65 := ⟨⟨Tryz.f65, Tryz.func65, by kernel_rfl⟩, .inl rfl⟩
theorem q66 : Q1 66 v66 := ⟨⟨Tryz.f66, Tryz.func66, by kernel_rfl⟩, .inl rfl⟩
theorem q69 : Q1 69 v69 := ⟨⟨Tryz.f69, Tryz.func69, by kernel_rfl⟩, .inl rfl⟩
theorem q70 : Q1 70 v70 := ⟨⟨Tryz.f70, Tryz.func70, by kernel_rfl⟩, .inl rfl⟩
theorem q71 : Q1 71 v71 := ⟨⟨Tryz.f71, Tryz.func71, by kernel_rfl⟩, .inl rfl⟩
theorem q72 : Q1 72 v72 := ⟨⟨Tryz.f72, Tryz.func72, by kernel_rfl⟩, .inl rfl⟩
theorem q73 : Q1 73 v73 := ⟨⟨Tryz.f73, Tryz.func73, by kernel_rfl⟩, .inl rfl⟩
theorem q74 : Q1 74 v74 := ⟨⟨Tryz.f74, Tryz.func74, by kernel_rfl⟩, .inl rfl⟩
theorem q75 : Q1 75 v75 := ⟨⟨Tryz.f75, Tryz.func75, by kernel_rfl⟩, .inl rfl⟩
theorem q76 : Q1 76 v76 := ⟨⟨Tryz.f76, Tryz.func76, by kernel_rfl⟩, .inl rfl⟩
theorem q77 : Q1 77 v77 := ⟨⟨Tryz.f77, Tryz.func77, by kernel_rfl⟩, .inl rfl⟩
theorem q78 : Q1 78 v78 := ⟨⟨Tryz.f78, Tryz.func78, by kernel_rfl⟩, .inl rfl⟩
theorem q79 : Q1 79 v79 := ⟨⟨Tryz.f79, Tryz.func79, by kernel_rfl⟩, .inl rfl⟩
theorem q80 : Q1 80 v80 := ⟨⟨Tryz.f80, Tryz.func80, by kernel_rfl⟩, .inl rfl⟩
theorem q81 : Q1 81 v81 := ⟨⟨Tryz.f81, Tryz.func81, by kernel_rfl⟩, .inl rfl⟩
theorem q82 : Q1 82 v82 := ⟨⟨Tryz.f82, Tryz.func82, by kernel_rfl⟩, .inl rfl⟩
theorem q83 : Q1 83 v83 := ⟨⟨Tryz.f83, Tryz.func83, by kernel_rfl⟩, .inl rfl⟩
theorem q84 : Q1 84 v84 := ⟨⟨Tryz.f84, Tryz.func84, by kernel_rfl⟩, .inl rfl⟩
theorem q85 : Q1 85 v85 := ⟨⟨Tryz.f85, Tryz.func85, by kernel_rfl⟩, .inl rfl⟩
theorem q86 : Q1 86 v86 := ⟨⟨Tryz.f86, Tryz.func86, by kernel_rfl⟩, .inl rfl⟩
theorem q87 : Q1 87 v87 := ⟨⟨Tryz.f87, Tryz.func87, by kernel_rfl⟩, .inl rfl⟩
theorem q88 : Q1 88 v88 := ⟨⟨Tryz.f88, Tryz.func88, by kernel_rfl⟩, .inl rfl⟩
theorem q89 : Q1 89 v89 := ⟨⟨Tryz.f89, Tryz.func89, by kernel_rfl⟩, .inl rfl⟩
theorem q90 : Q1 90 v90 := ⟨⟨Tryz.f90, Tryz.func90, by kernel_rfl⟩, .inl rfl⟩
theorem q91 : Q1 91 v91 := ⟨⟨Tryz.f91, Tryz.func91, by kernel_rfl⟩, .inl rfl⟩
theorem q92 : Q1 92 v92 := ⟨⟨Tryz.f92, Tryz.func92, by kernel_rfl⟩, .inl rfl⟩
end Go.Proofs.YtpbggddmfgjmlaaGreat.viewTells
