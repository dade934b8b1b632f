/- Each function of the table is what the compiler makes of the program's function (part 2). -/
import Derived.Test.YtjmlmaidimaloaaGreatDoorReportSeesT
import Derived.Test.YtjmlmaidimaloaaGreatDoorVeFinal
import Derived.Test.YtjmlmaidimaloaaGreatDoorChecked
import Derived.KernelRfl
import Derived.Test.YtjmlmaidimaloaaGreatDoorReportSeesI
set_option linter.all false
namespace Go.Proofs.YtjmlmaidimaloaaGreatDoor.reportSees
open Go Go.VE Go.VE.LB
set_option maxRecDepth 100000
theorem q41 : TabQ Tryz.prog gl pu 41 v41 := ⟨⟨Tryz.f41, Tryz.func41, by kernel_rfl⟩, .inl rfl⟩
theorem q42 : TabQ Tryz.prog gl pu 42 v42 := ⟨⟨Tryz.f42, Tryz.func42, by kernel_rfl⟩, .inl rfl⟩
theorem q43 : TabQ Tryz.prog gl pu 43 v43 := ⟨⟨Tryz.f43, Tryz.func43, by kernel_rfl⟩, .inl rfl⟩
theorem q44 : TabQ Tryz.prog gl pu 44 v44 := ⟨⟨Tryz.f44, Tryz.func44, by kernel_rfl⟩, .inl rfl⟩
theorem q45 : TabQ Tryz.prog gl pu 45 v45 := ⟨⟨Tryz.f45, Tryz.func45, by kernel_rfl⟩, .inl rfl⟩
theorem q46 : TabQ Tryz.prog gl pu 46 v46 := ⟨⟨Tryz.f46, Tryz.func46, by kernel_rfl⟩, .inl rfl⟩
theorem q47 : TabQ Tryz.prog gl pu 47 v47 := ⟨⟨Tryz.f47, Tryz.func47, by kernel_rfl⟩, .inl rfl⟩
theorem q48 : TabQ Tryz.prog gl pu 48 v48 := ⟨⟨Tryz.f48, Tryz.func48, by kernel_rfl⟩, .inl rfl⟩
theorem q49 : TabQ Tryz.prog gl pu 49 v49 := ⟨⟨Tryz.f49, Tryz.func49, by kernel_rfl⟩, .inl rfl⟩
theorem q50 : TabQ Tryz.prog gl pu 50 v50 := ⟨⟨Tryz.f50, Tryz.func50, by kernel_rfl⟩, .inl rfl⟩
theorem q51 : TabQ Tryz.prog gl pu 51 v51 := ⟨⟨Tryz.f51, Tryz.func51, by kernel_rfl⟩, .inl rfl⟩
theorem q52 : TabQ Tryz.prog gl pu 52 v52 := ⟨⟨Tryz.f52, Tryz.func52, by kernel_rfl⟩, .inl rfl⟩
theorem q53 : TabQ Tryz.prog gl pu 53 v53 := ⟨⟨Tryz.f53, Tryz.func53, by kernel_rfl⟩, .inr insw53⟩
theorem q54 : TabQ Tryz.prog gl pu 54 v54 := ⟨⟨Tryz.f54, Tryz.func54, by kernel_rfl⟩, .inl rfl⟩
theorem q55 : TabQ Tryz.prog gl pu 55 v55 := ⟨⟨Tryz.f55, Tryz.func55, by kernel_rfl⟩, .inl rfl⟩
theorem q56 : TabQ Tryz.prog gl pu 56 v56 := ⟨⟨Tryz.f56, Tryz.func56, by kernel_rfl⟩, .inl rfl⟩
theorem q57 : TabQ Tryz.prog gl pu 57 v57 := ⟨⟨Tryz.f57, Tryz.func57, by kernel_rfl⟩, .inl rfl⟩
theorem q58 : TabQ Tryz.prog gl pu 58 v58 := ⟨⟨Tryz.f58, Tryz.func58, by kernel_rfl⟩, .inl rfl⟩
theorem q59 : TabQ Tryz.prog gl pu 59 v59 := ⟨⟨Tryz.f59, Tryz.func59, by kernel_rfl⟩, .inl rfl⟩
theorem q60 : TabQ Tryz.prog gl pu 60 v60 := ⟨⟨Tryz.f60, Tryz.func60, by kernel_rfl⟩, .inl rfl⟩
theorem q61 : TabQ Tryz.prog gl pu 61 v61 := ⟨⟨Tryz.f61, Tryz.func61, by kernel_rfl⟩, .inl rfl⟩
theorem q62 : TabQ Tryz.prog gl pu 62 v62 := ⟨⟨Tryz.f62, Tryz.func62, by kernel_rfl⟩, .inl rfl⟩
theorem q63 : TabQ Tryz.prog gl pu 63 v63 := ⟨⟨Tryz.f63, Tryz.func63, by kernel_rfl⟩, .inl rfl⟩
theorem q64 : TabQ Tryz.prog gl pu 64 v64 := ⟨⟨Tryz.f64, Tryz.func64, by kernel_rfl⟩, .inl rfl⟩
theorem q65 : TabQ Tryz.prog gl pu 65 v65 := ⟨⟨Tryz.f65, Tryz.func65, by kernel_rfl⟩, .inl rfl⟩
theorem q66 : TabQ Tryz.prog gl pu 66 v66 := ⟨⟨Tryz.f66, Tryz.func66, by kernel_rfl⟩, .inl rfl⟩
theorem q67 : TabQ Tryz.prog gl pu 67 v67 := ⟨⟨Tryz.f67, Tryz.func67, by kernel_rfl⟩, .inl rfl⟩
theorem q68 : TabQ Tryz.prog gl pu 68 v68 := ⟨⟨Tryz.f68, Tryz.func68, by kernel_rfl⟩, .inl rfl⟩
theorem q70 : TabQ Tryz.prog gl pu 70 v70 := ⟨⟨Tryz.f70, Tryz.func70, by kernel_rfl⟩, .inl rfl⟩
theorem q71 : TabQ Tryz.prog gl pu 71 v71 := ⟨⟨Tryz.f71, Tryz.func71, by kernel_rfl⟩, .inl rfl⟩
theorem q72 : TabQ Tryz.prog gl pu 72 v72 := ⟨⟨Tryz.f72, Tryz.func72, by kernel_rfl⟩, .inl rfl⟩
theorem q73 : TabQ Tryz.prog gl pu 73 v73 := ⟨⟨Tryz.f73, Tryz.func73, by kernel_rfl⟩, .inl rfl⟩
theorem q74 : TabQ Tryz.prog gl pu 74 v74 := ⟨⟨Tryz.f74, Tryz.func74, by kernel_rfl⟩, .inl rfl⟩
theorem q75 : TabQ Tryz.prog gl pu 75 v75 := ⟨⟨Tryz.f75, Tryz.func75, by kernel_rfl⟩, .inl rfl⟩
theorem q76 : TabQ Tryz.prog gl pu 76 v76 := ⟨⟨Tryz.f76, Tryz.func76, by kernel_rfl⟩, .inl rfl⟩
theorem q77 : TabQ Tryz.prog gl pu 77 v77 := ⟨⟨Tryz.f77, Tryz.func77, by kernel_rfl⟩, .inl rfl⟩
theorem q78 : TabQ Tryz.prog gl pu 78 v78 := ⟨⟨Tryz.f78, Tryz.func78, by kernel_rfl⟩, .inl rfl⟩
theorem q79 : TabQ Tryz.prog gl pu 79 v79 := ⟨⟨Tryz.f79, Tryz.func79, by kernel_rfl⟩, .inl rfl⟩
end Go.Proofs.YtjmlmaidimaloaaGreatDoor.reportSees
