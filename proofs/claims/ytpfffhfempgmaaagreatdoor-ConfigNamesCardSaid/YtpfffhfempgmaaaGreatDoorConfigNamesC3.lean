/- Each function of the table is what the compiler makes of the program's function (part 3). -/
import Derived.Test.YtpfffhfempgmaaaGreatDoorConfigNamesT
import Derived.Test.YtpfffhfempgmaaaGreatDoorVeFinal
import Derived.Test.YtpfffhfempgmaaaGreatDoorChecked
import Derived.KernelRfl
namespace Go.Proofs.YtpfffhfempgmaaaGreatDoor.configNames
open Go Go.VE
set_option maxRecDepth 100000
theorem q54 : TabQ Tryz.prog gl pu 54 v54 := ⟨⟨Tryz.f54, Tryz.func54, by kernel_rfl⟩, .inl rfl⟩
theorem q55 : TabQ Tryz.prog gl pu 55 v55 := ⟨⟨Tryz.f55, Tryz.func55, by kernel_rfl⟩, .inl rfl⟩
theorem q56 : TabQ Tryz.prog gl pu 56 v56 := ⟨⟨Tryz.f56, Tryz.func56, by kernel_rfl⟩, .inl rfl⟩
theorem q57 : TabQ Tryz.prog gl pu 57 v57 := ⟨⟨Tryz.f57, Tryz.func57, by kernel_rfl⟩, .inl rfl⟩
theorem q58 : TabQ Tryz.prog gl pu 58 v58 := ⟨⟨Tryz.f58, Tryz.func58, by kernel_rfl⟩, .inl rfl⟩
theorem q59 : TabQ Tryz.prog gl pu 59 v59 := ⟨⟨Tryz.f59, Tryz.func59, by kernel_rfl⟩, .inl rfl⟩
theorem q60 : TabQ Tryz.prog gl pu 60 v60 := ⟨⟨Tryz.f60, Tryz.func60, by kernel_rfl⟩, .inl rfl⟩
theorem q62 : TabQ Tryz.prog gl pu 62 v62 := ⟨⟨Tryz.f62, Tryz.func62, by kernel_rfl⟩, .inl rfl⟩
theorem q63 : TabQ Tryz.prog gl pu 63 v63 := ⟨⟨Tryz.f63, Tryz.func63, by kernel_rfl⟩, .inl rfl⟩
theorem q64 : TabQ Tryz.prog gl pu 64 v64 := ⟨⟨Tryz.f64, Tryz.func64, by kernel_rfl⟩, .inl rfl⟩
theorem q65 : TabQ Tryz.prog gl pu 65 v65 := ⟨⟨Tryz.f65, Tryz.func65, by kernel_rfl⟩, .inl rfl⟩
theorem q70 : TabQ Tryz.prog gl pu 70 v70 := ⟨⟨Tryz.f70, Tryz.func70, by kernel_rfl⟩, .inl rfl⟩
theorem q71 : TabQ Tryz.prog gl pu 71 v71 := ⟨⟨Tryz.f71, Tryz.func71, by kernel_rfl⟩, .inl rfl⟩
theorem q72 : TabQ Tryz.prog gl pu 72 v72 := ⟨⟨Tryz.f72, Tryz.func72, by kernel_rfl⟩, .inl rfl⟩
theorem q73 : TabQ Tryz.prog gl pu 73 v73 := ⟨⟨Tryz.f73, Tryz.func73, by kernel_rfl⟩, .inl rfl⟩
theorem q74 : TabQ Tryz.prog gl pu 74 v74 := ⟨⟨Tryz.f74, Tryz.func74, by kernel_rfl⟩, .inl rfl⟩
theorem q75 : TabQ Tryz.prog gl pu 75 v75 := ⟨⟨Tryz.f75, Tryz.func75, by kernel_rfl⟩, .inl rfl⟩
theorem q76 : TabQ Tryz.prog gl pu 76 v76 := ⟨⟨Tryz.f76, Tryz.func76, by kernel_rfl⟩, .inl rfl⟩
theorem q84 : TabQ Tryz.prog gl pu 84 v84 := ⟨⟨Tryz.f84, Tryz.func84, by kernel_rfl⟩, .inl rfl⟩
theorem q85 : TabQ Tryz.prog gl pu 85 v85 := ⟨⟨Tryz.f85, Tryz.func85, by kernel_rfl⟩, .inl rfl⟩
theorem q86 : TabQ Tryz.prog gl pu 86 v86 := ⟨⟨Tryz.f86, Tryz.func86, by kernel_rfl⟩, .inl rfl⟩
theorem q90 : TabQ Tryz.prog gl pu 90 v90 := ⟨⟨Tryz.f90, Tryz.func90, by kernel_rfl⟩, .inl rfl⟩
theorem q105 : TabQ Tryz.prog gl pu 105 v105 := ⟨⟨Tryz.f105, Tryz.func105, by kernel_rfl⟩, .inl rfl⟩
theorem q107 : TabQ Tryz.prog gl pu 107 v107 := ⟨⟨Tryz.f107, Tryz.func107, by kernel_rfl⟩, .inl rfl⟩
end Go.Proofs.YtpfffhfempgmaaaGreatDoor.configNames
