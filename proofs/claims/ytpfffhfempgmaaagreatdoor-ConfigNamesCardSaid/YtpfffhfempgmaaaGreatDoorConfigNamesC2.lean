/- Each function of the table is what the compiler makes of the program's function (part 2). -/
import Derived.Test.YtpfffhfempgmaaaGreatDoorConfigNamesT
import Derived.Test.YtpfffhfempgmaaaGreatDoorVeFinal
import Derived.Test.YtpfffhfempgmaaaGreatDoorChecked
import Derived.KernelRfl
namespace Go.Proofs.YtpfffhfempgmaaaGreatDoor.configNames
open Go Go.VE
set_option maxRecDepth 100000
theorem q28 : TabQ Tryz.prog gl pu 28 v28 := ⟨⟨Tryz.f28, Tryz.func28, by kernel_rfl⟩, .inl rfl⟩
theorem q29 : TabQ Tryz.prog gl pu 29 v29 := ⟨⟨Tryz.f29, Tryz.func29, by kernel_rfl⟩, .inl rfl⟩
theorem q30 : TabQ Tryz.prog gl pu 30 v30 := ⟨⟨Tryz.f30, Tryz.func30, by kernel_rfl⟩, .inl rfl⟩
theorem q31 : TabQ Tryz.prog gl pu 31 v31 := ⟨⟨Tryz.f31, Tryz.func31, by kernel_rfl⟩, .inl rfl⟩
theorem q32 : TabQ Tryz.prog gl pu 32 v32 := ⟨⟨Tryz.f32, Tryz.func32, by kernel_rfl⟩, .inl rfl⟩
theorem q33 : TabQ Tryz.prog gl pu 33 v33 := ⟨⟨Tryz.f33, Tryz.func33, by kernel_rfl⟩, .inl rfl⟩
theorem q34 : TabQ Tryz.prog gl pu 34 v34 := ⟨⟨Tryz.f34, Tryz.func34, by kernel_rfl⟩, .inl rfl⟩
theorem q35 : TabQ Tryz.prog gl pu 35 v35 := ⟨⟨Tryz.f35, Tryz.func35, by kernel_rfl⟩, .inl rfl⟩
theorem q36 : TabQ Tryz.prog gl pu 36 v36 := ⟨⟨Tryz.f36, Tryz.func36, by kernel_rfl⟩, .inl rfl⟩
theorem q37 : TabQ Tryz.prog gl pu 37 v37 := ⟨⟨Tryz.f37, Tryz.func37, by kernel_rfl⟩, .inl rfl⟩
theorem q38 : TabQ Tryz.prog gl pu 38 v38 := ⟨⟨Tryz.f38, Tryz.func38, by kernel_rfl⟩, .inl rfl⟩
theorem q39 : TabQ Tryz.prog gl pu 39 v39 := ⟨⟨Tryz.f39, Tryz.func39, by kernel_rfl⟩, .inl rfl⟩
theorem q40 : TabQ Tryz.prog gl pu 40 v40 := ⟨⟨Tryz.f40, Tryz.func40, by kernel_rfl⟩, .inl rfl⟩
theorem q41 : TabQ Tryz.prog gl pu 41 v41 := ⟨⟨Tryz.f41, Tryz.func41, by kernel_rfl⟩, .inl rfl⟩
theorem q42 : TabQ Tryz.prog gl pu 42 v42 := ⟨⟨Tryz.f42, Tryz.func42, by kernel_rfl⟩, .inl rfl⟩
theorem q43 : TabQ Tryz.prog gl pu 43 v43 := ⟨⟨Tryz.f43, Tryz.func43, by kernel_rfl⟩, .inl rfl⟩
theorem q44 : TabQ Tryz.prog gl pu 44 v44 := ⟨⟨Tryz.f44, Tryz.func44, by kernel_rfl⟩, .inl rfl⟩
theorem q45 : TabQ Tryz.prog gl pu 45 v45 := ⟨⟨Tryz.f45, Tryz.func45, by kernel_rfl⟩, .inl rfl⟩
theorem q46 : TabQ Tryz.prog gl pu 46 v46 := ⟨⟨Tryz.f46, Tryz.func46, by kernel_rfl⟩, .inl rfl⟩
theorem q47 : TabQ Tryz.prog gl pu 47 v47 := ⟨⟨Tryz.f47, Tryz.func47, by kernel_rfl⟩, .inl rfl⟩
theorem q48 : TabQ Tryz.prog gl pu 48 v48 := ⟨⟨Tryz.f48, Tryz.func48, by kernel_rfl⟩, .inl rfl⟩
theorem q49 : TabQ Tryz.prog gl pu 49 v49 := ⟨⟨Tryz.f49, Tryz.func49, by kernel_rfl⟩, .inl rfl⟩
theorem q50 : TabQ Tryz.prog gl pu 50 v50 := ⟨⟨Tryz.f50, Tryz.func50, by kernel_rfl⟩, .inl rfl⟩
theorem q51 : TabQ Tryz.prog gl pu 51 v51 := ⟨⟨Tryz.f51, Tryz.func51, by kernel_rfl⟩, .inl rfl⟩
end Go.Proofs.YtpfffhfempgmaaaGreatDoor.configNames
