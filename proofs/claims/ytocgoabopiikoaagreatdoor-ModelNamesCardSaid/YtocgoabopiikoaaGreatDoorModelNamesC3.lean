/- Each function of the table is what the compiler makes of the program's function (part 3). -/
import Derived.Test.YtocgoabopiikoaaGreatDoorModelNamesT
import Derived.Test.YtocgoabopiikoaaGreatDoorVeFinal
import Derived.Test.YtocgoabopiikoaaGreatDoorChecked
import Derived.KernelRfl
import Derived.Test.YtocgoabopiikoaaGreatDoorModelNamesI
namespace Go.Proofs.YtocgoabopiikoaaGreatDoor.modelNames
open Go Go.VE
set_option maxRecDepth 100000
theorem q55 : TabQ Tryz.prog gl pu 55 v55 := ⟨⟨Tryz.f55, Tryz.func55, by kernel_rfl⟩, .inr insw55⟩
theorem q56 : TabQ Tryz.prog gl pu 56 v56 := ⟨⟨Tryz.f56, Tryz.func56, by kernel_rfl⟩, .inl rfl⟩
theorem q57 : TabQ Tryz.prog gl pu 57 v57 := ⟨⟨Tryz.f57, Tryz.func57, by kernel_rfl⟩, .inl rfl⟩
theorem q58 : TabQ Tryz.prog gl pu 58 v58 := ⟨⟨Tryz.f58, Tryz.func58, by kernel_rfl⟩, .inl rfl⟩
theorem q59 : TabQ Tryz.prog gl pu 59 v59 := ⟨⟨Tryz.f59, Tryz.func59, by kernel_rfl⟩, .inl rfl⟩
theorem q60 : TabQ Tryz.prog gl pu 60 v60 := ⟨⟨Tryz.f60, Tryz.func60, by kernel_rfl⟩, .inl rfl⟩
theorem q68 : TabQ Tryz.prog gl pu 68 v68 := ⟨⟨Tryz.f68, Tryz.func68, by kernel_rfl⟩, .inl rfl⟩
theorem q69 : TabQ Tryz.prog gl pu 69 v69 := ⟨⟨Tryz.f69, Tryz.func69, by kernel_rfl⟩, .inl rfl⟩
theorem q70 : TabQ Tryz.prog gl pu 70 v70 := ⟨⟨Tryz.f70, Tryz.func70, by kernel_rfl⟩, .inl rfl⟩
theorem q77 : TabQ Tryz.prog gl pu 77 v77 := ⟨⟨Tryz.f77, Tryz.func77, by kernel_rfl⟩, .inl rfl⟩
theorem q80 : TabQ Tryz.prog gl pu 80 v80 := ⟨⟨Tryz.f80, Tryz.func80, by kernel_rfl⟩, .inl rfl⟩
theorem q81 : TabQ Tryz.prog gl pu 81 v81 := ⟨⟨Tryz.f81, Tryz.func81, by kernel_rfl⟩, .inl rfl⟩
theorem q82 : TabQ Tryz.prog gl pu 82 v82 := ⟨⟨Tryz.f82, Tryz.func82, by kernel_rfl⟩, .inl rfl⟩
theorem q83 : TabQ Tryz.prog gl pu 83 v83 := ⟨⟨Tryz.f83, Tryz.func83, by kernel_rfl⟩, .inl rfl⟩
theorem q91 : TabQ Tryz.prog gl pu 91 v91 := ⟨⟨Tryz.f91, Tryz.func91, by kernel_rfl⟩, .inl rfl⟩
theorem q104 : TabQ Tryz.prog gl pu 104 v104 := ⟨⟨Tryz.f104, Tryz.func104, by kernel_rfl⟩, .inl rfl⟩
theorem q105 : TabQ Tryz.prog gl pu 105 v105 := ⟨⟨Tryz.f105, Tryz.func105, by kernel_rfl⟩, .inl rfl⟩
theorem q106 : TabQ Tryz.prog gl pu 106 v106 := ⟨⟨Tryz.f106, Tryz.func106, by kernel_rfl⟩, .inl rfl⟩
theorem q107 : TabQ Tryz.prog gl pu 107 v107 := ⟨⟨Tryz.f107, Tryz.func107, by kernel_rfl⟩, .inl rfl⟩
theorem q108 : TabQ Tryz.prog gl pu 108 v108 := ⟨⟨Tryz.f108, Tryz.func108, by kernel_rfl⟩, .inl rfl⟩
theorem q136 : TabQ Tryz.prog gl pu 136 v136 := ⟨⟨Tryz.f136, Tryz.func136, by kernel_rfl⟩, .inl rfl⟩
end Go.Proofs.YtocgoabopiikoaaGreatDoor.modelNames
