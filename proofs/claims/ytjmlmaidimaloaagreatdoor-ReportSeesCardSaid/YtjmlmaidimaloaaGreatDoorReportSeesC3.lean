/- Each function of the table is what the compiler makes of the program's function (part 3). -/
import Derived.Test.YtjmlmaidimaloaaGreatDoorReportSeesT
import Derived.Test.YtjmlmaidimaloaaGreatDoorVeFinal
import Derived.Test.YtjmlmaidimaloaaGreatDoorChecked
import Derived.KernelRfl
import Derived.Test.YtjmlmaidimaloaaGreatDoorReportSeesI
set_option linter.all false
namespace Go.Proofs.YtjmlmaidimaloaaGreatDoor.reportSees
open Go Go.VE Go.VE.LB
set_option maxRecDepth 100000
theorem q80 : TabQ Tryz.prog gl pu 80 v80 := ⟨⟨Tryz.f80, Tryz.func80, by kernel_rfl⟩, .inl rfl⟩
theorem q83 : TabQ Tryz.prog gl pu 83 v83 := ⟨⟨Tryz.f83, Tryz.func83, by kernel_rfl⟩, .inl rfl⟩
theorem q84 : TabQ Tryz.prog gl pu 84 v84 := ⟨⟨Tryz.f84, Tryz.func84, by kernel_rfl⟩, .inl rfl⟩
theorem q85 : TabQ Tryz.prog gl pu 85 v85 := ⟨⟨Tryz.f85, Tryz.func85, by kernel_rfl⟩, .inl rfl⟩
theorem q86 : TabQ Tryz.prog gl pu 86 v86 := ⟨⟨Tryz.f86, Tryz.func86, by kernel_rfl⟩, .inl rfl⟩
theorem q87 : TabQ Tryz.prog gl pu 87 v87 := ⟨⟨Tryz.f87, Tryz.func87, by kernel_rfl⟩, .inl rfl⟩
theorem q88 : TabQ Tryz.prog gl pu 88 v88 := ⟨⟨Tryz.f88, Tryz.func88, by kernel_rfl⟩, .inl rfl⟩
theorem q89 : TabQ Tryz.prog gl pu 89 v89 := ⟨⟨Tryz.f89, Tryz.func89, by kernel_rfl⟩, .inl rfl⟩
theorem q90 : TabQ Tryz.prog gl pu 90 v90 := ⟨⟨Tryz.f90, Tryz.func90, by kernel_rfl⟩, .inl rfl⟩
theorem q91 : TabQ Tryz.prog gl pu 91 v91 := ⟨⟨Tryz.f91, Tryz.func91, by kernel_rfl⟩, .inl rfl⟩
theorem q92 : TabQ Tryz.prog gl pu 92 v92 := ⟨⟨Tryz.f92, Tryz.func92, by kernel_rfl⟩, .inl rfl⟩
theorem q93 : TabQ Tryz.prog gl pu 93 v93 := ⟨⟨Tryz.f93, Tryz.func93, by kernel_rfl⟩, .inl rfl⟩
theorem q94 : TabQ Tryz.prog gl pu 94 v94 := ⟨⟨Tryz.f94, Tryz.func94, by kernel_rfl⟩, .inl rfl⟩
theorem q95 : TabQ Tryz.prog gl pu 95 v95 := ⟨⟨Tryz.f95, Tryz.func95, by kernel_rfl⟩, .inl rfl⟩
theorem q96 : TabQ Tryz.prog gl pu 96 v96 := ⟨⟨Tryz.f96, Tryz.func96, by kernel_rfl⟩, .inl rfl⟩
theorem q97 : TabQ Tryz.prog gl pu 97 v97 := ⟨⟨Tryz.f97, Tryz.func97, by kernel_rfl⟩, .inl rfl⟩
theorem q98 : TabQ Tryz.prog gl pu 98 v98 := ⟨⟨Tryz.f98, Tryz.func98, by kernel_rfl⟩, .inl rfl⟩
theorem q99 : TabQ Tryz.prog gl pu 99 v99 := ⟨⟨Tryz.f99, Tryz.func99, by kernel_rfl⟩, .inl rfl⟩
theorem q101 : TabQ Tryz.prog gl pu 101 v101 := ⟨⟨Tryz.f101, Tryz.func101, by kernel_rfl⟩, .inl rfl⟩
theorem q102 : TabQ Tryz.prog gl pu 102 v102 := ⟨⟨Tryz.f102, Tryz.func102, by kernel_rfl⟩, .inl rfl⟩
theorem q103 : TabQ Tryz.prog gl pu 103 v103 := ⟨⟨Tryz.f103, Tryz.func103, by kernel_rfl⟩, .inl rfl⟩
theorem q104 : TabQ Tryz.prog gl pu 104 v104 := ⟨⟨Tryz.f104, Tryz.func104, by kernel_rfl⟩, .inl rfl⟩
theorem q106 : TabQ Tryz.prog gl pu 106 v106 := ⟨⟨Tryz.f106, Tryz.func106, by kernel_rfl⟩, .inl rfl⟩
theorem q107 : TabQ Tryz.prog gl pu 107 v107 := ⟨⟨Tryz.f107, Tryz.func107, by kernel_rfl⟩, .inl rfl⟩
theorem q108 : TabQ Tryz.prog gl pu 108 v108 := ⟨⟨Tryz.f108, Tryz.func108, by kernel_rfl⟩, .inl rfl⟩
theorem q109 : TabQ Tryz.prog gl pu 109 v109 := ⟨⟨Tryz.f109, Tryz.func109, by kernel_rfl⟩, .inl rfl⟩
theorem q110 : TabQ Tryz.prog gl pu 110 v110 := ⟨⟨Tryz.f110, Tryz.func110, by kernel_rfl⟩, .inl rfl⟩
theorem q111 : TabQ Tryz.prog gl pu 111 v111 := ⟨⟨Tryz.f111, Tryz.func111, by kernel_rfl⟩, .inl rfl⟩
theorem q112 : TabQ Tryz.prog gl pu 112 v112 := ⟨⟨Tryz.f112, Tryz.func112, by kernel_rfl⟩, .inl rfl⟩
theorem q113 : TabQ Tryz.prog gl pu 113 v113 := ⟨⟨Tryz.f113, Tryz.func113, by kernel_rfl⟩, .inl rfl⟩
theorem q114 : TabQ Tryz.prog gl pu 114 v114 := ⟨⟨Tryz.f114, Tryz.func114, by kernel_rfl⟩, .inl rfl⟩
theorem q115 : TabQ Tryz.prog gl pu 115 v115 := ⟨⟨Tryz.f115, Tryz.func115, by kernel_rfl⟩, .inl rfl⟩
theorem q116 : TabQ Tryz.prog gl pu 116 v116 := ⟨⟨Tryz.f116, Tryz.func116, by kernel_rfl⟩, .inl rfl⟩
theorem q117 : TabQ Tryz.prog gl pu 117 v117 := ⟨⟨Tryz.f117, Tryz.func117, by kernel_rfl⟩, .inl rfl⟩
theorem q118 : TabQ Tryz.prog gl pu 118 v118 := ⟨⟨Tryz.f118, Tryz.func118, by kernel_rfl⟩, .inl rfl⟩
theorem q119 : TabQ Tryz.prog gl pu 119 v119 := ⟨⟨Tryz.f119, Tryz.func119, by kernel_rfl⟩, .inl rfl⟩
theorem q123 : TabQ Tryz.prog gl pu 123 v123 := ⟨⟨Tryz.f123, Tryz.func123, by kernel_rfl⟩, .inl rfl⟩
end Go.Proofs.YtjmlmaidimaloaaGreatDoor.reportSees
