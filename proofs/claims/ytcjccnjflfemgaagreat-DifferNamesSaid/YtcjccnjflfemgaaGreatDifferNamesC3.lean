/- Each function of the table is what the compiler makes of the program's function (part 3). -/
import Derived.Test.YtcjccnjflfemgaaGreatDifferNamesT
import Derived.Test.YtcjccnjflfemgaaGreatVeFinal
import Derived.Test.YtcjccnjflfemgaaGreatChecked
import Derived.KernelRfl
namespace Go.Proofs.YtcjccnjflfemgaaGreat.differNames
open Go Go.VE
set_option maxRecDepth 100000
theorem q69 : TabQ Tryz.prog gl pu 69 v69 := ⟨⟨Tryz.f69, Tryz.func69, by kernel_rfl⟩, .inl rfl⟩
theorem q70 : TabQ Tryz.prog gl pu 70 v70 := ⟨⟨Tryz.f70, Tryz.func70, by kernel_rfl⟩, .inl rfl⟩
theorem q72 : TabQ Tryz.prog gl pu 72 v72 := ⟨⟨Tryz.f72, Tryz.func72, by kernel_rfl⟩, .inl rfl⟩
theorem q73 : TabQ Tryz.prog gl pu 73 v73 := ⟨⟨Tryz.f73, Tryz.func73, by kernel_rfl⟩, .inl rfl⟩
theorem q74 : TabQ Tryz.prog gl pu 74 v74 := ⟨⟨Tryz.f74, Tryz.func74, by kernel_rfl⟩, .inl rfl⟩
theorem q75 : TabQ Tryz.prog gl pu 75 v75 := ⟨⟨Tryz.f75, Tryz.func75, by kernel_rfl⟩, .inl rfl⟩
theorem q76 : TabQ Tryz.prog gl pu 76 v76 := ⟨⟨Tryz.f76, Tryz.func76, by kernel_rfl⟩, .inl rfl⟩
theorem q86 : TabQ Tryz.prog gl pu 86 v86 := ⟨⟨Tryz.f86, Tryz.func86, by kernel_rfl⟩, .inl rfl⟩
theorem q87 : TabQ Tryz.prog gl pu 87 v87 := ⟨⟨Tryz.f87, Tryz.func87, by kernel_rfl⟩, .inl rfl⟩
theorem q88 : TabQ Tryz.prog gl pu 88 v88 := ⟨⟨Tryz.f88, Tryz.func88, by kernel_rfl⟩, .inl rfl⟩
theorem q89 : TabQ Tryz.prog gl pu 89 v89 := ⟨⟨Tryz.f89, Tryz.func89, by kernel_rfl⟩, .inl rfl⟩
theorem q90 : TabQ Tryz.prog gl pu 90 v90 := ⟨⟨Tryz.f90, Tryz.func90, by kernel_rfl⟩, .inl rfl⟩
theorem q92 : TabQ Tryz.prog gl pu 92 v92 := ⟨⟨Tryz.f92, Tryz.func92, by kernel_rfl⟩, .inl rfl⟩
theorem q93 : TabQ Tryz.prog gl pu 93 v93 := ⟨⟨Tryz.f93, Tryz.func93, by kernel_rfl⟩, .inl rfl⟩
theorem q94 : TabQ Tryz.prog gl pu 94 v94 := ⟨⟨Tryz.f94, Tryz.func94, by kernel_rfl⟩, .inl rfl⟩
theorem q95 : TabQ Tryz.prog gl pu 95 v95 := ⟨⟨Tryz.f95, Tryz.func95, by kernel_rfl⟩, .inl rfl⟩
theorem q96 : TabQ Tryz.prog gl pu 96 v96 := ⟨⟨Tryz.f96, Tryz.func96, by kernel_rfl⟩, .inl rfl⟩
theorem q97 : TabQ Tryz.prog gl pu 97 v97 := ⟨⟨Tryz.f97, Tryz.func97, by kernel_rfl⟩, .inl rfl⟩
theorem q100 : TabQ Tryz.prog gl pu 100 v100 := ⟨⟨Tryz.f100, Tryz.func100, by kernel_rfl⟩, .inl rfl⟩
theorem q103 : TabQ Tryz.prog gl pu 103 v103 := ⟨⟨Tryz.f103, Tryz.func103, by kernel_rfl⟩, .inl rfl⟩
theorem q107 : TabQ Tryz.prog gl pu 107 v107 := ⟨⟨Tryz.f107, Tryz.func107, by kernel_rfl⟩, .inl rfl⟩
theorem q113 : TabQ Tryz.prog gl pu 113 v113 := ⟨⟨Tryz.f113, Tryz.func113, by kernel_rfl⟩, .inl rfl⟩
theorem q114 : TabQ Tryz.prog gl pu 114 v114 := ⟨⟨Tryz.f114, Tryz.func114, by kernel_rfl⟩, .inl rfl⟩
theorem q115 : TabQ Tryz.prog gl pu 115 v115 := ⟨⟨Tryz.f115, Tryz.func115, by kernel_rfl⟩, .inl rfl⟩
theorem q116 : TabQ Tryz.prog gl pu 116 v116 := ⟨⟨Tryz.f116, Tryz.func116, by kernel_rfl⟩, .inl rfl⟩
theorem q117 : TabQ Tryz.prog gl pu 117 v117 := ⟨⟨Tryz.f117, Tryz.func117, by kernel_rfl⟩, .inl rfl⟩
theorem q118 : TabQ Tryz.prog gl pu 118 v118 := ⟨⟨Tryz.f118, Tryz.func118, by kernel_rfl⟩, .inl rfl⟩
theorem q119 : TabQ Tryz.prog gl pu 119 v119 := ⟨⟨Tryz.f119, Tryz.func119, by kernel_rfl⟩, .inl rfl⟩
theorem q121 : TabQ Tryz.prog gl pu 121 v121 := ⟨⟨Tryz.f121, Tryz.func121, by kernel_rfl⟩, .inl rfl⟩
theorem q122 : TabQ Tryz.prog gl pu 122 v122 := ⟨⟨Tryz.f122, Tryz.func122, by kernel_rfl⟩, .inl rfl⟩
theorem q124 : TabQ Tryz.prog gl pu 124 v124 := ⟨⟨Tryz.f124, Tryz.func124, by kernel_rfl⟩, .inl rfl⟩
end Go.Proofs.YtcjccnjflfemgaaGreat.differNames
