/- Each function of the table is what the compiler makes of the program's function (part 3). -/
import Derived.Test.YtpfffhfempgmaabGreatDoorReportNamesT
import Derived.Test.YtpfffhfempgmaabGreatDoorVeFinal
import Derived.Test.YtpfffhfempgmaabGreatDoorChecked
import Derived.KernelRfl
import Derived.Test.YtpfffhfempgmaabGreatDoorReportNamesI
namespace Go.Proofs.YtpfffhfempgmaabGreatDoor.reportNames
open Go Go.VE
set_option maxRecDepth 100000
theorem q99 : TabQ Tryz.prog gl pu 99 v99 := ⟨⟨Tryz.f99, Tryz.func99, by kernel_rfl⟩, .inl rfl⟩
theorem q100 : TabQ Tryz.prog gl pu 100 v100 := ⟨⟨Tryz.f100, Tryz.func100, by kernel_rfl⟩, .inl rfl⟩
theorem q101 : TabQ Tryz.prog gl pu 101 v101 := ⟨⟨Tryz.f101, Tryz.func101, by kernel_rfl⟩, .inl rfl⟩
theorem q102 : TabQ Tryz.prog gl pu 102 v102 := ⟨⟨Tryz.f102, Tryz.func102, by kernel_rfl⟩, .inl rfl⟩
theorem q103 : TabQ Tryz.prog gl pu 103 v103 := ⟨⟨Tryz.f103, Tryz.func103, by kernel_rfl⟩, .inl rfl⟩
theorem q104 : TabQ Tryz.prog gl pu 104 v104 := ⟨⟨Tryz.f104, Tryz.func104, by kernel_rfl⟩, .inl rfl⟩
theorem q105 : TabQ Tryz.prog gl pu 105 v105 := ⟨⟨Tryz.f105, Tryz.func105, by kernel_rfl⟩, .inl rfl⟩
theorem q106 : TabQ Tryz.prog gl pu 106 v106 := ⟨⟨Tryz.f106, Tryz.func106, by kernel_rfl⟩, .inl rfl⟩
theorem q109 : TabQ Tryz.prog gl pu 109 v109 := ⟨⟨Tryz.f109, Tryz.func109, by kernel_rfl⟩, .inl rfl⟩
theorem q110 : TabQ Tryz.prog gl pu 110 v110 := ⟨⟨Tryz.f110, Tryz.func110, by kernel_rfl⟩, .inl rfl⟩
theorem q111 : TabQ Tryz.prog gl pu 111 v111 := ⟨⟨Tryz.f111, Tryz.func111, by kernel_rfl⟩, .inl rfl⟩
theorem q112 : TabQ Tryz.prog gl pu 112 v112 := ⟨⟨Tryz.f112, Tryz.func112, by kernel_rfl⟩, .inl rfl⟩
theorem q113 : TabQ Tryz.prog gl pu 113 v113 := ⟨⟨Tryz.f113, Tryz.func113, by kernel_rfl⟩, .inl rfl⟩
theorem q114 : TabQ Tryz.prog gl pu 114 v114 := ⟨⟨Tryz.f114, Tryz.func114, by kernel_rfl⟩, .inl rfl⟩
theorem q115 : TabQ Tryz.prog gl pu 115 v115 := ⟨⟨Tryz.f115, Tryz.func115, by kernel_rfl⟩, .inl rfl⟩
theorem q122 : TabQ Tryz.prog gl pu 122 v122 := ⟨⟨Tryz.f122, Tryz.func122, by kernel_rfl⟩, .inl rfl⟩
theorem q123 : TabQ Tryz.prog gl pu 123 v123 := ⟨⟨Tryz.f123, Tryz.func123, by kernel_rfl⟩, .inl rfl⟩
theorem q124 : TabQ Tryz.prog gl pu 124 v124 := ⟨⟨Tryz.f124, Tryz.func124, by kernel_rfl⟩, .inl rfl⟩
theorem q128 : TabQ Tryz.prog gl pu 128 v128 := ⟨⟨Tryz.f128, Tryz.func128, by kernel_rfl⟩, .inl rfl⟩
theorem q129 : TabQ Tryz.prog gl pu 129 v129 := ⟨⟨Tryz.f129, Tryz.func129, by kernel_rfl⟩, .inl rfl⟩
theorem q130 : TabQ Tryz.prog gl pu 130 v130 := ⟨⟨Tryz.f130, Tryz.func130, by kernel_rfl⟩, .inl rfl⟩
theorem q132 : TabQ Tryz.prog gl pu 132 v132 := ⟨⟨Tryz.f132, Tryz.func132, by kernel_rfl⟩, .inl rfl⟩
theorem q133 : TabQ Tryz.prog gl pu 133 v133 := ⟨⟨Tryz.f133, Tryz.func133, by kernel_rfl⟩, .inl rfl⟩
theorem q136 : TabQ Tryz.prog gl pu 136 v136 := ⟨⟨Tryz.f136, Tryz.func136, by kernel_rfl⟩, .inl rfl⟩
theorem q137 : TabQ Tryz.prog gl pu 137 v137 := ⟨⟨Tryz.f137, Tryz.func137, by kernel_rfl⟩, .inl rfl⟩
theorem q139 : TabQ Tryz.prog gl pu 139 v139 := ⟨⟨Tryz.f139, Tryz.func139, by kernel_rfl⟩, .inl rfl⟩
theorem q140 : TabQ Tryz.prog gl pu 140 v140 := ⟨⟨Tryz.f140, Tryz.func140, by kernel_rfl⟩, .inl rfl⟩
theorem q141 : TabQ Tryz.prog gl pu 141 v141 := ⟨⟨Tryz.f141, Tryz.func141, by kernel_rfl⟩, .inl rfl⟩
theorem q142 : TabQ Tryz.prog gl pu 142 v142 := ⟨⟨Tryz.f142, Tryz.func142, by kernel_rfl⟩, .inl rfl⟩
theorem q144 : TabQ Tryz.prog gl pu 144 v144 := ⟨⟨Tryz.f144, Tryz.func144, by kernel_rfl⟩, .inl rfl⟩
theorem q145 : TabQ Tryz.prog gl pu 145 v145 := ⟨⟨Tryz.f145, Tryz.func145, by kernel_rfl⟩, .inl rfl⟩
theorem q146 : TabQ Tryz.prog gl pu 146 v146 := ⟨⟨Tryz.f146, Tryz.func146, by kernel_rfl⟩, .inl rfl⟩
theorem q159 : TabQ Tryz.prog gl pu 159 v159 := ⟨⟨Tryz.f159, Tryz.func159, by kernel_rfl⟩, .inl rfl⟩
theorem q160 : TabQ Tryz.prog gl pu 160 v160 := ⟨⟨Tryz.f160, Tryz.func160, by kernel_rfl⟩, .inl rfl⟩
theorem q164 : TabQ Tryz.prog gl pu 164 v164 := ⟨⟨Tryz.f164, Tryz.func164, by kernel_rfl⟩, .inl rfl⟩
theorem q165 : TabQ Tryz.prog gl pu 165 v165 := ⟨⟨Tryz.f165, Tryz.func165, by kernel_rfl⟩, .inl rfl⟩
theorem q166 : TabQ Tryz.prog gl pu 166 v166 := ⟨⟨Tryz.f166, Tryz.func166, by kernel_rfl⟩, .inl rfl⟩
theorem q167 : TabQ Tryz.prog gl pu 167 v167 := ⟨⟨Tryz.f167, Tryz.func167, by kernel_rfl⟩, .inl rfl⟩
theorem q179 : TabQ Tryz.prog gl pu 179 v179 := ⟨⟨Tryz.f179, Tryz.func179, by kernel_rfl⟩, .inl rfl⟩
theorem q181 : TabQ Tryz.prog gl pu 181 v181 := ⟨⟨Tryz.f181, Tryz.func181, by kernel_rfl⟩, .inl rfl⟩
theorem q186 : TabQ Tryz.prog gl pu 186 v186 := ⟨⟨Tryz.f186, Tryz.func186, by kernel_rfl⟩, .inl rfl⟩
end Go.Proofs.YtpfffhfempgmaabGreatDoor.reportNames
