/- Each function of the table is what the compiler makes of the program's function (part 3). -/
import Derived.Test.YtpbggddmfgjmlaaGreatViewTellsT
import Derived.Test.YtpbggddmfgjmlaaGreatVeFinal
import Derived.Test.YtpbggddmfgjmlaaGreatChecked
import Derived.KernelRfl
import Derived.Test.YtpbggddmfgjmlaaGreatViewTellsI
set_option linter.all false
namespace Go.Proofs.YtpbggddmfgjmlaaGreat.viewTells
open Go Go.VE Go.VE.LB
set_option maxRecDepth 100000
abbrev Q2 (i : Nat) (v : VFn) : Prop := TabQ Tryz.prog (fun _ => none) pu i v
theorem q93 : Q2 93 v93 := ⟨⟨Tryz.f93, Tryz.func93, by kernel_rfl⟩, .inl rfl⟩
theorem q94 : Q2 94 v94 := ⟨⟨Tryz.f94, Tryz.func94, by kernel_rfl⟩, .inl rfl⟩
theorem q95 : Q2 95 v95 := ⟨⟨Tryz.f95, Tryz.func95, by kernel_rfl⟩, .inl rfl⟩
theorem q96 : Q2 96 v96 := ⟨⟨Tryz.f96, Tryz.func96, by kernel_rfl⟩, .inl rfl⟩
theorem q97 : Q2 97 v97 := ⟨⟨Tryz.f97, Tryz.func97, by kernel_rfl⟩, .inl rfl⟩
theorem q99 : Q2 99 v99 := ⟨⟨Tryz.f99, Tryz.func99, by kernel_rfl⟩, .inl rfl⟩
theorem q100 : Q2 100 v100 := ⟨⟨Tryz.f100, Tryz.func100, by kernel_rfl⟩, .inl rfl⟩
theorem q101 : Q2 101 v101 := ⟨⟨Tryz.f101, Tryz.func101, by kernel_rfl⟩, .inl rfl⟩
theorem q102 : Q2 102 v102 := ⟨⟨Tryz.f102, Tryz.func102, by kernel_rfl⟩, .inl rfl⟩
theorem q103 : Q2 103 v103 := ⟨⟨Tryz.f103, Tryz.func103, by kernel_rfl⟩, .inl rfl⟩
theorem q104 : Q2 104 v104 := ⟨⟨Tryz.f104, Tryz.func104, by kernel_rfl⟩, .inl rfl⟩
theorem q105 : Q2 105 v105 := ⟨⟨Tryz.f105, Tryz.func105, by kernel_rfl⟩, .inl rfl⟩
theorem q106 : Q2 106 v106 := ⟨⟨Tryz.f106, Tryz.func106, by kernel_rfl⟩, .inl rfl⟩
theorem q107 : Q2 107 v107 := ⟨⟨Tryz.f107, Tryz.func107, by kernel_rfl⟩, .inl rfl⟩
theorem q108 : Q2 108 v108 := ⟨⟨Tryz.f108, Tryz.func108, by kernel_rfl⟩, .inl rfl⟩
theorem q109 : Q2 109 v109 := ⟨⟨Tryz.f109, Tryz.func109, by kernel_rfl⟩, .inl rfl⟩
theorem q110 : Q2 110 v110 := ⟨⟨Tryz.f110, Tryz.func110, by kernel_rfl⟩, .inl rfl⟩
theorem q111 : Q2 111 v111 := ⟨⟨Tryz.f111, Tryz.func111, by kernel_rfl⟩, .inl rfl⟩
theorem q112 : Q2 112 v112 := ⟨⟨Tryz.f112, Tryz.func112, by kernel_rfl⟩, .inl rfl⟩
theorem q113 : Q2 113 v113 := ⟨⟨Tryz.f113, Tryz.func113, by kernel_rfl⟩, .inl rfl⟩
theorem q114 : Q2 114 v114 := ⟨⟨Tryz.f114, Tryz.func114, by kernel_rfl⟩, .inl rfl⟩
theorem q115 : Q2 115 v115 := ⟨⟨Tryz.f115, Tryz.func115, by kernel_rfl⟩, .inl rfl⟩
theorem q116 : Q2 116 v116 := ⟨⟨Tryz.f116, Tryz.func116, by kernel_rfl⟩, .inl rfl⟩
theorem q117 : Q2 117 v117 := ⟨⟨Tryz.f117, Tryz.func117, by kernel_rfl⟩, .inl rfl⟩
theorem q119 : Q2 119 v119 := ⟨⟨Tryz.f119, Tryz.func119, by kernel_rfl⟩, .inl rfl⟩
theorem q120 : Q2 120 v120 := ⟨⟨Tryz.f120, Tryz.func120, by kernel_rfl⟩, .inl rfl⟩
theorem q121 : Q2 121 v121 := ⟨⟨Tryz.f121, Tryz.func121, by kernel_rfl⟩, .inl rfl⟩
theorem q122 : Q2 122 v122 := ⟨⟨Tryz.f122, Tryz.func122, by kernel_rfl⟩, .inl rfl⟩
theorem q123 : Q2 123 v123 := ⟨⟨Tryz.f123, Tryz.func123, by kernel_rfl⟩, .inl rfl⟩
theorem q124 : Q2 124 v124 := ⟨⟨Tryz.f124, Tryz.func124, by kernel_rfl⟩, .inl rfl⟩
theorem q125 : Q2 125 v125 := ⟨⟨Tryz.f125, Tryz.func125, by kernel_rfl⟩, .inl rfl⟩
theorem q126 : Q2 126 v126 := ⟨⟨Tryz.f126, Tryz.func126, by kernel_rfl⟩, .inl rfl⟩
theorem q127 : Q2 127 v127 := ⟨⟨Tryz.f127, Tryz.func127, by kernel_rfl⟩, .inl rfl⟩
theorem q128 : Q2 128 v128 := ⟨⟨Tryz.f128, Tryz.func128, by kernel_rfl⟩, .inl rfl⟩
theorem q129 : Q2 129 v129 := ⟨⟨Tryz.f129, Tryz.func129, by kernel_rfl⟩, .inl rfl⟩
theorem q130 : Q2 130 v130 := ⟨⟨Tryz.f130, Tryz.func130, by kernel_rfl⟩, .inl rfl⟩
theorem q131 : Q2 131 v131 := ⟨⟨Tryz.f131, Tryz.func131, by kernel_rfl⟩, .inl rfl⟩
theorem q132 : Q2 132 v132 := ⟨⟨Tryz.f132, Tryz.func132, by kernel_rfl⟩, .inl rfl⟩
theorem q133 : Q2 133 v133 := ⟨⟨Tryz.f133, Tryz.func133, by kernel_rfl⟩, .inl rfl⟩
theorem q134 : Q2 134 v134 := ⟨⟨Tryz.f134, Tryz.func134, by kernel_rfl⟩, .inl rfl⟩
theorem q135 : Q2 135 v135 := ⟨⟨Tryz.f135, Tryz.func135, by kernel_rfl⟩, .inl rfl⟩
theorem q136 : Q2 136 v136 := ⟨⟨Tryz.f136, Tryz.func136, by kernel_rfl⟩, .inl rfl⟩
theorem q137 : Q2 137 v137 := ⟨⟨Tryz.f137, Tryz.func137, by kernel_rfl⟩, .inl rfl⟩
theorem q138 : Q2 138 v138 := ⟨⟨Tryz.f138, Tryz.func138, by kernel_rfl⟩, .inl rfl⟩
end Go.Proofs.YtpbggddmfgjmlaaGreat.viewTells
