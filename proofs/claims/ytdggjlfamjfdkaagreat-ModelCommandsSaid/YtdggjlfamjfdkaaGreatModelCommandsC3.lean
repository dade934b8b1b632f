/- Each function of the table is what the compiler makes of the program's function (part 3). -/
import Derived.Test.YtdggjlfamjfdkaaGreatModelCommandsT
import Derived.Test.YtdggjlfamjfdkaaGreatVeFinal
import Derived.Test.YtdggjlfamjfdkaaGreatChecked
import Derived.KernelRfl
import Derived.Test.YtdggjlfamjfdkaaGreatModelCommandsI
set_option linter.all false
namespace Go.Proofs.YtdggjlfamjfdkaaGreat.modelCommands
open Go Go.VE Go.VE.LB
set_option maxRecDepth 100000
theorem q71 : TabQ Tryz.prog (fun _ => none) pu 71 v71 := ⟨⟨Tryz.f71, Tryz.func71, by kernel_rfl⟩, .inl rfl⟩
theorem q72 : TabQ Tryz.prog (fun _ => none) pu 72 v72 := ⟨⟨Tryz.f72, Tryz.func72, by kernel_rfl⟩, .inl rfl⟩
theorem q73 : TabQ Tryz.prog (fun _ => none) pu 73 v73 := ⟨⟨Tryz.f73, Tryz.func73, by kernel_rfl⟩, .inl rfl⟩
theorem q74 : TabQ Tryz.prog (fun _ => none) pu 74 v74 := ⟨⟨Tryz.f74, Tryz.func74, by kernel_rfl⟩, .inl rfl⟩
theorem q75 : TabQ Tryz.prog (fun _ => none) pu 75 v75 := ⟨⟨Tryz.f75, Tryz.func75, by kernel_rfl⟩, .inl rfl⟩
theorem q76 : TabQ Tryz.prog (fun _ => none) pu 76 v76 := ⟨⟨Tryz.f76, Tryz.func76, by kernel_rfl⟩, .inl rfl⟩
theorem q77 : TabQ Tryz.prog (fun _ => none) pu 77 v77 := ⟨⟨Tryz.f77, Tryz.func77, by kernel_rfl⟩, .inl rfl⟩
theorem q78 : TabQ Tryz.prog (fun _ => none) pu 78 v78 := ⟨⟨Tryz.f78, Tryz.func78, by kernel_rfl⟩, .inl rfl⟩
theorem q80 : TabQ Tryz.prog (fun _ => none) pu 80 v80 := ⟨⟨Tryz.f80, Tryz.func80, by kernel_rfl⟩, .inl rfl⟩
theorem q83 : TabQ Tryz.prog (fun _ => none) pu 83 v83 := ⟨⟨Tryz.f83, Tryz.func83, by kernel_rfl⟩, .inl rfl⟩
theorem q84 : TabQ Tryz.prog (fun _ => none) pu 84 v84 := ⟨⟨Tryz.f84, Tryz.func84, by kernel_rfl⟩, .inl rfl⟩
theorem q85 : TabQ Tryz.prog (fun _ => none) pu 85 v85 := ⟨⟨Tryz.f85, Tryz.func85, by kernel_rfl⟩, .inl rfl⟩
theorem q86 : TabQ Tryz.prog (fun _ => none) pu 86 v86 := ⟨⟨Tryz.f86, Tryz.func86, by kernel_rfl⟩, .inl rfl⟩
theorem q87 : TabQ Tryz.prog (fun _ => none) pu 87 v87 := ⟨⟨Tryz.f87, Tryz.func87, by kernel_rfl⟩, .inl rfl⟩
theorem q88 : TabQ Tryz.prog (fun _ => none) pu 88 v88 := ⟨⟨Tryz.f88, Tryz.func88, by kernel_rfl⟩, .inl rfl⟩
theorem q89 : TabQ Tryz.prog (fun _ => none) pu 89 v89 := ⟨⟨Tryz.f89, Tryz.func89, by kernel_rfl⟩, .inl rfl⟩
theorem q90 : TabQ Tryz.prog (fun _ => none) pu 90 v90 := ⟨⟨Tryz.f90, Tryz.func90, by kernel_rfl⟩, .inl rfl⟩
theorem q91 : TabQ Tryz.prog (fun _ => none) pu 91 v91 := ⟨⟨Tryz.f91, Tryz.func91, by kernel_rfl⟩, .inl rfl⟩
theorem q92 : TabQ Tryz.prog (fun _ => none) pu 92 v92 := ⟨⟨Tryz.f92, Tryz.func92, by kernel_rfl⟩, .inl rfl⟩
theorem q101 : TabQ Tryz.prog (fun _ => none) pu 101 v101 := ⟨⟨Tryz.f101, Tryz.func101, by kernel_rfl⟩, .inl rfl⟩
theorem q102 : TabQ Tryz.prog (fun _ => none) pu 102 v102 := ⟨⟨Tryz.f102, Tryz.func102, by kernel_rfl⟩, .inl rfl⟩
theorem q103 : TabQ Tryz.prog (fun _ => none) pu 103 v103 := ⟨⟨Tryz.f103, Tryz.func103, by kernel_rfl⟩, .inl rfl⟩
theorem q106 : TabQ Tryz.prog (fun _ => none) pu 106 v106 := ⟨⟨Tryz.f106, Tryz.func106, by kernel_rfl⟩, .inl rfl⟩
theorem q107 : TabQ Tryz.prog (fun _ => none) pu 107 v107 := ⟨⟨Tryz.f107, Tryz.func107, by kernel_rfl⟩, .inl rfl⟩
theorem q108 : TabQ Tryz.prog (fun _ => none) pu 108 v108 := ⟨⟨Tryz.f108, Tryz.func108, by kernel_rfl⟩, .inl rfl⟩
theorem q109 : TabQ Tryz.prog (fun _ => none) pu 109 v109 := ⟨⟨Tryz.f109, Tryz.func109, by kernel_rfl⟩, .inl rfl⟩
theorem q110 : TabQ Tryz.prog (fun _ => none) pu 110 v110 := ⟨⟨Tryz.f110, Tryz.func110, by kernel_rfl⟩, .inl rfl⟩
theorem q112 : TabQ Tryz.prog (fun _ => none) pu 112 v112 := ⟨⟨Tryz.f112, Tryz.func112, by kernel_rfl⟩, .inl rfl⟩
theorem q119 : TabQ Tryz.prog (fun _ => none) pu 119 v119 := ⟨⟨Tryz.f119, Tryz.func119, by kernel_rfl⟩, .inl rfl⟩
theorem q121 : TabQ Tryz.prog (fun _ => none) pu 121 v121 := ⟨⟨Tryz.f121, Tryz.func121, by kernel_rfl⟩, .inl rfl⟩
theorem q123 : TabQ Tryz.prog (fun _ => none) pu 123 v123 := ⟨⟨Tryz.f123, Tryz.func123, by kernel_rfl⟩, .inl rfl⟩
end Go.Proofs.YtdggjlfamjfdkaaGreat.modelCommands
