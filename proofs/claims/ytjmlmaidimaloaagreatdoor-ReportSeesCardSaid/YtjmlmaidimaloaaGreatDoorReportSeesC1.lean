/- Each function of the table is what the compiler makes of the program's function (part 1). -/
import Derived.Test.YtjmlmaidimaloaaGreatDoorReportSeesT
import Derived.Test.YtjmlmaidimaloaaGreatDoorVeFinal
import Derived.Test.YtjmlmaidimaloaaGreatDoorChecked
import Derived.KernelRfl
import Derived.Test.YtjmlmaidimaloaaGreatDoorReportSeesI
set_option linter.all false
namespace Go.Proofs.YtjmlmaidimaloaaGreatDoor.reportSees
open Go Go.VE Go.VE.LB
set_option maxRecDepth 100000
theorem q3 : TabQ Tryz.prog gl pu 3 v3 := ⟨⟨Tryz.f3, Tryz.func3, by kernel_rfl⟩, .inl rfl⟩
theorem q4 : TabQ Tryz.prog gl pu 4 v4 := ⟨⟨Tryz.f4, Tryz.func4, by kernel_rfl⟩, .inl rfl⟩
theorem q5 : TabQ Tryz.prog gl pu 5 v5 := ⟨⟨Tryz.f5, Tryz.func5, by kernel_rfl⟩, .inl rfl⟩
theorem q6 : TabQ Tryz.prog gl pu 6 v6 := ⟨⟨Tryz.f6, Tryz.func6, by kernel_rfl⟩, .inl rfl⟩
theorem q7 : TabQ Tryz.prog gl pu 7 v7 := ⟨⟨Tryz.f7, Tryz.func7, by kernel_rfl⟩, .inl rfl⟩
theorem q8 : TabQ Tryz.prog gl pu 8 v8 := ⟨⟨Tryz.f8, Tryz.func8, by kernel_rfl⟩, .inl rfl⟩
theorem q9 : TabQ Tryz.prog gl pu 9 v9 := ⟨⟨Tryz.f9, Tryz.func9, by kernel_rfl⟩, .inl rfl⟩
theorem q10 : TabQ Tryz.prog gl pu 10 v10 := ⟨⟨Tryz.f10, Tryz.func10, by kernel_rfl⟩, .inl rfl⟩
theorem q11 : TabQ Tryz.prog gl pu 11 v11 := ⟨⟨Tryz.f11, Tryz.func11, by kernel_rfl⟩, .inl rfl⟩
theorem q12 : TabQ Tryz.prog gl pu 12 v12 := ⟨⟨Tryz.f12, Tryz.func12, by kernel_rfl⟩, .inl rfl⟩
theorem q13 : TabQ Tryz.prog gl pu 13 v13 := ⟨⟨Tryz.f13, Tryz.func13, by kernel_rfl⟩, .inl rfl⟩
theorem q14 : TabQ Tryz.prog gl pu 14 v14 := ⟨⟨Tryz.f14, Tryz.func14, by kernel_rfl⟩, .inl rfl⟩
theorem q15 : TabQ Tryz.prog gl pu 15 v15 := ⟨⟨Tryz.f15, Tryz.func15, by kernel_rfl⟩, .inl rfl⟩
theorem q16 : TabQ Tryz.prog gl pu 16 v16 := ⟨⟨Tryz.f16, Tryz.func16, by kernel_rfl⟩, .inl rfl⟩
theorem q17 : TabQ Tryz.prog gl pu 17 v17 := ⟨⟨Tryz.f17, Tryz.func17, by kernel_rfl⟩, .inl rfl⟩
theorem q18 : TabQ Tryz.prog gl pu 18 v18 := ⟨⟨Tryz.f18, Tryz.func18, by kernel_rfl⟩, .inl rfl⟩
theorem q19 : TabQ Tryz.prog gl pu 19 v19 := ⟨⟨Tryz.f19, Tryz.func19, by kernel_rfl⟩, .inl rfl⟩
theorem q20 : TabQ Tryz.prog gl pu 20 v20 := ⟨⟨Tryz.f20, Tryz.func20, by kernel_rfl⟩, .inl rfl⟩
theorem q21 : TabQ Tryz.prog gl pu 21 v21 := ⟨⟨Tryz.f21, Tryz.func21, by kernel_rfl⟩, .inl rfl⟩
theorem q22 : TabQ Tryz.prog gl pu 22 v22 := ⟨⟨Tryz.f22, Tryz.func22, by kernel_rfl⟩, .inl rfl⟩
theorem q23 : TabQ Tryz.prog gl pu 23 v23 := ⟨⟨Tryz.f23, Tryz.func23, by kernel_rfl⟩, .inl rfl⟩
theorem q24 : TabQ Tryz.prog gl pu 24 v24 := ⟨⟨Tryz.f24, Tryz.func24, by kernel_rfl⟩, .inl rfl⟩
theorem q25 : TabQ Tryz.prog gl pu 25 v25 := ⟨⟨Tryz.f25, Tryz.func25, by kernel_rfl⟩, .inl rfl⟩
theorem q26 : TabQ Tryz.prog gl pu 26 v26 := ⟨⟨Tryz.f26, Tryz.func26, by kernel_rfl⟩, .inl rfl⟩
theorem q27 : TabQ Tryz.prog gl pu 27 v27 := ⟨⟨Tryz.f27, Tryz.func27, by kernel_rfl⟩, .inl rfl⟩
theorem q28 : TabQ Tryz.prog gl pu 28 v28 := ⟨⟨Tryz.f28, Tryz.func28, by kernel_rfl⟩, .inl rfl⟩
theorem q29 : TabQ Tryz.prog gl pu 29 v29 := ⟨⟨Tryz.f29, Tryz.func29, by kernel_rfl⟩, .inl rfl⟩
theorem q30 : TabQ Tryz.prog gl pu 30 v30 := ⟨⟨Tryz.f30, Tryz.func30, by kernel_rfl⟩, .inl rfl⟩
theorem q31 : TabQ Tryz.prog gl pu 31 v31 := ⟨⟨Tryz.f31, Tryz.func31, by kernel_rfl⟩, .inl rfl⟩
theorem q32 : TabQ Tryz.prog gl pu 32 v32 := ⟨⟨Tryz.f32, Tryz.func32, by kernel_rfl⟩, .inl rfl⟩
theorem q33 : TabQ Tryz.prog gl pu 33 v33 := ⟨⟨Tryz.f33, Tryz.func33, by kernel_rfl⟩, .inl rfl⟩
theorem q34 : TabQ Tryz.prog gl pu 34 v34 := ⟨⟨Tryz.f34, Tryz.func34, by kernel_rfl⟩, .inl rfl⟩
theorem q35 : TabQ Tryz.prog gl pu 35 v35 := ⟨⟨Tryz.f35, Tryz.func35, by kernel_rfl⟩, .inl rfl⟩
theorem q36 : TabQ Tryz.prog gl pu 36 v36 := ⟨⟨Tryz.f36, Tryz.func36, by kernel_rfl⟩, .inl rfl⟩
theorem q37 : TabQ Tryz.prog gl pu 37 v37 := ⟨⟨Tryz.f37, Tryz.func37, by kernel_rfl⟩, .inl rfl⟩
theorem q38 : TabQ Tryz.prog gl pu 38 v38 := ⟨⟨Tryz.f38, Tryz.func38, by kernel_rfl⟩, .inl rfl⟩
theorem q39 : TabQ Tryz.prog gl pu 39 v39 := ⟨⟨Tryz.f39, Tryz.func39, by kernel_rfl⟩, .inl rfl⟩
theorem q40 : TabQ Tryz.prog gl pu 40 v40 := ⟨⟨Tryz.f40, Tryz.func40, by kernel_rfl⟩, .inl rfl⟩
end Go.Proofs.YtjmlmaidimaloaaGreatDoor.reportSees
