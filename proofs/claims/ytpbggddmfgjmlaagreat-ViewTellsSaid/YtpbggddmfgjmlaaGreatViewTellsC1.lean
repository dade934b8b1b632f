/- Each function of the table is what the compiler makes of the program's function (part 1). -/
import Derived.Test.YtpbggddmfgjmlaaGreatViewTellsT
import Derived.Test.YtpbggddmfgjmlaaGreatVeFinal
import Derived.Test.YtpbggddmfgjmlaaGreatChecked
import Derived.KernelRfl
import Derived.Test.YtpbggddmfgjmlaaGreatViewTellsI
set_option linter.all false
namespace Go.Proofs.YtpbggddmfgjmlaaGreat.viewTells
open Go Go.VE Go.VE.LB
set_option maxRecDepth 100000
abbrev Q0 (i : Nat) (v : VFn) : Prop := TabQ Tryz.prog (fun _ => none) pu i v
theorem q3 : Q0 3 v3 := ⟨⟨Tryz.f3, Tryz.func3, by kernel_rfl⟩, .inl rfl⟩
theorem q4 : Q0 4 v4 := ⟨⟨Tryz.f4, Tryz.func4, by kernel_rfl⟩, .inl rfl⟩
theorem q5 : Q0 5 v5 := ⟨⟨Tryz.f5, Tryz.func5, by kernel_rfl⟩, .inl rfl⟩
theorem q6 : Q0 6 v6 := ⟨⟨Tryz.f6, Tryz.func6, by kernel_rfl⟩, .inl rfl⟩
theorem q7 : Q0 7 v7 := ⟨⟨Tryz.f7, Tryz.func7, by kernel_rfl⟩, .inl rfl⟩
theorem q8 : Q0 8 v8 := ⟨⟨Tryz.f8, Tryz.func8, by kernel_rfl⟩, .inl rfl⟩
theorem q9 : Q0 9 v9 := ⟨⟨Tryz.f9, Tryz.func9, by kernel_rfl⟩, .inl rfl⟩
theorem q10 : Q0 10 v10 := ⟨⟨Tryz.f10, Tryz.func10, by kernel_rfl⟩, .inl rfl⟩
theorem q11 : Q0 11 v11 := ⟨⟨Tryz.f11, Tryz.func11, by kernel_rfl⟩, .inl rfl⟩
theorem q12 : Q0 12 v12 := ⟨⟨Tryz.f12, Tryz.func12, by kernel_rfl⟩, .inl rfl⟩
theorem q13 : Q0 13 v13 := ⟨⟨Tryz.f13, Tryz.func13, by kernel_rfl⟩, .inl rfl⟩
theorem q14 : Q0 14 v14 := ⟨⟨Tryz.f14, Tryz.func14, by kernel_rfl⟩, .inl rfl⟩
theorem q15 : Q0 15 v15 := ⟨⟨Tryz.f15, Tryz.func15, by kernel_rfl⟩, .inl rfl⟩
theorem q16 : Q0 16 v16 := ⟨⟨Tryz.f16, Tryz.func16, by kernel_rfl⟩, .inl rfl⟩
theorem q17 : Q0 17 v17 := ⟨⟨Tryz.f17, Tryz.func17, by kernel_rfl⟩, .inl rfl⟩
theorem q18 : Q0 18 v18 := ⟨⟨Tryz.f18, Tryz.func18, by kernel_rfl⟩, .inl rfl⟩
theorem q19 : Q0 19 v19 := ⟨⟨Tryz.f19, Tryz.func19, by kernel_rfl⟩, .inl rfl⟩
theorem q20 : Q0 20 v20 := ⟨⟨Tryz.f20, Tryz.func20, by kernel_rfl⟩, .inl rfl⟩
theorem q21 : Q0 21 v21 := ⟨⟨Tryz.f21, Tryz.func21, by kernel_rfl⟩, .inl rfl⟩
theorem q22 : Q0 22 v22 := ⟨⟨Tryz.f22, Tryz.func22, by kernel_rfl⟩, .inl rfl⟩
theorem q23 : Q0 23 v23 := ⟨⟨Tryz.f23, Tryz.func23, by kernel_rfl⟩, .inl rfl⟩
theorem q24 : Q0 24 v24 := ⟨⟨Tryz.f24, Tryz.func24, by kernel_rfl⟩, .inl rfl⟩
theorem q25 : Q0 25 v25 := ⟨⟨Tryz.f25, Tryz.func25, by kernel_rfl⟩, .inl rfl⟩
theorem q26 : Q0 26 v26 := ⟨⟨Tryz.f26, Tryz.func26, by kernel_rfl⟩, .inl rfl⟩
theorem q27 : Q0 27 v27 := ⟨⟨Tryz.f27, Tryz.func27, by kernel_rfl⟩, .inl rfl⟩
theorem q28 : Q0 28 v28 := ⟨⟨Tryz.f28, Tryz.func28, by kernel_rfl⟩, .inl rfl⟩
theorem q29 : Q0 29 v29 := ⟨⟨Tryz.f29, Tryz.func29, by kernel_rfl⟩, .inl rfl⟩
theorem q30 : Q0 30 v30 := ⟨⟨Tryz.f30, Tryz.func30, by kernel_rfl⟩, .inl rfl⟩
theorem q31 : Q0 31 v31 := ⟨⟨Tryz.f31, Tryz.func31, by kernel_rfl⟩, .inl rfl⟩
theorem q32 : Q0 32 v32 := ⟨⟨Tryz.f32, Tryz.func32, by kernel_rfl⟩, .inl rfl⟩
theorem q33 : Q0 33 v33 := ⟨⟨Tryz.f33, Tryz.func33, by kernel_rfl⟩, .inl rfl⟩
theorem q34 : Q0 34 v34 := ⟨⟨Tryz.f34, Tryz.func34, by kernel_rfl⟩, .inr insw34⟩
theorem q35 : Q0 35 v35 := ⟨⟨Tryz.f35, Tryz.func35, by kernel_rfl⟩, .inl rfl⟩
theorem q36 : Q0 36 v36 := ⟨⟨Tryz.f36, Tryz.func36, by kernel_rfl⟩, .inl rfl⟩
theorem q37 : Q0 37 v37 := ⟨⟨Tryz.f37, Tryz.func37, by kernel_rfl⟩, .inl rfl⟩
theorem q38 : Q0 38 v38 := ⟨⟨Tryz.f38, Tryz.func38, by kernel_rfl⟩, .inl rfl⟩
theorem q39 : Q0 39 v39 := ⟨⟨Tryz.f39, Tryz.func39, by kernel_rfl⟩, .inl rfl⟩
theorem q40 : Q0 40 v40 := ⟨⟨Tryz.f40, Tryz.func40, by kernel_rfl⟩, .inl rfl⟩
theorem q41 : Q0 41 v41 := ⟨⟨Tryz.f41, Tryz.func41, by kernel_rfl⟩, .inl rfl⟩
theorem q42 : Q0 42 v42 := ⟨⟨Tryz.f42, Tryz.func42, by kernel_rfl⟩, .inl rfl⟩
theorem q43 : Q0 43 v43 := ⟨⟨Tryz.f43, Tryz.func43, by kernel_rfl⟩, .inl rfl⟩
theorem q44 : Q0 44 v44 := ⟨⟨Tryz.f44, Tryz.func44, by kernel_rfl⟩, .inl rfl⟩
theorem q45 : Q0 45 v45 := ⟨⟨Tryz.f45, Tryz.func45, by kernel_rfl⟩, .inl rfl⟩
theorem q46 : Q0 46 v46 := ⟨⟨Tryz.f46, Tryz.func46, by kernel_rfl⟩, .inl rfl⟩
end Go.Proofs.YtpbggddmfgjmlaaGreat.viewTells
