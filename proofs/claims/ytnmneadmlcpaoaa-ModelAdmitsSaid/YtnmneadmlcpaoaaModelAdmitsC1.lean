/- Each function of the table is what the compiler makes of the program's function (part 1). -/
import Derived.Test.YtnmneadmlcpaoaaModelAdmitsT
import Derived.Test.YtnmneadmlcpaoaaVeFinal
import Derived.Test.YtnmneadmlcpaoaaChecked
import Derived.KernelRfl
import Derived.Test.YtnmneadmlcpaoaaModelAdmitsI
set_option linter.all false
namespace Go.Proofs.Ytnmneadmlcpaoaa.modelAdmits
open Go Go.VE Go.VE.LB
set_option maxRecDepth 100000
theorem q3 : TabQ Try.prog (fun _ => none) pu 3 v3 := ⟨⟨Try.f3, Try.func3, by kernel_rfl⟩, .inl rfl⟩
theorem q4 : TabQ Try.prog (fun _ => none) pu 4 v4 := ⟨⟨Try.f4, Try.func4, by kernel_rfl⟩, .inl rfl⟩
theorem q5 : TabQ Try.prog (fun _ => none) pu 5 v5 := ⟨⟨Try.f5, Try.func5, by kernel_rfl⟩, .inl rfl⟩
theorem q6 : TabQ Try.prog (fun _ => none) pu 6 v6 := ⟨⟨Try.f6, Try.func6, by kernel_rfl⟩, .inl rfl⟩
theorem q7 : TabQ Try.prog (fun _ => none) pu 7 v7 := ⟨⟨Try.f7, Try.func7, by kernel_rfl⟩, .inl rfl⟩
theorem q8 : TabQ Try.prog (fun _ => none) pu 8 v8 := ⟨⟨Try.f8, Try.func8, by kernel_rfl⟩, .inl rfl⟩
theorem q9 : TabQ Try.prog (fun _ => none) pu 9 v9 := ⟨⟨Try.f9, Try.func9, by kernel_rfl⟩, .inl rfl⟩
theorem q10 : TabQ Try.prog (fun _ => none) pu 10 v10 := ⟨⟨Try.f10, Try.func10, by kernel_rfl⟩, .inl rfl⟩
theorem q11 : TabQ Try.prog (fun _ => none) pu 11 v11 := ⟨⟨Try.f11, Try.func11, by kernel_rfl⟩, .inl rfl⟩
theorem q12 : TabQ Try.prog (fun _ => none) pu 12 v12 := ⟨⟨Try.f12, Try.func12, by kernel_rfl⟩, .inl rfl⟩
theorem q13 : TabQ Try.prog (fun _ => none) pu 13 v13 := ⟨⟨Try.f13, Try.func13, by kernel_rfl⟩, .inl rfl⟩
theorem q14 : TabQ Try.prog (fun _ => none) pu 14 v14 := ⟨⟨Try.f14, Try.func14, by kernel_rfl⟩, .inl rfl⟩
theorem q15 : TabQ Try.prog (fun _ => none) pu 15 v15 := ⟨⟨Try.f15, Try.func15, by kernel_rfl⟩, .inl rfl⟩
theorem q16 : TabQ Try.prog (fun _ => none) pu 16 v16 := ⟨⟨Try.f16, Try.func16, by kernel_rfl⟩, .inl rfl⟩
theorem q17 : TabQ Try.prog (fun _ => none) pu 17 v17 := ⟨⟨Try.f17, Try.func17, by kernel_rfl⟩, .inl rfl⟩
theorem q18 : TabQ Try.prog (fun _ => none) pu 18 v18 := ⟨⟨Try.f18, Try.func18, by kernel_rfl⟩, .inl rfl⟩
theorem q19 : TabQ Try.prog (fun _ => none) pu 19 v19 := ⟨⟨Try.f19, Try.func19, by kernel_rfl⟩, .inl rfl⟩
theorem q20 : TabQ Try.prog (fun _ => none) pu 20 v20 := ⟨⟨Try.f20, Try.func20, by kernel_rfl⟩, .inl rfl⟩
theorem q21 : TabQ Try.prog (fun _ => none) pu 21 v21 := ⟨⟨Try.f21, Try.func21, by kernel_rfl⟩, .inl rfl⟩
theorem q22 : TabQ Try.prog (fun _ => none) pu 22 v22 := ⟨⟨Try.f22, Try.func22, by kernel_rfl⟩, .inl rfl⟩
theorem q23 : TabQ Try.prog (fun _ => none) pu 23 v23 := ⟨⟨Try.f23, Try.func23, by kernel_rfl⟩, .inl rfl⟩
theorem q24 : TabQ Try.prog (fun _ => none) pu 24 v24 := ⟨⟨Try.f24, Try.func24, by kernel_rfl⟩, .inl rfl⟩
theorem q25 : TabQ Try.prog (fun _ => none) pu 25 v25 := ⟨⟨Try.f25, Try.func25, by kernel_rfl⟩, .inl rfl⟩
end Go.Proofs.Ytnmneadmlcpaoaa.modelAdmits
