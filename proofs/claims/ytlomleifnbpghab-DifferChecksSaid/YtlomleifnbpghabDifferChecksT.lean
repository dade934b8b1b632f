/- The table of the compiled functions that the law DifferChecks reaches: data only. -/
import Derived.Test.YtlomleifnbpghabDifferChecksA1
set_option linter.all false
namespace Go.VE.LB
open Go Go.VE
def v3 : VFn := B_spigotlaw34_DifferChecks 4 5 6 7 8 9 10 11 12 25
def v4 : VFn := B_spigotref34_Great
def v5 : VFn := B_differ_Join 9 13 25
def v6 : VFn := B_spigotref34_Join 10 15 16 25
def v7 : VFn := B_differ_Tenants 9 54
def v8 : VFn := B_spigotref34_Tenants 10
def v9 : VFn := B_differ_Check 17 18 54
def v10 : VFn := B_spigotref34_Check 19 20 54
def v11 : VFn := B_spigotref34_Same 21 54
def v12 : VFn := B_spigotref32_Same
def v13 : VFn := B_differ_Join_fn1 14
def v14 : VFn := B_differ_clone 22 23 52
def v15 : VFn := B_spigotref34_at
def v16 : VFn := B_spigotref34_twin 24 54
def v17 : VFn := B_differ_empty
def v18 : VFn := B_model_Check 25 26 27 28 29 52
def v19 : VFn := B_spigotref34_alone 30
def v20 : VFn := B_spigotref34_zero 21
def v21 : VFn := B_spigotref25_SameAccount 31
def v22 : VFn := B_slices_Clone_api_Held
def v23 : VFn := B_slices_Clone_uint32
def v24 : VFn := B_spigotref25_Twin 52
def v25 : VFn := B_slices_ContainsFunc_uint32 32
def v26 : VFn := B_model_Check_fn1
def v27 : VFn := B_model_Check_fn2
def v28 : VFn := B_model_valid 33 34 35 43
def v29 : VFn := B_slices_ContainsFunc_api_Held 36
def v30 : VFn := B_spigotref25_Check 37 38
def v31 : VFn := B_spigotref25_SameHeld
def v32 : VFn := B_slices_IndexFunc_uint32
def v33 : VFn := B_bucket_CheckLimit
def v34 : VFn := B_bucket_Check 33
def v35 : VFn := B_model_held 39 34 71
def v36 : VFn := B_slices_IndexFunc_api_Held
def v37 : VFn := B_spigotref25_Valid 40 41 42
def v38 : VFn := B_spigotref25_late
def v39 : VFn := B_model_at 43 36
def v40 : VFn := B_spigotref03_CheckLimit
def v41 : VFn := B_spigotref03_Check 40
def v42 : VFn := B_spigotref25_held 44 41
def v43 : VFn := B_model_at_fn1
def v44 : VFn := B_spigotref25_At
def pu (i : Nat) : Nat := bif Nat.beq i 13 then 0 else bif Nat.ble 62 i then 0 else 1
def vp (i : Nat) : Option VFn := (bif Nat.blt i 24 then (bif Nat.blt i 13 then (bif Nat.blt i 8 then (bif Nat.blt i 5 then (bif Nat.blt i 4 then (bif Nat.beq i 3 then some v3 else none) else (bif Nat.beq i 4 then some v4 else none)) else (bif Nat.blt i 6 then (bif Nat.beq i 5 then some v5 else none) else (bif Nat.blt i 7 then (bif Nat.beq i 6 then some v6 else none) else (bif Nat.beq i 7 then some v7 else none)))) else (bif Nat.blt i 10 then (bif Nat.blt i 9 then (bif Nat.beq i 8 then some v8 else none) else (bif Nat.beq i 9 then some v9 else none)) else (bif Nat.blt i 11 then (bif Nat.beq i 10 then some v10 else none) else (bif Nat.blt i 12 then (bif Nat.beq i 11 then some v11 else none) else (bif Nat.beq i 12 then some v12 else none))))) else (bif Nat.blt i 18 then (bif Nat.blt i 15 then (bif Nat.blt i 14 then (bif Nat.beq i 13 then some v13 else none) else (bif Nat.beq i 14 then some v14 else none)) else (bif Nat.blt i 16 then (bif Nat.beq i 15 then some v15 else none) else (bif Nat.blt i 17 then (bif Nat.beq i 16 then some v16 else none) else (bif Nat.beq i 17 then some v17 else none)))) else (bif Nat.blt i 21 then (bif Nat.blt i 19 then (bif Nat.beq i 18 then some v18 else none) else (bif Nat.blt i 20 then (bif Nat.beq i 19 then some v19 else none) else (bif Nat.beq i 20 then some v20 else none))) else (bif Nat.blt i 22 then (bif Nat.beq i 21 then some v21 else none) else (bif Nat.blt i 23 then (bif Nat.beq i 22 then some v22 else none) else (bif Nat.beq i 23 then some v23 else none)))))) else (bif Nat.blt i 34 then (bif Nat.blt i 29 then (bif Nat.blt i 26 then (bif Nat.blt i 25 then (bif Nat.beq i 24 then some v24 else none) else (bif Nat.beq i 25 then some v25 else none)) else (bif Nat.blt i 27 then (bif Nat.beq i 26 then some v26 else none) else (bif Nat.blt i 28 then (bif Nat.beq i 27 then some v27 else none) else (bif Nat.beq i 28 then some v28 else none)))) else (bif Nat.blt i 31 then (bif Nat.blt i 30 then (bif Nat.beq i 29 then some v29 else none) else (bif Nat.beq i 30 then some v30 else none)) else (bif Nat.blt i 32 then (bif Nat.beq i 31 then some v31 else none) else (bif Nat.blt i 33 then (bif Nat.beq i 32 then some v32 else none) else (bif Nat.beq i 33 then some v33 else none))))) else (bif Nat.blt i 39 then (bif Nat.blt i 36 then (bif Nat.blt i 35 then (bif Nat.beq i 34 then some v34 else none) else (bif Nat.beq i 35 then some v35 else none)) else (bif Nat.blt i 37 then (bif Nat.beq i 36 then some v36 else none) else (bif Nat.blt i 38 then (bif Nat.beq i 37 then some v37 else none) else (bif Nat.beq i 38 then some v38 else none)))) else (bif Nat.blt i 42 then (bif Nat.blt i 40 then (bif Nat.beq i 39 then some v39 else none) else (bif Nat.blt i 41 then (bif Nat.beq i 40 then some v40 else none) else (bif Nat.beq i 41 then some v41 else none))) else (bif Nat.blt i 43 then (bif Nat.beq i 42 then some v42 else none) else (bif Nat.blt i 44 then (bif Nat.beq i 43 then some v43 else none) else (bif Nat.beq i 44 then some v44 else none)))))))
theorem at3 : vp 3 = some v3 := rfl
theorem at4 : vp 4 = some v4 := rfl
theorem at5 : vp 5 = some v5 := rfl
theorem at6 : vp 6 = some v6 := rfl
theorem at7 : vp 7 = some v7 := rfl
theorem at8 : vp 8 = some v8 := rfl
theorem at9 : vp 9 = some v9 := rfl
theorem at10 : vp 10 = some v10 := rfl
theorem at11 : vp 11 = some v11 := rfl
theorem at12 : vp 12 = some v12 := rfl
theorem at13 : vp 13 = some v13 := rfl
theorem at14 : vp 14 = some v14 := rfl
theorem at15 : vp 15 = some v15 := rfl
theorem at16 : vp 16 = some v16 := rfl
theorem at17 : vp 17 = some v17 := rfl
theorem at18 : vp 18 = some v18 := rfl
theorem at19 : vp 19 = some v19 := rfl
theorem at20 : vp 20 = some v20 := rfl
theorem at21 : vp 21 = some v21 := rfl
theorem at22 : vp 22 = some v22 := rfl
theorem at23 : vp 23 = some v23 := rfl
theorem at24 : vp 24 = some v24 := rfl
theorem at25 : vp 25 = some v25 := rfl
theorem at26 : vp 26 = some v26 := rfl
theorem at27 : vp 27 = some v27 := rfl
theorem at28 : vp 28 = some v28 := rfl
theorem at29 : vp 29 = some v29 := rfl
theorem at30 : vp 30 = some v30 := rfl
theorem at31 : vp 31 = some v31 := rfl
theorem at32 : vp 32 = some v32 := rfl
theorem at33 : vp 33 = some v33 := rfl
theorem at34 : vp 34 = some v34 := rfl
theorem at35 : vp 35 = some v35 := rfl
theorem at36 : vp 36 = some v36 := rfl
theorem at37 : vp 37 = some v37 := rfl
theorem at38 : vp 38 = some v38 := rfl
theorem at39 : vp 39 = some v39 := rfl
theorem at40 : vp 40 = some v40 := rfl
theorem at41 : vp 41 = some v41 := rfl
theorem at42 : vp 42 = some v42 := rfl
theorem at43 : vp 43 = some v43 := rfl
theorem at44 : vp 44 = some v44 := rfl
end Go.VE.LB
