/- The table of the compiled functions that the law ModelAdmits reaches: data only. -/
import Derived.Test.YtnmneadmlcpaoaaModelAdmitsA9
set_option linter.all false
namespace Go.VE.LB
open Go Go.VE
def v3 : VFn := B_spigotlaw25_ModelAdmits 4 5 6 7 8 9 10 35 42 29
def v4 : VFn := B_spigotlaw25_alive 11 7 35 42
def v5 : VFn := B_spigotref25_Valid 12 13 14
def v6 : VFn := B_spigotref25_IsRevoked
def v7 : VFn := B_model_Ask 15 16 18 17 35 42
def v8 : VFn := B_spigotlaw25_bucket 19 20 29
def v9 : VFn := B_spigotref03_Filled 22 21 23 24 29 65
def v10 : VFn := B_spigotlaw25_fronted 19
def v11 : VFn := B_spigotlaw25_example 25 26 35
def v12 : VFn := B_spigotref03_CheckLimit
def v13 : VFn := B_spigotref03_Check 12
def v14 : VFn := B_spigotref25_held 19 13
def v15 : VFn := B_model_valid 27 28 29 24
def v16 : VFn := B_slices_Contains_uint32 30
def v17 : VFn := B_model_ask 31 32 33 34 35 42 29
def v18 : VFn := B_model_clone 35 36 35
def v19 : VFn := B_spigotref25_At
def v20 : VFn := B_spigotref03_Full 12 29
def v21 : VFn := B_spigotref01_Add 65
def v22 : VFn := B_spigotref01_Mul 65
def v23 : VFn := B_spigotref01_Div 24 37 65
def v24 : VFn := B_spigotref01_Cmp
def v25 : VFn := B_spigotlaw25_limit 24
def v26 : VFn := B_spigotlaw25_full 25 29
def v27 : VFn := B_bucket_CheckLimit
def v28 : VFn := B_bucket_Check 27
def v29 : VFn := B_model_held 38 28 51
def v30 : VFn := B_slices_Index_uint32
def v31 : VFn := B_model_use 38 39 40 41 51
def v32 : VFn := B_levels_Take 42 43
def v33 : VFn := B_model_count 44
def v34 : VFn := B_levels_Wait 42 45 29
def v35 : VFn := B_slices_Clone_api_Held_v2
def v36 : VFn := B_slices_Clone_uint32_v2
def v37 : VFn := B_spigotref01_Less 65
def v38 : VFn := B_model_at 47 46
def v39 : VFn := B_slices_Delete_api_Held
def v40 : VFn := B_bucket_Full 27 29
def v41 : VFn := B_slices_Insert_api_Held
def v42 : VFn := B_levels_check 28 50 51
def v43 : VFn := B_levels_take 52 53
def v44 : VFn := B_model_count_fn1
def v45 : VFn := B_bucket_Wait 28 55 56 54 57 58 65
def v46 : VFn := B_slices_IndexFunc_api_Held
def v47 : VFn := B_model_at_fn1
def v50 : VFn := B_slices_ContainsFunc_int64 60
def v51 : VFn := B_levels_check_fn1
def v52 : VFn := B_levels_fill 61 62
def v53 : VFn := B_levels_holds 64 63
def v54 : VFn := B_wide_Sub 65
def v55 : VFn := B_wide_Mul 66 65
def v56 : VFn := B_wide_Of 65
def v57 : VFn := B_wide_Up 67 56 68 65
def v58 : VFn := B_wide_Small
def v60 : VFn := B_slices_IndexFunc_int64
def v61 : VFn := B_slices_Clone_api_Bucket
def v62 : VFn := B_bucket_Refill 28 70 29
def v63 : VFn := B_slices_ContainsFunc_api_Bucket 71
def v64 : VFn := B_levels_holds_fn1
def v66 : VFn := B_math_bits_Mul64
def v67 : VFn := B_wide_Div 72 65
def v68 : VFn := B_wide_Add 65
def v70 : VFn := B_bucket_fill 55 56 68 67 58 29 65
def v71 : VFn := B_slices_IndexFunc_api_Bucket
def v72 : VFn := B_math_bits_Div64 74
def v74 : VFn := B_math_bits_LeadingZeros64 75
def v75 : VFn := B_math_bits_Len64
def pu (i : Nat) : Nat := bif Nat.beq i 17 then 0 else bif Nat.beq i 18 then 0 else bif Nat.beq i 31 then 0 else bif Nat.beq i 33 then 0 else bif Nat.beq i 39 then 0 else bif Nat.beq i 41 then 0 else bif Nat.beq i 43 then 0 else bif Nat.beq i 44 then 0 else bif Nat.beq i 52 then 0 else bif Nat.beq i 35 then 2 else bif Nat.beq i 36 then 2 else bif Nat.beq i 61 then 2 else bif Nat.ble 94 i then 0 else 1
def vp (i : Nat) : Option VFn := (bif Nat.blt i 36 then (bif Nat.blt i 19 then (bif Nat.blt i 11 then (bif Nat.blt i 7 then (bif Nat.blt i 5 then (bif Nat.blt i 4 then (bif Nat.beq i 3 then some v3 else none) else (bif Nat.beq i 4 then some v4 else none)) else (bif Nat.blt i 6 then (bif Nat.beq i 5 then some v5 else none) else (bif Nat.beq i 6 then some v6 else none))) else (bif Nat.blt i 9 then (bif Nat.blt i 8 then (bif Nat.beq i 7 then some v7 else none) else (bif Nat.beq i 8 then some v8 else none)) else (bif Nat.blt i 10 then (bif Nat.beq i 9 then some v9 else none) else (bif Nat.beq i 10 then some v10 else none)))) else (bif Nat.blt i 15 then (bif Nat.blt i 13 then (bif Nat.blt i 12 then (bif Nat.beq i 11 then some v11 else none) else (bif Nat.beq i 12 then some v12 else none)) else (bif Nat.blt i 14 then (bif Nat.beq i 13 then some v13 else none) else (bif Nat.beq i 14 then some v14 else none))) else (bif Nat.blt i 17 then (bif Nat.blt i 16 then (bif Nat.beq i 15 then some v15 else none) else (bif Nat.beq i 16 then some v16 else none)) else (bif Nat.blt i 18 then (bif Nat.beq i 17 then some v17 else none) else (bif Nat.beq i 18 then some v18 else none))))) else (bif Nat.blt i 27 then (bif Nat.blt i 23 then (bif Nat.blt i 21 then (bif Nat.blt i 20 then (bif Nat.beq i 19 then some v19 else none) else (bif Nat.beq i 20 then some v20 else none)) else (bif Nat.blt i 22 then (bif Nat.beq i 21 then some v21 else none) else (bif Nat.beq i 22 then some v22 else none))) else (bif Nat.blt i 25 then (bif Nat.blt i 24 then (bif Nat.beq i 23 then some v23 else none) else (bif Nat.beq i 24 then some v24 else none)) else (bif Nat.blt i 26 then (bif Nat.beq i 25 then some v25 else none) else (bif Nat.beq i 26 then some v26 else none)))) else (bif Nat.blt i 31 then (bif Nat.blt i 29 then (bif Nat.blt i 28 then (bif Nat.beq i 27 then some v27 else none) else (bif Nat.beq i 28 then some v28 else none)) else (bif Nat.blt i 30 then (bif Nat.beq i 29 then some v29 else none) else (bif Nat.beq i 30 then some v30 else none))) else (bif Nat.blt i 33 then (bif Nat.blt i 32 then (bif Nat.beq i 31 then some v31 else none) else (bif Nat.beq i 32 then some v32 else none)) else (bif Nat.blt i 34 then (bif Nat.beq i 33 then some v33 else none) else (bif Nat.blt i 35 then (bif Nat.beq i 34 then some v34 else none) else (bif Nat.beq i 35 then some v35 else none))))))) else (bif Nat.blt i 55 then (bif Nat.blt i 44 then (bif Nat.blt i 40 then (bif Nat.blt i 38 then (bif Nat.blt i 37 then (bif Nat.beq i 36 then some v36 else none) else (bif Nat.beq i 37 then some v37 else none)) else (bif Nat.blt i 39 then (bif Nat.beq i 38 then some v38 else none) else (bif Nat.beq i 39 then some v39 else none))) else (bif Nat.blt i 42 then (bif Nat.blt i 41 then (bif Nat.beq i 40 then some v40 else none) else (bif Nat.beq i 41 then some v41 else none)) else (bif Nat.blt i 43 then (bif Nat.beq i 42 then some v42 else none) else (bif Nat.beq i 43 then some v43 else none)))) else (bif Nat.blt i 50 then (bif Nat.blt i 46 then (bif Nat.blt i 45 then (bif Nat.beq i 44 then some v44 else none) else (bif Nat.beq i 45 then some v45 else none)) else (bif Nat.blt i 47 then (bif Nat.beq i 46 then some v46 else none) else (bif Nat.beq i 47 then some v47 else none))) else (bif Nat.blt i 52 then (bif Nat.blt i 51 then (bif Nat.beq i 50 then some v50 else none) else (bif Nat.beq i 51 then some v51 else none)) else (bif Nat.blt i 53 then (bif Nat.beq i 52 then some v52 else none) else (bif Nat.blt i 54 then (bif Nat.beq i 53 then some v53 else none) else (bif Nat.beq i 54 then some v54 else none)))))) else (bif Nat.blt i 64 then (bif Nat.blt i 60 then (bif Nat.blt i 57 then (bif Nat.blt i 56 then (bif Nat.beq i 55 then some v55 else none) else (bif Nat.beq i 56 then some v56 else none)) else (bif Nat.blt i 58 then (bif Nat.beq i 57 then some v57 else none) else (bif Nat.beq i 58 then some v58 else none))) else (bif Nat.blt i 62 then (bif Nat.blt i 61 then (bif Nat.beq i 60 then some v60 else none) else (bif Nat.beq i 61 then some v61 else none)) else (bif Nat.blt i 63 then (bif Nat.beq i 62 then some v62 else none) else (bif Nat.beq i 63 then some v63 else none)))) else (bif Nat.blt i 70 then (bif Nat.blt i 67 then (bif Nat.blt i 66 then (bif Nat.beq i 64 then some v64 else none) else (bif Nat.beq i 66 then some v66 else none)) else (bif Nat.blt i 68 then (bif Nat.beq i 67 then some v67 else none) else (bif Nat.beq i 68 then some v68 else none))) else (bif Nat.blt i 72 then (bif Nat.blt i 71 then (bif Nat.beq i 70 then some v70 else none) else (bif Nat.beq i 71 then some v71 else none)) else (bif Nat.blt i 74 then (bif Nat.beq i 72 then some v72 else none) else (bif Nat.blt i 75 then (bif Nat.beq i 74 then some v74 else none) else (bif Nat.beq i 75 then some v75 else none))))))))
theorem at3 : vp 3 = some v3 := rfl
theorem at4 : vp 4 = some v4 := rfl
theorem at5 : vp 5 = some v5 := rfl
theorem at6 : vp 6 = some v6 := rfl
theorem at7 : vp 7 = some v7 := rfl
theorem at8 : vp 8 = some v8 := rfl
theorem at9 : vp 9 = some v9 := rfl
theorem at10 : vp 10 = some v10 := rfl
theorem at11 : vp 11 = some v11 := rfl
theorem at12 : vp 12 = some v12 := rfl
theorem at13 : vp 13 = some v13 := rfl
theorem at14 : vp 14 = some v14 := rfl
theorem at15 : vp 15 = some v15 := rfl
theorem at16 : vp 16 = some v16 := rfl
theorem at17 : vp 17 = some v17 := rfl
theorem at18 : vp 18 = some v18 := rfl
theorem at19 : vp 19 = some v19 := rfl
theorem at20 : vp 20 = some v20 := rfl
theorem at21 : vp 21 = some v21 := rfl
theorem at22 : vp 22 = some v22 := rfl
theorem at23 : vp 23 = some v23 := rfl
theorem at24 : vp 24 = some v24 := rfl
theorem at25 : vp 25 = some v25 := rfl
theorem at26 : vp 26 = some v26 := rfl
theorem at27 : vp 27 = some v27 := rfl
theorem at28 : vp 28 = some v28 := rfl
theorem at29 : vp 29 = some v29 := rfl
theorem at30 : vp 30 = some v30 := rfl
theorem at31 : vp 31 = some v31 := rfl
theorem at32 : vp 32 = some v32 := rfl
theorem at33 : vp 33 = some v33 := rfl
theorem at34 : vp 34 = some v34 := rfl
theorem at35 : vp 35 = some v35 := rfl
theorem at36 : vp 36 = some v36 := rfl
theorem at37 : vp 37 = some v37 := rfl
theorem at38 : vp 38 = some v38 := rfl
theorem at39 : vp 39 = some v39 := rfl
theorem at40 : vp 40 = some v40 := rfl
theorem at41 : vp 41 = some v41 := rfl
theorem at42 : vp 42 = some v42 := rfl
theorem at43 : vp 43 = some v43 := rfl
theorem at44 : vp 44 = some v44 := rfl
theorem at45 : vp 45 = some v45 := rfl
theorem at46 : vp 46 = some v46 := rfl
theorem at47 : vp 47 = some v47 := rfl
theorem at50 : vp 50 = some v50 := rfl
theorem at51 : vp 51 = some v51 := rfl
theorem at52 : vp 52 = some v52 := rfl
theorem at53 : vp 53 = some v53 := rfl
theorem at54 : vp 54 = some v54 := rfl
theorem at55 : vp 55 = some v55 := rfl
theorem at56 : vp 56 = some v56 := rfl
theorem at57 : vp 57 = some v57 := rfl
theorem at58 : vp 58 = some v58 := rfl
theorem at60 : vp 60 = some v60 := rfl
theorem at61 : vp 61 = some v61 := rfl
theorem at62 : vp 62 = some v62 := rfl
theorem at63 : vp 63 = some v63 := rfl
theorem at64 : vp 64 = some v64 := rfl
theorem at66 : vp 66 = some v66 := rfl
theorem at67 : vp 67 = some v67 := rfl
theorem at68 : vp 68 = some v68 := rfl
theorem at70 : vp 70 = some v70 := rfl
theorem at71 : vp 71 = some v71 := rfl
theorem at72 : vp 72 = some v72 := rfl
theorem at74 : vp 74 = some v74 := rfl
theorem at75 : vp 75 = some v75 := rfl
end Go.VE.LB
