/- The table of the compiled functions that the law ModelCommands reaches: data only. -/
import Derived.Test.YtdggjlfamjfdkaaGreatModelCommandsA1
set_option linter.all false
namespace Go.VE.LB
section
open Go Go.VE
set_option maxRecDepth 100000
set_option linter.all false
def v3 : VFn := B_spigotlaw25_ModelCommands 4 5 6 7 8 9 10 11 29 52
def v4 : VFn := B_spigotlaw25_alive 13 12 52 57
def v5 : VFn := B_spigotref25_Great
def v6 : VFn := B_spigotref25_Check 14 15
def v7 : VFn := B_spigotref09_Command 16 17
def v8 : VFn := B_model_Do 18 19 20 21 29
def v9 : VFn := B_spigotref25_Find
def v10 : VFn := B_spigotref25_Same 22
def v11 : VFn := B_spigotref25_IsRevoked
def v12 : VFn := B_model_Ask_v2 23 24 26 25 52 57
def v13 : VFn := B_spigotlaw25_example 27 28 52
def v14 : VFn := B_spigotref25_Valid 17 29 30
def v15 : VFn := B_spigotref25_late
def v16 : VFn := B_spigotref09_used
def v17 : VFn := B_spigotref03_CheckLimit
def v18 : VFn := B_model_Check 31 32 33 23 34 52
def v19 : VFn := B_frame_Check 35
def v20 : VFn := B_model_copied 36 26 29 52
def v21 : VFn := B_model_do 37 38 39 40 41 43 42
def v22 : VFn := B_spigotref25_SameAccount 44
def v23 : VFn := B_model_valid 45 46 47 31
def v24 : VFn := B_slices_Contains_uint32 48
def v25 : VFn := B_model_ask 49 50 51 52 52 57 46
def v26 : VFn := B_model_clone_v2 53 54 52
def v27 : VFn := B_spigotlaw25_limit 31
def v28 : VFn := B_spigotlaw25_full 27 46
def v29 : VFn := B_spigotref03_Check 17
def v30 : VFn := B_spigotref25_held 55 29
def v31 : VFn := B_slices_ContainsFunc_uint32 56
def v32 : VFn := B_model_Check_fn1
def v33 : VFn := B_model_Check_fn2
def v34 : VFn := B_slices_ContainsFunc_api_Held 57
def v35 : VFn := B_frame_valid 58 34 4
def v36 : VFn := B_slices_Clone_api_Account
def v37 : VFn := B_model_find
def v38 : VFn := B_model_create 59 60 61 52
def v39 : VFn := B_model_change 62
def v40 : VFn := B_slices_BinarySearch_uint32 63 64
def v41 : VFn := B_slices_Insert_uint32
def v42 : VFn := B_slices_DeleteFunc_api_Account 67 52
def v43 : VFn := B_model_do_fn1
def v44 : VFn := B_spigotref25_SameHeld
def v45 : VFn := B_bucket_CheckLimit
def v46 : VFn := B_bucket_Check 45
def v47 : VFn := B_model_held 68 46 88
def v48 : VFn := B_slices_Index_uint32
def v49 : VFn := B_model_use 68 69 59 70 88
def v50 : VFn := B_levels_Take 71 72
def v51 : VFn := B_model_count 73
def v52 : VFn := B_levels_Wait 71 74 46
def v53 : VFn := B_slices_Clone_api_Held_v2
def v54 : VFn := B_slices_Clone_uint32_v2
def v55 : VFn := B_spigotref25_At
def v56 : VFn := B_slices_IndexFunc_uint32
def v57 : VFn := B_slices_IndexFunc_api_Held
def v58 : VFn := B_frame_valid_fn1 45 31
def v59 : VFn := B_bucket_Full 45 46
def v60 : VFn := B_slices_SortFunc_api_Account 76 75
def v61 : VFn := B_model_create_fn1
def v62 : VFn := B_bucket_Change 46 45 77 46
def v63 : VFn := B_cmp_Less_uint32 78
def v64 : VFn := B_slices_isNaN_uint32
def v67 : VFn := B_slices_IndexFunc_api_Account
def v68 : VFn := B_model_at 80 57
def v69 : VFn := B_slices_Delete_api_Held
def v70 : VFn := B_slices_Insert_api_Held
def v71 : VFn := B_levels_check 46 83 84
def v72 : VFn := B_levels_take 85 86
def v73 : VFn := B_model_count_fn1
def v74 : VFn := B_bucket_Wait 46 88 89 87 90 91 146
def v75 : VFn := B_slices_pdqsortCmpFunc_api_Account 92 93 94 95 96 97 98 99 75
def v76 : VFn := B_math_bits_Len 100 101
def v77 : VFn := B_bucket_fill 88 89 102 103 91 46 146
def v78 : VFn := B_cmp_isNaN_uint32
def v80 : VFn := B_model_at_fn1
def v83 : VFn := B_slices_ContainsFunc_int64 106
def v84 : VFn := B_levels_check_fn1
def v85 : VFn := B_levels_fill 107 108
def v86 : VFn := B_levels_holds 110 109
def v87 : VFn := B_wide_Sub 146
def v88 : VFn := B_wide_Mul 112 146
def v89 : VFn := B_wide_Of 146
def v90 : VFn := B_wide_Up 103 89 102 146
def v91 : VFn := B_wide_Small
def v92 : VFn := B_slices_insertionSortCmpFunc_api_Account
def v101 : VFn := B_math_bits_Len64
def v102 : VFn := B_wide_Add 146
def v103 : VFn := B_wide_Div 119 146
def v106 : VFn := B_slices_IndexFunc_int64
def v107 : VFn := B_slices_Clone_api_Bucket
def v108 : VFn := B_bucket_Refill 46 77 46
def v109 : VFn := B_slices_ContainsFunc_api_Bucket 121
def v110 : VFn := B_levels_holds_fn1
def v112 : VFn := B_math_bits_Mul64
def v119 : VFn := B_math_bits_Div64 123
def v121 : VFn := B_slices_IndexFunc_api_Bucket
def v123 : VFn := B_math_bits_LeadingZeros64 101
end
def pu (i : Nat) : Nat := bif Nat.beq i 20 then 0 else bif Nat.beq i 21 then 0 else bif Nat.beq i 25 then 0 else bif Nat.beq i 37 then 0 else bif Nat.beq i 38 then 0 else bif Nat.beq i 39 then 0 else bif Nat.beq i 41 then 0 else bif Nat.beq i 42 then 0 else bif Nat.beq i 49 then 0 else bif Nat.beq i 51 then 0 else bif Nat.beq i 58 then 0 else bif Nat.beq i 60 then 0 else bif Nat.beq i 69 then 0 else bif Nat.beq i 70 then 0 else bif Nat.beq i 72 then 0 else bif Nat.beq i 73 then 0 else bif Nat.beq i 75 then 0 else bif Nat.beq i 85 then 0 else bif Nat.beq i 92 then 0 else bif Nat.beq i 26 then 2 else bif Nat.beq i 36 then 2 else bif Nat.beq i 53 then 2 else bif Nat.beq i 54 then 2 else bif Nat.beq i 107 then 2 else bif Nat.ble 142 i then 0 else 1
def vp (i : Nat) : Option VFn := (bif Nat.blt i 51 then (bif Nat.blt i 27 then (bif Nat.blt i 15 then (bif Nat.blt i 9 then (bif Nat.blt i 6 then (bif Nat.blt i 4 then (bif Nat.beq i 3 then some v3 else none) else (bif Nat.blt i 5 then (bif Nat.beq i 4 then some v4 else none) else (bif Nat.beq i 5 then some v5 else none))) else (bif Nat.blt i 7 then (bif Nat.beq i 6 then some v6 else none) else (bif Nat.blt i 8 then (bif Nat.beq i 7 then some v7 else none) else (bif Nat.beq i 8 then some v8 else none)))) else (bif Nat.blt i 12 then (bif Nat.blt i 10 then (bif Nat.beq i 9 then some v9 else none) else (bif Nat.blt i 11 then (bif Nat.beq i 10 then some v10 else none) else (bif Nat.beq i 11 then some v11 else none))) else (bif Nat.blt i 13 then (bif Nat.beq i 12 then some v12 else none) else (bif Nat.blt i 14 then (bif Nat.beq i 13 then some v13 else none) else (bif Nat.beq i 14 then some v14 else none))))) else (bif Nat.blt i 21 then (bif Nat.blt i 18 then (bif Nat.blt i 16 then (bif Nat.beq i 15 then some v15 else none) else (bif Nat.blt i 17 then (bif Nat.beq i 16 then some v16 else none) else (bif Nat.beq i 17 then some v17 else none))) else (bif Nat.blt i 19 then (bif Nat.beq i 18 then some v18 else none) else (bif Nat.blt i 20 then (bif Nat.beq i 19 then some v19 else none) else (bif Nat.beq i 20 then some v20 else none)))) else (bif Nat.blt i 24 then (bif Nat.blt i 22 then (bif Nat.beq i 21 then some v21 else none) else (bif Nat.blt i 23 then (bif Nat.beq i 22 then some v22 else none) else (bif Nat.beq i 23 then some v23 else none))) else (bif Nat.blt i 25 then (bif Nat.beq i 24 then some v24 else none) else (bif Nat.blt i 26 then (bif Nat.beq i 25 then some v25 else none) else (bif Nat.beq i 26 then some v26 else none)))))) else (bif Nat.blt i 39 then (bif Nat.blt i 33 then (bif Nat.blt i 30 then (bif Nat.blt i 28 then (bif Nat.beq i 27 then some v27 else none) else (bif Nat.blt i 29 then (bif Nat.beq i 28 then some v28 else none) else (bif Nat.beq i 29 then some v29 else none))) else (bif Nat.blt i 31 then (bif Nat.beq i 30 then some v30 else none) else (bif Nat.blt i 32 then (bif Nat.beq i 31 then some v31 else none) else (bif Nat.beq i 32 then some v32 else none)))) else (bif Nat.blt i 36 then (bif Nat.blt i 34 then (bif Nat.beq i 33 then some v33 else none) else (bif Nat.blt i 35 then (bif Nat.beq i 34 then some v34 else none) else (bif Nat.beq i 35 then some v35 else none))) else (bif Nat.blt i 37 then (bif Nat.beq i 36 then some v36 else none) else (bif Nat.blt i 38 then (bif Nat.beq i 37 then some v37 else none) else (bif Nat.beq i 38 then some v38 else none))))) else (bif Nat.blt i 45 then (bif Nat.blt i 42 then (bif Nat.blt i 40 then (bif Nat.beq i 39 then some v39 else none) else (bif Nat.blt i 41 then (bif Nat.beq i 40 then some v40 else none) else (bif Nat.beq i 41 then some v41 else none))) else (bif Nat.blt i 43 then (bif Nat.beq i 42 then some v42 else none) else (bif Nat.blt i 44 then (bif Nat.beq i 43 then some v43 else none) else (bif Nat.beq i 44 then some v44 else none)))) else (bif Nat.blt i 48 then (bif Nat.blt i 46 then (bif Nat.beq i 45 then some v45 else none) else (bif Nat.blt i 47 then (bif Nat.beq i 46 then some v46 else none) else (bif Nat.beq i 47 then some v47 else none))) else (bif Nat.blt i 49 then (bif Nat.beq i 48 then some v48 else none) else (bif Nat.blt i 50 then (bif Nat.beq i 49 then some v49 else none) else (bif Nat.beq i 50 then some v50 else none))))))) else (bif Nat.blt i 77 then (bif Nat.blt i 63 then (bif Nat.blt i 57 then (bif Nat.blt i 54 then (bif Nat.blt i 52 then (bif Nat.beq i 51 then some v51 else none) else (bif Nat.blt i 53 then (bif Nat.beq i 52 then some v52 else none) else (bif Nat.beq i 53 then some v53 else none))) else (bif Nat.blt i 55 then (bif Nat.beq i 54 then some v54 else none) else (bif Nat.blt i 56 then (bif Nat.beq i 55 then some v55 else none) else (bif Nat.beq i 56 then some v56 else none)))) else (bif Nat.blt i 60 then (bif Nat.blt i 58 then (bif Nat.beq i 57 then some v57 else none) else (bif Nat.blt i 59 then (bif Nat.beq i 58 then some v58 else none) else (bif Nat.beq i 59 then some v59 else none))) else (bif Nat.blt i 61 then (bif Nat.beq i 60 then some v60 else none) else (bif Nat.blt i 62 then (bif Nat.beq i 61 then some v61 else none) else (bif Nat.beq i 62 then some v62 else none))))) else (bif Nat.blt i 71 then (bif Nat.blt i 68 then (bif Nat.blt i 64 then (bif Nat.beq i 63 then some v63 else none) else (bif Nat.blt i 67 then (bif Nat.beq i 64 then some v64 else none) else (bif Nat.beq i 67 then some v67 else none))) else (bif Nat.blt i 69 then (bif Nat.beq i 68 then some v68 else none) else (bif Nat.blt i 70 then (bif Nat.beq i 69 then some v69 else none) else (bif Nat.beq i 70 then some v70 else none)))) else (bif Nat.blt i 74 then (bif Nat.blt i 72 then (bif Nat.beq i 71 then some v71 else none) else (bif Nat.blt i 73 then (bif Nat.beq i 72 then some v72 else none) else (bif Nat.beq i 73 then some v73 else none))) else (bif Nat.blt i 75 then (bif Nat.beq i 74 then some v74 else none) else (bif Nat.blt i 76 then (bif Nat.beq i 75 then some v75 else none) else (bif Nat.beq i 76 then some v76 else none)))))) else (bif Nat.blt i 92 then (bif Nat.blt i 86 then (bif Nat.blt i 83 then (bif Nat.blt i 78 then (bif Nat.beq i 77 then some v77 else none) else (bif Nat.blt i 80 then (bif Nat.beq i 78 then some v78 else none) else (bif Nat.beq i 80 then some v80 else none))) else (bif Nat.blt i 84 then (bif Nat.beq i 83 then some v83 else none) else (bif Nat.blt i 85 then (bif Nat.beq i 84 then some v84 else none) else (bif Nat.beq i 85 then some v85 else none)))) else (bif Nat.blt i 89 then (bif Nat.blt i 87 then (bif Nat.beq i 86 then some v86 else none) else (bif Nat.blt i 88 then (bif Nat.beq i 87 then some v87 else none) else (bif Nat.beq i 88 then some v88 else none))) else (bif Nat.blt i 90 then (bif Nat.beq i 89 then some v89 else none) else (bif Nat.blt i 91 then (bif Nat.beq i 90 then some v90 else none) else (bif Nat.beq i 91 then some v91 else none))))) else (bif Nat.blt i 108 then (bif Nat.blt i 103 then (bif Nat.blt i 101 then (bif Nat.beq i 92 then some v92 else none) else (bif Nat.blt i 102 then (bif Nat.beq i 101 then some v101 else none) else (bif Nat.beq i 102 then some v102 else none))) else (bif Nat.blt i 106 then (bif Nat.beq i 103 then some v103 else none) else (bif Nat.blt i 107 then (bif Nat.beq i 106 then some v106 else none) else (bif Nat.beq i 107 then some v107 else none)))) else (bif Nat.blt i 112 then (bif Nat.blt i 109 then (bif Nat.beq i 108 then some v108 else none) else (bif Nat.blt i 110 then (bif Nat.beq i 109 then some v109 else none) else (bif Nat.beq i 110 then some v110 else none))) else (bif Nat.blt i 121 then (bif Nat.blt i 119 then (bif Nat.beq i 112 then some v112 else none) else (bif Nat.beq i 119 then some v119 else none)) else (bif Nat.blt i 123 then (bif Nat.beq i 121 then some v121 else none) else (bif Nat.beq i 123 then some v123 else none))))))))
theorem at3 : vp 3 = some v3 := rfl
theorem at4 : vp 4 = some v4 := rfl
theorem at5 : vp 5 = some v5 := rfl
theorem at6 : vp 6 = some v6 := rfl
theorem at7 : vp 7 = some v7 := rfl
theorem at8 : vp 8 = some v8 := rfl
theorem at9 : vp 9 = some v9 := rfl
theorem at10 : vp 10 = some v10 := rfl
theorem at11 : vp 11 = some v11 := rfl
theorem at12 : vp 12 = some v12 := rfl
theorem at13 : vp 13 = some v13 := rfl
theorem at14 : vp 14 = some v14 := rfl
theorem at15 : vp 15 = some v15 := rfl
theorem at16 : vp 16 = some v16 := rfl
theorem at17 : vp 17 = some v17 := rfl
theorem at18 : vp 18 = some v18 := rfl
theorem at19 : vp 19 = some v19 := rfl
theorem at20 : vp 20 = some v20 := rfl
theorem at21 : vp 21 = some v21 := rfl
theorem at22 : vp 22 = some v22 := rfl
theorem at23 : vp 23 = some v23 := rfl
theorem at24 : vp 24 = some v24 := rfl
theorem at25 : vp 25 = some v25 := rfl
theorem at26 : vp 26 = some v26 := rfl
theorem at27 : vp 27 = some v27 := rfl
theorem at28 : vp 28 = some v28 := rfl
theorem at29 : vp 29 = some v29 := rfl
theorem at30 : vp 30 = some v30 := rfl
theorem at31 : vp 31 = some v31 := rfl
theorem at32 : vp 32 = some v32 := rfl
theorem at33 : vp 33 = some v33 := rfl
theorem at34 : vp 34 = some v34 := rfl
theorem at35 : vp 35 = some v35 := rfl
theorem at36 : vp 36 = some v36 := rfl
theorem at37 : vp 37 = some v37 := rfl
theorem at38 : vp 38 = some v38 := rfl
theorem at39 : vp 39 = some v39 := rfl
theorem at40 : vp 40 = some v40 := rfl
theorem at41 : vp 41 = some v41 := rfl
theorem at42 : vp 42 = some v42 := rfl
theorem at43 : vp 43 = some v43 := rfl
theorem at44 : vp 44 = some v44 := rfl
theorem at45 : vp 45 = some v45 := rfl
theorem at46 : vp 46 = some v46 := rfl
theorem at47 : vp 47 = some v47 := rfl
theorem at48 : vp 48 = some v48 := rfl
theorem at49 : vp 49 = some v49 := rfl
theorem at50 : vp 50 = some v50 := rfl
theorem at51 : vp 51 = some v51 := rfl
theorem at52 : vp 52 = some v52 := rfl
theorem at53 : vp 53 = some v53 := rfl
theorem at54 : vp 54 = some v54 := rfl
theorem at55 : vp 55 = some v55 := rfl
theorem at56 : vp 56 = some v56 := rfl
theorem at57 : vp 57 = some v57 := rfl
theorem at58 : vp 58 = some v58 := rfl
theorem at59 : vp 59 = some v59 := rfl
theorem at60 : vp 60 = some v60 := rfl
theorem at61 : vp 61 = some v61 := rfl
theorem at62 : vp 62 = some v62 := rfl
theorem at63 : vp 63 = some v63 := rfl
theorem at64 : vp 64 = some v64 := rfl
theorem at67 : vp 67 = some v67 := rfl
theorem at68 : vp 68 = some v68 := rfl
theorem at69 : vp 69 = some v69 := rfl
theorem at70 : vp 70 = some v70 := rfl
theorem at71 : vp 71 = some v71 := rfl
theorem at72 : vp 72 = some v72 := rfl
theorem at73 : vp 73 = some v73 := rfl
theorem at74 : vp 74 = some v74 := rfl
theorem at75 : vp 75 = some v75 := rfl
theorem at76 : vp 76 = some v76 := rfl
theorem at77 : vp 77 = some v77 := rfl
theorem at78 : vp 78 = some v78 := rfl
theorem at80 : vp 80 = some v80 := rfl
theorem at83 : vp 83 = some v83 := rfl
theorem at84 : vp 84 = some v84 := rfl
theorem at85 : vp 85 = some v85 := rfl
theorem at86 : vp 86 = some v86 := rfl
theorem at87 : vp 87 = some v87 := rfl
theorem at88 : vp 88 = some v88 := rfl
theorem at89 : vp 89 = some v89 := rfl
theorem at90 : vp 90 = some v90 := rfl
theorem at91 : vp 91 = some v91 := rfl
theorem at92 : vp 92 = some v92 := rfl
theorem at101 : vp 101 = some v101 := rfl
theorem at102 : vp 102 = some v102 := rfl
theorem at103 : vp 103 = some v103 := rfl
theorem at106 : vp 106 = some v106 := rfl
theorem at107 : vp 107 = some v107 := rfl
theorem at108 : vp 108 = some v108 := rfl
theorem at109 : vp 109 = some v109 := rfl
theorem at110 : vp 110 = some v110 := rfl
theorem at112 : vp 112 = some v112 := rfl
theorem at119 : vp 119 = some v119 := rfl
theorem at121 : vp 121 = some v121 := rfl
theorem at123 : vp 123 = some v123 := rfl
end Go.VE.LB
