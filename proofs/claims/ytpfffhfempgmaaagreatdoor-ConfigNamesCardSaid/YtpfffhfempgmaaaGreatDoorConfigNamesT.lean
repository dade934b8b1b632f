/- The table of the law ConfigNames as one function, in two forms. -/
import Derived.Test.YtpfffhfempgmaaaGreatDoorConfigNamesT1
import Derived.Test.YtpfffhfempgmaaaGreatDoorConfigNamesT2
import Derived.Test.YtpfffhfempgmaaaGreatDoorConfigNamesT3
import Derived.KernelRfl
namespace Go.Proofs.YtpfffhfempgmaaaGreatDoor.configNames
open Go Go.VE
set_option maxRecDepth 100000
def g1 : List V := [(.ifc 198 (.iptr [(.str [105, 110, 118, 97, 108, 105, 100, 32, 115, 121, 110, 116, 97, 120])]))]
def g2 : List V := [(.ifc 198 (.iptr [(.str [118, 97, 108, 117, 101, 32, 111, 117, 116, 32, 111, 102, 32, 114, 97, 110, 103, 101])]))]
def g3 : List V := [(.int .u64 1), (.int .u64 10), (.int .u64 100), (.int .u64 1000), (.int .u64 10000), (.int .u64 100000), (.int .u64 1000000), (.int .u64 10000000), (.int .u64 100000000), (.int .u64 1000000000), (.int .u64 10000000000), (.int .u64 100000000000), (.int .u64 1000000000000), (.int .u64 10000000000000), (.int .u64 100000000000000), (.int .u64 1000000000000000), (.int .u64 10000000000000000), (.int .u64 100000000000000000), (.int .u64 1000000000000000000), (.int .u64 10000000000000000000)]
def gl (i : Nat) : Option (List V) := bif Nat.beq i 1 then some g1 else bif Nat.beq i 2 then some g2 else bif Nat.beq i 3 then some g3 else none
def pu (i : Nat) : Nat := bif Nat.beq i 39 then 3 else bif Nat.beq i 26 || Nat.beq i 45 || Nat.beq i 44 then 2 else bif false then 1 else 0
def vp (i : Nat) : Option VFn := (bif Nat.blt i 40 then (bif Nat.blt i 21 then (bif Nat.blt i 12 then (bif Nat.blt i 7 then (bif Nat.blt i 5 then (bif Nat.blt i 4 then (bif Nat.beq i 3 then some v3 else none) else (bif Nat.beq i 4 then some v4 else none)) else (bif Nat.blt i 6 then (bif Nat.beq i 5 then some v5 else none) else (bif Nat.beq i 6 then some v6 else none))) else (bif Nat.blt i 9 then (bif Nat.blt i 8 then (bif Nat.beq i 7 then some v7 else none) else (bif Nat.beq i 8 then some v8 else none)) else (bif Nat.blt i 10 then (bif Nat.beq i 9 then some v9 else none) else (bif Nat.blt i 11 then (bif Nat.beq i 10 then some v10 else none) else (bif Nat.beq i 11 then some v11 else none))))) else (bif Nat.blt i 16 then (bif Nat.blt i 14 then (bif Nat.blt i 13 then (bif Nat.beq i 12 then some v12 else none) else (bif Nat.beq i 13 then some v13 else none)) else (bif Nat.blt i 15 then (bif Nat.beq i 14 then some v14 else none) else (bif Nat.beq i 15 then some v15 else none))) else (bif Nat.blt i 18 then (bif Nat.blt i 17 then (bif Nat.beq i 16 then some v16 else none) else (bif Nat.beq i 17 then some v17 else none)) else (bif Nat.blt i 19 then (bif Nat.beq i 18 then some v18 else none) else (bif Nat.blt i 20 then (bif Nat.beq i 19 then some v19 else none) else (bif Nat.beq i 20 then some v20 else none)))))) else (bif Nat.blt i 31 then (bif Nat.blt i 25 then (bif Nat.blt i 23 then (bif Nat.blt i 22 then (bif Nat.beq i 21 then some v21 else none) else (bif Nat.beq i 22 then some v22 else none)) else (bif Nat.blt i 24 then (bif Nat.beq i 23 then some v23 else none) else (bif Nat.beq i 24 then some v24 else none))) else (bif Nat.blt i 28 then (bif Nat.blt i 27 then (bif Nat.beq i 25 then some v25 else none) else (bif Nat.beq i 27 then some v27 else none)) else (bif Nat.blt i 29 then (bif Nat.beq i 28 then some v28 else none) else (bif Nat.blt i 30 then (bif Nat.beq i 29 then some v29 else none) else (bif Nat.beq i 30 then some v30 else none))))) else (bif Nat.blt i 35 then (bif Nat.blt i 33 then (bif Nat.blt i 32 then (bif Nat.beq i 31 then some v31 else none) else (bif Nat.beq i 32 then some v32 else none)) else (bif Nat.blt i 34 then (bif Nat.beq i 33 then some v33 else none) else (bif Nat.beq i 34 then some v34 else none))) else (bif Nat.blt i 37 then (bif Nat.blt i 36 then (bif Nat.beq i 35 then some v35 else none) else (bif Nat.beq i 36 then some v36 else none)) else (bif Nat.blt i 38 then (bif Nat.beq i 37 then some v37 else none) else (bif Nat.blt i 39 then (bif Nat.beq i 38 then some v38 else none) else (bif Nat.beq i 39 then some v39 else none))))))) else (bif Nat.blt i 60 then (bif Nat.blt i 49 then (bif Nat.blt i 44 then (bif Nat.blt i 42 then (bif Nat.blt i 41 then (bif Nat.beq i 40 then some v40 else none) else (bif Nat.beq i 41 then some v41 else none)) else (bif Nat.blt i 43 then (bif Nat.beq i 42 then some v42 else none) else (bif Nat.beq i 43 then some v43 else none))) else (bif Nat.blt i 46 then (bif Nat.blt i 45 then (bif Nat.beq i 44 then some v44 else none) else (bif Nat.beq i 45 then some v45 else none)) else (bif Nat.blt i 47 then (bif Nat.beq i 46 then some v46 else none) else (bif Nat.blt i 48 then (bif Nat.beq i 47 then some v47 else none) else (bif Nat.beq i 48 then some v48 else none))))) else (bif Nat.blt i 55 then (bif Nat.blt i 51 then (bif Nat.blt i 50 then (bif Nat.beq i 49 then some v49 else none) else (bif Nat.beq i 50 then some v50 else none)) else (bif Nat.blt i 54 then (bif Nat.beq i 51 then some v51 else none) else (bif Nat.beq i 54 then some v54 else none))) else (bif Nat.blt i 57 then (bif Nat.blt i 56 then (bif Nat.beq i 55 then some v55 else none) else (bif Nat.beq i 56 then some v56 else none)) else (bif Nat.blt i 58 then (bif Nat.beq i 57 then some v57 else none) else (bif Nat.blt i 59 then (bif Nat.beq i 58 then some v58 else none) else (bif Nat.beq i 59 then some v59 else none)))))) else (bif Nat.blt i 74 then (bif Nat.blt i 65 then (bif Nat.blt i 63 then (bif Nat.blt i 62 then (bif Nat.beq i 60 then some v60 else none) else (bif Nat.beq i 62 then some v62 else none)) else (bif Nat.blt i 64 then (bif Nat.beq i 63 then some v63 else none) else (bif Nat.beq i 64 then some v64 else none))) else (bif Nat.blt i 71 then (bif Nat.blt i 70 then (bif Nat.beq i 65 then some v65 else none) else (bif Nat.beq i 70 then some v70 else none)) else (bif Nat.blt i 72 then (bif Nat.beq i 71 then some v71 else none) else (bif Nat.blt i 73 then (bif Nat.beq i 72 then some v72 else none) else (bif Nat.beq i 73 then some v73 else none))))) else (bif Nat.blt i 85 then (bif Nat.blt i 76 then (bif Nat.blt i 75 then (bif Nat.beq i 74 then some v74 else none) else (bif Nat.beq i 75 then some v75 else none)) else (bif Nat.blt i 84 then (bif Nat.beq i 76 then some v76 else none) else (bif Nat.beq i 84 then some v84 else none))) else (bif Nat.blt i 90 then (bif Nat.blt i 86 then (bif Nat.beq i 85 then some v85 else none) else (bif Nat.beq i 86 then some v86 else none)) else (bif Nat.blt i 105 then (bif Nat.beq i 90 then some v90 else none) else (bif Nat.blt i 107 then (bif Nat.beq i 105 then some v105 else none) else (bif Nat.beq i 107 then some v107 else none))))))))
def W (i : Nat) : Option FFn := (bif Nat.blt i 40 then (bif Nat.blt i 21 then (bif Nat.blt i 12 then (bif Nat.blt i 7 then (bif Nat.blt i 5 then (bif Nat.blt i 4 then (bif Nat.beq i 3 then some u3 else none) else (bif Nat.beq i 4 then some u4 else none)) else (bif Nat.blt i 6 then (bif Nat.beq i 5 then some u5 else none) else (bif Nat.beq i 6 then some u6 else none))) else (bif Nat.blt i 9 then (bif Nat.blt i 8 then (bif Nat.beq i 7 then some u7 else none) else (bif Nat.beq i 8 then some u8 else none)) else (bif Nat.blt i 10 then (bif Nat.beq i 9 then some u9 else none) else (bif Nat.blt i 11 then (bif Nat.beq i 10 then some u10 else none) else (bif Nat.beq i 11 then some u11 else none))))) else (bif Nat.blt i 16 then (bif Nat.blt i 14 then (bif Nat.blt i 13 then (bif Nat.beq i 12 then some u12 else none) else (bif Nat.beq i 13 then some u13 else none)) else (bif Nat.blt i 15 then (bif Nat.beq i 14 then some u14 else none) else (bif Nat.beq i 15 then some u15 else none))) else (bif Nat.blt i 18 then (bif Nat.blt i 17 then (bif Nat.beq i 16 then some u16 else none) else (bif Nat.beq i 17 then some u17 else none)) else (bif Nat.blt i 19 then (bif Nat.beq i 18 then some u18 else none) else (bif Nat.blt i 20 then (bif Nat.beq i 19 then some u19 else none) else (bif Nat.beq i 20 then some u20 else none)))))) else (bif Nat.blt i 31 then (bif Nat.blt i 25 then (bif Nat.blt i 23 then (bif Nat.blt i 22 then (bif Nat.beq i 21 then some u21 else none) else (bif Nat.beq i 22 then some u22 else none)) else (bif Nat.blt i 24 then (bif Nat.beq i 23 then some u23 else none) else (bif Nat.beq i 24 then some u24 else none))) else (bif Nat.blt i 28 then (bif Nat.blt i 27 then (bif Nat.beq i 25 then some u25 else none) else (bif Nat.beq i 27 then some u27 else none)) else (bif Nat.blt i 29 then (bif Nat.beq i 28 then some u28 else none) else (bif Nat.blt i 30 then (bif Nat.beq i 29 then some u29 else none) else (bif Nat.beq i 30 then some u30 else none))))) else (bif Nat.blt i 35 then (bif Nat.blt i 33 then (bif Nat.blt i 32 then (bif Nat.beq i 31 then some u31 else none) else (bif Nat.beq i 32 then some u32 else none)) else (bif Nat.blt i 34 then (bif Nat.beq i 33 then some u33 else none) else (bif Nat.beq i 34 then some u34 else none))) else (bif Nat.blt i 37 then (bif Nat.blt i 36 then (bif Nat.beq i 35 then some u35 else none) else (bif Nat.beq i 36 then some u36 else none)) else (bif Nat.blt i 38 then (bif Nat.beq i 37 then some u37 else none) else (bif Nat.blt i 39 then (bif Nat.beq i 38 then some u38 else none) else (bif Nat.beq i 39 then some u39 else none))))))) else (bif Nat.blt i 60 then (bif Nat.blt i 49 then (bif Nat.blt i 44 then (bif Nat.blt i 42 then (bif Nat.blt i 41 then (bif Nat.beq i 40 then some u40 else none) else (bif Nat.beq i 41 then some u41 else none)) else (bif Nat.blt i 43 then (bif Nat.beq i 42 then some u42 else none) else (bif Nat.beq i 43 then some u43 else none))) else (bif Nat.blt i 46 then (bif Nat.blt i 45 then (bif Nat.beq i 44 then some u44 else none) else (bif Nat.beq i 45 then some u45 else none)) else (bif Nat.blt i 47 then (bif Nat.beq i 46 then some u46 else none) else (bif Nat.blt i 48 then (bif Nat.beq i 47 then some u47 else none) else (bif Nat.beq i 48 then some u48 else none))))) else (bif Nat.blt i 55 then (bif Nat.blt i 51 then (bif Nat.blt i 50 then (bif Nat.beq i 49 then some u49 else none) else (bif Nat.beq i 50 then some u50 else none)) else (bif Nat.blt i 54 then (bif Nat.beq i 51 then some u51 else none) else (bif Nat.beq i 54 then some u54 else none))) else (bif Nat.blt i 57 then (bif Nat.blt i 56 then (bif Nat.beq i 55 then some u55 else none) else (bif Nat.beq i 56 then some u56 else none)) else (bif Nat.blt i 58 then (bif Nat.beq i 57 then some u57 else none) else (bif Nat.blt i 59 then (bif Nat.beq i 58 then some u58 else none) else (bif Nat.beq i 59 then some u59 else none)))))) else (bif Nat.blt i 74 then (bif Nat.blt i 65 then (bif Nat.blt i 63 then (bif Nat.blt i 62 then (bif Nat.beq i 60 then some u60 else none) else (bif Nat.beq i 62 then some u62 else none)) else (bif Nat.blt i 64 then (bif Nat.beq i 63 then some u63 else none) else (bif Nat.beq i 64 then some u64 else none))) else (bif Nat.blt i 71 then (bif Nat.blt i 70 then (bif Nat.beq i 65 then some u65 else none) else (bif Nat.beq i 70 then some u70 else none)) else (bif Nat.blt i 72 then (bif Nat.beq i 71 then some u71 else none) else (bif Nat.blt i 73 then (bif Nat.beq i 72 then some u72 else none) else (bif Nat.beq i 73 then some u73 else none))))) else (bif Nat.blt i 85 then (bif Nat.blt i 76 then (bif Nat.blt i 75 then (bif Nat.beq i 74 then some u74 else none) else (bif Nat.beq i 75 then some u75 else none)) else (bif Nat.blt i 84 then (bif Nat.beq i 76 then some u76 else none) else (bif Nat.beq i 84 then some u84 else none))) else (bif Nat.blt i 90 then (bif Nat.blt i 86 then (bif Nat.beq i 85 then some u85 else none) else (bif Nat.beq i 86 then some u86 else none)) else (bif Nat.blt i 105 then (bif Nat.beq i 90 then some u90 else none) else (bif Nat.blt i 107 then (bif Nat.beq i 105 then some u105 else none) else (bif Nat.beq i 107 then some u107 else none))))))))
theorem uv3 : u3 = denF v3 := by kernel_rfl
theorem uv4 : u4 = denF v4 := by kernel_rfl
theorem uv5 : u5 = denF v5 := by kernel_rfl
theorem uv6 : u6 = denF v6 := by kernel_rfl
theorem uv7 : u7 = denF v7 := by kernel_rfl
theorem uv8 : u8 = denF v8 := by kernel_rfl
theorem uv9 : u9 = denF v9 := by kernel_rfl
theorem uv10 : u10 = denF v10 := by kernel_rfl
theorem uv11 : u11 = denF v11 := by kernel_rfl
theorem uv12 : u12 = denF v12 := by kernel_rfl
theorem uv13 : u13 = denF v13 := by kernel_rfl
theorem uv14 : u14 = denF v14 := by kernel_rfl
theorem uv15 : u15 = denF v15 := by kernel_rfl
theorem uv16 : u16 = denF v16 := by kernel_rfl
theorem uv17 : u17 = denF v17 := by kernel_rfl
theorem uv18 : u18 = denF v18 := by kernel_rfl
theorem uv19 : u19 = denF v19 := by kernel_rfl
theorem uv20 : u20 = denF v20 := by kernel_rfl
theorem uv21 : u21 = denF v21 := by kernel_rfl
theorem uv22 : u22 = denF v22 := by kernel_rfl
theorem uv23 : u23 = denF v23 := by kernel_rfl
theorem uv24 : u24 = denF v24 := by kernel_rfl
theorem uv25 : u25 = denF v25 := by kernel_rfl
theorem uv27 : u27 = denF v27 := by kernel_rfl
theorem uv28 : u28 = denF v28 := by kernel_rfl
theorem uv29 : u29 = denF v29 := by kernel_rfl
theorem uv30 : u30 = denF v30 := by kernel_rfl
theorem uv31 : u31 = denF v31 := by kernel_rfl
theorem uv32 : u32 = denF v32 := by kernel_rfl
theorem uv33 : u33 = denF v33 := by kernel_rfl
theorem uv34 : u34 = denF v34 := by kernel_rfl
theorem uv35 : u35 = denF v35 := by kernel_rfl
theorem uv36 : u36 = denF v36 := by kernel_rfl
theorem uv37 : u37 = denF v37 := by kernel_rfl
theorem uv38 : u38 = denF v38 := by kernel_rfl
theorem uv39 : u39 = denF v39 := by kernel_rfl
theorem uv40 : u40 = denF v40 := by kernel_rfl
theorem uv41 : u41 = denF v41 := by kernel_rfl
theorem uv42 : u42 = denF v42 := by kernel_rfl
theorem uv43 : u43 = denF v43 := by kernel_rfl
theorem uv44 : u44 = denF v44 := by kernel_rfl
theorem uv45 : u45 = denF v45 := by kernel_rfl
theorem uv46 : u46 = denF v46 := by kernel_rfl
theorem uv47 : u47 = denF v47 := by kernel_rfl
theorem uv48 : u48 = denF v48 := by kernel_rfl
theorem uv49 : u49 = denF v49 := by kernel_rfl
theorem uv50 : u50 = denF v50 := by kernel_rfl
theorem uv51 : u51 = denF v51 := by kernel_rfl
theorem uv54 : u54 = denF v54 := by kernel_rfl
theorem uv55 : u55 = denF v55 := by kernel_rfl
theorem uv56 : u56 = denF v56 := by kernel_rfl
theorem uv57 : u57 = denF v57 := by kernel_rfl
theorem uv58 : u58 = denF v58 := by kernel_rfl
theorem uv59 : u59 = denF v59 := by kernel_rfl
theorem uv60 : u60 = denF v60 := by kernel_rfl
theorem uv62 : u62 = denF v62 := by kernel_rfl
theorem uv63 : u63 = denF v63 := by kernel_rfl
theorem uv64 : u64 = denF v64 := by kernel_rfl
theorem uv65 : u65 = denF v65 := by kernel_rfl
theorem uv70 : u70 = denF v70 := by kernel_rfl
theorem uv71 : u71 = denF v71 := by kernel_rfl
theorem uv72 : u72 = denF v72 := by kernel_rfl
theorem uv73 : u73 = denF v73 := by kernel_rfl
theorem uv74 : u74 = denF v74 := by kernel_rfl
theorem uv75 : u75 = denF v75 := by kernel_rfl
theorem uv76 : u76 = denF v76 := by kernel_rfl
theorem uv84 : u84 = denF v84 := by kernel_rfl
theorem uv85 : u85 = denF v85 := by kernel_rfl
theorem uv86 : u86 = denF v86 := by kernel_rfl
theorem uv90 : u90 = denF v90 := by kernel_rfl
theorem uv105 : u105 = denF v105 := by kernel_rfl
theorem uv107 : u107 = denF v107 := by kernel_rfl
theorem hW (i : Nat) : W i = (vp i).map denF := by
  unfold W vp
  exact (w_bif (w_bif (w_bif (w_bif (w_bif (w_bif (w_leaf uv3) (w_leaf uv4)) (w_bif (w_leaf uv5) (w_leaf uv6))) (w_bif (w_bif (w_leaf uv7) (w_leaf uv8)) (w_bif (w_leaf uv9) (w_bif (w_leaf uv10) (w_leaf uv11))))) (w_bif (w_bif (w_bif (w_leaf uv12) (w_leaf uv13)) (w_bif (w_leaf uv14) (w_leaf uv15))) (w_bif (w_bif (w_leaf uv16) (w_leaf uv17)) (w_bif (w_leaf uv18) (w_bif (w_leaf uv19) (w_leaf uv20)))))) (w_bif (w_bif (w_bif (w_bif (w_leaf uv21) (w_leaf uv22)) (w_bif (w_leaf uv23) (w_leaf uv24))) (w_bif (w_bif (w_leaf uv25) (w_leaf uv27)) (w_bif (w_leaf uv28) (w_bif (w_leaf uv29) (w_leaf uv30))))) (w_bif (w_bif (w_bif (w_leaf uv31) (w_leaf uv32)) (w_bif (w_leaf uv33) (w_leaf uv34))) (w_bif (w_bif (w_leaf uv35) (w_leaf uv36)) (w_bif (w_leaf uv37) (w_bif (w_leaf uv38) (w_leaf uv39))))))) (w_bif (w_bif (w_bif (w_bif (w_bif (w_leaf uv40) (w_leaf uv41)) (w_bif (w_leaf uv42) (w_leaf uv43))) (w_bif (w_bif (w_leaf uv44) (w_leaf uv45)) (w_bif (w_leaf uv46) (w_bif (w_leaf uv47) (w_leaf uv48))))) (w_bif (w_bif (w_bif (w_leaf uv49) (w_leaf uv50)) (w_bif (w_leaf uv51) (w_leaf uv54))) (w_bif (w_bif (w_leaf uv55) (w_leaf uv56)) (w_bif (w_leaf uv57) (w_bif (w_leaf uv58) (w_leaf uv59)))))) (w_bif (w_bif (w_bif (w_bif (w_leaf uv60) (w_leaf uv62)) (w_bif (w_leaf uv63) (w_leaf uv64))) (w_bif (w_bif (w_leaf uv65) (w_leaf uv70)) (w_bif (w_leaf uv71) (w_bif (w_leaf uv72) (w_leaf uv73))))) (w_bif (w_bif (w_bif (w_leaf uv74) (w_leaf uv75)) (w_bif (w_leaf uv76) (w_leaf uv84))) (w_bif (w_bif (w_leaf uv85) (w_leaf uv86)) (w_bif (w_leaf uv90) (w_bif (w_leaf uv105) (w_leaf uv107))))))))
end Go.Proofs.YtpfffhfempgmaaaGreatDoor.configNames
