/- The table of the law ReportNames as one function, in two forms. -/
import Derived.Test.YtpfffhfempgmaabGreatDoorReportNamesT1
import Derived.Test.YtpfffhfempgmaabGreatDoorReportNamesT2
import Derived.Test.YtpfffhfempgmaabGreatDoorReportNamesT3
import Derived.Test.YtpfffhfempgmaabGreatDoorReportNamesT4
import Derived.Test.YtpfffhfempgmaabGreatDoorReportNamesT5
import Derived.KernelRfl
namespace Go.Proofs.YtpfffhfempgmaabGreatDoor.reportNames
open Go Go.VE
set_option maxRecDepth 100000
def g0 : List V := [(.int .u64 1), (.int .u64 10), (.int .u64 100), (.int .u64 1000), (.int .u64 10000), (.int .u64 100000), (.int .u64 1000000), (.int .u64 10000000), (.int .u64 100000000), (.int .u64 1000000000), (.int .u64 10000000000), (.int .u64 100000000000), (.int .u64 1000000000000), (.int .u64 10000000000000), (.int .u64 100000000000000), (.int .u64 1000000000000000), (.int .u64 10000000000000000), (.int .u64 100000000000000000), (.int .u64 1000000000000000000), (.int .u64 10000000000000000000)]
def g2 : List V := [(.ifc 262 (.iptr [(.str [105, 110, 118, 97, 108, 105, 100, 32, 115, 121, 110, 116, 97, 120])]))]
def g3 : List V := [(.ifc 262 (.iptr [(.str [118, 97, 108, 117, 101, 32, 111, 117, 116, 32, 111, 102, 32, 114, 97, 110, 103, 101])]))]
def gl (i : Nat) : Option (List V) := bif Nat.beq i 0 then some g0 else bif Nat.beq i 2 then some g2 else bif Nat.beq i 3 then some g3 else none
def pu (i : Nat) : Nat := bif Nat.beq i 151 || Nat.beq i 116 || Nat.beq i 169 || Nat.beq i 167 || Nat.beq i 111 || Nat.beq i 141 || Nat.beq i 139 || Nat.beq i 109 || Nat.beq i 74 || Nat.beq i 27 || Nat.beq i 26 || Nat.beq i 14 || Nat.beq i 49 || Nat.beq i 5 then 2 else bif false then 1 else 0
def vp (i : Nat) : Option VFn := (bif Nat.blt i 67 then (bif Nat.blt i 34 then (bif Nat.blt i 18 then (bif Nat.blt i 10 then (bif Nat.blt i 6 then (bif Nat.blt i 4 then (bif Nat.beq i 3 then some v3 else none) else (bif Nat.blt i 5 then (bif Nat.beq i 4 then some v4 else none) else (bif Nat.beq i 5 then some v5 else none))) else (bif Nat.blt i 8 then (bif Nat.blt i 7 then (bif Nat.beq i 6 then some v6 else none) else (bif Nat.beq i 7 then some v7 else none)) else (bif Nat.blt i 9 then (bif Nat.beq i 8 then some v8 else none) else (bif Nat.beq i 9 then some v9 else none)))) else (bif Nat.blt i 14 then (bif Nat.blt i 12 then (bif Nat.blt i 11 then (bif Nat.beq i 10 then some v10 else none) else (bif Nat.beq i 11 then some v11 else none)) else (bif Nat.blt i 13 then (bif Nat.beq i 12 then some v12 else none) else (bif Nat.beq i 13 then some v13 else none))) else (bif Nat.blt i 16 then (bif Nat.blt i 15 then (bif Nat.beq i 14 then some v14 else none) else (bif Nat.beq i 15 then some v15 else none)) else (bif Nat.blt i 17 then (bif Nat.beq i 16 then some v16 else none) else (bif Nat.beq i 17 then some v17 else none))))) else (bif Nat.blt i 26 then (bif Nat.blt i 22 then (bif Nat.blt i 20 then (bif Nat.blt i 19 then (bif Nat.beq i 18 then some v18 else none) else (bif Nat.beq i 19 then some v19 else none)) else (bif Nat.blt i 21 then (bif Nat.beq i 20 then some v20 else none) else (bif Nat.beq i 21 then some v21 else none))) else (bif Nat.blt i 24 then (bif Nat.blt i 23 then (bif Nat.beq i 22 then some v22 else none) else (bif Nat.beq i 23 then some v23 else none)) else (bif Nat.blt i 25 then (bif Nat.beq i 24 then some v24 else none) else (bif Nat.beq i 25 then some v25 else none)))) else (bif Nat.blt i 30 then (bif Nat.blt i 28 then (bif Nat.blt i 27 then (bif Nat.beq i 26 then some v26 else none) else (bif Nat.beq i 27 then some v27 else none)) else (bif Nat.blt i 29 then (bif Nat.beq i 28 then some v28 else none) else (bif Nat.beq i 29 then some v29 else none))) else (bif Nat.blt i 32 then (bif Nat.blt i 31 then (bif Nat.beq i 30 then some v30 else none) else (bif Nat.beq i 31 then some v31 else none)) else (bif Nat.blt i 33 then (bif Nat.beq i 32 then some v32 else none) else (bif Nat.beq i 33 then some v33 else none)))))) else (bif Nat.blt i 50 then (bif Nat.blt i 42 then (bif Nat.blt i 38 then (bif Nat.blt i 36 then (bif Nat.blt i 35 then (bif Nat.beq i 34 then some v34 else none) else (bif Nat.beq i 35 then some v35 else none)) else (bif Nat.blt i 37 then (bif Nat.beq i 36 then some v36 else none) else (bif Nat.beq i 37 then some v37 else none))) else (bif Nat.blt i 40 then (bif Nat.blt i 39 then (bif Nat.beq i 38 then some v38 else none) else (bif Nat.beq i 39 then some v39 else none)) else (bif Nat.blt i 41 then (bif Nat.beq i 40 then some v40 else none) else (bif Nat.beq i 41 then some v41 else none)))) else (bif Nat.blt i 46 then (bif Nat.blt i 44 then (bif Nat.blt i 43 then (bif Nat.beq i 42 then some v42 else none) else (bif Nat.beq i 43 then some v43 else none)) else (bif Nat.blt i 45 then (bif Nat.beq i 44 then some v44 else none) else (bif Nat.beq i 45 then some v45 else none))) else (bif Nat.blt i 48 then (bif Nat.blt i 47 then (bif Nat.beq i 46 then some v46 else none) else (bif Nat.beq i 47 then some v47 else none)) else (bif Nat.blt i 49 then (bif Nat.beq i 48 then some v48 else none) else (bif Nat.beq i 49 then some v49 else none))))) else (bif Nat.blt i 59 then (bif Nat.blt i 54 then (bif Nat.blt i 52 then (bif Nat.blt i 51 then (bif Nat.beq i 50 then some v50 else none) else (bif Nat.beq i 51 then some v51 else none)) else (bif Nat.blt i 53 then (bif Nat.beq i 52 then some v52 else none) else (bif Nat.beq i 53 then some v53 else none))) else (bif Nat.blt i 57 then (bif Nat.blt i 56 then (bif Nat.beq i 54 then some v54 else none) else (bif Nat.beq i 56 then some v56 else none)) else (bif Nat.blt i 58 then (bif Nat.beq i 57 then some v57 else none) else (bif Nat.beq i 58 then some v58 else none)))) else (bif Nat.blt i 63 then (bif Nat.blt i 61 then (bif Nat.blt i 60 then (bif Nat.beq i 59 then some v59 else none) else (bif Nat.beq i 60 then some v60 else none)) else (bif Nat.blt i 62 then (bif Nat.beq i 61 then some v61 else none) else (bif Nat.beq i 62 then some v62 else none))) else (bif Nat.blt i 65 then (bif Nat.blt i 64 then (bif Nat.beq i 63 then some v63 else none) else (bif Nat.beq i 64 then some v64 else none)) else (bif Nat.blt i 66 then (bif Nat.beq i 65 then some v65 else none) else (bif Nat.beq i 66 then some v66 else none))))))) else (bif Nat.blt i 110 then (bif Nat.blt i 86 then (bif Nat.blt i 75 then (bif Nat.blt i 71 then (bif Nat.blt i 69 then (bif Nat.blt i 68 then (bif Nat.beq i 67 then some v67 else none) else (bif Nat.beq i 68 then some v68 else none)) else (bif Nat.blt i 70 then (bif Nat.beq i 69 then some v69 else none) else (bif Nat.beq i 70 then some v70 else none))) else (bif Nat.blt i 73 then (bif Nat.blt i 72 then (bif Nat.beq i 71 then some v71 else none) else (bif Nat.beq i 72 then some v72 else none)) else (bif Nat.blt i 74 then (bif Nat.beq i 73 then some v73 else none) else (bif Nat.beq i 74 then some v74 else none)))) else (bif Nat.blt i 80 then (bif Nat.blt i 78 then (bif Nat.blt i 77 then (bif Nat.beq i 75 then some v75 else none) else (bif Nat.beq i 77 then some v77 else none)) else (bif Nat.blt i 79 then (bif Nat.beq i 78 then some v78 else none) else (bif Nat.beq i 79 then some v79 else none))) else (bif Nat.blt i 82 then (bif Nat.blt i 81 then (bif Nat.beq i 80 then some v80 else none) else (bif Nat.beq i 81 then some v81 else none)) else (bif Nat.blt i 84 then (bif Nat.beq i 82 then some v82 else none) else (bif Nat.beq i 84 then some v84 else none))))) else (bif Nat.blt i 100 then (bif Nat.blt i 94 then (bif Nat.blt i 88 then (bif Nat.blt i 87 then (bif Nat.beq i 86 then some v86 else none) else (bif Nat.beq i 87 then some v87 else none)) else (bif Nat.blt i 89 then (bif Nat.beq i 88 then some v88 else none) else (bif Nat.beq i 89 then some v89 else none))) else (bif Nat.blt i 96 then (bif Nat.blt i 95 then (bif Nat.beq i 94 then some v94 else none) else (bif Nat.beq i 95 then some v95 else none)) else (bif Nat.blt i 99 then (bif Nat.beq i 96 then some v96 else none) else (bif Nat.beq i 99 then some v99 else none)))) else (bif Nat.blt i 104 then (bif Nat.blt i 102 then (bif Nat.blt i 101 then (bif Nat.beq i 100 then some v100 else none) else (bif Nat.beq i 101 then some v101 else none)) else (bif Nat.blt i 103 then (bif Nat.beq i 102 then some v102 else none) else (bif Nat.beq i 103 then some v103 else none))) else (bif Nat.blt i 106 then (bif Nat.blt i 105 then (bif Nat.beq i 104 then some v104 else none) else (bif Nat.beq i 105 then some v105 else none)) else (bif Nat.blt i 109 then (bif Nat.beq i 106 then some v106 else none) else (bif Nat.beq i 109 then some v109 else none)))))) else (bif Nat.blt i 139 then (bif Nat.blt i 124 then (bif Nat.blt i 114 then (bif Nat.blt i 112 then (bif Nat.blt i 111 then (bif Nat.beq i 110 then some v110 else none) else (bif Nat.beq i 111 then some v111 else none)) else (bif Nat.blt i 113 then (bif Nat.beq i 112 then some v112 else none) else (bif Nat.beq i 113 then some v113 else none))) else (bif Nat.blt i 122 then (bif Nat.blt i 115 then (bif Nat.beq i 114 then some v114 else none) else (bif Nat.beq i 115 then some v115 else none)) else (bif Nat.blt i 123 then (bif Nat.beq i 122 then some v122 else none) else (bif Nat.beq i 123 then some v123 else none)))) else (bif Nat.blt i 132 then (bif Nat.blt i 129 then (bif Nat.blt i 128 then (bif Nat.beq i 124 then some v124 else none) else (bif Nat.beq i 128 then some v128 else none)) else (bif Nat.blt i 130 then (bif Nat.beq i 129 then some v129 else none) else (bif Nat.beq i 130 then some v130 else none))) else (bif Nat.blt i 136 then (bif Nat.blt i 133 then (bif Nat.beq i 132 then some v132 else none) else (bif Nat.beq i 133 then some v133 else none)) else (bif Nat.blt i 137 then (bif Nat.beq i 136 then some v136 else none) else (bif Nat.beq i 137 then some v137 else none))))) else (bif Nat.blt i 160 then (bif Nat.blt i 144 then (bif Nat.blt i 141 then (bif Nat.blt i 140 then (bif Nat.beq i 139 then some v139 else none) else (bif Nat.beq i 140 then some v140 else none)) else (bif Nat.blt i 142 then (bif Nat.beq i 141 then some v141 else none) else (bif Nat.beq i 142 then some v142 else none))) else (bif Nat.blt i 146 then (bif Nat.blt i 145 then (bif Nat.beq i 144 then some v144 else none) else (bif Nat.beq i 145 then some v145 else none)) else (bif Nat.blt i 159 then (bif Nat.beq i 146 then some v146 else none) else (bif Nat.beq i 159 then some v159 else none)))) else (bif Nat.blt i 167 then (bif Nat.blt i 165 then (bif Nat.blt i 164 then (bif Nat.beq i 160 then some v160 else none) else (bif Nat.beq i 164 then some v164 else none)) else (bif Nat.blt i 166 then (bif Nat.beq i 165 then some v165 else none) else (bif Nat.beq i 166 then some v166 else none))) else (bif Nat.blt i 181 then (bif Nat.blt i 179 then (bif Nat.beq i 167 then some v167 else none) else (bif Nat.beq i 179 then some v179 else none)) else (bif Nat.blt i 186 then (bif Nat.beq i 181 then some v181 else none) else (bif Nat.beq i 186 then some v186 else none))))))))
def W (i : Nat) : Option FFn := (bif Nat.blt i 67 then (bif Nat.blt i 34 then (bif Nat.blt i 18 then (bif Nat.blt i 10 then (bif Nat.blt i 6 then (bif Nat.blt i 4 then (bif Nat.beq i 3 then some u3 else none) else (bif Nat.blt i 5 then (bif Nat.beq i 4 then some u4 else none) else (bif Nat.beq i 5 then some u5 else none))) else (bif Nat.blt i 8 then (bif Nat.blt i 7 then (bif Nat.beq i 6 then some u6 else none) else (bif Nat.beq i 7 then some u7 else none)) else (bif Nat.blt i 9 then (bif Nat.beq i 8 then some u8 else none) else (bif Nat.beq i 9 then some u9 else none)))) else (bif Nat.blt i 14 then (bif Nat.blt i 12 then (bif Nat.blt i 11 then (bif Nat.beq i 10 then some u10 else none) else (bif Nat.beq i 11 then some u11 else none)) else (bif Nat.blt i 13 then (bif Nat.beq i 12 then some u12 else none) else (bif Nat.beq i 13 then some u13 else none))) else (bif Nat.blt i 16 then (bif Nat.blt i 15 then (bif Nat.beq i 14 then some u14 else none) else (bif Nat.beq i 15 then some u15 else none)) else (bif Nat.blt i 17 then (bif Nat.beq i 16 then some u16 else none) else (bif Nat.beq i 17 then some u17 else none))))) else (bif Nat.blt i 26 then (bif Nat.blt i 22 then (bif Nat.blt i 20 then (bif Nat.blt i 19 then (bif Nat.beq i 18 then some u18 else none) else (bif Nat.beq i 19 then some u19 else none)) else (bif Nat.blt i 21 then (bif Nat.beq i 20 then some u20 else none) else (bif Nat.beq i 21 then some u21 else none))) else (bif Nat.blt i 24 then (bif Nat.blt i 23 then (bif Nat.beq i 22 then some u22 else none) else (bif Nat.beq i 23 then some u23 else none)) else (bif Nat.blt i 25 then (bif Nat.beq i 24 then some u24 else none) else (bif Nat.beq i 25 then some u25 else none)))) else (bif Nat.blt i 30 then (bif Nat.blt i 28 then (bif Nat.blt i 27 then (bif Nat.beq i 26 then some u26 else none) else (bif Nat.beq i 27 then some u27 else none)) else (bif Nat.blt i 29 then (bif Nat.beq i 28 then some u28 else none) else (bif Nat.beq i 29 then some u29 else none))) else (bif Nat.blt i 32 then (bif Nat.blt i 31 then (bif Nat.beq i 30 then some u30 else none) else (bif Nat.beq i 31 then some u31 else none)) else (bif Nat.blt i 33 then (bif Nat.beq i 32 then some u32 else none) else (bif Nat.beq i 33 then some u33 else none)))))) else (bif Nat.blt i 50 then (bif Nat.blt i 42 then (bif Nat.blt i 38 then (bif Nat.blt i 36 then (bif Nat.blt i 35 then (bif Nat.beq i 34 then some u34 else none) else (bif Nat.beq i 35 then some u35 else none)) else (bif Nat.blt i 37 then (bif Nat.beq i 36 then some u36 else none) else (bif Nat.beq i 37 then some u37 else none))) else (bif Nat.blt i 40 then (bif Nat.blt i 39 then (bif Nat.beq i 38 then some u38 else none) else (bif Nat.beq i 39 then some u39 else none)) else (bif Nat.blt i 41 then (bif Nat.beq i 40 then some u40 else none) else (bif Nat.beq i 41 then some u41 else none)))) else (bif Nat.blt i 46 then (bif Nat.blt i 44 then (bif Nat.blt i 43 then (bif Nat.beq i 42 then some u42 else none) else (bif Nat.beq i 43 then some u43 else none)) else (bif Nat.blt i 45 then (bif Nat.beq i 44 then some u44 else none) else (bif Nat.beq i 45 then some u45 else none))) else (bif Nat.blt i 48 then (bif Nat.blt i 47 then (bif Nat.beq i 46 then some u46 else none) else (bif Nat.beq i 47 then some u47 else none)) else (bif Nat.blt i 49 then (bif Nat.beq i 48 then some u48 else none) else (bif Nat.beq i 49 then some u49 else none))))) else (bif Nat.blt i 59 then (bif Nat.blt i 54 then (bif Nat.blt i 52 then (bif Nat.blt i 51 then (bif Nat.beq i 50 then some u50 else none) else (bif Nat.beq i 51 then some u51 else none)) else (bif Nat.blt i 53 then (bif Nat.beq i 52 then some u52 else none) else (bif Nat.beq i 53 then some u53 else none))) else (bif Nat.blt i 57 then (bif Nat.blt i 56 then (bif Nat.beq i 54 then some u54 else none) else (bif Nat.beq i 56 then some u56 else none)) else (bif Nat.blt i 58 then (bif Nat.beq i 57 then some u57 else none) else (bif Nat.beq i 58 then some u58 else none)))) else (bif Nat.blt i 63 then (bif Nat.blt i 61 then (bif Nat.blt i 60 then (bif Nat.beq i 59 then some u59 else none) else (bif Nat.beq i 60 then some u60 else none)) else (bif Nat.blt i 62 then (bif Nat.beq i 61 then some u61 else none) else (bif Nat.beq i 62 then some u62 else none))) else (bif Nat.blt i 65 then (bif Nat.blt i 64 then (bif Nat.beq i 63 then some u63 else none) else (bif Nat.beq i 64 then some u64 else none)) else (bif Nat.blt i 66 then (bif Nat.beq i 65 then some u65 else none) else (bif Nat.beq i 66 then some u66 else none))))))) else (bif Nat.blt i 110 then (bif Nat.blt i 86 then (bif Nat.blt i 75 then (bif Nat.blt i 71 then (bif Nat.blt i 69 then (bif Nat.blt i 68 then (bif Nat.beq i 67 then some u67 else none) else (bif Nat.beq i 68 then some u68 else none)) else (bif Nat.blt i 70 then (bif Nat.beq i 69 then some u69 else none) else (bif Nat.beq i 70 then some u70 else none))) else (bif Nat.blt i 73 then (bif Nat.blt i 72 then (bif Nat.beq i 71 then some u71 else none) else (bif Nat.beq i 72 then some u72 else none)) else (bif Nat.blt i 74 then (bif Nat.beq i 73 then some u73 else none) else (bif Nat.beq i 74 then some u74 else none)))) else (bif Nat.blt i 80 then (bif Nat.blt i 78 then (bif Nat.blt i 77 then (bif Nat.beq i 75 then some u75 else none) else (bif Nat.beq i 77 then some u77 else none)) else (bif Nat.blt i 79 then (bif Nat.beq i 78 then some u78 else none) else (bif Nat.beq i 79 then some u79 else none))) else (bif Nat.blt i 82 then (bif Nat.blt i 81 then (bif Nat.beq i 80 then some u80 else none) else (bif Nat.beq i 81 then some u81 else none)) else (bif Nat.blt i 84 then (bif Nat.beq i 82 then some u82 else none) else (bif Nat.beq i 84 then some u84 else none))))) else (bif Nat.blt i 100 then (bif Nat.blt i 94 then (bif Nat.blt i 88 then (bif Nat.blt i 87 then (bif Nat.beq i 86 then some u86 else none) else (bif Nat.beq i 87 then some u87 else none)) else (bif Nat.blt i 89 then (bif Nat.beq i 88 then some u88 else none) else (bif Nat.beq i 89 then some u89 else none))) else (bif Nat.blt i 96 then (bif Nat.blt i 95 then (bif Nat.beq i 94 then some u94 else none) else (bif Nat.beq i 95 then some u95 else none)) else (bif Nat.blt i 99 then (bif Nat.beq i 96 then some u96 else none) else (bif Nat.beq i 99 then some u99 else none)))) else (bif Nat.blt i 104 then (bif Nat.blt i 102 then (bif Nat.blt i 101 then (bif Nat.beq i 100 then some u100 else none) else (bif Nat.beq i 101 then some u101 else none)) else (bif Nat.blt i 103 then (bif Nat.beq i 102 then some u102 else none) else (bif Nat.beq i 103 then some u103 else none))) else (bif Nat.blt i 106 then (bif Nat.blt i 105 then (bif Nat.beq i 104 then some u104 else none) else (bif Nat.beq i 105 then some u105 else none)) else (bif Nat.blt i 109 then (bif Nat.beq i 106 then some u106 else none) else (bif Nat.beq i 109 then some u109 else none)))))) else (bif Nat.blt i 139 then (bif Nat.blt i 124 then (bif Nat.blt i 114 then (bif Nat.blt i 112 then (bif Nat.blt i 111 then (bif Nat.beq i 110 then some u110 else none) else (bif Nat.beq i 111 then some u111 else none)) else (bif Nat.blt i 113 then (bif Nat.beq i 112 then some u112 else none) else (bif Nat.beq i 113 then some u113 else none))) else (bif Nat.blt i 122 then (bif Nat.blt i 115 then (bif Nat.beq i 114 then some u114 else none) else (bif Nat.beq i 115 then some u115 else none)) else (bif Nat.blt i 123 then (bif Nat.beq i 122 then some u122 else none) else (bif Nat.beq i 123 then some u123 else none)))) else (bif Nat.blt i 132 then (bif Nat.blt i 129 then (bif Nat.blt i 128 then (bif Nat.beq i 124 then some u124 else none) else (bif Nat.beq i 128 then some u128 else none)) else (bif Nat.blt i 130 then (bif Nat.beq i 129 then some u129 else none) else (bif Nat.beq i 130 then some u130 else none))) else (bif Nat.blt i 136 then (bif Nat.blt i 133 then (bif Nat.beq i 132 then some u132 else none) else (bif Nat.beq i 133 then some u133 else none)) else (bif Nat.blt i 137 then (bif Nat.beq i 136 then some u136 else none) else (bif Nat.beq i 137 then some u137 else none))))) else (bif Nat.blt i 160 then (bif Nat.blt i 144 then (bif Nat.blt i 141 then (bif Nat.blt i 140 then (bif Nat.beq i 139 then some u139 else none) else (bif Nat.beq i 140 then some u140 else none)) else (bif Nat.blt i 142 then (bif Nat.beq i 141 then some u141 else none) else (bif Nat.beq i 142 then some u142 else none))) else (bif Nat.blt i 146 then (bif Nat.blt i 145 then (bif Nat.beq i 144 then some u144 else none) else (bif Nat.beq i 145 then some u145 else none)) else (bif Nat.blt i 159 then (bif Nat.beq i 146 then some u146 else none) else (bif Nat.beq i 159 then some u159 else none)))) else (bif Nat.blt i 167 then (bif Nat.blt i 165 then (bif Nat.blt i 164 then (bif Nat.beq i 160 then some u160 else none) else (bif Nat.beq i 164 then some u164 else none)) else (bif Nat.blt i 166 then (bif Nat.beq i 165 then some u165 else none) else (bif Nat.beq i 166 then some u166 else none))) else (bif Nat.blt i 181 then (bif Nat.blt i 179 then (bif Nat.beq i 167 then some u167 else none) else (bif Nat.beq i 179 then some u179 else none)) else (bif Nat.blt i 186 then (bif Nat.beq i 181 then some u181 else none) else (bif Nat.beq i 186 then some u186 else none))))))))
theorem uv3 : u3 = denF v3 := by kernel_rfl
theorem uv4 : u4 = denF v4 := by kernel_rfl
theorem uv5 : u5 = denF v5 := by kernel_rfl
theorem uv6 : u6 = denF v6 := by kernel_rfl
theorem uv7 : u7 = denF v7 := by kernel_rfl
theorem uv8 : u8 = denF v8 := by kernel_rfl
theorem uv9 : u9 = denF v9 := by kernel_rfl
theorem uv10 : u10 = denF v10 := by kernel_rfl
theorem uv11 : u11 = denF v11 := by kernel_rfl
theorem uv12 : u12 = denF v12 := by kernel_rfl
theorem uv13 : u13 = denF v13 := by kernel_rfl
theorem uv14 : u14 = denF v14 := by kernel_rfl
theorem uv15 : u15 = denF v15 := by kernel_rfl
theorem uv16 : u16 = denF v16 := by kernel_rfl
theorem uv17 : u17 = denF v17 := by kernel_rfl
theorem uv18 : u18 = denF v18 := by kernel_rfl
theorem uv19 : u19 = denF v19 := by kernel_rfl
theorem uv20 : u20 = denF v20 := by kernel_rfl
theorem uv21 : u21 = denF v21 := by kernel_rfl
theorem uv22 : u22 = denF v22 := by kernel_rfl
theorem uv23 : u23 = denF v23 := by kernel_rfl
theorem uv24 : u24 = denF v24 := by kernel_rfl
theorem uv25 : u25 = denF v25 := by kernel_rfl
theorem uv26 : u26 = denF v26 := by kernel_rfl
theorem uv27 : u27 = denF v27 := by kernel_rfl
theorem uv28 : u28 = denF v28 := by kernel_rfl
theorem uv29 : u29 = denF v29 := by kernel_rfl
theorem uv30 : u30 = denF v30 := by kernel_rfl
theorem uv31 : u31 = denF v31 := by kernel_rfl
theorem uv32 : u32 = denF v32 := by kernel_rfl
theorem uv33 : u33 = denF v33 := by kernel_rfl
theorem uv34 : u34 = denF v34 := by kernel_rfl
theorem uv35 : u35 = denF v35 := by kernel_rfl
theorem uv36 : u36 = denF v36 := by kernel_rfl
theorem uv37 : u37 = denF v37 := by kernel_rfl
theorem uv38 : u38 = denF v38 := by kernel_rfl
theorem uv39 : u39 = denF v39 := by kernel_rfl
theorem uv40 : u40 = denF v40 := by kernel_rfl
theorem uv41 : u41 = denF v41 := by kernel_rfl
theorem uv42 : u42 = denF v42 := by kernel_rfl
theorem uv43 : u43 = denF v43 := by kernel_rfl
theorem uv44 : u44 = denF v44 := by kernel_rfl
theorem uv45 : u45 = denF v45 := by kernel_rfl
theorem uv46 : u46 = denF v46 := by kernel_rfl
theorem uv47 : u47 = denF v47 := by kernel_rfl
theorem uv48 : u48 = denF v48 := by kernel_rfl
theorem uv49 : u49 = denF v49 := by kernel_rfl
theorem uv50 : u50 = denF v50 := by kernel_rfl
theorem uv51 : u51 = denF v51 := by kernel_rfl
theorem uv52 : u52 = denF v52 := by kernel_rfl
theorem uv53 : u53 = denF v53 := by kernel_rfl
theorem uv54 : u54 = denF v54 := by kernel_rfl
theorem uv56 : u56 = denF v56 := by kernel_rfl
theorem uv57 : u57 = denF v57 := by kernel_rfl
theorem uv58 : u58 = denF v58 := by kernel_rfl
theorem uv59 : u59 = denF v59 := by kernel_rfl
theorem uv60 : u60 = denF v60 := by kernel_rfl
theorem uv61 : u61 = denF v61 := by kernel_rfl
theorem uv62 : u62 = denF v62 := by kernel_rfl
theorem uv63 : u63 = denF v63 := by kernel_rfl
theorem uv64 : u64 = denF v64 := by kernel_rfl
theorem uv65 : u65 = denF v65 := by kernel_rfl
theorem uv66 : u66 = denF v66 := by kernel_rfl
theorem uv67 : u67 = denF v67 := by kernel_rfl
theorem uv68 : u68 = denF v68 := by kernel_rfl
theorem uv69 : u69 = denF v69 := by kernel_rfl
theorem uv70 : u70 = denF v70 := by kernel_rfl
theorem uv71 : u71 = denF v71 := by kernel_rfl
theorem uv72 : u72 = denF v72 := by kernel_rfl
theorem uv73 : u73 = denF v73 := by kernel_rfl
theorem uv74 : u74 = denF v74 := by kernel_rfl
theorem uv75 : u75 = denF v75 := by kernel_rfl
theorem uv77 : u77 = denF v77 := by kernel_rfl
theorem uv78 : u78 = denF v78 := by kernel_rfl
theorem uv79 : u79 = denF v79 := by kernel_rfl
theorem uv80 : u80 = denF v80 := by kernel_rfl
theorem uv81 : u81 = denF v81 := by kernel_rfl
theorem uv82 : u82 = denF v82 := by kernel_rfl
theorem uv84 : u84 = denF v84 := by kernel_rfl
theorem uv86 : u86 = denF v86 := by kernel_rfl
theorem uv87 : u87 = denF v87 := by kernel_rfl
theorem uv88 : u88 = denF v88 := by kernel_rfl
theorem uv89 : u89 = denF v89 := by kernel_rfl
theorem uv94 : u94 = denF v94 := by kernel_rfl
theorem uv95 : u95 = denF v95 := by kernel_rfl
theorem uv96 : u96 = denF v96 := by kernel_rfl
theorem uv99 : u99 = denF v99 := by kernel_rfl
theorem uv100 : u100 = denF v100 := by kernel_rfl
theorem uv101 : u101 = denF v101 := by kernel_rfl
theorem uv102 : u102 = denF v102 := by kernel_rfl
theorem uv103 : u103 = denF v103 := by kernel_rfl
theorem uv104 : u104 = denF v104 := by kernel_rfl
theorem uv105 : u105 = denF v105 := by kernel_rfl
theorem uv106 : u106 = denF v106 := by kernel_rfl
theorem uv109 : u109 = denF v109 := by kernel_rfl
theorem uv110 : u110 = denF v110 := by kernel_rfl
theorem uv111 : u111 = denF v111 := by kernel_rfl
theorem uv112 : u112 = denF v112 := by kernel_rfl
theorem uv113 : u113 = denF v113 := by kernel_rfl
theorem uv114 : u114 = denF v114 := by kernel_rfl
theorem uv115 : u115 = denF v115 := by kernel_rfl
theorem uv122 : u122 = denF v122 := by kernel_rfl
theorem uv123 : u123 = denF v123 := by kernel_rfl
theorem uv124 : u124 = denF v124 := by kernel_rfl
theorem uv128 : u128 = denF v128 := by kernel_rfl
theorem uv129 : u129 = denF v129 := by kernel_rfl
theorem uv130 : u130 = denF v130 := by kernel_rfl
theorem uv132 : u132 = denF v132 := by kernel_rfl
theorem uv133 : u133 = denF v133 := by kernel_rfl
theorem uv136 : u136 = denF v136 := by kernel_rfl
theorem uv137 : u137 = denF v137 := by kernel_rfl
theorem uv139 : u139 = denF v139 := by kernel_rfl
theorem uv140 : u140 = denF v140 := by kernel_rfl
theorem uv141 : u141 = denF v141 := by kernel_rfl
theorem uv142 : u142 = denF v142 := by kernel_rfl
theorem uv144 : u144 = denF v144 := by kernel_rfl
theorem uv145 : u145 = denF v145 := by kernel_rfl
theorem uv146 : u146 = denF v146 := by kernel_rfl
theorem uv159 : u159 = denF v159 := by kernel_rfl
theorem uv160 : u160 = denF v160 := by kernel_rfl
theorem uv164 : u164 = denF v164 := by kernel_rfl
theorem uv165 : u165 = denF v165 := by kernel_rfl
theorem uv166 : u166 = denF v166 := by kernel_rfl
theorem uv167 : u167 = denF v167 := by kernel_rfl
theorem uv179 : u179 = denF v179 := by kernel_rfl
theorem uv181 : u181 = denF v181 := by kernel_rfl
theorem uv186 : u186 = denF v186 := by kernel_rfl
theorem hW (i : Nat) : W i = (vp i).map denF := by
  unfold W vp
  exact (w_bif (w_bif (w_bif (w_bif (w_bif (w_bif (w_leaf uv3) (w_bif (w_leaf uv4) (w_leaf uv5))) (w_bif (w_bif (w_leaf uv6) (w_leaf uv7)) (w_bif (w_leaf uv8) (w_leaf uv9)))) (w_bif (w_bif (w_bif (w_leaf uv10) (w_leaf uv11)) (w_bif (w_leaf uv12) (w_leaf uv13))) (w_bif (w_bif (w_leaf uv14) (w_leaf uv15)) (w_bif (w_leaf uv16) (w_leaf uv17))))) (w_bif (w_bif (w_bif (w_bif (w_leaf uv18) (w_leaf uv19)) (w_bif (w_leaf uv20) (w_leaf uv21))) (w_bif (w_bif (w_leaf uv22) (w_leaf uv23)) (w_bif (w_leaf uv24) (w_leaf uv25)))) (w_bif (w_bif (w_bif (w_leaf uv26) (w_leaf uv27)) (w_bif (w_leaf uv28) (w_leaf uv29))) (w_bif (w_bif (w_leaf uv30) (w_leaf uv31)) (w_bif (w_leaf uv32) (w_leaf uv33)))))) (w_bif (w_bif (w_bif (w_bif (w_bif (w_leaf uv34) (w_leaf uv35)) (w_bif (w_leaf uv36) (w_leaf uv37))) (w_bif (w_bif (w_leaf uv38) (w_leaf uv39)) (w_bif (w_leaf uv40) (w_leaf uv41)))) (w_bif (w_bif (w_bif (w_leaf uv42) (w_leaf uv43)) (w_bif (w_leaf uv44) (w_leaf uv45))) (w_bif (w_bif (w_leaf uv46) (w_leaf uv47)) (w_bif (w_leaf uv48) (w_leaf uv49))))) (w_bif (w_bif (w_bif (w_bif (w_leaf uv50) (w_leaf uv51)) (w_bif (w_leaf uv52) (w_leaf uv53))) (w_bif (w_bif (w_leaf uv54) (w_leaf uv56)) (w_bif (w_leaf uv57) (w_leaf uv58)))) (w_bif (w_bif (w_bif (w_leaf uv59) (w_leaf uv60)) (w_bif (w_leaf uv61) (w_leaf uv62))) (w_bif (w_bif (w_leaf uv63) (w_leaf uv64)) (w_bif (w_leaf uv65) (w_leaf uv66))))))) (w_bif (w_bif (w_bif (w_bif (w_bif (w_bif (w_leaf uv67) (w_leaf uv68)) (w_bif (w_leaf uv69) (w_leaf uv70))) (w_bif (w_bif (w_leaf uv71) (w_leaf uv72)) (w_bif (w_leaf uv73) (w_leaf uv74)))) (w_bif (w_bif (w_bif (w_leaf uv75) (w_leaf uv77)) (w_bif (w_leaf uv78) (w_leaf uv79))) (w_bif (w_bif (w_leaf uv80) (w_leaf uv81)) (w_bif (w_leaf uv82) (w_leaf uv84))))) (w_bif (w_bif (w_bif (w_bif (w_leaf uv86) (w_leaf uv87)) (w_bif (w_leaf uv88) (w_leaf uv89))) (w_bif (w_bif (w_leaf uv94) (w_leaf uv95)) (w_bif (w_leaf uv96) (w_leaf uv99)))) (w_bif (w_bif (w_bif (w_leaf uv100) (w_leaf uv101)) (w_bif (w_leaf uv102) (w_leaf uv103))) (w_bif (w_bif (w_leaf uv104) (w_leaf uv105)) (w_bif (w_leaf uv106) (w_leaf uv109)))))) (w_bif (w_bif (w_bif (w_bif (w_bif (w_leaf uv110) (w_leaf uv111)) (w_bif (w_leaf uv112) (w_leaf uv113))) (w_bif (w_bif (w_leaf uv114) (w_leaf uv115)) (w_bif (w_leaf uv122) (w_leaf uv123)))) (w_bif (w_bif (w_bif (w_leaf uv124) (w_leaf uv128)) (w_bif (w_leaf uv129) (w_leaf uv130))) (w_bif (w_bif (w_leaf uv132) (w_leaf uv133)) (w_bif (w_leaf uv136) (w_leaf uv137))))) (w_bif (w_bif (w_bif (w_bif (w_leaf uv139) (w_leaf uv140)) (w_bif (w_leaf uv141) (w_leaf uv142))) (w_bif (w_bif (w_leaf uv144) (w_leaf uv145)) (w_bif (w_leaf uv146) (w_leaf uv159)))) (w_bif (w_bif (w_bif (w_leaf uv160) (w_leaf uv164)) (w_bif (w_leaf uv165) (w_leaf uv166))) (w_bif (w_bif (w_leaf uv167) (w_leaf uv179)) (w_bif (w_leaf uv181) (w_leaf uv186))))))))
end Go.Proofs.YtpfffhfempgmaabGreatDoor.reportNames
