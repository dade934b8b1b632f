/- The table of the compiled functions that the law ViewTells reaches: data only. -/
import Derived.Test.YtpbggddmfgjmlaaGreatViewTellsA1
set_option linter.all false
namespace Go.VE.LB
section
open Go Go.VE
set_option maxRecDepth 100000
set_option linter.all false
def v3 : VFn := Zzco 4 5 6 7 8 9 10 58
def v4 : VFn := Zzem 11
def v5 : VFn := Zzev 12 13
def v6 : VFn := Zzep 14
def v7 : VFn := Zzew 15 12 16 17 58
def v8 : VFn := Zzer 18 19 20 58
def v9 : VFn := Zzes 21
def v10 : VFn := Zzex 22 23 24
def v11 : VFn := Zzel 25
def v12 : VFn := Zzey
def v13 : VFn := Zzez 26 27 91
def v14 : VFn := Zzeq 28 29 91
def v15 : VFn := Zzbr 30
def v16 : VFn := Zzbk 31 32
def v17 : VFn := Zzbl 31 33 32 35 36 34
def v18 : VFn := Zzen 37 38 56
def v19 : VFn := Zzej
def v20 : VFn := Zzeh 39 56
def v21 : VFn := Zzeg 40 41
def v22 : VFn := Zzfa 78
def v23 : VFn := Zzfb 24 42 43 44 45
def v24 : VFn := Zzch
def v25 : VFn := Zzee 46
def v26 : VFn := Zzar 47 48 49 91
def v27 : VFn := Zzas 49
def v28 : VFn := Zzdc 50 51 52 53 55 54 91 84 89
def v29 : VFn := Zzdb
def v30 : VFn := Zzaa 31 56 58 57
def v31 : VFn := Zzbj 33 56
def v32 : VFn := Zzbo 60 61
def v33 : VFn := Zzba 63 64 65 66 32 39 38
def v34 : VFn := Zzcm
def v35 : VFn := Zzbm 36 56
def v36 : VFn := Zzbn 69 70 56
def v37 : VFn := Zzek 71
def v38 : VFn := Zzeo
def v39 : VFn := Zzeb 72 73 52
def v40 : VFn := Zzdz 41 74 75 76
def v41 : VFn := Zzea
def v42 : VFn := Zzcd
def v43 : VFn := Zzcg
def v44 : VFn := Zzcf
def v45 : VFn := Zzce
def v46 : VFn := Zzdy 77 78
def v47 : VFn := Zzau 79 80 87
def v48 : VFn := Zzat 81 80 89 152
def v49 : VFn := Zzaq 82
def v50 : VFn := Zzcv 51 84
def v51 : VFn := Zzct
def v52 : VFn := Zzde 51
def v53 : VFn := Zzcy 83
def v54 : VFn := Zzcr
def v55 : VFn := Zzcx 84 85 86
def v56 : VFn := Zzcn
def v57 : VFn := Zzca 87
def v58 : VFn := Zzab 59
def v59 : VFn := Zzac 88 89
def v60 : VFn := Zzbs
def v61 : VFn := Zzbp 62
def v62 : VFn := Zzai 90
def v63 : VFn := Zzbd 91 38
def v64 : VFn := Zzaf 91
def v65 : VFn := Zzet 92 93 94 95 96 64 164 113
def v66 : VFn := Zzbb 97
def v69 : VFn := Zzbq 70 99 100 101 102 52 47 50
def v70 : VFn := Zzby
def v71 : VFn := Zzed 103 104 105 106
def v72 : VFn := Zzdk 47
def v73 : VFn := Zzdw 50
def v74 : VFn := Zzdj
def v75 : VFn := Zzdp
def v76 : VFn := Zzdu 107
def v77 : VFn := Zzdh
def v78 : VFn := Zzds
def v79 : VFn := Zzeu 108 80 84
def v80 : VFn := Zzan 109
def v81 : VFn := Zzav 38
def v82 : VFn := Zzaw 110 89 4
def v83 : VFn := Zzcz 111 112
def v84 : VFn := Zzda 86 38
def v85 : VFn := Zzcw 113
def v86 : VFn := Zzcs
def v87 : VFn := Zzcj
def v88 : VFn := Zzad
def v89 : VFn := Zzbz 114
def v90 : VFn := Zzaj
def v91 : VFn := Zzag
def v92 : VFn := Zzae 102
def v93 : VFn := Zzbe 115 113
def v94 : VFn := Zzaz 116
def v95 : VFn := Zzcc 117
def v96 : VFn := Zzbf 93 115
def v97 : VFn := Zzbc
def v99 : VFn := Zzbt
def v100 : VFn := Zzbu
def v101 : VFn := Zzbx
def v102 : VFn := Zzbv
def v103 : VFn := Zzef 112
def v104 : VFn := Zzcp 112
def v105 : VFn := Zzdx 119 120 121 122 123 124 125 104
def v106 : VFn := Zzei
def v107 : VFn := Zzdv
def v108 : VFn := Zzbw
def v109 : VFn := Zzal 126 127 128 129 130 152
def v110 : VFn := Zzax 91 38
def v111 : VFn := Zzdd
def v112 : VFn := Zzcq
def v113 : VFn := Zzcu 86
def v114 : VFn := Zzci
def v115 : VFn := Zzbh 131 132
def v116 : VFn := Zzay
def v117 : VFn := Zzcl
def v119 : VFn := Zzdf 133 125
def v120 : VFn := Zzdm 123 134 135
def v121 : VFn := Zzdr 122 136 76
def v122 : VFn := Zzdq 125
def v123 : VFn := Zzdn
def v124 : VFn := Zzec
def v125 : VFn := Zzdi
def v126 : VFn := Zzcb 137
def v127 : VFn := Zzam 128
def v128 : VFn := Zzap 208
def v129 : VFn := Zzak 128 138
def v130 : VFn := Zzah
def v131 : VFn := Zzbg
def v132 : VFn := Zzbi
def v133 : VFn := Zzdg 125
def v134 : VFn := Zzdl
def v135 : VFn := Zzdo
def v136 : VFn := Zzdt 50
def v137 : VFn := Zzck
def v138 : VFn := Zzao 128
end
def pu (i : Nat) : Nat := bif Nat.beq i 97 then 0 else bif Nat.beq i 34 then 0 else bif Nat.beq i 110 then 0 else bif Nat.beq i 70 then 2 else bif Nat.beq i 84 then 2 else bif Nat.beq i 86 then 2 else bif Nat.beq i 99 then 2 else bif Nat.beq i 100 then 2 else bif Nat.beq i 101 then 2 else bif Nat.beq i 102 then 2 else bif Nat.beq i 113 then 2 else bif Nat.ble 156 i then 0 else 1
def vp (i : Nat) : Option VFn := (bif Nat.blt i 71 then (bif Nat.blt i 36 then (bif Nat.blt i 19 then (bif Nat.blt i 11 then (bif Nat.blt i 7 then (bif Nat.blt i 5 then (bif Nat.blt i 4 then (bif Nat.beq i 3 then some v3 else none) else (bif Nat.beq i 4 then some v4 else none)) else (bif Nat.blt i 6 then (bif Nat.beq i 5 then some v5 else none) else (bif Nat.beq i 6 then some v6 else none))) else (bif Nat.blt i 9 then (bif Nat.blt i 8 then (bif Nat.beq i 7 then some v7 else none) else (bif Nat.beq i 8 then some v8 else none)) else (bif Nat.blt i 10 then (bif Nat.beq i 9 then some v9 else none) else (bif Nat.beq i 10 then some v10 else none)))) else (bif Nat.blt i 15 then (bif Nat.blt i 13 then (bif Nat.blt i 12 then (bif Nat.beq i 11 then some v11 else none) else (bif Nat.beq i 12 then some v12 else none)) else (bif Nat.blt i 14 then (bif Nat.beq i 13 then some v13 else none) else (bif Nat.beq i 14 then some v14 else none))) else (bif Nat.blt i 17 then (bif Nat.blt i 16 then (bif Nat.beq i 15 then some v15 else none) else (bif Nat.beq i 16 then some v16 else none)) else (bif Nat.blt i 18 then (bif Nat.beq i 17 then some v17 else none) else (bif Nat.beq i 18 then some v18 else none))))) else (bif Nat.blt i 27 then (bif Nat.blt i 23 then (bif Nat.blt i 21 then (bif Nat.blt i 20 then (bif Nat.beq i 19 then some v19 else none) else (bif Nat.beq i 20 then some v20 else none)) else (bif Nat.blt i 22 then (bif Nat.beq i 21 then some v21 else none) else (bif Nat.beq i 22 then some v22 else none))) else (bif Nat.blt i 25 then (bif Nat.blt i 24 then (bif Nat.beq i 23 then some v23 else none) else (bif Nat.beq i 24 then some v24 else none)) else (bif Nat.blt i 26 then (bif Nat.beq i 25 then some v25 else none) else (bif Nat.beq i 26 then some v26 else none)))) else (bif Nat.blt i 31 then (bif Nat.blt i 29 then (bif Nat.blt i 28 then (bif Nat.beq i 27 then some v27 else none) else (bif Nat.beq i 28 then some v28 else none)) else (bif Nat.blt i 30 then (bif Nat.beq i 29 then some v29 else none) else (bif Nat.beq i 30 then some v30 else none))) else (bif Nat.blt i 33 then (bif Nat.blt i 32 then (bif Nat.beq i 31 then some v31 else none) else (bif Nat.beq i 32 then some v32 else none)) else (bif Nat.blt i 34 then (bif Nat.beq i 33 then some v33 else none) else (bif Nat.blt i 35 then (bif Nat.beq i 34 then some v34 else none) else (bif Nat.beq i 35 then some v35 else none))))))) else (bif Nat.blt i 52 then (bif Nat.blt i 44 then (bif Nat.blt i 40 then (bif Nat.blt i 38 then (bif Nat.blt i 37 then (bif Nat.beq i 36 then some v36 else none) else (bif Nat.beq i 37 then some v37 else none)) else (bif Nat.blt i 39 then (bif Nat.beq i 38 then some v38 else none) else (bif Nat.beq i 39 then some v39 else none))) else (bif Nat.blt i 42 then (bif Nat.blt i 41 then (bif Nat.beq i 40 then some v40 else none) else (bif Nat.beq i 41 then some v41 else none)) else (bif Nat.blt i 43 then (bif Nat.beq i 42 then some v42 else none) else (bif Nat.beq i 43 then some v43 else none)))) else (bif Nat.blt i 48 then (bif Nat.blt i 46 then (bif Nat.blt i 45 then (bif Nat.beq i 44 then some v44 else none) else (bif Nat.beq i 45 then some v45 else none)) else (bif Nat.blt i 47 then (bif Nat.beq i 46 then some v46 else none) else (bif Nat.beq i 47 then some v47 else none))) else (bif Nat.blt i 50 then (bif Nat.blt i 49 then (bif Nat.beq i 48 then some v48 else none) else (bif Nat.beq i 49 then some v49 else none)) else (bif Nat.blt i 51 then (bif Nat.beq i 50 then some v50 else none) else (bif Nat.beq i 51 then some v51 else none))))) else (bif Nat.blt i 60 then (bif Nat.blt i 56 then (bif Nat.blt i 54 then (bif Nat.blt i 53 then (bif Nat.beq i 52 then some v52 else none) else (bif Nat.beq i 53 then some v53 else none)) else (bif Nat.blt i 55 then (bif Nat.beq i 54 then some v54 else none) else (bif Nat.beq i 55 then some v55 else none))) else (bif Nat.blt i 58 then (bif Nat.blt i 57 then (bif Nat.beq i 56 then some v56 else none) else (bif Nat.beq i 57 then some v57 else none)) else (bif Nat.blt i 59 then (bif Nat.beq i 58 then some v58 else none) else (bif Nat.beq i 59 then some v59 else none)))) else (bif Nat.blt i 64 then (bif Nat.blt i 62 then (bif Nat.blt i 61 then (bif Nat.beq i 60 then some v60 else none) else (bif Nat.beq i 61 then some v61 else none)) else (bif Nat.blt i 63 then (bif Nat.beq i 62 then some v62 else none) else (bif Nat.beq i 63 then some v63 else none))) else (bif Nat.blt i 66 then (bif Nat.blt i 65 then (bif Nat.beq i 64 then some v64 else none) else (bif Nat.beq i 65 then some v65 else none)) else (bif Nat.blt i 69 then (bif Nat.beq i 66 then some v66 else none) else (bif Nat.blt i 70 then (bif Nat.beq i 69 then some v69 else none) else (bif Nat.beq i 70 then some v70 else none)))))))) else (bif Nat.blt i 105 then (bif Nat.blt i 87 then (bif Nat.blt i 79 then (bif Nat.blt i 75 then (bif Nat.blt i 73 then (bif Nat.blt i 72 then (bif Nat.beq i 71 then some v71 else none) else (bif Nat.beq i 72 then some v72 else none)) else (bif Nat.blt i 74 then (bif Nat.beq i 73 then some v73 else none) else (bif Nat.beq i 74 then some v74 else none))) else (bif Nat.blt i 77 then (bif Nat.blt i 76 then (bif Nat.beq i 75 then some v75 else none) else (bif Nat.beq i 76 then some v76 else none)) else (bif Nat.blt i 78 then (bif Nat.beq i 77 then some v77 else none) else (bif Nat.beq i 78 then some v78 else none)))) else (bif Nat.blt i 83 then (bif Nat.blt i 81 then (bif Nat.blt i 80 then (bif Nat.beq i 79 then some v79 else none) else (bif Nat.beq i 80 then some v80 else none)) else (bif Nat.blt i 82 then (bif Nat.beq i 81 then some v81 else none) else (bif Nat.beq i 82 then some v82 else none))) else (bif Nat.blt i 85 then (bif Nat.blt i 84 then (bif Nat.beq i 83 then some v83 else none) else (bif Nat.beq i 84 then some v84 else none)) else (bif Nat.blt i 86 then (bif Nat.beq i 85 then some v85 else none) else (bif Nat.beq i 86 then some v86 else none))))) else (bif Nat.blt i 95 then (bif Nat.blt i 91 then (bif Nat.blt i 89 then (bif Nat.blt i 88 then (bif Nat.beq i 87 then some v87 else none) else (bif Nat.beq i 88 then some v88 else none)) else (bif Nat.blt i 90 then (bif Nat.beq i 89 then some v89 else none) else (bif Nat.beq i 90 then some v90 else none))) else (bif Nat.blt i 93 then (bif Nat.blt i 92 then (bif Nat.beq i 91 then some v91 else none) else (bif Nat.beq i 92 then some v92 else none)) else (bif Nat.blt i 94 then (bif Nat.beq i 93 then some v93 else none) else (bif Nat.beq i 94 then some v94 else none)))) else (bif Nat.blt i 100 then (bif Nat.blt i 97 then (bif Nat.blt i 96 then (bif Nat.beq i 95 then some v95 else none) else (bif Nat.beq i 96 then some v96 else none)) else (bif Nat.blt i 99 then (bif Nat.beq i 97 then some v97 else none) else (bif Nat.beq i 99 then some v99 else none))) else (bif Nat.blt i 102 then (bif Nat.blt i 101 then (bif Nat.beq i 100 then some v100 else none) else (bif Nat.beq i 101 then some v101 else none)) else (bif Nat.blt i 103 then (bif Nat.beq i 102 then some v102 else none) else (bif Nat.blt i 104 then (bif Nat.beq i 103 then some v103 else none) else (bif Nat.beq i 104 then some v104 else none))))))) else (bif Nat.blt i 122 then (bif Nat.blt i 113 then (bif Nat.blt i 109 then (bif Nat.blt i 107 then (bif Nat.blt i 106 then (bif Nat.beq i 105 then some v105 else none) else (bif Nat.beq i 106 then some v106 else none)) else (bif Nat.blt i 108 then (bif Nat.beq i 107 then some v107 else none) else (bif Nat.beq i 108 then some v108 else none))) else (bif Nat.blt i 111 then (bif Nat.blt i 110 then (bif Nat.beq i 109 then some v109 else none) else (bif Nat.beq i 110 then some v110 else none)) else (bif Nat.blt i 112 then (bif Nat.beq i 111 then some v111 else none) else (bif Nat.beq i 112 then some v112 else none)))) else (bif Nat.blt i 117 then (bif Nat.blt i 115 then (bif Nat.blt i 114 then (bif Nat.beq i 113 then some v113 else none) else (bif Nat.beq i 114 then some v114 else none)) else (bif Nat.blt i 116 then (bif Nat.beq i 115 then some v115 else none) else (bif Nat.beq i 116 then some v116 else none))) else (bif Nat.blt i 120 then (bif Nat.blt i 119 then (bif Nat.beq i 117 then some v117 else none) else (bif Nat.beq i 119 then some v119 else none)) else (bif Nat.blt i 121 then (bif Nat.beq i 120 then some v120 else none) else (bif Nat.beq i 121 then some v121 else none))))) else (bif Nat.blt i 130 then (bif Nat.blt i 126 then (bif Nat.blt i 124 then (bif Nat.blt i 123 then (bif Nat.beq i 122 then some v122 else none) else (bif Nat.beq i 123 then some v123 else none)) else (bif Nat.blt i 125 then (bif Nat.beq i 124 then some v124 else none) else (bif Nat.beq i 125 then some v125 else none))) else (bif Nat.blt i 128 then (bif Nat.blt i 127 then (bif Nat.beq i 126 then some v126 else none) else (bif Nat.beq i 127 then some v127 else none)) else (bif Nat.blt i 129 then (bif Nat.beq i 128 then some v128 else none) else (bif Nat.beq i 129 then some v129 else none)))) else (bif Nat.blt i 134 then (bif Nat.blt i 132 then (bif Nat.blt i 131 then (bif Nat.beq i 130 then some v130 else none) else (bif Nat.beq i 131 then some v131 else none)) else (bif Nat.blt i 133 then (bif Nat.beq i 132 then some v132 else none) else (bif Nat.beq i 133 then some v133 else none))) else (bif Nat.blt i 136 then (bif Nat.blt i 135 then (bif Nat.beq i 134 then some v134 else none) else (bif Nat.beq i 135 then some v135 else none)) else (bif Nat.blt i 137 then (bif Nat.beq i 136 then some v136 else none) else (bif Nat.blt i 138 then (bif Nat.beq i 137 then some v137 else none) else (bif Nat.beq i 138 then some v138 else none)))))))))
theorem at3 : vp 3 = some v3 := rfl
theorem at4 : vp 4 = some v4 := rfl
theorem at5 : vp 5 = some v5 := rfl
theorem at6 : vp 6 = some v6 := rfl
theorem at7 : vp 7 = some v7 := rfl
theorem at8 : vp 8 = some v8 := rfl
theorem at9 : vp 9 = some v9 := rfl
theorem at10 : vp 10 = some v10 := rfl
theorem at11 : vp 11 = some v11 := rfl
theorem at12 : vp 12 = some v12 := rfl
theorem at13 : vp 13 = some v13 := rfl
theorem at14 : vp 14 = some v14 := rfl
theorem at15 : vp 15 = some v15 := rfl
theorem at16 : vp 16 = some v16 := rfl
theorem at17 : vp 17 = some v17 := rfl
theorem at18 : vp 18 = some v18 := rfl
theorem at19 : vp 19 = some v19 := rfl
theorem at20 : vp 20 = some v20 := rfl
theorem at21 : vp 21 = some v21 := rfl
theorem at22 : vp 22 = some v22 := rfl
theorem at23 : vp 23 = some v23 := rfl
theorem at24 : vp 24 = some v24 := rfl
theorem at25 : vp 25 = some v25 := rfl
theorem at26 : vp 26 = some v26 := rfl
theorem at27 : vp 27 = some v27 := rfl
theorem at28 : vp 28 = some v28 := rfl
theorem at29 : vp 29 = some v29 := rfl
theorem at30 : vp 30 = some v30 := rfl
theorem at31 : vp 31 = some v31 := rfl
theorem at32 : vp 32 = some v32 := rfl
theorem at33 : vp 33 = some v33 := rfl
theorem at34 : vp 34 = some v34 := rfl
theorem at35 : vp 35 = some v35 := rfl
theorem at36 : vp 36 = some v36 := rfl
theorem at37 : vp 37 = some v37 := rfl
theorem at38 : vp 38 = some v38 := rfl
theorem at39 : vp 39 = some v39 := rfl
theorem at40 : vp 40 = some v40 := rfl
theorem at41 : vp 41 = some v41 := rfl
theorem at42 : vp 42 = some v42 := rfl
theorem at43 : vp 43 = some v43 := rfl
theorem at44 : vp 44 = some v44 := rfl
theorem at45 : vp 45 = some v45 := rfl
theorem at46 : vp 46 = some v46 := rfl
theorem at47 : vp 47 = some v47 := rfl
theorem at48 : vp 48 = some v48 := rfl
theorem at49 : vp 49 = some v49 := rfl
theorem at50 : vp 50 = some v50 := rfl
theorem at51 : vp 51 = some v51 := rfl
theorem at52 : vp 52 = some v52 := rfl
theorem at53 : vp 53 = some v53 := rfl
theorem at54 : vp 54 = some v54 := rfl
theorem at55 : vp 55 = some v55 := rfl
theorem at56 : vp 56 = some v56 := rfl
theorem at57 : vp 57 = some v57 := rfl
theorem at58 : vp 58 = some v58 := rfl
theorem at59 : vp 59 = some v59 := rfl
theorem at60 : vp 60 = some v60 := rfl
theorem at61 : vp 61 = some v61 := rfl
theorem at62 : vp 62 = some v62 := rfl
theorem at63 : vp 63 = some v63 := rfl
theorem at64 : vp 64 = some v64 := rfl
theorem at65 : vp 65 = some v65 := rfl
theorem at66 : vp 66 = some v66 := rfl
theorem at69 : vp 69 = some v69 := rfl
theorem at70 : vp 70 = some v70 := rfl
theorem at71 : vp 71 = some v71 := rfl
theorem at72 : vp 72 = some v72 := rfl
theorem at73 : vp 73 = some v73 := rfl
theorem at74 : vp 74 = some v74 := rfl
theorem at75 : vp 75 = some v75 := rfl
theorem at76 : vp 76 = some v76 := rfl
theorem at77 : vp 77 = some v77 := rfl
theorem at78 : vp 78 = some v78 := rfl
theorem at79 : vp 79 = some v79 := rfl
theorem at80 : vp 80 = some v80 := rfl
theorem at81 : vp 81 = some v81 := rfl
theorem at82 : vp 82 = some v82 := rfl
theorem at83 : vp 83 = some v83 := rfl
theorem at84 : vp 84 = some v84 := rfl
theorem at85 : vp 85 = some v85 := rfl
theorem at86 : vp 86 = some v86 := rfl
theorem at87 : vp 87 = some v87 := rfl
theorem at88 : vp 88 = some v88 := rfl
theorem at89 : vp 89 = some v89 := rfl
theorem at90 : vp 90 = some v90 := rfl
theorem at91 : vp 91 = some v91 := rfl
theorem at92 : vp 92 = some v92 := rfl
theorem at93 : vp 93 = some v93 := rfl
theorem at94 : vp 94 = some v94 := rfl
theorem at95 : vp 95 = some v95 := rfl
theorem at96 : vp 96 = some v96 := rfl
theorem at97 : vp 97 = some v97 := rfl
theorem at99 : vp 99 = some v99 := rfl
theorem at100 : vp 100 = some v100 := rfl
theorem at101 : vp 101 = some v101 := rfl
theorem at102 : vp 102 = some v102 := rfl
theorem at103 : vp 103 = some v103 := rfl
theorem at104 : vp 104 = some v104 := rfl
theorem at105 : vp 105 = some v105 := rfl
theorem at106 : vp 106 = some v106 := rfl
theorem at107 : vp 107 = some v107 := rfl
theorem at108 : vp 108 = some v108 := rfl
theorem at109 : vp 109 = some v109 := rfl
theorem at110 : vp 110 = some v110 := rfl
theorem at111 : vp 111 = some v111 := rfl
theorem at112 : vp 112 = some v112 := rfl
theorem at113 : vp 113 = some v113 := rfl
theorem at114 : vp 114 = some v114 := rfl
theorem at115 : vp 115 = some v115 := rfl
theorem at116 : vp 116 = some v116 := rfl
theorem at117 : vp 117 = some v117 := rfl
theorem at119 : vp 119 = some v119 := rfl
theorem at120 : vp 120 = some v120 := rfl
theorem at121 : vp 121 = some v121 := rfl
theorem at122 : vp 122 = some v122 := rfl
theorem at123 : vp 123 = some v123 := rfl
theorem at124 : vp 124 = some v124 := rfl
theorem at125 : vp 125 = some v125 := rfl
theorem at126 : vp 126 = some v126 := rfl
theorem at127 : vp 127 = some v127 := rfl
theorem at128 : vp 128 = some v128 := rfl
theorem at129 : vp 129 = some v129 := rfl
theorem at130 : vp 130 = some v130 := rfl
theorem at131 : vp 131 = some v131 := rfl
theorem at132 : vp 132 = some v132 := rfl
theorem at133 : vp 133 = some v133 := rfl
theorem at134 : vp 134 = some v134 := rfl
theorem at135 : vp 135 = some v135 := rfl
theorem at136 : vp 136 = some v136 := rfl
theorem at137 : vp 137 = some v137 := rfl
theorem at138 : vp 138 = some v138 := rfl
end Go.VE.LB
