/- What the functions of the law ReportSees compute, on typed arguments (part 13). -/
import Derived.Test.YtjmlmaidimaloaaGreatDoorReportSeesA12
import Derived.Test.YtjmlmaidimaloaaGreatDoorReportSeesT
set_option linter.all false
namespace Go.VE.LB
set_option maxRecDepth 100000
set_option maxHeartbeats 4000000
section
open Go Go.VE Classical
structure TabR (vp : Nat → Option VFn) : Prop where
 a3 : vp 3 = some v3
 a4 : vp 4 = some v4
 a5 : vp 5 = some v5
 a6 : vp 6 = some v6
 a7 : vp 7 = some v7
 a8 : vp 8 = some v8
 a9 : vp 9 = some v9
 a10 : vp 10 = some v10
 a11 : vp 11 = some v11
 a12 : vp 12 = some v12
 a13 : vp 13 = some v13
 a14 : vp 14 = some v14
 a15 : vp 15 = some v15
 a16 : vp 16 = some v16
 a17 : vp 17 = some v17
 a18 : vp 18 = some v18
 a19 : vp 19 = some v19
 a20 : vp 20 = some v20
 a21 : vp 21 = some v21
 a22 : vp 22 = some v22
 a23 : vp 23 = some v23
 a24 : vp 24 = some v24
 a25 : vp 25 = some v25
 a26 : vp 26 = some v26
 a27 : vp 27 = some v27
 a28 : vp 28 = some v28
 a29 : vp 29 = some v29
 a30 : vp 30 = some v30
 a31 : vp 31 = some v31
 a32 : vp 32 = some v32
 a33 : vp 33 = some v33
 a34 : vp 34 = some v34
 a35 : vp 35 = some v35
 a36 : vp 36 = some v36
 a37 : vp 37 = some v37
 a38 : vp 38 = some v38
 a39 : vp 39 = some v39
 a40 : vp 40 = some v40
 a41 : vp 41 = some v41
 a42 : vp 42 = some v42
 a43 : vp 43 = some v43
 a44 : vp 44 = some v44
 a45 : vp 45 = some v45
 a46 : vp 46 = some v46
 a47 : vp 47 = some v47
 a48 : vp 48 = some v48
 a49 : vp 49 = some v49
 a50 : vp 50 = some v50
 a51 : vp 51 = some v51
 a52 : vp 52 = some v52
 a53 : vp 53 = some v53
 a54 : vp 54 = some v54
 a55 : vp 55 = some v55
 a56 : vp 56 = some v56
 a57 : vp 57 = some v57
 a58 : vp 58 = some v58
 a59 : vp 59 = some v59
 a60 : vp 60 = some v60
 a61 : vp 61 = some v61
 a62 : vp 62 = some v62
 a63 : vp 63 = some v63
 a64 : vp 64 = some v64
 a65 : vp 65 = some v65
 a66 : vp 66 = some v66
 a67 : vp 67 = some v67
 a68 : vp 68 = some v68
 a70 : vp 70 = some v70
 a71 : vp 71 = some v71
 a72 : vp 72 = some v72
 a73 : vp 73 = some v73
 a74 : vp 74 = some v74
 a75 : vp 75 = some v75
 a76 : vp 76 = some v76
 a77 : vp 77 = some v77
 a78 : vp 78 = some v78
 a79 : vp 79 = some v79
 a80 : vp 80 = some v80
 a83 : vp 83 = some v83
 a84 : vp 84 = some v84
 a85 : vp 85 = some v85
 a86 : vp 86 = some v86
 a87 : vp 87 = some v87
 a88 : vp 88 = some v88
 a89 : vp 89 = some v89
 a90 : vp 90 = some v90
 a91 : vp 91 = some v91
 a92 : vp 92 = some v92
 a93 : vp 93 = some v93
 a94 : vp 94 = some v94
 a95 : vp 95 = some v95
 a96 : vp 96 = some v96
 a97 : vp 97 = some v97
 a98 : vp 98 = some v98
 a99 : vp 99 = some v99
 a101 : vp 101 = some v101
 a102 : vp 102 = some v102
 a103 : vp 103 = some v103
 a104 : vp 104 = some v104
 a106 : vp 106 = some v106
 a107 : vp 107 = some v107
 a108 : vp 108 = some v108
 a109 : vp 109 = some v109
 a110 : vp 110 = some v110
 a111 : vp 111 = some v111
 a112 : vp 112 = some v112
 a113 : vp 113 = some v113
 a114 : vp 114 = some v114
 a115 : vp 115 = some v115
 a116 : vp 116 = some v116
 a117 : vp 117 = some v117
 a118 : vp 118 = some v118
 a119 : vp 119 = some v119
 a123 : vp 123 = some v123
theorem top {vp : Nat → Option VFn} (T : TabR vp) (s : Srv) (hps : ∀ x ∈ s.ps.l, 0 ≤ x.t) (t : Nat) (h : Heap) : callRes vp 3 [.agg (encS s), .int .u32 (t : Int)] h = some (.bool true, h) := by
 have bk67 := fun b h => bk_spec (vp := vp) T.a67 T.a96 b h
 have bk91 := fun b h => bk_spec2 (vp := vp) T.a91 T.a114 b h
 have ar63 := fun nx u fr h => arC_spec (vp := vp) T.a63 T.a93 nx u fr h
 have ix64 := fun x h => ixC_spec (vp := vp) T.a64 T.a94 T.a115 T.a116 x h
 have li43 := fun pr nx hd tl h => lrL_spec (vp := vp) T.a43 T.a68 pr nx hd tl h
 have ct65 := fun v l n h => ct_spec (vp := vp) T.a65 T.a95 v l n h
 have fi66 := fun x key h => find_spec (vp := vp) (d3 := 0) T.a66 T.a64 T.a94 T.a115 T.a116 x key h
 have tb42 := fun t h => tbC_spec (vp := vp) T.a42 (mo T.a63 rfl rfl) (mo T.a64 rfl rfl) (mo T.a43 rfl rfl) (mo T.a65 rfl rfl) (mo T.a66 rfl rfl) (mo T.a67 rfl rfl) ar63 ix64 li43 ct65 fi66 bk67 t h
 have ar86 := fun nx u fr h => arR_spec (vp := vp) T.a86 T.a109 T.a73 nx u fr h
 have ix87 := fun x h => ixR_spec (vp := vp) T.a87 T.a89 T.a110 T.a111 x h
 have od88 := fun pr nx hd tl h => orR_spec (vp := vp) T.a88 T.a49 T.a113 T.a112 T.a73 T.a123 pr nx hd tl h
 have tb58 := fun t h => tbR_spec (vp := vp) T.a58 (mo T.a86 rfl rfl) (mo T.a87 rfl rfl) (mo T.a88 rfl rfl) (mo T.a91 rfl rfl) T.a49 T.a89 T.a90 T.a73 ar86 ix87 od88 bk91 t h
 have lm79 := fun a b c h => pval_spec (vp := vp) T.a79 (mo T.a96 rfl rfl) (fun x h => lim_spec T.a96 x h) a b c h
 have pk52 := fun x h => ptC_spec (vp := vp) T.a52 (mo T.a79 rfl rfl) (mo T.a67 rfl rfl) (mo T.a42 rfl rfl) T.a80 T.a104 lm79 bk67 tb42 x h
 have lm101 := fun a b c h => lims_spec (vp := vp) T.a101 (mo T.a114 rfl rfl) (fun x h => lim_spec2 T.a114 x h) a b c h
 have pk72 := fun x h => ptR_spec (vp := vp) T.a72 (mo T.a101 rfl rfl) (mo T.a91 rfl rfl) (mo T.a58 rfl rfl) T.a102 lm101 bk91 tb58 x h
 have rg37 := fun ps h => rgC_spec (vp := vp) T.a37 (mo T.a52 rfl rfl) pk52 ps h
 have rg47 := fun ps h => rgR_spec (vp := vp) T.a47 (mo T.a72 rfl rfl) pk72 ps h
 have fi31 := fun ps t h => rFind_spec (vp := vp) T.a31 (mo T.a37 rfl rfl) rg37 T.a51 T.a76 T.a77 T.a78 T.a103 ps t h
 have vl18 := fun s h => svC_spec (vp := vp) T.a18 (mo T.a37 rfl rfl) rg37 T.a38 T.a40 T.a39 T.a41 T.a60 T.a61 T.a62 T.a92 s h
 have vl24 := fun s h => svR_spec (vp := vp) T.a24 (mo T.a47 rfl rfl) rg47 T.a48 s h
 have vl29 := fun s h => svk_spec (vp := vp) T.a29 (mo T.a18 rfl rfl) vl18 s h
 have ck : ∀ h, callRes vp 37 [.nils] h = some (.int .i64 0, h) := fun h => by
  have := rg37 Sl.nil h
  have e : rgv (Sl.nil : Sl Part).l = 0 := rgv_nil
  rw [e] at this
  exact this
 have fd : ∀ (t : Int) (h : Heap), callRes vp 51 [.nils, .int .u32 t] h = some (.tup [.int .i64 0, .bool false], h) := fun t h => by
  obtain ⟨i, fd, e, hi, r⟩ := rfind_spec (vp := vp) T.a51 T.a76 T.a77 T.a78 T.a103 Sl.nil t h (by decide) (fun k hk => by simp [Sl.l] at hk)
  have hi : i ≤ 0 := hi
  rcases r with ⟨_, _, r⟩ | ⟨rfl, _⟩
  ·have r : i < 0 := r
   omega
  ·obtain rfl : i = 0 := by omega
   exact e
 have cp : ∀ (x : Part), PtOk x → ∀ h : Heap, ∃ y : Part, callRes vp 55 [.agg (encP x)] h = some (.agg (encP y), h) ∧ PEq x y := fun x o h => cop_spec (vp := vp) T.a55 T.a83 T.a13 T.a106 T.a107 T.a108 T.a93 x o.shu o.she o.shr h
 have pt := fun x o h => putN_spec (vp := vp) T.a32 (mo T.a37 rfl rfl) (mo T.a52 rfl rfl) (mo T.a51 rfl rfl) (mo T.a54 rfl rfl) (mo T.a55 rfl rfl) ck pk52 fd (fun h => all_nil T.a54 h) cp T.a53 x o h
 have vw11 := fun s t h => view_spec (vp := vp) T.a11 (mo T.a29 rfl rfl) T.a30 (mo T.a31 rfl rfl) (mo T.a32 rfl rfl) vl29 fi31 pt s t h
 have tw : ∀ (x : Part), PtOk x → ∀ h : Heap, ∃ y : Part, callRes vp 35 [.agg (encP x)] h = some (.agg (encP y), h) ∧ PEq x y := fun x o h => ptTw_spec (vp := vp) T.a35 T.a57 T.a84 T.a85 x o.shu o.she o.shr h
 have vw15 := fun s t h => viewR_spec (vp := vp) T.a15 (mo T.a24 rfl rfl) T.a34 (mo T.a35 rfl rfl) vl24 tw s t h
 have ks19 := fun t o h => keys_spec (vp := vp) T.a19 (mo T.a42 rfl rfl) (mo T.a43 rfl rfl) tb42 li43 t o h
 have pl56 := fun t o i h1 h2 hu h => place_spec (vp := vp) T.a56 (mo T.a66 rfl rfl) fi66 t o i h1 h2 hu h
 have gt33 := fun t o i h1 h2 h3 hu h => get_spec (vp := vp) T.a33 (mo T.a42 rfl rfl) (mo T.a56 rfl rfl) tb42 pl56 t o i h1 h2 h3 hu h
 have ks26 := fun t o h => listed_spec (vp := vp) T.a26 (mo T.a49 rfl rfl) (fun pr nx hd tl h hn => all_spec T.a49 T.a73 pr nx hd tl h hn) t o h
 have gt36 := fun t o i h1 h2 h3 hu h => rget_spec (vp := vp) T.a36 (mo T.a58 rfl rfl) T.a59 tb58 t o i h1 h2 h3 hu h
 have ho14 := fun t o h => holdings_spec (vp := vp) T.a14 (mo T.a19 rfl rfl) (mo T.a33 rfl rfl) T.a12 ks19 gt33 t o h
 have ho17 := fun t o h => rtable_spec (vp := vp) T.a17 (mo T.a26 rfl rfl) (mo T.a36 rfl rfl) T.a16 ks26 gt36 t o h
 have of5 := fun s t h => of_spec (vp := vp) T.a5 (mo T.a11 rfl rfl) T.a12 T.a13 (mo T.a14 rfl rfl) vw11 ho14 s t h
 have of6 := fun s t h => ofR_spec (vp := vp) T.a6 (mo T.a15 rfl rfl) T.a16 (mo T.a17 rfl rfl) vw15 ho17 s t h
 have fm71 := fun n hn h => ifmt_spec (vp := vp) T.a71 T.a97 T.a98 T.a99 T.a118 T.a117 T.a119 n hn h
 have fm46 := fun n hn h => fmt_spec (vp := vp) T.a46 (mo T.a71 rfl rfl) fm71 n hn h
 have nm22 := fun v l hl hn h hv hv2 => num_spec (vp := vp) T.a22 (mo T.a46 rfl rfl) T.a20 T.a44 T.a23 fm46 v l hl hn h hv hv2
 have tp21 := fun x c h => tp_spec (vp := vp) T.a21 T.a45 T.a70 x c h
 have br7 := fun s hps h => br_spec (vp := vp) T.a7 (mo T.a18 rfl rfl) (mo T.a19 rfl rfl) (mo T.a22 rfl rfl) (mo T.a21 rfl rfl) T.a20 T.a44 T.a23 vl18 ks19 nm22 tp21 s hps h
 have br8 := fun s hps h => brR_spec (vp := vp) T.a8 (mo T.a24 rfl rfl) (mo T.a25 rfl rfl) (mo T.a26 rfl rfl) vl24 (fun n hn h => dec_spec T.a25 n hn h) ks26 s hps h
 have gr := fun s h => gr20 (vp := vp) T.a4 (mo T.a10 rfl rfl) (fun ps h => gr19 T.a10 (mo T.a28 rfl rfl) (fun x h => gr18 T.a28 (mo T.a50 rfl rfl) (fun t h => gr16 T.a50 T.a74 T.a75 t h) x h) ps h) s h
 exact rs_law T.a3 (mo T.a4 rfl rfl) (mo T.a5 rfl rfl) (mo T.a6 rfl rfl) (mo T.a7 rfl rfl) (mo T.a8 rfl rfl) T.a9 T.a27 gr of5 of6 br7 br8 s hps t h
end
section
open Go Go.VE Classical
def shL : VE.Sh := .st [.int .i64, .int .i64, .int .i64]
def shB : VE.Sh := .st [shL, .int .i64, .int .i64, .int .u64]
def shC : VE.Sh := .st [.int .u32, .int .i64, .bool]
def shR : VE.Sh := .st [.sl (.int .i64), .sl .bool, .int .i64]
def shO : VE.Sh := .st [.sl (.int .i64), .sl (.int .i64), .int .i64, .int .i64]
def shT : VE.Sh := .st [.int .i64, .sl (.int .u32), .sl shB, shR, .sl shC, shO]
def shP : VE.Sh := .st [.int .u32, .arr 3 shL, shB, shT, shT, .sl (.int .u32), .st [.int .u64, .int .u64, .int .u64]]
def shS : VE.Sh := .st [.int .u64, .arr 32 (.int .u8), .arr 16 (.int .u32), .sl shP]
theorem fitI {H : Type} {k : IntKind} {d : DataW H} (h : Fit (.int k) d) : ∃ n, d = .lit (.int k n) ∧ (Lit.int k n).wf = true := by
 unfold Fit at h
 exact h
theorem fitLm {H : Type} {d : DataW H} (h : Fit shL d) : ∃ x : Limit, dvs shL d = encL x := by
 simp only [shL, Fit, FitL] at h
 obtain ⟨ps, rfl, d0, r0, rfl, ⟨n0, rfl, _⟩, d1, r1, rfl, ⟨n1, rfl, _⟩, d2, r2, rfl, ⟨n2, rfl, _⟩, rfl⟩ := h
 exact ⟨⟨n0, n1, n2⟩, by simp [shL, dvs, dvsL, encL]⟩
theorem wf_u32 {n : Int} (w : (Lit.int .u32 n).wf = true) : 0 ≤ n ∧ n < 4294967296 := by
 simp only [Lit.wf, Bool.and_eq_true, decide_eq_true_eq] at w
 have e2 : IntKind.u32.min = 0 := rfl
 have e3 : IntKind.u32.max = 4294967295 := rfl
 omega
theorem fitB {H : Type} {d : DataW H} (h : Fit shB d) : ∃ x : Bucket, dvs shB d = encB x := by
 unfold shB at h
 unfold Fit at h
 obtain ⟨ps, rfl, h⟩ := h
 unfold FitL at h
 obtain ⟨d0, r0, rfl, h0, h⟩ := h
 unfold FitL at h
 obtain ⟨d1, r1, rfl, h1, h⟩ := h
 unfold FitL at h
 obtain ⟨d2, r2, rfl, h2, h⟩ := h
 unfold FitL at h
 obtain ⟨d3, r3, rfl, h3, h⟩ := h
 unfold FitL at h
 subst h
 obtain ⟨l, e0⟩ := fitLm h0
 obtain ⟨n1, rfl, w1⟩ := fitI h1
 obtain ⟨n2, rfl, _⟩ := fitI h2
 obtain ⟨n3, rfl, w3⟩ := fitI h3
 have ok : n1 < 9223372036854775808 := by
  simp only [Lit.wf, Bool.and_eq_true, decide_eq_true_eq] at w1
  have e : IntKind.i64.max = 9223372036854775807 := rfl
  omega
 refine ⟨⟨l, n1, n2, n3, ok⟩, ?_⟩
 simp only [shB, dvs, dvsL, e0, encL, encB]
 simp
theorem fitK {H : Type} {d : DataW H} (h : Fit (.int .u32) d) : ∃ x : K32, dvs (.int .u32) d = eK x := by
 obtain ⟨n, rfl, w⟩ := fitI h
 have w := wf_u32 w
 refine ⟨⟨n.toNat, by omega⟩, ?_⟩
 have e : ((n.toNat : Nat) : Int) = n := by omega
 simp [dvs, eK, e]
theorem fitN {H : Type} {d : DataW H} (h : Fit (.int .i64) d) : ∃ x : Int, dvs (.int .i64) d = eI x := by
 obtain ⟨n, rfl, w⟩ := fitI h
 exact ⟨n, by simp [dvs, eI]⟩
theorem fitU {H : Type} {d : DataW H} (h : Fit (.int .u32) d) : ∃ x : Int, dvs (.int .u32) d = e32 x := by
 obtain ⟨n, rfl, w⟩ := fitI h
 exact ⟨n, by simp [dvs, e32]⟩
theorem fitO {H : Type} {d : DataW H} (h : Fit .bool d) : ∃ x : Bool, dvs .bool d = eO x := by
 simp only [Fit] at h
 obtain ⟨b, rfl⟩ := h
 exact ⟨b, by simp [dvs, eO]⟩
theorem fitC {H : Type} {d : DataW H} (h : Fit shC d) : ∃ x : Cell, dvs shC d = eC x := by
 simp only [shC, Fit, FitL] at h
 obtain ⟨ps, rfl, d0, r0, rfl, ⟨n0, rfl, w0⟩, d1, r1, rfl, ⟨n1, rfl, _⟩, d2, r2, rfl, ⟨b, rfl⟩, rfl⟩ := h
 have w := wf_u32 w0
 refine ⟨⟨⟨n0.toNat, by omega⟩, n1, b⟩, ?_⟩
 have e : ((n0.toNat : Nat) : Int) = n0 := by omega
 simp [shC, dvs, dvsL, eC, e]
theorem dvs_int {H : Type} {k : IntKind} {n : Int} : dvs (.int k) (.lit (.int k n) : DataW H) = [.int k n] := by simp [dvs]
theorem dvs_arr {H : Type} {n : Nat} {s : VE.Sh} {ps : List (DataW H)} : dvs (.arr n s) (.agg ps) = ps.flatMap (dvs s) := by simp [dvs]
theorem dvs_st {H : Type} {l : List VE.Sh} {ps : List (DataW H)} : dvs (.st l) (.agg ps) = dvsL l ps := by simp [dvs]
theorem fitT {H : Type} {d : DataW H} (h : Fit shT d) : ∃ x : Tab, dvs shT d = encT x := by
 unfold shT at h
 unfold Fit at h
 obtain ⟨ps, rfl, h⟩ := h
 unfold FitL at h
 obtain ⟨d0, r0, rfl, h0, h⟩ := h
 unfold FitL at h
 obtain ⟨d1, r1, rfl, h1, h⟩ := h
 unfold FitL at h
 obtain ⟨d2, r2, rfl, h2, h⟩ := h
 unfold FitL at h
 obtain ⟨d3, r3, rfl, h3, h⟩ := h
 unfold FitL at h
 obtain ⟨d4, r4, rfl, h4, h⟩ := h
 unfold FitL at h
 obtain ⟨d5, r5, rfl, h5, h⟩ := h
 unfold FitL at h
 subst h
 obtain ⟨n0, rfl, _⟩ := fitI h0
 obtain ⟨ks, e1, _⟩ := fit_sl (enc := eK) (fun _ => fitK) h1
 obtain ⟨bk, e2, _⟩ := fit_sl (enc := encB) (fun _ => fitB) h2
 obtain ⟨ix, e4, _⟩ := fit_sl (enc := eC) (fun _ => fitC) h4
 unfold shR at h3
 unfold Fit at h3
 obtain ⟨qs, rfl, h3⟩ := h3
 unfold FitL at h3
 obtain ⟨f0, t0, rfl, g0, h3⟩ := h3
 unfold FitL at h3
 obtain ⟨f1, t1, rfl, g1, h3⟩ := h3
 unfold FitL at h3
 obtain ⟨f2, t2, rfl, g2, h3⟩ := h3
 unfold FitL at h3
 subst h3
 obtain ⟨nx, e5, _⟩ := fit_sl (enc := eI) (fun _ => fitN) g0
 obtain ⟨us, e6, _⟩ := fit_sl (enc := eO) (fun _ => fitO) g1
 obtain ⟨fr, rfl, _⟩ := fitI g2
 unfold shO at h5
 unfold Fit at h5
 obtain ⟨rs, rfl, h5⟩ := h5
 unfold FitL at h5
 obtain ⟨k0, u0, rfl, m0, h5⟩ := h5
 unfold FitL at h5
 obtain ⟨k1, u1, rfl, m1, h5⟩ := h5
 unfold FitL at h5
 obtain ⟨k2, u2, rfl, m2, h5⟩ := h5
 unfold FitL at h5
 obtain ⟨k3, u3, rfl, m3, h5⟩ := h5
 unfold FitL at h5
 subst h5
 obtain ⟨op, e7, _⟩ := fit_sl (enc := eI) (fun _ => fitN) m0
 obtain ⟨on, e8, _⟩ := fit_sl (enc := eI) (fun _ => fitN) m1
 obtain ⟨hd, rfl, _⟩ := fitI m2
 obtain ⟨tl, rfl, _⟩ := fitI m3
 refine ⟨⟨n0, ks, bk, nx, us, fr, ix, op, on, hd, tl⟩, ?_⟩
 unfold shT shR shO
 rw [dvs_st]
 simp only [dvsL]
 rw [dvs_int, e1, e2, e4, dvs_st, dvs_st]
 simp only [dvsL]
 rw [e5, e6, e7, e8, dvs_int, dvs_int, dvs_int]
 rfl
def PartT : Type := { x : Part // 0 ≤ x.t }
def encPT (x : PartT) : List V := encP x.1
theorem fitP {H : Type} {d : DataW H} (h : Fit shP d) : ∃ x : PartT, dvs shP d = encPT x := by
 unfold shP at h
 unfold Fit at h
 obtain ⟨ps, rfl, h⟩ := h
 unfold FitL at h
 obtain ⟨d0, r0, rfl, h0, h⟩ := h
 unfold FitL at h
 obtain ⟨d1, r1, rfl, h1, h⟩ := h
 unfold FitL at h
 obtain ⟨d2, r2, rfl, h2, h⟩ := h
 unfold FitL at h
 obtain ⟨d3, r3, rfl, h3, h⟩ := h
 unfold FitL at h
 obtain ⟨d4, r4, rfl, h4, h⟩ := h
 unfold FitL at h
 obtain ⟨d5, r5, rfl, h5, h⟩ := h
 unfold FitL at h
 obtain ⟨d6, r6, rfl, h6, h⟩ := h
 unfold FitL at h
 subst h
 obtain ⟨n0, rfl, w0⟩ := fitI h0
 unfold Fit at h1
 obtain ⟨qs, rfl, hl, hq⟩ := h1
 obtain ⟨ow, e2⟩ := fitB h2
 obtain ⟨us, e3⟩ := fitT h3
 obtain ⟨en, e4⟩ := fitT h4
 obtain ⟨rv, e5, _⟩ := fit_sl (enc := e32) (fun _ => fitU) h5
 simp only [Fit, FitL] at h6
 obtain ⟨ts, rfl, t0, s0, rfl, ⟨m0, rfl, _⟩, t1, s1, rfl, ⟨m1, rfl, _⟩, t2, s2, rfl, ⟨m2, rfl, _⟩, rfl⟩ := h6
 match qs, hl, hq with
 | [q0, q1, q2], _, hq =>
  obtain ⟨x0, f0⟩ := fitLm (hq q0 (by simp))
  obtain ⟨x1, f1⟩ := fitLm (hq q1 (by simp))
  obtain ⟨x2, f2⟩ := fitLm (hq q2 (by simp))
  refine ⟨⟨⟨n0, x0, x1, x2, ow, us, en, rv, m0, m1, m2⟩, (wf_u32 w0).1⟩, ?_⟩
  unfold shP
  rw [dvs_st]
  simp only [dvsL]
  rw [e2, e3, e4, e5, dvs_int, dvs_arr, dvs_st]
  simp only [dvsL, dvs_int, List.flatMap_cons, List.flatMap_nil, f0, f1, f2]
  rfl
theorem slP_map (c : Sl PartT) : ∃ c' : Sl Part, c'.v encP = c.v encPT ∧ ∀ x ∈ c'.l, 0 ≤ x.t := by
 cases c with
 | nil => exact ⟨.nil, rfl, fun x hx => by simp [Sl.l] at hx⟩
 | mk l cap =>
  refine ⟨.mk (l.map (·.1)) cap, ?_, fun x hx => ?_⟩
  ·have e : (l.map (·.1)).flatMap encP = l.flatMap encPT := by
    rw [List.flatMap_map]
    rfl
   simp only [Sl.v, e, List.length_map]
  ·have hx : x ∈ l.map (·.1) := hx
   obtain ⟨y, _, rfl⟩ := List.mem_map.1 hx
   exact y.2
theorem fitArr {H : Type} {k : IntKind} : ∀ cs : List (DataW H), (∀ c ∈ cs, Fit (.int k) c) → ∃ l : List Int, l.length = cs.length ∧ cs.flatMap (dvs (.int k)) = l.map (V.int k)
 | [], _ => ⟨[], rfl, rfl⟩
 | c :: cs, h => by
  obtain ⟨n, rfl, wn⟩ := fitI (h c List.mem_cons_self)
  obtain ⟨l, e1, e2⟩ := fitArr cs (fun x hx => h x (List.mem_cons_of_mem _ hx))
  exact ⟨n :: l, by simp [e1], by rw [List.flatMap_cons, e2, dvs_int]; rfl⟩
theorem fitS {H : Type} {d : DataW H} (h : Fit shS d) : ∃ s : Srv, dvs shS d = encS s ∧ ∀ x ∈ s.ps.l, 0 ≤ x.t := by
 unfold shS at h
 unfold Fit at h
 obtain ⟨ps, rfl, h⟩ := h
 unfold FitL at h
 obtain ⟨d0, r0, rfl, h0, h⟩ := h
 unfold FitL at h
 obtain ⟨d1, r1, rfl, h1, h⟩ := h
 unfold FitL at h
 obtain ⟨d2, r2, rfl, h2, h⟩ := h
 unfold FitL at h
 obtain ⟨d3, r3, rfl, h3, h⟩ := h
 unfold FitL at h
 subst h
 obtain ⟨n0, rfl, w0⟩ := fitI h0
 unfold Fit at h1
 obtain ⟨qs, rfl, hl1, hq⟩ := h1
 unfold Fit at h2
 obtain ⟨cs, rfl, hl2, hc⟩ := h2
 obtain ⟨sd, l1, e1⟩ := fitArr qs hq
 obtain ⟨ep, l2, e2⟩ := fitArr cs hc
 obtain ⟨c, e3, hlen⟩ := fit_sl (enc := encPT) (fun d h => fitP h) h3
 obtain ⟨c', e4, e5⟩ := slP_map c
 refine ⟨⟨n0, sd.map (V.int .u8), ep, c', by rw [List.length_map, l1, hl1], by rw [l2, hl2]⟩, ?_, e5⟩
 unfold shS
 rw [dvs_st]
 simp only [dvsL]
 rw [dvs_int, dvs_arr, dvs_arr, e1, e2, e3, ← e4]
 unfold encS encS1
 have e6 : ∀ l : List Int, l.map (V.int .u32) = l.flatMap e32 := fun l => by
  induction l with
  | nil => rfl
  | cons a l ih => rw [List.map_cons, List.flatMap_cons, ih]; rfl
 rw [e6]
 simp only [List.append_assoc, List.nil_append, List.append_nil, List.cons_append]
end
end Go.VE.LB
