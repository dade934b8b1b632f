/- What the functions of the law ModelCommands compute, on typed arguments (part 14). -/
import Derived.Test.YtdggjlfamjfdkaaGreatModelCommandsA13
import Derived.Test.YtdggjlfamjfdkaaGreatModelCommandsT
set_option linter.all false
namespace Go.VE.LB
section
open Go Go.VE Classical
set_option maxRecDepth 100000
set_option linter.all false
def shL : Sh := .st [.int .i64, .int .i64, .int .i64]
def shB : Sh := .st [shL, .int .i64, .int .i64, .int .u64]
def shH : Sh := .st [.int .u32, shB]
def shA : Sh := .st [.int .u32, .arr 3 shL, .arr 2 (.int .i64), shB, .sl shH, .sl shH, .sl (.int .u32), .st [.int .u64, .int .u64, .int .u64]]
theorem fitI {H : Type} {k : IntKind} {d : DataW H} (h : Fit (.int k) d) : ∃ n, d = .lit (.int k n) ∧ (Lit.int k n).wf = true := by
 unfold Fit at h
 exact h
theorem fitLm {H : Type} {d : DataW H} (h : Fit shL d) : ∃ x : Limit, dvs shL d = encL x := by
 simp only [shL, Fit, FitL] at h
 obtain ⟨ps, rfl, d0, r0, rfl, ⟨n0, rfl, _⟩, d1, r1, rfl, ⟨n1, rfl, _⟩, d2, r2, rfl, ⟨n2, rfl, _⟩, rfl⟩ := h
 exact ⟨⟨n0, n1, n2⟩, by simp [shL, dvs, dvsL, encL]⟩
theorem wf_u64 {n : Int} (w : (Lit.int .u64 n).wf = true) : u64 n := by
 simp only [Lit.wf, Bool.and_eq_true, decide_eq_true_eq] at w
 have e : IntKind.u64.max = 18446744073709551615 := rfl
 have e2 : IntKind.u64.min = 0 := rfl
 unfold u64
 omega
theorem wf_u32 {n : Int} (w : (Lit.int .u32 n).wf = true) : 0 ≤ n := by
 simp only [Lit.wf, Bool.and_eq_true, decide_eq_true_eq] at w
 have e2 : IntKind.u32.min = 0 := rfl
 omega
theorem fitB {H : Type} {d : DataW H} (h : Fit shB d) : ∃ x : Bucket, dvs shB d = encB x ∧ u64 x.t := by
 unfold shB at h
 unfold Fit at h
 obtain ⟨ps, rfl, h⟩ := h
 unfold FitL at h
 obtain ⟨d0, r0, rfl, h0, h⟩ := h
 unfold FitL at h
 obtain ⟨d1, r1, rfl, h1, h⟩ := h
 unfold FitL at h
 obtain ⟨d2, r2, rfl, h2, h⟩ := h
 unfold FitL at h
 obtain ⟨d3, r3, rfl, h3, h⟩ := h
 unfold FitL at h
 subst h
 obtain ⟨l, e0⟩ := fitLm h0
 obtain ⟨n1, rfl, w1⟩ := fitI h1
 obtain ⟨n2, rfl, _⟩ := fitI h2
 obtain ⟨n3, rfl, w3⟩ := fitI h3
 have ok : n1 < 9223372036854775808 := by
  simp only [Lit.wf, Bool.and_eq_true, decide_eq_true_eq] at w1
  have e : IntKind.i64.max = 9223372036854775807 := rfl
  omega
 refine ⟨⟨l, n1, n2, n3, ok⟩, ?_, wf_u64 w3⟩
 simp only [shB, dvs, dvsL, e0, encL, encB]
 simp
def HeldT : Type := { x : Held // u64 x.b.t }
def encHT (x : HeldT) : List V := encH x.1
theorem fitH {H : Type} {d : DataW H} (h : Fit shH d) : ∃ x : HeldT, dvs shH d = encHT x := by
 unfold shH at h
 unfold Fit at h
 obtain ⟨ps, rfl, h⟩ := h
 unfold FitL at h
 obtain ⟨d0, r0, rfl, h0, h⟩ := h
 unfold FitL at h
 obtain ⟨d1, r1, rfl, h1, h⟩ := h
 unfold FitL at h
 subst h
 obtain ⟨n0, rfl, _⟩ := fitI h0
 obtain ⟨b, e1, ht⟩ := fitB h1
 refine ⟨⟨⟨n0, b⟩, ht⟩, ?_⟩
 simp only [shH, dvs, dvsL, e1, encB, encHT, encH]
 simp
theorem sl_map (c : Sl HeldT) : ∃ c' : Sl Held, c'.v encH = c.v encHT ∧ ∀ x ∈ c'.l, u64 x.b.t := by
 cases c with
 | nil => exact ⟨.nil, rfl, fun x hx => by simp [Sl.l] at hx⟩
 | mk l cap =>
  refine ⟨.mk (l.map (·.1)) cap, ?_, fun x hx => ?_⟩
  ·have e : (l.map (·.1)).flatMap encH = l.flatMap encHT := by
    rw [List.flatMap_map]
    rfl
   simp only [Sl.v, e, List.length_map]
  ·have hx : x ∈ l.map (·.1) := hx
   obtain ⟨y, _, rfl⟩ := List.mem_map.1 hx
   exact y.2
theorem fitHs {H : Type} {d : DataW H} (h : Fit (.sl shH) d) : ∃ c : Sl Held, dvs (.sl shH) d = [c.v encH] ∧ ∀ x ∈ c.l, u64 x.b.t := by
 obtain ⟨c, e, _⟩ := fit_sl (enc := encHT) (fun _ => fitH) h
 obtain ⟨c', e1, e2⟩ := sl_map c
 exact ⟨c', by rw [e, e1], e2⟩
theorem fitA {H : Type} {d : DataW H} (h : Fit shA d) : ∃ x : Acct, dvs shA d = encA x ∧ TA x ∧ 0 ≤ x.t := by
 unfold shA at h
 unfold Fit at h
 obtain ⟨ps, rfl, h⟩ := h
 unfold FitL at h
 obtain ⟨d0, r0, rfl, h0, h⟩ := h
 unfold FitL at h
 obtain ⟨d1, r1, rfl, h1, h⟩ := h
 unfold FitL at h
 obtain ⟨d2, r2, rfl, h2, h⟩ := h
 unfold FitL at h
 obtain ⟨d3, r3, rfl, h3, h⟩ := h
 unfold FitL at h
 obtain ⟨d4, r4, rfl, h4, h⟩ := h
 unfold FitL at h
 obtain ⟨d5, r5, rfl, h5, h⟩ := h
 unfold FitL at h
 obtain ⟨d6, r6, rfl, h6, h⟩ := h
 unfold FitL at h
 obtain ⟨d7, r7, rfl, h7, h⟩ := h
 unfold FitL at h
 subst h
 obtain ⟨n0, rfl, w0⟩ := fitI h0
 unfold Fit at h1
 obtain ⟨qs, rfl, hl, hq⟩ := h1
 unfold Fit at h2
 obtain ⟨cs, rfl, hl2, hc⟩ := h2
 obtain ⟨ow, e3, to⟩ := fitB h3
 obtain ⟨us, e4, tu⟩ := fitHs h4
 obtain ⟨en, e5, te⟩ := fitHs h5
 obtain ⟨rv, e6, _⟩ := fit_sl (enc := e32) (fun d h => by
  obtain ⟨n, rfl, _⟩ := fitI h
  exact ⟨n, by simp [dvs, e32]⟩) h6
 simp only [Fit, FitL] at h7
 obtain ⟨ts, rfl, t0, s0, rfl, ⟨m0, rfl, _⟩, t1, s1, rfl, ⟨m1, rfl, _⟩, t2, s2, rfl, ⟨m2, rfl, _⟩, rfl⟩ := h7
 match qs, hl, hq, cs, hl2, hc with
 | [q0, q1, q2], _, hq, [c0, c1], _, hc =>
  obtain ⟨x0, f0⟩ := fitLm (hq q0 (by simp))
  obtain ⟨x1, f1⟩ := fitLm (hq q1 (by simp))
  obtain ⟨x2, f2⟩ := fitLm (hq q2 (by simp))
  obtain ⟨k0, rfl, _⟩ := fitI (hc c0 (by simp))
  obtain ⟨k1, rfl, _⟩ := fitI (hc c1 (by simp))
  refine ⟨⟨n0, x0, x1, x2, k0, k1, ow, us, en, rv, m0, m1, m2⟩, ?_, ⟨to, tu, te⟩, wf_u32 w0⟩
  unfold shA
  unfold dvs
  simp only [dvsL]
  rw [e3, e4, e5, e6]
  simp only [dvs, dvsL, List.flatMap_cons, List.flatMap_nil, f0, f1, f2, encL, encB, encA]
  simp
def AcctT : Type := { x : Acct // TA x ∧ 0 ≤ x.t }
def encAT (x : AcctT) : List V := encA x.1
theorem slA_map (c : Sl AcctT) : ∃ c' : Sl Acct, c'.v encA = c.v encAT ∧ c'.l.length = c.l.length ∧ ∀ x ∈ c'.l, TA x ∧ 0 ≤ x.t := by
 cases c with
 | nil => exact ⟨.nil, rfl, rfl, fun x hx => by simp [Sl.l] at hx⟩
 | mk l cap =>
  refine ⟨.mk (l.map (·.1)) cap, ?_, by simp [Sl.l], fun x hx => ?_⟩
  ·have e : (l.map (·.1)).flatMap encA = l.flatMap encAT := by
    rw [List.flatMap_map]
    rfl
   simp only [Sl.v, e, List.length_map]
  ·have hx : x ∈ l.map (·.1) := hx
   obtain ⟨y, _, rfl⟩ := List.mem_map.1 hx
   exact y.2
theorem dvs_int {H : Type} {k : IntKind} {n : Int} : dvs (.int k) (.lit (.int k n) : DataW H) = [.int k n] := by simp [dvs]
theorem dvs_arr {H : Type} {n : Nat} {s : Sh} {ps : List (DataW H)} : dvs (.arr n s) (.agg ps) = ps.flatMap (dvs s) := by simp [dvs]
theorem fitArr {H : Type} {k : IntKind} : ∀ cs : List (DataW H), (∀ c ∈ cs, Fit (.int k) c) → ∃ l : List Int, l.length = cs.length ∧ cs.flatMap (dvs (.int k)) = l.map (V.int k) ∧ ∀ x ∈ l, (Lit.int k x).wf = true
 | [], _ => ⟨[], rfl, rfl, fun x hx => by simp at hx⟩
 | c :: cs, h => by
  obtain ⟨n, rfl, wn⟩ := fitI (h c List.mem_cons_self)
  obtain ⟨l, e1, e2, e3⟩ := fitArr cs (fun x hx => h x (List.mem_cons_of_mem _ hx))
  refine ⟨n :: l, by simp [e1], by rw [List.flatMap_cons, e2, dvs_int]; rfl, fun x hx => ?_⟩
  rcases List.mem_cons.1 hx with rfl | hx
  ·exact wn
  ·exact e3 x hx
def shM : Sh := .st [.int .u64, .arr 32 (.int .u8), .arr 16 (.int .u32), .sl shA]
def shC : Sh := .st [.int .u8, .int .u32, .int .u32, .arr 3 shL, .int .u8, .int .u8, .int .u64, .arr 32 (.int .u8)]
theorem fitM {H : Type} {d : DataW H} (h : Fit shM d) : ∃ now sd ep, ∃ a : Sl Acct, dvs shM d = encM now sd ep (a.v encA) ∧ MW sd ep ∧ a.l.length ≤ 9223372036854775807 ∧ u64 now ∧ (∀ x ∈ a.l, TA x) ∧ (∀ x ∈ a.l, 0 ≤ x.t) ∧ ∀ e ∈ ep, 0 ≤ e := by
 unfold shM at h
 unfold Fit at h
 obtain ⟨ps, rfl, h⟩ := h
 unfold FitL at h
 obtain ⟨d0, r0, rfl, h0, h⟩ := h
 unfold FitL at h
 obtain ⟨d1, r1, rfl, h1, h⟩ := h
 unfold FitL at h
 obtain ⟨d2, r2, rfl, h2, h⟩ := h
 unfold FitL at h
 obtain ⟨d3, r3, rfl, h3, h⟩ := h
 unfold FitL at h
 subst h
 obtain ⟨n0, rfl, w0⟩ := fitI h0
 unfold Fit at h1
 obtain ⟨qs, rfl, hl1, hq⟩ := h1
 unfold Fit at h2
 obtain ⟨cs, rfl, hl2, hc⟩ := h2
 obtain ⟨sd, l1, e1, _⟩ := fitArr qs hq
 obtain ⟨ep, l2, e2, w2⟩ := fitArr cs hc
 obtain ⟨c, e3, hlen⟩ := fit_sl (enc := encAT) (fun d h => by
  obtain ⟨x, ex, ta, t0⟩ := fitA h
  exact ⟨⟨x, ta, t0⟩, ex⟩) h3
 obtain ⟨c', e4, e5, e6⟩ := slA_map c
 refine ⟨n0, sd, ep, c', ?_, ⟨by rw [l1, hl1], by rw [l2, hl2]⟩, by rw [e5]; exact hlen, wf_u64 w0, fun x hx => (e6 x hx).1, fun x hx => (e6 x hx).2, fun e he => wf_u32 (w2 e he)⟩
 unfold shM
 unfold dvs
 simp only [dvsL]
 rw [dvs_int, dvs_arr, dvs_arr, e1, e2, e3, e4]
 simp [encM]
theorem fitC {H : Type} {d : DataW H} (h : Fit shC d) : ∃ c : Cmd, dvs shC d = encC c ∧ c.tg.length = 32 ∧ 0 ≤ c.t := by
 unfold shC at h
 unfold Fit at h
 obtain ⟨ps, rfl, h⟩ := h
 unfold FitL at h
 obtain ⟨d0, r0, rfl, h0, h⟩ := h
 unfold FitL at h
 obtain ⟨d1, r1, rfl, h1, h⟩ := h
 unfold FitL at h
 obtain ⟨d2, r2, rfl, h2, h⟩ := h
 unfold FitL at h
 obtain ⟨d3, r3, rfl, h3, h⟩ := h
 unfold FitL at h
 obtain ⟨d4, r4, rfl, h4, h⟩ := h
 unfold FitL at h
 obtain ⟨d5, r5, rfl, h5, h⟩ := h
 unfold FitL at h
 obtain ⟨d6, r6, rfl, h6, h⟩ := h
 unfold FitL at h
 obtain ⟨d7, r7, rfl, h7, h⟩ := h
 unfold FitL at h
 subst h
 obtain ⟨n0, rfl, _⟩ := fitI h0
 obtain ⟨n1, rfl, w1⟩ := fitI h1
 obtain ⟨n2, rfl, _⟩ := fitI h2
 unfold Fit at h3
 obtain ⟨qs, rfl, hl, hq⟩ := h3
 obtain ⟨n4, rfl, _⟩ := fitI h4
 obtain ⟨n5, rfl, _⟩ := fitI h5
 obtain ⟨n6, rfl, _⟩ := fitI h6
 unfold Fit at h7
 obtain ⟨cs, rfl, hl7, hc⟩ := h7
 obtain ⟨tg, l7, e7, _⟩ := fitArr cs hc
 match qs, hl, hq with
 | [q0, q1, q2], _, hq =>
  obtain ⟨x0, f0⟩ := fitLm (hq q0 (by simp))
  obtain ⟨x1, f1⟩ := fitLm (hq q1 (by simp))
  obtain ⟨x2, f2⟩ := fitLm (hq q2 (by simp))
  refine ⟨⟨n0, n1, n2, x0, x1, x2, n4, n5, n6, tg⟩, ?_, by rw [l7, hl7], wf_u32 w1⟩
  unfold shC
  unfold dvs
  simp only [dvsL]
  rw [dvs_int, dvs_int, dvs_int, dvs_int, dvs_int, dvs_int, dvs_arr, dvs_arr, e7]
  simp [f0, f1, f2, encL, encC]
end
section
open Go Go.VE Classical
set_option maxRecDepth 100000
set_option linter.all false
set_option maxHeartbeats 4000000
structure TabM (vp : Nat → Option VFn) : Prop where
 a3 : vp 3 = some v3
 a4 : vp 4 = some v4
 a5 : vp 5 = some v5
 a6 : vp 6 = some v6
 a7 : vp 7 = some v7
 a8 : vp 8 = some v8
 a9 : vp 9 = some v9
 a10 : vp 10 = some v10
 a11 : vp 11 = some v11
 a12 : vp 12 = some v12
 a13 : vp 13 = some v13
 a14 : vp 14 = some v14
 a15 : vp 15 = some v15
 a16 : vp 16 = some v16
 a17 : vp 17 = some v17
 a18 : vp 18 = some v18
 a19 : vp 19 = some v19
 a20 : vp 20 = some v20
 a21 : vp 21 = some v21
 a22 : vp 22 = some v22
 a23 : vp 23 = some v23
 a24 : vp 24 = some v24
 a25 : vp 25 = some v25
 a26 : vp 26 = some v26
 a27 : vp 27 = some v27
 a28 : vp 28 = some v28
 a29 : vp 29 = some v29
 a30 : vp 30 = some v30
 a31 : vp 31 = some v31
 a32 : vp 32 = some v32
 a33 : vp 33 = some v33
 a34 : vp 34 = some v34
 a35 : vp 35 = some v35
 a36 : vp 36 = some v36
 a37 : vp 37 = some v37
 a38 : vp 38 = some v38
 a39 : vp 39 = some v39
 a40 : vp 40 = some v40
 a41 : vp 41 = some v41
 a42 : vp 42 = some v42
 a43 : vp 43 = some v43
 a44 : vp 44 = some v44
 a45 : vp 45 = some v45
 a46 : vp 46 = some v46
 a47 : vp 47 = some v47
 a48 : vp 48 = some v48
 a49 : vp 49 = some v49
 a50 : vp 50 = some v50
 a51 : vp 51 = some v51
 a52 : vp 52 = some v52
 a53 : vp 53 = some v53
 a54 : vp 54 = some v54
 a55 : vp 55 = some v55
 a56 : vp 56 = some v56
 a57 : vp 57 = some v57
 a58 : vp 58 = some v58
 a59 : vp 59 = some v59
 a60 : vp 60 = some v60
 a61 : vp 61 = some v61
 a62 : vp 62 = some v62
 a63 : vp 63 = some v63
 a64 : vp 64 = some v64
 a67 : vp 67 = some v67
 a68 : vp 68 = some v68
 a69 : vp 69 = some v69
 a70 : vp 70 = some v70
 a71 : vp 71 = some v71
 a72 : vp 72 = some v72
 a73 : vp 73 = some v73
 a74 : vp 74 = some v74
 a75 : vp 75 = some v75
 a76 : vp 76 = some v76
 a77 : vp 77 = some v77
 a78 : vp 78 = some v78
 a80 : vp 80 = some v80
 a83 : vp 83 = some v83
 a84 : vp 84 = some v84
 a85 : vp 85 = some v85
 a86 : vp 86 = some v86
 a87 : vp 87 = some v87
 a88 : vp 88 = some v88
 a89 : vp 89 = some v89
 a90 : vp 90 = some v90
 a91 : vp 91 = some v91
 a92 : vp 92 = some v92
 a101 : vp 101 = some v101
 a102 : vp 102 = some v102
 a103 : vp 103 = some v103
 a106 : vp 106 = some v106
 a107 : vp 107 = some v107
 a108 : vp 108 = some v108
 a109 : vp 109 = some v109
 a110 : vp 110 = some v110
 a112 : vp 112 = some v112
 a119 : vp 119 = some v119
 a121 : vp 121 = some v121
 a123 : vp 123 = some v123
section
variable {vp : Nat → Option VFn}
theorem wokM (T : TabM vp) : WOk vp 88 89 102 103 91 := ⟨⟨_, _, T.a88, T.a112⟩, ⟨_, T.a89⟩, ⟨_, T.a102⟩, ⟨_, _, _, _, T.a103, T.a119, T.a123, T.a101⟩, T.a91⟩
theorem chokM (T : TabM vp) : ChOk vp 62 := ⟨by simp [modeOf, T.a62, v62, B_bucket_Change], fun b l t h1 h2 h3 h4 h => change_spec T.a62 T.a46 T.a45 T.a77 (wokM T) b l t h1 h2 h3 h4 h⟩
theorem srtM (T : TabM vp) : SrtOk vp 60 61 := fun S x b cap rest tag h h1 h2 h3 h4 h5 h6 => sort_spec (d9 := 0) T.a60 T.a76 T.a101 T.a75 T.a92 (.fn 61 []) (cmpA_spec T.a61) S x b cap rest tag h h1 h2 h3 h4 h5 h6
theorem dokM (T : TabM vp) : DoK vp 21 := ⟨⟨_, _, _, _, _, _, _, _, _, _, _, _, _, _, _, _, _, _, _, T.a21, T.a37, T.a38, T.a59, T.a45, srtM T, T.a39, chokM T, T.a40, T.a63, T.a78, T.a64, T.a41, T.a43, T.a42, T.a67⟩⟩
theorem checkM (T : TabM vp) (now : Int) (sd ep : List Int) (w : MW sd ep) (a : Sl Acct) (s : Sml a.l) (h : Heap) : callRes vp 18 [.agg (encM now sd ep (a.v encA))] h = some (.int .i64 (if MOk now ep a.l then 0 else 8), h) :=
 mcheck_spec T.a18 T.a31 T.a56 T.a32 T.a33 T.a23 T.a45 T.a46 T.a47 T.a68 T.a80 T.a57 T.a34 T.a57 now sd ep w.sd w.ep (a.v encA) a.l h (.sl a) (fun b o n c => iso_M now sd ep b o n c) s.small (by have := s.n; omega)
theorem rcheckM (T : TabM vp) (now : Int) (sd ep : List Int) (w : MW sd ep) (a : Sl Acct) (s : Sml a.l) (h : Heap) : callRes vp 6 [.agg (encM now sd ep (a.v encA))] h = some (.int .i64 (if MOk now ep a.l then 0 else 8), h) :=
 rcheck_spec T.a6 T.a14 T.a15 T.a17 T.a29 T.a30 T.a55 now sd ep w.sd w.ep (a.v encA) a.l h (.sl a) oneCell_v (fun b o n c => iso_M now sd ep b o n c) s.small (by have := s.n; omega)
theorem lawkM (T : TabM vp) (ha : ∀ h, callRes vp 4 [] h = some (.bool true, h)) : LawK vp 4 5 6 7 8 9 10 11 where
 al := ⟨by simp [modeOf, T.a4, v4, B_spigotlaw25_alive], ha⟩
 gr := T.a5
 ck := ⟨by simp [modeOf, T.a6, v6, B_spigotref25_Check], fun now sd ep w a s h => rcheckM T now sd ep w a s h⟩
 cm := ⟨_, _, T.a7, T.a16, T.a17⟩
 do_ := ⟨by simp [modeOf, T.a8, v8, B_model_Do], fun now sd ep w a c hc hct cok hnow ok acc h =>
  Do_spec T.a8 (by simp [modeOf, T.a18, v18, B_model_Check]) (by simp [modeOf, T.a19, v19, B_frame_Check]) T.a20 T.a36 T.a26 T.a53 T.a54 (dokM T) now sd ep w a c hc hct cok hnow acc (fun x hx => by
    obtain ⟨k, hk, rfl⟩ := List.mem_iff_getElem.1 hx
    have := ok.sml.each _ hx
    have := (ok.ok k hk).rl
    omega) (fun h => by rw [checkM T now sd ep w a ok.sml h, if_pos ok]) (fun h => fcheck_spec T.a19 T.a35 T.a58 T.a45 c cok hc h) h⟩
 fi := T.a9
 sm := ⟨_, _, T.a10, T.a22, T.a44⟩
 rv := T.a11
theorem top (T : TabM vp) (ha : ∀ h, callRes vp 4 [] h = some (.bool true, h)) (now : Int) (sd ep : List Int) (w : MW sd ep) (a : Sl Acct) (c : Cmd) (hn : a.l.length ≤ 9223372036854775807) (hc : c.tg.length = 32) (hct : 0 ≤ c.t) (hnow : u64 now) (hta : ∀ x ∈ a.l, TA x) (h0 : ∀ x ∈ a.l, 0 ≤ x.t) (he0 : ∀ e ∈ ep, 0 ≤ e) (h : Heap) :
  callRes vp 3 [.agg (encM now sd ep (a.v encA)), .agg (encC c)] h = some (.bool true, h) :=
 law T.a3 (lawkM T ha) now sd ep w a c hn hc hct hnow hta h0 he0 h
end
end
end Go.VE.LB
