/- What the functions of the law ModelAdmits compute, on typed arguments (part 30). -/
import Derived.Test.YtnmneadmlcpaoaaModelAdmitsA29
import Derived.Test.YtnmneadmlcpaoaaModelAdmitsT
set_option linter.all false
namespace Go.VE.LB
open Go Go.VE
set_option maxRecDepth 100000
set_option linter.all false
set_option maxHeartbeats 4000000
structure TabV (vp : Nat → Option VFn) : Prop where
  a3 : vp 3 = some v3
  a4 : vp 4 = some v4
  a5 : vp 5 = some v5
  a6 : vp 6 = some v6
  a7 : vp 7 = some v7
  a8 : vp 8 = some v8
  a9 : vp 9 = some v9
  a10 : vp 10 = some v10
  a11 : vp 11 = some v11
  a12 : vp 12 = some v12
  a13 : vp 13 = some v13
  a14 : vp 14 = some v14
  a15 : vp 15 = some v15
  a16 : vp 16 = some v16
  a17 : vp 17 = some v17
  a18 : vp 18 = some v18
  a19 : vp 19 = some v19
  a20 : vp 20 = some v20
  a21 : vp 21 = some v21
  a22 : vp 22 = some v22
  a23 : vp 23 = some v23
  a24 : vp 24 = some v24
  a25 : vp 25 = some v25
  a26 : vp 26 = some v26
  a27 : vp 27 = some v27
  a28 : vp 28 = some v28
  a29 : vp 29 = some v29
  a30 : vp 30 = some v30
  a31 : vp 31 = some v31
  a32 : vp 32 = some v32
  a33 : vp 33 = some v33
  a34 : vp 34 = some v34
  a35 : vp 35 = some v35
  a36 : vp 36 = some v36
  a37 : vp 37 = some v37
  a38 : vp 38 = some v38
  a39 : vp 39 = some v39
  a40 : vp 40 = some v40
  a41 : vp 41 = some v41
  a42 : vp 42 = some v42
  a43 : vp 43 = some v43
  a44 : vp 44 = some v44
  a45 : vp 45 = some v45
  a46 : vp 46 = some v46
  a47 : vp 47 = some v47
  a50 : vp 50 = some v50
  a51 : vp 51 = some v51
  a52 : vp 52 = some v52
  a53 : vp 53 = some v53
  a54 : vp 54 = some v54
  a55 : vp 55 = some v55
  a56 : vp 56 = some v56
  a57 : vp 57 = some v57
  a58 : vp 58 = some v58
  a60 : vp 60 = some v60
  a61 : vp 61 = some v61
  a62 : vp 62 = some v62
  a63 : vp 63 = some v63
  a64 : vp 64 = some v64
  a66 : vp 66 = some v66
  a67 : vp 67 = some v67
  a68 : vp 68 = some v68
  a70 : vp 70 = some v70
  a71 : vp 71 = some v71
  a72 : vp 72 = some v72
  a74 : vp 74 = some v74
  a75 : vp 75 = some v75
section
variable {vp : Nat → Option VFn}
theorem wok (T : TabV vp) : WOk vp 55 56 68 67 58 := ⟨⟨_, _, T.a55, T.a66⟩, ⟨_, T.a56⟩, ⟨_, T.a68⟩, ⟨_, _, _, _, T.a67, T.a72, T.a74, T.a75⟩, T.a58⟩
theorem lok (T : TabV vp) : LOk vp 28 50 51 := ⟨⟨_, T.a28, T.a27⟩, ⟨_, T.a50, T.a60⟩, T.a51⟩
theorem fok (T : TabV vp) : FOk vp 61 62 := ⟨T.a61, ⟨_, _, _, _, _, _, _, _, _, _, _, T.a62, T.a28, T.a27, T.a70, wok T⟩⟩
theorem tok (T : TabV vp) : TOk vp 52 53 := ⟨⟨_, _, T.a52, fok T⟩, ⟨_, _, _, T.a53, T.a64, T.a63, T.a71⟩⟩
theorem atok (T : TabV vp) : AtOk vp 38 := ⟨⟨_, _, T.a38, T.a47, T.a46⟩⟩
theorem m45 (T : TabV vp) : modeOf vp 45 = some 1 := by simp [modeOf, T.a45, v45, B_bucket_Wait]
theorem m32 (T : TabV vp) : modeOf vp 32 = some 1 := by simp [modeOf, T.a32, v32, B_levels_Take]
theorem m34 (T : TabV vp) : modeOf vp 34 = some 1 := by simp [modeOf, T.a34, v34, B_levels_Wait]
theorem m7' (T : TabV vp) : modeOf vp 7 = some 1 := by simp [modeOf, T.a7, v7, B_model_Ask]
theorem m4' (T : TabV vp) : modeOf vp 4 = some 1 := by simp [modeOf, T.a4, v4, B_spigotlaw25_alive]
theorem kok (T : TabV vp) : KOk vp 31 32 33 34 where
  u := ⟨_, _, _, _, _, _, _, T.a31, atok T, T.a39, T.a40, T.a27, T.a41⟩
  t := ⟨_, _, _, _, _, _, _, T.a32, T.a42, lok T, T.a43, tok T⟩
  c := ⟨_, T.a33, T.a44⟩
  w := ⟨_, _, _, _, _, _, T.a34, T.a42, lok T, m45 T, fun b c hb ht hc h => bwait_spec T.a45 T.a28 T.a27 T.a55 T.a66 T.a56 T.a54 T.a57 T.a67 ⟨_, T.a56⟩ ⟨_, T.a68⟩ T.a72 ⟨_, T.a74, T.a75⟩ T.a58 b c hb ht hc h⟩
theorem pask (T : TabV vp) : PAsk vp 7 := ⟨⟨_, _, _, _, _, _, T.a7, ⟨_, _, _, _, _, _, _, _, T.a15, T.a27, T.a28, T.a29, T.a38, T.a47, T.a46⟩, ⟨_, T.a16, T.a30⟩, ⟨_, _, _, T.a18, T.a35, T.a36⟩, ⟨_, _, _, _, _, _, _, T.a17, kok T, m32 T, m34 T⟩⟩⟩
theorem mok (T : TabV vp) (ha : ∀ h, callRes vp 4 [] h = some (.bool true, h)) : MOk' vp 4 5 6 7 8 9 10 where
  a := ⟨m4' T, ha⟩
  v := ⟨_, _, _, _, T.a5, T.a12, T.a13, T.a14, T.a19⟩
  r := T.a6
  p := ⟨pask T, m7' T⟩
  b := ⟨_, _, _, _, _, T.a8, T.a19, T.a20, T.a12⟩
  f := ⟨_, _, _, _, _, _, _, _, _, _, _, _, T.a9, T.a22, T.a21, T.a23, T.a24, T.a24, T.a37⟩
  o := ⟨_, T.a10, T.a19⟩
theorem top (T : TabV vp) (ha : ∀ h, callRes vp 4 [] h = some (.bool true, h)) (a : Acct) (user ep cost tick : Int) (hu : user ≤ 4294967295) (he0 : 0 ≤ ep) (he : ep ≤ 65535) (hc : 0 ≤ cost ∧ cost < 4294967296) (ht : u64 tick)
    (to : u64 a.own.t) (tu : ∀ x ∈ a.users.l, u64 x.b.t) (te : ∀ x ∈ a.ends.l, u64 x.b.t) (h : Heap) :
    callRes vp 3 [.agg (encA a), .int .u32 user, .int .u16 ep, .int .u32 cost, .int .u64 tick] h = some (.bool true, h) :=
  law T.a3 (mok T ha) a user ep cost tick hu he0 he hc ht to tu te h
end
-- ------------------------------------------------------------------ from data to typed arguments
def shL : Sh := .st [.int .i64, .int .i64, .int .i64]
def shB : Sh := .st [shL, .int .i64, .int .i64, .int .u64]
def shH : Sh := .st [.int .u32, shB]
def shA : Sh := .st [.int .u32, .arr 3 shL, .arr 2 (.int .i64), shB, .sl shH, .sl shH, .sl (.int .u32), .st [.int .u64, .int .u64, .int .u64]]
theorem fitI {H : Type} {k : IntKind} {d : DataW H} (h : Fit (.int k) d) : ∃ n, d = .lit (.int k n) ∧ (Lit.int k n).wf = true := by
  unfold Fit at h
  exact h
theorem fitLm {H : Type} {d : DataW H} (h : Fit shL d) : ∃ x : Limit, dvs shL d = encL x := by
  simp only [shL, Fit, FitL] at h
  obtain ⟨ps, rfl, d0, r0, rfl, ⟨n0, rfl, _⟩, d1, r1, rfl, ⟨n1, rfl, _⟩, d2, r2, rfl, ⟨n2, rfl, _⟩, rfl⟩ := h
  exact ⟨⟨n0, n1, n2⟩, by simp [shL, dvs, dvsL, encL]⟩
theorem wf_u64 {n : Int} (w : (Lit.int .u64 n).wf = true) : u64 n := by
  simp only [Lit.wf, Bool.and_eq_true, decide_eq_true_eq] at w
  have e : IntKind.u64.max = 18446744073709551615 := rfl
  have e2 : IntKind.u64.min = 0 := rfl
  unfold u64
  omega
theorem fitB {H : Type} {d : DataW H} (h : Fit shB d) : ∃ x : Bucket, dvs shB d = encB x ∧ u64 x.t := by
  unfold shB at h
  unfold Fit at h
  obtain ⟨ps, rfl, h⟩ := h
  unfold FitL at h
  obtain ⟨d0, r0, rfl, h0, h⟩ := h
  unfold FitL at h
  obtain ⟨d1, r1, rfl, h1, h⟩ := h
  unfold FitL at h
  obtain ⟨d2, r2, rfl, h2, h⟩ := h
  unfold FitL at h
  obtain ⟨d3, r3, rfl, h3, h⟩ := h
  unfold FitL at h
  subst h
  obtain ⟨l, e0⟩ := fitLm h0
  obtain ⟨n1, rfl, w1⟩ := fitI h1
  obtain ⟨n2, rfl, _⟩ := fitI h2
  obtain ⟨n3, rfl, w3⟩ := fitI h3
  have ok : n1 < 9223372036854775808 := by
    simp only [Lit.wf, Bool.and_eq_true, decide_eq_true_eq] at w1
    have e : IntKind.i64.max = 9223372036854775807 := rfl
    omega
  refine ⟨⟨l, n1, n2, n3, ok⟩, ?_, wf_u64 w3⟩
  simp only [shB, dvs, dvsL, e0, encL, encB]
  simp
/-- a held key whose tick is a number of 64 bits -/
def HeldT : Type := { x : Held // u64 x.b.t }
def encHT (x : HeldT) : List V := encH x.1
theorem fitH {H : Type} {d : DataW H} (h : Fit shH d) : ∃ x : HeldT, dvs shH d = encHT x := by
  unfold shH at h
  unfold Fit at h
  obtain ⟨ps, rfl, h⟩ := h
  unfold FitL at h
  obtain ⟨d0, r0, rfl, h0, h⟩ := h
  unfold FitL at h
  obtain ⟨d1, r1, rfl, h1, h⟩ := h
  unfold FitL at h
  subst h
  obtain ⟨n0, rfl, _⟩ := fitI h0
  obtain ⟨b, e1, ht⟩ := fitB h1
  refine ⟨⟨⟨n0, b⟩, ht⟩, ?_⟩
  simp only [shH, dvs, dvsL, e1, encB, encHT, encH]
  simp
theorem sl_map (c : Sl HeldT) : ∃ c' : Sl Held, c'.v encH = c.v encHT ∧ ∀ x ∈ c'.l, u64 x.b.t := by
  cases c with
  | nil => exact ⟨.nil, rfl, fun x hx => by simp [Sl.l] at hx⟩
  | mk l cap =>
    refine ⟨.mk (l.map (·.1)) cap, ?_, fun x hx => ?_⟩
    · have e : (l.map (·.1)).flatMap encH = l.flatMap encHT := by
        rw [List.flatMap_map]
        rfl
      simp only [Sl.v, e, List.length_map]
    · have hx : x ∈ l.map (·.1) := hx
      obtain ⟨y, _, rfl⟩ := List.mem_map.1 hx
      exact y.2
theorem fitHs {H : Type} {d : DataW H} (h : Fit (.sl shH) d) : ∃ c : Sl Held, dvs (.sl shH) d = [c.v encH] ∧ ∀ x ∈ c.l, u64 x.b.t := by
  obtain ⟨c, e, _⟩ := fit_sl (enc := encHT) (fun _ => fitH) h
  obtain ⟨c', e1, e2⟩ := sl_map c
  exact ⟨c', by rw [e, e1], e2⟩
theorem fitA {H : Type} {d : DataW H} (h : Fit shA d) : ∃ x : Acct, dvs shA d = encA x ∧ u64 x.own.t ∧ (∀ y ∈ x.users.l, u64 y.b.t) ∧ ∀ y ∈ x.ends.l, u64 y.b.t := by
  unfold shA at h
  unfold Fit at h
  obtain ⟨ps, rfl, h⟩ := h
  unfold FitL at h
  obtain ⟨d0, r0, rfl, h0, h⟩ := h
  unfold FitL at h
  obtain ⟨d1, r1, rfl, h1, h⟩ := h
  unfold FitL at h
  obtain ⟨d2, r2, rfl, h2, h⟩ := h
  unfold FitL at h
  obtain ⟨d3, r3, rfl, h3, h⟩ := h
  unfold FitL at h
  obtain ⟨d4, r4, rfl, h4, h⟩ := h
  unfold FitL at h
  obtain ⟨d5, r5, rfl, h5, h⟩ := h
  unfold FitL at h
  obtain ⟨d6, r6, rfl, h6, h⟩ := h
  unfold FitL at h
  obtain ⟨d7, r7, rfl, h7, h⟩ := h
  unfold FitL at h
  subst h
  obtain ⟨n0, rfl, _⟩ := fitI h0
  unfold Fit at h1
  obtain ⟨qs, rfl, hl, hq⟩ := h1
  unfold Fit at h2
  obtain ⟨cs, rfl, hl2, hc⟩ := h2
  obtain ⟨ow, e3, to⟩ := fitB h3
  obtain ⟨us, e4, tu⟩ := fitHs h4
  obtain ⟨en, e5, te⟩ := fitHs h5
  obtain ⟨rv, e6, _⟩ := fit_sl (enc := e32) (fun d h => by
    obtain ⟨n, rfl, _⟩ := fitI h
    exact ⟨n, by simp [dvs, e32]⟩) h6
  simp only [Fit, FitL] at h7
  obtain ⟨ts, rfl, t0, s0, rfl, ⟨m0, rfl, _⟩, t1, s1, rfl, ⟨m1, rfl, _⟩, t2, s2, rfl, ⟨m2, rfl, _⟩, rfl⟩ := h7
  match qs, hl, hq, cs, hl2, hc with
  | [q0, q1, q2], _, hq, [c0, c1], _, hc =>
    obtain ⟨x0, f0⟩ := fitLm (hq q0 (by simp))
    obtain ⟨x1, f1⟩ := fitLm (hq q1 (by simp))
    obtain ⟨x2, f2⟩ := fitLm (hq q2 (by simp))
    obtain ⟨k0, rfl, _⟩ := fitI (hc c0 (by simp))
    obtain ⟨k1, rfl, _⟩ := fitI (hc c1 (by simp))
    refine ⟨⟨n0, x0, x1, x2, k0, k1, ow, us, en, rv, m0, m1, m2⟩, ?_, to, tu, te⟩
    unfold shA
    unfold dvs
    simp only [dvsL]
    rw [e3, e4, e5, e6]
    simp only [dvs, dvsL, List.flatMap_cons, List.flatMap_nil, f0, f1, f2, encL, encB, encA]
    simp
end Go.VE.LB
