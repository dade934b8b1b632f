/- What the functions of the law DifferChecks compute, on typed arguments (part 24). -/
import Derived.Test.YtlomleifnbpghabDifferChecksA23
set_option linter.all false
namespace Go.VE.LB
open Go Go.VE Classical
set_option maxRecDepth 100000
set_option linter.all false
def shL : Sh := .st [.int .i64, .int .i64, .int .i64]
def shB : Sh := .st [shL, .int .i64, .int .i64, .int .u64]
def shH : Sh := .st [.int .u32, shB]
def shA : Sh := .st [.int .u32, .arr 3 shL, .arr 2 (.int .i64), shB, .sl shH, .sl shH, .sl (.int .u32), .st [.int .u64, .int .u64, .int .u64]]
def shK : Sh := .st [.int .u32, .int .u32, .bool, shA]
def shD : Sh := .st [.int .u64, .sl shK]
theorem fitI {H : Type} {k : IntKind} {d : DataW H} (h : Fit (.int k) d) : ∃ n, d = .lit (.int k n) ∧ (Lit.int k n).wf = true := by
  unfold Fit at h
  exact h
theorem fitLm {H : Type} {d : DataW H} (h : Fit shL d) : ∃ x : Limit, dvs shL d = encL x := by
  simp only [shL, Fit, FitL] at h
  obtain ⟨ps, rfl, d0, r0, rfl, ⟨n0, rfl, _⟩, d1, r1, rfl, ⟨n1, rfl, _⟩, d2, r2, rfl, ⟨n2, rfl, _⟩, rfl⟩ := h
  exact ⟨⟨n0, n1, n2⟩, by simp [shL, dvs, dvsL, encL]⟩
theorem fitB {H : Type} {d : DataW H} (h : Fit shB d) : ∃ x : Bucket, dvs shB d = encB x := by
  unfold shB at h
  unfold Fit at h
  obtain ⟨ps, rfl, h⟩ := h
  unfold FitL at h
  obtain ⟨d0, r0, rfl, h0, h⟩ := h
  unfold FitL at h
  obtain ⟨d1, r1, rfl, h1, h⟩ := h
  unfold FitL at h
  obtain ⟨d2, r2, rfl, h2, h⟩ := h
  unfold FitL at h
  obtain ⟨d3, r3, rfl, h3, h⟩ := h
  unfold FitL at h
  subst h
  obtain ⟨l, e0⟩ := fitLm h0
  obtain ⟨n1, rfl, w1⟩ := fitI h1
  obtain ⟨n2, rfl, _⟩ := fitI h2
  obtain ⟨n3, rfl, _⟩ := fitI h3
  have ok : n1 < 9223372036854775808 := by
    simp only [Lit.wf, Bool.and_eq_true, decide_eq_true_eq] at w1
    have e : IntKind.i64.max = 9223372036854775807 := rfl
    omega
  refine ⟨⟨l, n1, n2, n3, ok⟩, ?_⟩
  simp only [shB, dvs, dvsL, e0, encL, encB]
  simp
theorem fitH {H : Type} {d : DataW H} (h : Fit shH d) : ∃ x : Held, dvs shH d = encH x := by
  unfold shH at h
  unfold Fit at h
  obtain ⟨ps, rfl, h⟩ := h
  unfold FitL at h
  obtain ⟨d0, r0, rfl, h0, h⟩ := h
  unfold FitL at h
  obtain ⟨d1, r1, rfl, h1, h⟩ := h
  unfold FitL at h
  subst h
  obtain ⟨n0, rfl, _⟩ := fitI h0
  obtain ⟨b, e1⟩ := fitB h1
  refine ⟨⟨n0, b⟩, ?_⟩
  simp only [shH, dvs, dvsL, e1, encB, encH]
  simp
theorem fitA {H : Type} {d : DataW H} (h : Fit shA d) : ∃ x : Acct, dvs shA d = encA x := by
  unfold shA at h
  unfold Fit at h
  obtain ⟨ps, rfl, h⟩ := h
  unfold FitL at h
  obtain ⟨d0, r0, rfl, h0, h⟩ := h
  unfold FitL at h
  obtain ⟨d1, r1, rfl, h1, h⟩ := h
  unfold FitL at h
  obtain ⟨d2, r2, rfl, h2, h⟩ := h
  unfold FitL at h
  obtain ⟨d3, r3, rfl, h3, h⟩ := h
  unfold FitL at h
  obtain ⟨d4, r4, rfl, h4, h⟩ := h
  unfold FitL at h
  obtain ⟨d5, r5, rfl, h5, h⟩ := h
  unfold FitL at h
  obtain ⟨d6, r6, rfl, h6, h⟩ := h
  unfold FitL at h
  obtain ⟨d7, r7, rfl, h7, h⟩ := h
  unfold FitL at h
  subst h
  obtain ⟨n0, rfl, _⟩ := fitI h0
  unfold Fit at h1
  obtain ⟨qs, rfl, hl, hq⟩ := h1
  unfold Fit at h2
  obtain ⟨cs, rfl, hl2, hc⟩ := h2
  obtain ⟨ow, e3⟩ := fitB h3
  obtain ⟨us, e4, _⟩ := fit_sl (enc := encH) (fun _ => fitH) h4
  obtain ⟨en, e5, _⟩ := fit_sl (enc := encH) (fun _ => fitH) h5
  obtain ⟨rv, e6, _⟩ := fit_sl (enc := e32) (fun d h => by
    obtain ⟨n, rfl, _⟩ := fitI h
    exact ⟨n, by simp [dvs, e32]⟩) h6
  simp only [Fit, FitL] at h7
  obtain ⟨ts, rfl, t0, s0, rfl, ⟨m0, rfl, _⟩, t1, s1, rfl, ⟨m1, rfl, _⟩, t2, s2, rfl, ⟨m2, rfl, _⟩, rfl⟩ := h7
  match qs, hl, hq, cs, hl2, hc with
  | [q0, q1, q2], _, hq, [c0, c1], _, hc =>
    obtain ⟨x0, f0⟩ := fitLm (hq q0 (by simp))
    obtain ⟨x1, f1⟩ := fitLm (hq q1 (by simp))
    obtain ⟨x2, f2⟩ := fitLm (hq q2 (by simp))
    obtain ⟨k0, rfl, _⟩ := fitI (hc c0 (by simp))
    obtain ⟨k1, rfl, _⟩ := fitI (hc c1 (by simp))
    refine ⟨⟨n0, x0, x1, x2, k0, k1, ow, us, en, rv, m0, m1, m2⟩, ?_⟩
    unfold shA
    unfold dvs
    simp only [dvsL]
    rw [e3, e4, e5, e6]
    simp only [dvs, dvsL, List.flatMap_cons, List.flatMap_nil, f0, f1, f2, encL, encB, encA]
    simp
theorem fitK {H : Type} {d : DataW H} (h : Fit shK d) : ∃ x : Lack, dvs shK d = encK x := by
  unfold shK at h
  unfold Fit at h
  obtain ⟨ps, rfl, h⟩ := h
  unfold FitL at h
  obtain ⟨d0, r0, rfl, h0, h⟩ := h
  unfold FitL at h
  obtain ⟨d1, r1, rfl, h1, h⟩ := h
  unfold FitL at h
  obtain ⟨d2, r2, rfl, h2, h⟩ := h
  unfold FitL at h
  obtain ⟨d3, r3, rfl, h3, h⟩ := h
  unfold FitL at h
  subst h
  obtain ⟨n0, rfl, w0⟩ := fitI h0
  obtain ⟨n1, rfl, _⟩ := fitI h1
  unfold Fit at h2
  obtain ⟨b, rfl⟩ := h2
  obtain ⟨a, e3⟩ := fitA h3
  have ok : 0 ≤ n0 := by
    simp only [Lit.wf, Bool.and_eq_true, decide_eq_true_eq] at w0
    have e : IntKind.u32.min = 0 := rfl
    omega
  refine ⟨⟨n0, n1, b, a, ok⟩, ?_⟩
  unfold shK
  unfold dvs
  simp only [dvsL]
  rw [e3]
  simp only [dvs, encK]
  simp
theorem fitD {H : Type} {d : DataW H} (h : Fit shD d) : ∃ (n : Int) (c : Sl Lack), dvs shD d = [.int .u64 n, c.v encK] ∧ c.l.length ≤ maxLen := by
  unfold shD at h
  unfold Fit at h
  obtain ⟨ps, rfl, h⟩ := h
  unfold FitL at h
  obtain ⟨d0, r0, rfl, h0, h⟩ := h
  unfold FitL at h
  obtain ⟨d1, r1, rfl, h1, h⟩ := h
  unfold FitL at h
  subst h
  obtain ⟨n0, rfl, _⟩ := fitI h0
  obtain ⟨c, e1, hl⟩ := fit_sl (enc := encK) (fun _ => fitK) h1
  refine ⟨n0, c, ?_, hl⟩
  unfold shD
  unfold dvs
  simp only [dvsL]
  rw [e1]
  simp [dvs]
end Go.VE.LB
