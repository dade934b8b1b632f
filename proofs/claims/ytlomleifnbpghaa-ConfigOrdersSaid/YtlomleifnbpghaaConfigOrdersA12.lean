/- What the functions of the law ConfigOrders compute, on typed arguments (part 12). -/
import Derived.Test.YtlomleifnbpghaaConfigOrdersA11
import Derived.Test.YtlomleifnbpghaaVeFit
set_option linter.all false
namespace Go.VE.CO
open Go Go.VE
set_option maxRecDepth 100000
def shL : Sh := .st [.int .i64, .int .i64, .int .i64]
def shS : Sh := .st [.int .u32, .arr 3 shL, .int .u8, .int .u8, .sl (.int .u32)]
theorem fitI {H : Type} {k : IntKind} {d : DataW H} (h : Fit (.int k) d) : ∃ n, d = .lit (.int k n) := by
  simp only [Fit] at h
  obtain ⟨n, e, _⟩ := h
  exact ⟨n, e⟩
theorem fitL {H : Type} {d : DataW H} (h : Fit shL d) : ∃ x : Limit, dvs shL d = encL x := by
  simp only [shL, Fit, FitL] at h
  obtain ⟨ps, rfl, d0, r0, rfl, ⟨n0, rfl, _⟩, d1, r1, rfl, ⟨n1, rfl, _⟩, d2, r2, rfl, ⟨n2, rfl, _⟩, rfl⟩ := h
  exact ⟨⟨n0, n1, n2⟩, by simp [shL, dvs, dvsL, encL]⟩
theorem fitS {H : Type} {d : DataW H} (h : Fit shS d) : ∃ x : Setting, dvs shS d = encS x := by
  unfold shS at h
  unfold Fit at h
  obtain ⟨ps, rfl, h⟩ := h
  unfold FitL at h
  obtain ⟨d0, r0, rfl, h0, h⟩ := h
  unfold FitL at h
  obtain ⟨d1, r1, rfl, h1, h⟩ := h
  unfold FitL at h
  obtain ⟨d2, r2, rfl, h2, h⟩ := h
  unfold FitL at h
  obtain ⟨d3, r3, rfl, h3, h⟩ := h
  unfold FitL at h
  obtain ⟨d4, r4, rfl, h4, h⟩ := h
  unfold FitL at h
  subst h
  obtain ⟨n0, rfl⟩ := fitI h0
  obtain ⟨n2, rfl⟩ := fitI h2
  obtain ⟨n3, rfl⟩ := fitI h3
  unfold Fit at h1
  obtain ⟨qs, rfl, hl, hq⟩ := h1
  match qs, hl, hq with
  | [q0, q1, q2], _, hq =>
    obtain ⟨x0, e0⟩ := fitL (hq q0 (by simp))
    obtain ⟨x1, e1⟩ := fitL (hq q1 (by simp))
    obtain ⟨x2, e2⟩ := fitL (hq q2 (by simp))
    obtain ⟨c, ec, _⟩ := fit_sl (enc := e32) (fun d h => by
      obtain ⟨n, rfl⟩ := fitI h
      exact ⟨n, by simp [dvs, e32]⟩) h4
    refine ⟨⟨n0, x0, x1, x2, n2, n3, c⟩, ?_⟩
    have ec' : dvs (.sl (.int .u32)) d4 = [c.v e32] := ec
    simp only [shS, dvs, dvsL, List.flatMap_cons, List.flatMap_nil, e0, e1, e2, encL, encS]
    simp only [dvs] at ec'
    simp [ec']
end Go.VE.CO
