/- What the functions of the law ViewTells compute, on typed arguments (part 10). -/
import Derived.Test.YtpbggddmfgjmlaaGreatViewTellsA9
import Derived.Test.YtpbggddmfgjmlaaGreatVeFit
set_option linter.all false
namespace Go.VE.LB
set_option maxRecDepth 100000
set_option maxHeartbeats 4000000
section
open Go Go.VE Classical
section
variable {vp : Nat → Option VFn}
theorem gr13 {f : Nat} (hf : vp f = some Zzdh) (nx : Sl Int) (us : Sl Bool) (fr : Int) (h : Heap) : ∃ b, callRes vp f [.agg [nx.v eI, us.v eO, .int .i64 fr]] h = some (.bool b, h) := by
 suffices q : ∃ r, callRes vp f [.agg [nx.v eI, us.v eO, .int .i64 fr]] h = some (r, h) ∧ ∃ b, r = .bool b by
  obtain ⟨r, e, b, rfl⟩ := q
  exact ⟨b, e⟩
 refine res_pure_ex hf rfl rfl (fun g hg => ?_)
 unfold Zzdh
 by_cases q1 : 100 < (nx.l.length : Int)
 ·simp only [↓zp, zv, seval, q1, frzB]
  exact ⟨_, rfl⟩
 ·simp only [↓zp, zv, seval, q1, frzB]
  exact ⟨_, rfl⟩
theorem gr15 {f : Nat} (hf : vp f = some Zzds) (nx us : Sl Int) (hd tl : Int) (h : Heap) : ∃ b, callRes vp f [.agg [nx.v eI, us.v eI, .int .i64 hd, .int .i64 tl]] h = some (.bool b, h) := by
 suffices q : ∃ r, callRes vp f [.agg [nx.v eI, us.v eI, .int .i64 hd, .int .i64 tl]] h = some (r, h) ∧ ∃ b, r = .bool b by
  obtain ⟨r, e, b, rfl⟩ := q
  exact ⟨b, e⟩
 refine res_pure_ex hf rfl rfl (fun g hg => ?_)
 unfold Zzds
 by_cases q1 : 100 < (nx.l.length : Int)
 ·simp only [↓zp, zv, seval, q1, frzB]
  exact ⟨_, rfl⟩
 ·simp only [↓zp, zv, seval, q1, frzB]
  exact ⟨_, rfl⟩
theorem gr16 {f c1 c2 : Nat} (hf : vp f = some (Zzdy c1 c2)) (h1 : vp c1 = some Zzdh) (h2 : vp c2 = some Zzds) (t : Tab) (h : Heap) : ∃ b, callRes vp f [.agg (encT t)] h = some (.bool b, h) := by
 have m1 : modeOf vp c1 = some 1 := mo h1 rfl rfl
 have m2 : modeOf vp c2 = some 1 := mo h2 rfl rfl
 suffices q : ∃ r, callRes vp f [.agg (encT t)] h = some (r, h) ∧ ∃ b, r = .bool b by
  obtain ⟨r, e, b, rfl⟩ := q
  exact ⟨b, e⟩
 refine res_pure_ex hf rfl rfl (fun g hg => ?_)
 unfold Zzdy
 obtain ⟨H, hH⟩ : ∃ H, g.new (.cells (encT t) .cl) = H := ⟨_, rfl⟩
 have ga : H.get g.nx = .cells (encT t) .cl := by rw [← hH]; simp only [↓zp, zv, seval]
 obtain ⟨b1, e1⟩ := gr13 h1 t.nx t.us t.fr H
 obtain ⟨b2, e2⟩ := gr15 h2 t.op t.on t.hd t.tl H
 unfold encT at hH ga ⊢
 by_cases q1 : 100 < (t.ks.l.length : Int)
 ·simp only [↓zp, zv, seval, hH, ga, q1, frzB]
  exact ⟨_, rfl⟩
 by_cases q2 : 100 < (t.bk.l.length : Int)
 ·simp only [↓zp, zv, seval, hH, ga, q1, q2, frzB]
  exact ⟨_, rfl⟩
 by_cases q3 : 100 < (t.ix.l.length : Int)
 ·simp only [↓zp, zv, seval, hH, ga, q1, q2, q3, frzB]
  exact ⟨_, rfl⟩
 cases b1
 ·simp only [↓zp, zv, seval, hH, ga, q1, q2, q3, m1, e1, m2, e2, frzB]
  exact ⟨_, rfl⟩
 ·simp only [↓zp, zv, seval, hH, ga, q1, q2, q3, m1, e1, frzB]
  exact ⟨_, rfl⟩
theorem gr18 {f c1 : Nat} (hf : vp f = some (Zzee c1)) (m1 : modeOf vp c1 = some 1) (k : ∀ (t : Tab) (h : Heap), ∃ b, callRes vp c1 [.agg (encT t)] h = some (.bool b, h)) (x : Part) (h : Heap) : ∃ b, callRes vp f [.agg (encP x)] h = some (.bool b, h) := by
 suffices q : ∃ r, callRes vp f [.agg (encP x)] h = some (r, h) ∧ ∃ b, r = .bool b by
  obtain ⟨r, e, b, rfl⟩ := q
  exact ⟨b, e⟩
 refine res_pure_ex hf rfl rfl (fun g hg => ?_)
 unfold Zzee
 obtain ⟨H, hH⟩ : ∃ H, g.new (.cells (encP x) .cl) = H := ⟨_, rfl⟩
 have ga : H.get g.nx = .cells (encP x) .cl := by rw [← hH]; simp only [↓zp, zv, seval]
 obtain ⟨b1, e1⟩ := k x.us H
 obtain ⟨b2, e2⟩ := k x.en H
 unfold encP at hH ga ⊢
 unfold encT at e1 e2
 cases b1
 ·cases b2
  ·simp only [↓zp, zv, seval, hH, ga, m1, e1, e2, frzB]
   exact ⟨_, rfl⟩
  ·simp only [↓zp, zv, seval, hH, ga, m1, e1, e2, frzB]
   exact ⟨_, rfl⟩
 ·simp only [↓zp, zv, seval, hH, ga, m1, e1, frzB]
  exact ⟨_, rfl⟩
def invG (ps : Sl Part) (H : Heap) (m : Nat) (s : Slots) (h : Heap) : Prop := ∃ k, k ≤ ps.l.length ∧ m = ps.l.length - k ∧ s.at 0 = ps.v encP ∧ s.at 3 = .int .i64 (k : Int) ∧ h = H
theorem gr19 {f c1 : Nat} (hf : vp f = some (Zzel c1)) (m1 : modeOf vp c1 = some 1) (k : ∀ (x : Part) (h : Heap), ∃ b, callRes vp c1 [.agg (encP x)] h = some (.bool b, h)) (ps : Sl Part) (h : Heap) : ∃ b, callRes vp f [ps.v encP] h = some (.bool b, h) := by
 suffices q : ∃ r, callRes vp f [ps.v encP] h = some (r, h) ∧ ∃ b, r = .bool b by
  obtain ⟨r, e, b, rfl⟩ := q
  exact ⟨b, e⟩
 refine res_pure_ex hf rfl rfl (fun g hg => ?_)
 unfold Zzel
 simp only [↓zp, zv, seval]
 generalize hS : Tr.set _ 3 _ = S
 have b0 : Slots.at S 0 = ps.v encP := by rw [← hS]; simp only [zs, seval]
 have b3 : Slots.at S 3 = .int .i64 ((0 : Nat) : Int) := by rw [← hS]; simp only [zs, seval] <;> rfl
 clear hS
 refine loop_ind (fun m s h => invG ps g m s h) ?_ ps.l.length ⟨0, by omega, by omega, b0, b3, rfl⟩
 clear b0 b3
 rintro m s h ⟨i, hi, hm, c0, c3, rfl⟩
 by_cases hlt : i < ps.l.length
 case neg =>
  have hlt' : ¬ ((i : Int) < (ps.l.length : Int)) := by omega
  simp only [↓zp, zv, seval, c0, c3, hlt', frzB]
  exact ⟨_, rfl⟩
 have hlt' : (i : Int) < (ps.l.length : Int) := by omega
 by_cases h20 : (i : Int) ≤ 20
 case neg =>
  simp only [↓zp, zv, seval, c0, c3, hlt', h20, frzB]
  exact ⟨_, rfl⟩
 have ws := wr_succ (k := i) (by omega)
 have ia1 := fun h => r_ia_v (h := h) (c := ps) encP_len (by decide) hlt rfl
 obtain ⟨b, e⟩ := k ps.l[i] h
 simp only [encP] at ia1 e
 cases b
 ·simp only [↓zp, zv, seval, c0, c3, hlt', h20, ia1, m1, e, ws]
  exact ⟨_, by omega, i + 1, by omega, rfl, by simp only [zs, seval, c0], by simp only [zs, seval], rfl⟩
 ·simp only [↓zp, zv, seval, c0, c3, hlt', h20, ia1, m1, e, frzB]
  exact ⟨_, rfl⟩
theorem gr20 {f c1 : Nat} (hf : vp f = some (Zzem c1)) (m1 : modeOf vp c1 = some 1) (k : ∀ (ps : Sl Part) (h : Heap), ∃ b, callRes vp c1 [ps.v encP] h = some (.bool b, h)) (s : Srv) (h : Heap) : ∃ b, callRes vp f [.agg (encS s)] h = some (.bool b, h) := by
 suffices q : ∃ r, callRes vp f [.agg (encS s)] h = some (r, h) ∧ ∃ b, r = .bool b by
  obtain ⟨r, e, b, rfl⟩ := q
  exact ⟨b, e⟩
 refine res_pure_ex hf rfl rfl (fun g hg => ?_)
 unfold Zzem encS
 obtain ⟨L, hL⟩ : ∃ L, encS1 s = L := ⟨_, rfl⟩
 have l1 : L.length = 49 := by rw [← hL, encS1_len]
 have l2 : L.drop 48 = [s.ps.v encP] := by rw [← hL, encS1_ps]
 rw [hL]
 obtain ⟨b, e⟩ := k s.ps (g.new (.cells (.int .u64 s.now :: L) .cl))
 simp only [↓zp, zv, seval, l1, l2, m1, e, frzB]
 exact ⟨_, rfl⟩
end
end
section
open Go Go.VE Classical
def shL : VE.Sh := .st [.int .i64, .int .i64, .int .i64]
def shB : VE.Sh := .st [shL, .int .i64, .int .i64, .int .u64]
def shC : VE.Sh := .st [.int .u32, .int .i64, .bool]
def shR : VE.Sh := .st [.sl (.int .i64), .sl .bool, .int .i64]
def shO : VE.Sh := .st [.sl (.int .i64), .sl (.int .i64), .int .i64, .int .i64]
def shT : VE.Sh := .st [.int .i64, .sl (.int .u32), .sl shB, shR, .sl shC, shO]
def shP : VE.Sh := .st [.int .u32, .arr 3 shL, shB, shT, shT, .sl (.int .u32), .st [.int .u64, .int .u64, .int .u64]]
def shS : VE.Sh := .st [.int .u64, .arr 32 (.int .u8), .arr 16 (.int .u32), .sl shP]
theorem fitI {H : Type} {k : IntKind} {d : DataW H} (h : Fit (.int k) d) : ∃ n, d = .lit (.int k n) ∧ (Lit.int k n).wf = true := by
 unfold Fit at h
 exact h
theorem fitLm {H : Type} {d : DataW H} (h : Fit shL d) : ∃ x : Limit, dvs shL d = encL x := by
 simp only [shL, Fit, FitL] at h
 obtain ⟨ps, rfl, d0, r0, rfl, ⟨n0, rfl, _⟩, d1, r1, rfl, ⟨n1, rfl, _⟩, d2, r2, rfl, ⟨n2, rfl, _⟩, rfl⟩ := h
 exact ⟨⟨n0, n1, n2⟩, by simp [shL, dvs, dvsL, encL]⟩
theorem wf_u32 {n : Int} (w : (Lit.int .u32 n).wf = true) : 0 ≤ n ∧ n < 4294967296 := by
 simp only [Lit.wf, Bool.and_eq_true, decide_eq_true_eq] at w
 have e2 : IntKind.u32.min = 0 := rfl
 have e3 : IntKind.u32.max = 4294967295 := rfl
 omega
theorem fitB {H : Type} {d : DataW H} (h : Fit shB d) : ∃ x : Bucket, dvs shB d = encB x := by
 unfold shB at h
 unfold Fit at h
 obtain ⟨ps, rfl, h⟩ := h
 unfold FitL at h
 obtain ⟨d0, r0, rfl, h0, h⟩ := h
 unfold FitL at h
 obtain ⟨d1, r1, rfl, h1, h⟩ := h
 unfold FitL at h
 obtain ⟨d2, r2, rfl, h2, h⟩ := h
 unfold FitL at h
 obtain ⟨d3, r3, rfl, h3, h⟩ := h
 unfold FitL at h
 subst h
 obtain ⟨l, e0⟩ := fitLm h0
 obtain ⟨n1, rfl, w1⟩ := fitI h1
 obtain ⟨n2, rfl, _⟩ := fitI h2
 obtain ⟨n3, rfl, w3⟩ := fitI h3
 have ok : n1 < 9223372036854775808 := by
  simp only [Lit.wf, Bool.and_eq_true, decide_eq_true_eq] at w1
  have e : IntKind.i64.max = 9223372036854775807 := rfl
  omega
 refine ⟨⟨l, n1, n2, n3, ok⟩, ?_⟩
 simp only [shB, dvs, dvsL, e0, encL, encB]
 simp
theorem fitK {H : Type} {d : DataW H} (h : Fit (.int .u32) d) : ∃ x : K32, dvs (.int .u32) d = eK x := by
 obtain ⟨n, rfl, w⟩ := fitI h
 have w := wf_u32 w
 refine ⟨⟨n.toNat, by omega⟩, ?_⟩
 have e : ((n.toNat : Nat) : Int) = n := by omega
 simp [dvs, eK, e]
theorem fitN {H : Type} {d : DataW H} (h : Fit (.int .i64) d) : ∃ x : Int, dvs (.int .i64) d = eI x := by
 obtain ⟨n, rfl, w⟩ := fitI h
 exact ⟨n, by simp [dvs, eI]⟩
theorem fitU {H : Type} {d : DataW H} (h : Fit (.int .u32) d) : ∃ x : Int, dvs (.int .u32) d = e32 x := by
 obtain ⟨n, rfl, w⟩ := fitI h
 exact ⟨n, by simp [dvs, e32]⟩
theorem fitO {H : Type} {d : DataW H} (h : Fit .bool d) : ∃ x : Bool, dvs .bool d = eO x := by
 simp only [Fit] at h
 obtain ⟨b, rfl⟩ := h
 exact ⟨b, by simp [dvs, eO]⟩
theorem fitC {H : Type} {d : DataW H} (h : Fit shC d) : ∃ x : Cell, dvs shC d = eC x := by
 simp only [shC, Fit, FitL] at h
 obtain ⟨ps, rfl, d0, r0, rfl, ⟨n0, rfl, w0⟩, d1, r1, rfl, ⟨n1, rfl, _⟩, d2, r2, rfl, ⟨b, rfl⟩, rfl⟩ := h
 have w := wf_u32 w0
 refine ⟨⟨⟨n0.toNat, by omega⟩, n1, b⟩, ?_⟩
 have e : ((n0.toNat : Nat) : Int) = n0 := by omega
 simp [shC, dvs, dvsL, eC, e]
theorem dvs_int {H : Type} {k : IntKind} {n : Int} : dvs (.int k) (.lit (.int k n) : DataW H) = [.int k n] := by simp [dvs]
theorem dvs_arr {H : Type} {n : Nat} {s : VE.Sh} {ps : List (DataW H)} : dvs (.arr n s) (.agg ps) = ps.flatMap (dvs s) := by simp [dvs]
theorem dvs_st {H : Type} {l : List VE.Sh} {ps : List (DataW H)} : dvs (.st l) (.agg ps) = dvsL l ps := by simp [dvs]
theorem fitT {H : Type} {d : DataW H} (h : Fit shT d) : ∃ x : Tab, dvs shT d = encT x := by
 unfold shT at h
 unfold Fit at h
 obtain ⟨ps, rfl, h⟩ := h
 unfold FitL at h
 obtain ⟨d0, r0, rfl, h0, h⟩ := h
 unfold FitL at h
 obtain ⟨d1, r1, rfl, h1, h⟩ := h
 unfold FitL at h
 obtain ⟨d2, r2, rfl, h2, h⟩ := h
 unfold FitL at h
 obtain ⟨d3, r3, rfl, h3, h⟩ := h
 unfold FitL at h
 obtain ⟨d4, r4, rfl, h4, h⟩ := h
 unfold FitL at h
 obtain ⟨d5, r5, rfl, h5, h⟩ := h
 unfold FitL at h
 subst h
 obtain ⟨n0, rfl, _⟩ := fitI h0
 obtain ⟨ks, e1, _⟩ := fit_sl (enc := eK) (fun _ => fitK) h1
 obtain ⟨bk, e2, _⟩ := fit_sl (enc := encB) (fun _ => fitB) h2
 obtain ⟨ix, e4, _⟩ := fit_sl (enc := eC) (fun _ => fitC) h4
 unfold shR at h3
 unfold Fit at h3
 obtain ⟨qs, rfl, h3⟩ := h3
 unfold FitL at h3
 obtain ⟨f0, t0, rfl, g0, h3⟩ := h3
 unfold FitL at h3
 obtain ⟨f1, t1, rfl, g1, h3⟩ := h3
 unfold FitL at h3
 obtain ⟨f2, t2, rfl, g2, h3⟩ := h3
 unfold FitL at h3
 subst h3
 obtain ⟨nx, e5, _⟩ := fit_sl (enc := eI) (fun _ => fitN) g0
 obtain ⟨us, e6, _⟩ := fit_sl (enc := eO) (fun _ => fitO) g1
 obtain ⟨fr, rfl, _⟩ := fitI g2
 unfold shO at h5
 unfold Fit at h5
 obtain ⟨rs, rfl, h5⟩ := h5
 unfold FitL at h5
 obtain ⟨k0, u0, rfl, m0, h5⟩ := h5
 unfold FitL at h5
 obtain ⟨k1, u1, rfl, m1, h5⟩ := h5
 unfold FitL at h5
 obtain ⟨k2, u2, rfl, m2, h5⟩ := h5
 unfold FitL at h5
 obtain ⟨k3, u3, rfl, m3, h5⟩ := h5
 unfold FitL at h5
 subst h5
 obtain ⟨op, e7, _⟩ := fit_sl (enc := eI) (fun _ => fitN) m0
 obtain ⟨on, e8, _⟩ := fit_sl (enc := eI) (fun _ => fitN) m1
 obtain ⟨hd, rfl, _⟩ := fitI m2
 obtain ⟨tl, rfl, _⟩ := fitI m3
 refine ⟨⟨n0, ks, bk, nx, us, fr, ix, op, on, hd, tl⟩, ?_⟩
 unfold shT shR shO
 rw [dvs_st]
 simp only [dvsL]
 rw [dvs_int, e1, e2, e4, dvs_st, dvs_st]
 simp only [dvsL]
 rw [e5, e6, e7, e8, dvs_int, dvs_int, dvs_int]
 rfl
def PartT : Type := { x : Part // 0 ≤ x.t }
def encPT (x : PartT) : List V := encP x.1
theorem fitP {H : Type} {d : DataW H} (h : Fit shP d) : ∃ x : PartT, dvs shP d = encPT x := by
 unfold shP at h
 unfold Fit at h
 obtain ⟨ps, rfl, h⟩ := h
 unfold FitL at h
 obtain ⟨d0, r0, rfl, h0, h⟩ := h
 unfold FitL at h
 obtain ⟨d1, r1, rfl, h1, h⟩ := h
 unfold FitL at h
 obtain ⟨d2, r2, rfl, h2, h⟩ := h
 unfold FitL at h
 obtain ⟨d3, r3, rfl, h3, h⟩ := h
 unfold FitL at h
 obtain ⟨d4, r4, rfl, h4, h⟩ := h
 unfold FitL at h
 obtain ⟨d5, r5, rfl, h5, h⟩ := h
 unfold FitL at h
 obtain ⟨d6, r6, rfl, h6, h⟩ := h
 unfold FitL at h
 subst h
 obtain ⟨n0, rfl, w0⟩ := fitI h0
 unfold Fit at h1
 obtain ⟨qs, rfl, hl, hq⟩ := h1
 obtain ⟨ow, e2⟩ := fitB h2
 obtain ⟨us, e3⟩ := fitT h3
 obtain ⟨en, e4⟩ := fitT h4
 obtain ⟨rv, e5, _⟩ := fit_sl (enc := e32) (fun _ => fitU) h5
 simp only [Fit, FitL] at h6
 obtain ⟨ts, rfl, t0, s0, rfl, ⟨m0, rfl, _⟩, t1, s1, rfl, ⟨m1, rfl, _⟩, t2, s2, rfl, ⟨m2, rfl, _⟩, rfl⟩ := h6
 match qs, hl, hq with
 | [q0, q1, q2], _, hq =>
  obtain ⟨x0, f0⟩ := fitLm (hq q0 (by simp))
  obtain ⟨x1, f1⟩ := fitLm (hq q1 (by simp))
  obtain ⟨x2, f2⟩ := fitLm (hq q2 (by simp))
  refine ⟨⟨⟨n0, x0, x1, x2, ow, us, en, rv, m0, m1, m2⟩, (wf_u32 w0).1⟩, ?_⟩
  unfold shP
  rw [dvs_st]
  simp only [dvsL]
  rw [e2, e3, e4, e5, dvs_int, dvs_arr, dvs_st]
  simp only [dvsL, dvs_int, List.flatMap_cons, List.flatMap_nil, f0, f1, f2]
  rfl
theorem slP_map (c : Sl PartT) : ∃ c' : Sl Part, c'.v encP = c.v encPT ∧ ∀ x ∈ c'.l, 0 ≤ x.t := by
 cases c with
 | nil => exact ⟨.nil, rfl, fun x hx => by simp [Sl.l] at hx⟩
 | mk l cap =>
  refine ⟨.mk (l.map (·.1)) cap, ?_, fun x hx => ?_⟩
  ·have e : (l.map (·.1)).flatMap encP = l.flatMap encPT := by
    rw [List.flatMap_map]
    rfl
   simp only [Sl.v, e, List.length_map]
  ·have hx : x ∈ l.map (·.1) := hx
   obtain ⟨y, _, rfl⟩ := List.mem_map.1 hx
   exact y.2
theorem fitArr {H : Type} {k : IntKind} : ∀ cs : List (DataW H), (∀ c ∈ cs, Fit (.int k) c) → ∃ l : List Int, l.length = cs.length ∧ cs.flatMap (dvs (.int k)) = l.map (V.int k)
 | [], _ => ⟨[], rfl, rfl⟩
 | c :: cs, h => by
  obtain ⟨n, rfl, wn⟩ := fitI (h c List.mem_cons_self)
  obtain ⟨l, e1, e2⟩ := fitArr cs (fun x hx => h x (List.mem_cons_of_mem _ hx))
  exact ⟨n :: l, by simp [e1], by rw [List.flatMap_cons, e2, dvs_int]; rfl⟩
theorem fitS {H : Type} {d : DataW H} (h : Fit shS d) : ∃ s : Srv, dvs shS d = encS s ∧ ∀ x ∈ s.ps.l, 0 ≤ x.t := by
 unfold shS at h
 unfold Fit at h
 obtain ⟨ps, rfl, h⟩ := h
 unfold FitL at h
 obtain ⟨d0, r0, rfl, h0, h⟩ := h
 unfold FitL at h
 obtain ⟨d1, r1, rfl, h1, h⟩ := h
 unfold FitL at h
 obtain ⟨d2, r2, rfl, h2, h⟩ := h
 unfold FitL at h
 obtain ⟨d3, r3, rfl, h3, h⟩ := h
 unfold FitL at h
 subst h
 obtain ⟨n0, rfl, w0⟩ := fitI h0
 unfold Fit at h1
 obtain ⟨qs, rfl, hl1, hq⟩ := h1
 unfold Fit at h2
 obtain ⟨cs, rfl, hl2, hc⟩ := h2
 obtain ⟨sd, l1, e1⟩ := fitArr qs hq
 obtain ⟨ep, l2, e2⟩ := fitArr cs hc
 obtain ⟨c, e3, hlen⟩ := fit_sl (enc := encPT) (fun d h => fitP h) h3
 obtain ⟨c', e4, e5⟩ := slP_map c
 refine ⟨⟨n0, sd.map (V.int .u8), ep, c', by rw [List.length_map, l1, hl1], by rw [l2, hl2]⟩, ?_, e5⟩
 unfold shS
 rw [dvs_st]
 simp only [dvsL]
 rw [dvs_int, dvs_arr, dvs_arr, e1, e2, e3, ← e4]
 unfold encS encS1
 have e6 : ∀ l : List Int, l.map (V.int .u32) = l.flatMap e32 := fun l => by
  induction l with
  | nil => rfl
  | cons a l ih => rw [List.map_cons, List.flatMap_cons, ih]; rfl
 rw [e6]
 simp only [List.append_assoc, List.nil_append, List.append_nil, List.cons_append]
end
end Go.VE.LB
