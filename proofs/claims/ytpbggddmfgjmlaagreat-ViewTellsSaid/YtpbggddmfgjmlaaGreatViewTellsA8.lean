/- What the functions of the law ViewTells compute, on typed arguments (part 8). -/
import Derived.Test.YtpbggddmfgjmlaaGreatViewTellsA7
import Derived.Test.YtpbggddmfgjmlaaGreatViewTellsA2
set_option linter.all false
namespace Go.VE.LB
set_option maxRecDepth 100000
set_option maxHeartbeats 4000000
section
open Go Go.VE Classical
section
variable {vp : Nat → Option VFn}
def invIB (F : V) (q : Bucket → Bool) (c : Sl Bucket) (H : Heap) (m : Nat) (s : Slots) (h : Heap) : Prop :=
 ∃ k, k ≤ c.l.length ∧ m = c.l.length - k ∧ s.at 0 = c.v encB ∧ s.at 1 = F ∧ s.at 7 = .int .i64 (c.l.length : Int) ∧ s.at 8 = .int .i64 (k : Int) ∧ h = H ∧ ∀ j (hj : j < c.l.length), j < k → q c.l[j] = false
theorem idxB_spec {f : Nat} (hf : vp f = some Zzci) (F : V) (q : Bucket → Bool) (c : Sl Bucket) (h : Heap) (hn : c.l.length < 4611686018427387904)
  (hq : ∀ g, hgOk h [c.v encB, F] g → ∀ x ∈ c.l, callVRes vp F [.agg (encB x)] g = some (.bool (q x), g)) : callRes vp f [c.v encB, F] h = some (.int .i64 (fidx q c.l), h) := by
 refine res_pure hf rfl rfl (fun g hg => ?_)
 have hq := hq g hg
 unfold Zzci
 simp only [↓zp, zv, seval]
 generalize hS : Tr.set _ 8 _ = S
 have b0 : Slots.at S 0 = c.v encB := by rw [← hS]; simp only [zs, seval]
 have b1 : Slots.at S 1 = F := by rw [← hS]; simp only [zs, seval]
 have b7 : Slots.at S 7 = .int .i64 (c.l.length : Int) := by rw [← hS]; simp only [zs, seval]
 have b8 : Slots.at S 8 = .int .i64 ((0 : Nat) : Int) := by rw [← hS]; simp only [zs, seval] <;> rfl
 clear hS
 refine loop_ind (fun m s h => invIB F q c g m s h) ?_ c.l.length ⟨0, by omega, by omega, b0, b1, b7, b8, rfl, fun j _ hj => by omega⟩
 rintro m s h ⟨k, hk, hm, c0, c1, c7, c8, rfl, hinc⟩
 by_cases hlt : k < c.l.length
 case neg =>
  have hlt' : ¬ ((k : Int) < (c.l.length : Int)) := by omega
  have e := fidx_none (q := q) (l := c.l) (fun j hj => hinc j hj (by omega))
  simp only [↓zp, zv, seval, c0, c1, c7, c8, hlt', e, frzI]
  done
 have hlt' : (k : Int) < (c.l.length : Int) := by omega
 have ws := wr_succ (k := k) (by omega)
 have ia1 := fun h => r_ia_v (h := h) (c := c) encB_len (by decide) hlt rfl
 have cv := hq c.l[k] (List.getElem_mem hlt)
 simp only [encB] at ia1 cv
 cases hqk : q c.l[k]
 ·rw [hqk] at cv
  simp only [↓zp, zv, seval, c0, c1, c7, c8, hlt', ia1, cv, ws]
  refine ⟨_, by omega, k + 1, by omega, rfl, by simp only [zs, seval, c0], by simp only [zs, seval, c1], by simp only [zs, seval, c7], by simp only [zs, seval], rfl, fun j hj hj2 => ?_⟩
  rcases Nat.lt_or_ge j k with r | r
  ·exact hinc j hj r
  ·obtain rfl : j = k := by omega
   exact hqk
 ·rw [hqk] at cv
  have e := fidx_at (q := q) hlt hqk (fun j hj hjk => hinc j hj hjk)
  simp only [↓zp, zv, seval, c0, c1, c7, c8, hlt', ia1, cv, e, frzI]
theorem anyB_spec {f c1 : Nat} (hf : vp f = some (Zzbz c1)) (h1 : vp c1 = some Zzci) (F : V) (q : Bucket → Bool) (c : Sl Bucket) (h : Heap) (hn : c.l.length < 4611686018427387904)
  (hq : ∀ g, hgOk h [c.v encB, F] g → ∀ g', hgOk g [c.v encB, F] g' → ∀ x ∈ c.l, callVRes vp F [.agg (encB x)] g' = some (.bool (q x), g')) : callRes vp f [c.v encB, F] h = some (.bool (c.l.any q), h) := by
 have m1 : modeOf vp c1 = some 1 := mo h1 rfl rfl
 refine res_pure hf rfl rfl (fun g hg => ?_)
 have e := idxB_spec h1 F q c g hn (hq g hg)
 unfold Zzbz
 simp only [↓zp, zv, seval, m1, e, fidx_any, frzB]
def invIP (F : V) (q : Part → Bool) (c : Sl Part) (H : Heap) (m : Nat) (s : Slots) (h : Heap) : Prop :=
 ∃ k, k ≤ c.l.length ∧ m = c.l.length - k ∧ s.at 0 = c.v encP ∧ s.at 1 = F ∧ s.at 7 = .int .i64 (c.l.length : Int) ∧ s.at 8 = .int .i64 (k : Int) ∧ h = H ∧ ∀ j (hj : j < c.l.length), j < k → q c.l[j] = false
theorem idxP_spec {f : Nat} (hf : vp f = some Zzcj) (F : V) (q : Part → Bool) (c : Sl Part) (h : Heap) (hn : c.l.length < 4611686018427387904)
  (hq : ∀ g, hgOk h [c.v encP, F] g → ∀ x ∈ c.l, callVRes vp F [.agg (encP x)] g = some (.bool (q x), g)) : callRes vp f [c.v encP, F] h = some (.int .i64 (fidx q c.l), h) := by
 refine res_pure hf rfl rfl (fun g hg => ?_)
 have hq := hq g hg
 unfold Zzcj
 simp only [↓zp, zv, seval]
 generalize hS : Tr.set _ 8 _ = S
 have b0 : Slots.at S 0 = c.v encP := by rw [← hS]; simp only [zs, seval]
 have b1 : Slots.at S 1 = F := by rw [← hS]; simp only [zs, seval]
 have b7 : Slots.at S 7 = .int .i64 (c.l.length : Int) := by rw [← hS]; simp only [zs, seval]
 have b8 : Slots.at S 8 = .int .i64 ((0 : Nat) : Int) := by rw [← hS]; simp only [zs, seval] <;> rfl
 clear hS
 refine loop_ind (fun m s h => invIP F q c g m s h) ?_ c.l.length ⟨0, by omega, by omega, b0, b1, b7, b8, rfl, fun j _ hj => by omega⟩
 rintro m s h ⟨k, hk, hm, c0, c1, c7, c8, rfl, hinc⟩
 by_cases hlt : k < c.l.length
 case neg =>
  have hlt' : ¬ ((k : Int) < (c.l.length : Int)) := by omega
  have e := fidx_none (q := q) (l := c.l) (fun j hj => hinc j hj (by omega))
  simp only [↓zp, zv, seval, c0, c1, c7, c8, hlt', e, frzI]
  done
 have hlt' : (k : Int) < (c.l.length : Int) := by omega
 have ws := wr_succ (k := k) (by omega)
 have ia1 := fun h => r_ia_v (h := h) (c := c) encP_len (by decide) hlt rfl
 have cv := hq c.l[k] (List.getElem_mem hlt)
 simp only [encP] at ia1 cv
 cases hqk : q c.l[k]
 ·rw [hqk] at cv
  simp only [↓zp, zv, seval, c0, c1, c7, c8, hlt', ia1, cv, ws]
  refine ⟨_, by omega, k + 1, by omega, rfl, by simp only [zs, seval, c0], by simp only [zs, seval, c1], by simp only [zs, seval, c7], by simp only [zs, seval], rfl, fun j hj hj2 => ?_⟩
  rcases Nat.lt_or_ge j k with r | r
  ·exact hinc j hj r
  ·obtain rfl : j = k := by omega
   exact hqk
 ·rw [hqk] at cv
  have e := fidx_at (q := q) hlt hqk (fun j hj hjk => hinc j hj hjk)
  simp only [↓zp, zv, seval, c0, c1, c7, c8, hlt', ia1, cv, e, frzI]
theorem anyP_spec {f c1 : Nat} (hf : vp f = some (Zzca c1)) (h1 : vp c1 = some Zzcj) (F : V) (q : Part → Bool) (c : Sl Part) (h : Heap) (hn : c.l.length < 4611686018427387904)
  (hq : ∀ g, hgOk h [c.v encP, F] g → ∀ g', hgOk g [c.v encP, F] g' → ∀ x ∈ c.l, callVRes vp F [.agg (encP x)] g' = some (.bool (q x), g')) : callRes vp f [c.v encP, F] h = some (.bool (c.l.any q), h) := by
 have m1 : modeOf vp c1 = some 1 := mo h1 rfl rfl
 refine res_pure hf rfl rfl (fun g hg => ?_)
 have e := idxP_spec h1 F q c g hn (hq g hg)
 unfold Zzca
 simp only [↓zp, zv, seval, m1, e, fidx_any, frzB]
def lateB (now : Int) (x : Bucket) : Bool := decide (now < x.t)
def lateP (now : Int) (x : Part) : Bool := decide (now < x.own.t) || x.us.bk.l.any (lateB now) || x.en.bk.l.any (lateB now)
theorem lfn_spec {f : Nat} (hf : vp f = some Zzad) (x : Bucket) (now : Int) (b : Nat) (r : List V) (tag : Tag) (h : Heap) (hb : h.get b = .cells (.int .u64 now :: r) tag) (hlt : b < h.nx) : callRes vp f [.agg (encB x), .ptr b 0] h = some (.bool (lateB now x), h) := by
 refine res_pure hf rfl rfl (fun g hg => ?_)
 have hb' : g.get b = .cells (.int .u64 now :: r) tag := by
  rcases hg with ⟨_, q⟩ | ⟨_, _, q⟩
  ·exact absurd q (by intro q; cases q)
  ·rw [q, hb]
 have hne : ¬ b = g.nx := by
  rcases hg with ⟨_, q⟩ | ⟨q, _, _⟩
  ·exact absurd q (by intro q; cases q)
  ·omega
 unfold Zzad encB lateB
 simp only [↓zp, zv, seval, hb', hne, frzB]
theorem anyLateB {f c1 c2 : Nat} (hf : vp f = some (Zzbz c1)) (h1 : vp c1 = some Zzci) (h2 : vp c2 = some Zzad) (now : Int) (c : Sl Bucket) (hn : c.l.length < 4611686018427387904) (b : Nat) (r : List V) (tag : Tag) (h : Heap) (hb : h.get b = .cells (.int .u64 now :: r) tag) (hlt : b < h.nx) :
  callRes vp f [c.v encB, .fn c2 [.ptr b 0]] h = some (.bool (c.l.any (lateB now)), h) :=
 anyB_spec hf h1 _ (lateB now) c h hn (fun g hg g' hg' x _ => callVRes_fn (lfn_spec h2 x now b r tag g' (by rw [hg_get hg', hg_get hg, hb]) (by
  rcases hg with ⟨_, q⟩ | ⟨q, _, _⟩
  ·rw [iso_none] at q; cases q
  rcases hg' with ⟨_, q'⟩ | ⟨q', _, _⟩
  ·rw [iso_none] at q'; cases q'
  omega)))
theorem late_spec {f c1 c2 c3 : Nat} (hf : vp f = some (Zzac c1 c2)) (h1 : vp c1 = some Zzad) (h2 : vp c2 = some (Zzbz c3)) (h3 : vp c3 = some Zzci)
  (x : Part) (n1 : x.us.bk.l.length ≤ 8) (n2 : x.en.bk.l.length ≤ 8) (now : Int) (h : Heap) : callRes vp f [.agg (encP x), .int .u64 now] h = some (.bool (lateP now x), h) := by
 have m2 : modeOf vp c2 = some 1 := mo h2 rfl rfl
 refine res_pure hf rfl rfl (fun g hg => ?_)
 unfold Zzac encP
 obtain ⟨H, hH⟩ : ∃ H, (g.new (.cells (encP x) .cl)).new (.cells [.int .u64 now] .cl) = H := ⟨_, rfl⟩
 have hnx : H.nx = g.nx + 2 := by rw [← hH]; rfl
 have ga : H.get g.nx = .cells (encP x) .cl := by rw [← hH]; simp only [↓zp, zv, seval]
 have gb : H.get (g.nx + 1) = .cells [.int .u64 now] .cl := by rw [← hH]; simp only [↓zp, zv, seval]
 have k1 := callVRes_fn (args := [.agg (encB x.own)]) (lfn_spec h1 x.own now (g.nx + 1) [] .cl H gb (by omega))
 have k2 := anyLateB h2 h3 h1 now x.us.bk (by omega) (g.nx + 1) [] .cl H gb (by omega)
 have k3 := anyLateB h2 h3 h1 now x.en.bk (by omega) (g.nx + 1) [] .cl H gb (by omega)
 simp only [encP] at hH ga
 simp only [encB] at k1
 unfold lateP lateB
 unfold lateB at k1 k2 k3
 cases q1 : decide (now < x.own.t)
 case true =>
  rw [q1] at k1
  simp only [↓zp, zv, seval, hH, ga, k1, frzB]
  done
 rw [q1] at k1
 cases q2 : x.us.bk.l.any (fun x => decide (now < x.t))
 case true =>
  rw [q2] at k2
  simp only [↓zp, zv, seval, hH, ga, k1, m2, k2, frzB]
  done
 rw [q2] at k2
 simp only [↓zp, zv, seval, hH, ga, k1, m2, k2, k3, frzB]
theorem mx_spec {x y : Int} {h : Heap} : r_maxi [.int .u32 x, .int .u32 y] h = some (.int .u32 (max x y), h) := by
 have e : (bif ltI x y then y else x) = max x y := by
  rw [ltI_dec]
  by_cases q : x < y
  ·rw [decide_eq_true q]; simp only [cond_true]; omega
  ·rw [decide_eq_false q]; simp only [cond_false]; omega
 show some (V.int .u32 (bif ltI x y then y else x), h) = _
 rw [e]
structure Srv where
 now : Int
 sd : List V
 ep : List Int
 ps : Sl Part
 nsd : sd.length = 32
 nep : ep.length = 16
def encS1 (s : Srv) : List V := s.sd ++ (s.ep.flatMap e32 ++ [s.ps.v encP])
def encS (s : Srv) : List V := .int .u64 s.now :: encS1 s
theorem ep_len (s : Srv) : (s.ep.flatMap e32).length = 16 := by rw [flat_len2 e32_len, s.nep]
theorem encS1_len (s : Srv) : (encS1 s).length = 49 := by
 unfold encS1
 simp only [List.length_append, ep_len, s.nsd, List.length_cons, List.length_nil]
theorem takeN_self {l : List V} : takeN l.length l = some l := by
 have := takeN_app l []
 rwa [List.append_nil] at this
theorem encS1_take (s : Srv) : takeN 49 (encS1 s) = some (encS1 s) := by
 have := takeN_self (l := encS1 s)
 rwa [encS1_len] at this
theorem encS1_ps (s : Srv) : (encS1 s).drop 48 = [s.ps.v encP] := by
 unfold encS1
 rw [← List.append_assoc, List.drop_left' (by simp only [List.length_append, ep_len, s.nsd])]
theorem encS1_ep (s : Srv) : (encS1 s).drop 32 = s.ep.flatMap e32 ++ [s.ps.v encP] := by
 unfold encS1
 rw [List.drop_left' s.nsd]
theorem encS1_epk (s : Srv) {k : Nat} (hk : k < s.ep.length) : ∃ r, (encS1 s).drop (32 + k) = .int .u32 s.ep[k] :: r := by
 refine ⟨(s.ep.drop (k + 1)).flatMap e32 ++ [s.ps.v encP], ?_⟩
 rw [← List.drop_drop, encS1_ep]
 have e := flat_drop e32_len s.ep k hk
 rw [Nat.mul_one] at e
 rw [List.drop_append_of_le_length (by rw [ep_len, ← s.nep]; omega), e]
 rfl
structure SvOk (s : Srv) : Prop where
 rg : rgv s.ps.l = 0
 ep : ∀ k (h : k < s.ep.length), s.ep[k] ≤ 1000000
 lt : ∀ x ∈ s.ps.l, lateP s.now x = false
theorem SvOk.ok {s : Srv} (o : SvOk s) : s.ps.l.length ≤ 8 ∧ RgP s.ps.l := rgv_0 o.rg
def invMx (v : V) (l : List Int) (H : Heap) (m : Nat) (s : Slots) (h : Heap) : Prop :=
 ∃ k x, 1 ≤ k ∧ k ≤ l.length ∧ m = l.length - k ∧ s.at 0 = v ∧ s.at 3 = .int .u32 x ∧ s.at 4 = .int .i64 (k : Int) ∧ h = H ∧ (∀ j (hj : j < l.length), j < k → l[j] ≤ x) ∧ ∃ j, ∃ hj : j < l.length, l[j] = x
theorem max_spec {f : Nat} (hf : vp f = some Zzcn) (v : V) (l : List Int) (h : Heap) (hv : Rd e32 1 h v l) (h0 : 0 < l.length) (hn : l.length < 1000000) :
  ∃ x, callRes vp f [v] h = some (.int .u32 x, h) ∧ (∀ j (hj : j < l.length), l[j] ≤ x) ∧ ∃ j, ∃ hj : j < l.length, l[j] = x := by
 suffices hgoal : ∃ r, callRes vp f [v] h = some (r, h) ∧ ∃ x, r = .int .u32 x ∧ (∀ j (hj : j < l.length), l[j] ≤ x) ∧ ∃ j, ∃ hj : j < l.length, l[j] = x by
  obtain ⟨r, e, x, rfl, k⟩ := hgoal
  exact ⟨x, e, k⟩
 refine res_pure_ex hf rfl rfl (fun g hg => ?_)
 have hv := hv.enter (A := fun v => [v]) hg (fun _ _ _ _ => rfl)
 have ln := hv.len
 unfold Zzcn
 have q1 : ¬ ((l.length : Int) < 1) := by omega
 obtain ⟨a0, ia0, el0⟩ := hv.ia e32_len (by decide) h0
 have ld0 := El.ld1 (cs := []) el0 (Kp.refl g)
 have z0 : ((0 : Nat) : Int) = 0 := rfl
 rw [z0] at ia0
 simp only [↓zp, zv, seval, ln, q1, ia0, ld0]
 generalize hS : Tr.set _ 4 _ = S
 have b0 : Slots.at S 0 = v := by rw [← hS]; simp only [zs, seval]
 have b3 : Slots.at S 3 = .int .u32 l[0] := by rw [← hS]; simp only [zs, seval]
 have b4 : Slots.at S 4 = .int .i64 ((1 : Nat) : Int) := by rw [← hS]; simp only [zs, seval] <;> rfl
 clear hS
 refine loop_ind (fun m s h => invMx v l g m s h) ?_ (l.length - 1) ⟨1, l[0], by omega, by omega, by omega, b0, b3, b4, rfl, fun j hj h1 => by obtain rfl : j = 0 := (by omega); exact Int.le_refl _, 0, h0, rfl⟩
 clear b0 b3 b4
 rintro m s h ⟨k, x, hk1, hk, hm, c0, c3, c4, rfl, i1, i2⟩
 by_cases hlt : k < l.length
 case neg =>
  have hlt' : ¬ ((k : Int) < (l.length : Int)) := by omega
  simp only [↓zp, zv, seval, c0, c3, c4, ln, hlt', frzI]
  exact ⟨x, rfl, fun j hj => i1 j hj (by omega), i2⟩
 have hlt' : (k : Int) < (l.length : Int) := by omega
 have ws := wr_succ (k := k) (by omega)
 obtain ⟨a, ia, el⟩ := hv.ia e32_len (by decide) hlt
 have ld := El.ld1 (cs := []) el (Kp.refl h)
 have mx : ∀ h, r_maxi [.int .u32 x, .int .u32 l[k]] h = some (.int .u32 (max x l[k]), h) := fun h => mx_spec
 simp only [↓zp, zv, seval, c0, c3, c4, ln, hlt', ia, ld, ws, mx]
 refine ⟨_, by omega, k + 1, max x l[k], by omega, by omega, rfl, by simp only [zs, seval, c0], by simp only [zs, seval], by simp only [zs, seval], rfl, fun j hj hjk => ?_, ?_⟩
 ·rcases Nat.lt_or_ge j k with r | r
  ·have := i1 j hj r; omega
  ·obtain rfl : j = k := by omega
   omega
 ·obtain ⟨j, hj, e⟩ := i2
  rcases Int.le_total l[k] x with q | q
  ·exact ⟨j, hj, by rw [e]; omega⟩
  ·exact ⟨k, hlt, by omega⟩
theorem iso_ptr (x : V) (b o : Nat) : isoArgs 1 [x, .ptr b o] = none := by
 show (match frz 999999 h0 0 false x, frzs 999999 h0 0 false [.ptr b o] with
  | some x', some r' => some (x' :: r')
  | _, _ => none) = none
 have e : frzs 999999 h0 0 false [.ptr b o] = none := rfl
 rw [e]
 cases frz 999999 h0 0 false x <;> rfl
theorem vfn_spec {f c1 c2 c3 c4 : Nat} (hf : vp f = some (Zzab c4)) (h4 : vp c4 = some (Zzac c1 c2)) (h1 : vp c1 = some Zzad) (h2 : vp c2 = some (Zzbz c3)) (h3 : vp c3 = some Zzci)
  (x : Part) (n1 : x.us.bk.l.length ≤ 8) (n2 : x.en.bk.l.length ≤ 8) (now : Int) (b : Nat) (r : List V) (tag : Tag) (h : Heap) (hb : h.get b = .cells (.int .u64 now :: r) tag) (hlt : b < h.nx) : callRes vp f [.agg (encP x), .ptr b 0] h = some (.bool (lateP now x), h) := by
 have m4 : modeOf vp c4 = some 1 := mo h4 rfl rfl
 refine res_pure hf rfl rfl (fun g hg => ?_)
 have hb' : g.get b = .cells (.int .u64 now :: r) tag := by
  rcases hg with ⟨_, q⟩ | ⟨_, _, q⟩
  ·rw [iso_ptr] at q; cases q
  ·rw [q, hb]
 have hne : ¬ b = g.nx := by
  rcases hg with ⟨_, q⟩ | ⟨q, _, _⟩
  ·rw [iso_ptr] at q; cases q
  ·omega
 have k := fun h => late_spec h4 h1 h2 h3 x n1 n2 now h
 unfold Zzab
 simp only [encP] at k ⊢
 simp only [↓zp, zv, seval, hb', hne, m4, k, frzB]
theorem svC_spec {f c1 c2 c3 c4 c5 c6 c7 c8 c9 : Nat} (hf : vp f = some (Zzaa c1 c2 c3 c4)) (m1 : modeOf vp c1 = some 1) (ck : ∀ (ps : Sl Part) (h : Heap), callRes vp c1 [ps.v encP] h = some (.int .i64 (rgv ps.l), h))
  (h2 : vp c2 = some Zzcn) (h3 : vp c3 = some (Zzab c5)) (h4 : vp c4 = some (Zzca c6)) (h5 : vp c5 = some (Zzac c7 c8)) (h6 : vp c6 = some Zzcj) (h7 : vp c7 = some Zzad) (h8 : vp c8 = some (Zzbz c9)) (h9 : vp c9 = some Zzci)
  (s : Srv) (h : Heap) : callRes vp f [.agg (encS s)] h = some (.int .i64 (chk (SvOk s)), h) := by
 have m2 : modeOf vp c2 = some 1 := mo h2 rfl rfl
 have m4 : modeOf vp c4 = some 1 := mo h4 rfl rfl
 refine res_pure hf rfl rfl (fun g hg => ?_)
 unfold Zzaa encS
 have ck := fun h => ck s.ps h
 obtain ⟨L, hL⟩ : ∃ L, encS1 s = L := ⟨_, rfl⟩
 have l1 : L.length = 49 := by rw [← hL, encS1_len]
 have l2 : L.drop 48 = [s.ps.v encP] := by rw [← hL, encS1_ps]
 have l3 : L.drop 32 = s.ep.flatMap e32 ++ [s.ps.v encP] := by rw [← hL, encS1_ep]
 rw [hL]
 by_cases q1 : rgv s.ps.l = 0
 case neg =>
  have e := chk_n (p := SvOk s) (fun o => q1 o.rg)
  simp only [↓zp, zv, seval, l1, l2, m1, ck, q1, not_false_eq_true, e, frzI]
  done
 have q1' := eq_true q1
 obtain ⟨r1, r2⟩ := rgv_0 q1
 obtain ⟨H, hH⟩ : ∃ H, g.new (.cells (.int .u64 s.now :: L) .cl) = H := ⟨_, rfl⟩
 have hnx : H.nx = g.nx + 1 := by rw [← hH]; rfl
 have ga : H.get g.nx = .cells (.int .u64 s.now :: L) .cl := by rw [← hH]; simp only [↓zp, zv, seval]
 have rd : Rd e32 1 H (.sl g.nx 33 16 16 1) s.ep := .inr ⟨g.nx, 33, 16, 16, .cl, _, [s.ps.v encP], rfl, s.nep.symm, ga, by rw [List.drop_succ_cons, l3], by omega⟩
 obtain ⟨mx, k2, k3, j, hj, k4⟩ := max_spec h2 _ _ H rd (by rw [s.nep]; omega) (by rw [s.nep]; omega)
 have hl : ∀ x ∈ s.ps.l, x.us.bk.l.length ≤ 8 ∧ x.en.bk.l.length ≤ 8 := fun x hx => by
  obtain ⟨i, hi, rfl⟩ := List.getElem_of_mem hx
  have o := r2.ok i hi
  have := o.us.lens
  have := o.en.lens
  omega
 have k5 := anyP_spec h4 h6 (.fn c3 [.ptr g.nx 0]) (lateP s.now) s.ps H (by omega) (fun g' hg g'' hg' x hx => callVRes_fn (args := [.agg (encP x)]) (vfn_spec h3 h5 h7 h8 h9 x (hl x hx).1 (hl x hx).2 s.now g.nx _ .cl g'' (by rw [hg_get hg', hg_get hg, ga]) (by
  rcases hg with ⟨_, q⟩ | ⟨q, _, _⟩
  ·rw [iso_none] at q; cases q
  rcases hg' with ⟨_, q'⟩ | ⟨q', _, _⟩
  ·rw [iso_none] at q'; cases q'
  omega)))
 by_cases q2 : 1000000 < mx
 ·have e := chk_n (p := SvOk s) (fun o => by have := o.ep j hj; omega)
  simp only [↓zp, zv, seval, l1, l2, m1, ck, q1', not_true, hH, ga, r_slca, bound, m2, k2, q2, e, frzI]
  done
 simp only [↓zp, zv, seval, l1, l2, m1, ck, q1', not_true, hH, ga, r_slca, bound, m2, k2, q2, m4, k5]
 have e1 : ∀ k (h : k < s.ep.length), s.ep[k] ≤ 1000000 := fun k h => by have := k3 k h; omega
 cases q3 : s.ps.l.any (lateP s.now)
 ·have e := chk_y (p := SvOk s) ⟨q1, e1, fun x hx => by
   have := List.any_eq_false.1 q3 x hx
   simpa using this⟩
  simp only [↓zp, zv, seval, e, frzI]
 ·have e := chk_n (p := SvOk s) (fun o => by
   obtain ⟨x, hx, hl⟩ := List.any_eq_true.1 q3
   rw [o.lt x hx] at hl
   cases hl)
  simp only [↓zp, zv, seval, e, frzI]
end
end
section
open Go Go.VE Classical
section
variable {vp : Nat → Option VFn}
def invRL (c : Sl Bucket) (now : Int) (H : Heap) (m : Nat) (s : Slots) (h : Heap) : Prop :=
 ∃ k, k ≤ c.l.length ∧ m = c.l.length - k ∧ s.at 0 = c.v encB ∧ s.at 1 = .int .u64 now ∧ s.at 5 = .int .i64 (k : Int) ∧ h = H ∧ ∀ j (hj : j < c.l.length), j < k → lateB now c.l[j] = false
theorem rlate_spec {f : Nat} (hf : vp f = some Zzeo) (c : Sl Bucket) (hn : c.l.length ≤ 8) (now : Int) (h : Heap) : callRes vp f [c.v encB, .int .u64 now] h = some (.bool (c.l.any (lateB now)), h) := by
 refine res_pure hf rfl rfl (fun g hg => ?_)
 unfold Zzeo
 simp only [↓zp, zv, seval]
 generalize hS : Tr.set _ 5 _ = S
 have b0 : Slots.at S 0 = c.v encB := by rw [← hS]; simp only [zs, seval]
 have b1 : Slots.at S 1 = .int .u64 now := by rw [← hS]; simp only [zs, seval]
 have b5 : Slots.at S 5 = .int .i64 ((0 : Nat) : Int) := by rw [← hS]; simp only [zs, seval] <;> rfl
 clear hS
 refine loop_ind (fun m s h => invRL c now g m s h) ?_ c.l.length ⟨0, by omega, by omega, b0, b1, b5, rfl, fun j _ hj => by omega⟩
 clear b0 b1 b5
 rintro m s h ⟨k, hk, hm, c0, c1, c5, rfl, hinc⟩
 by_cases hlt : k < c.l.length
 case neg =>
  have hlt' : ¬ ((k : Int) < (c.l.length : Int)) := by omega
  have e : c.l.any (lateB now) = false := List.any_eq_false.2 (fun x hx => by
   obtain ⟨i, hi, rfl⟩ := List.getElem_of_mem hx
   rw [hinc i hi (by omega)]
   exact Bool.false_ne_true)
  simp only [↓zp, zv, seval, c0, c1, c5, hlt', e, frzB]
  done
 have hlt' : (k : Int) < (c.l.length : Int) := by omega
 have ws := wr_succ (k := k) (by omega)
 have ia1 := fun h => r_ia_v (h := h) (c := c) encB_len (by decide) hlt rfl
 simp only [encB] at ia1
 by_cases q : now < c.l[k].t
 ·have e : c.l.any (lateB now) = true := List.any_eq_true.2 ⟨_, List.getElem_mem hlt, decide_eq_true q⟩
  simp only [↓zp, zv, seval, c0, c1, c5, hlt', ia1, q, e, frzB]
  done
 ·simp only [↓zp, zv, seval, c0, c1, c5, hlt', ia1, q, ws]
  refine ⟨_, by omega, k + 1, by omega, rfl, by simp only [zs, seval, c0], by simp only [zs, seval, c1], by simp only [zs, seval], rfl, fun j hj hj2 => ?_⟩
  rcases Nat.lt_or_ge j k with r | r
  ·exact hinc j hj r
  ·obtain rfl : j = k := by omega
   exact decide_eq_false q
def invV1 (sv : Srv) (b : Nat) (H : Heap) (m : Nat) (s : Slots) (h : Heap) : Prop :=
 ∃ k, k ≤ 16 ∧ m = 16 - k ∧ s.at 1 = .ptr b 0 ∧ s.at 3 = .int .i64 (k : Int) ∧ h = H ∧ ∀ j (hj : j < sv.ep.length), j < k → sv.ep[j] ≤ 1000000
def invV2 (sv : Srv) (L : List V) (b lo : Nat) (m : Nat) (s : Slots) (h : Heap) : Prop :=
 ∃ k, k ≤ sv.ps.l.length ∧ m = sv.ps.l.length - k ∧ s.at 1 = .ptr b 0 ∧ s.at 4 = .int .i64 (k : Int) ∧ h.get b = .cells (.int .u64 sv.now :: L) .cl ∧ h.lo = lo ∧ lo ≤ b ∧ b < h.nx ∧ ∀ j (hj : j < sv.ps.l.length), j < k → lateP sv.now sv.ps.l[j] = false
theorem svR_spec {f c1 c2 t1 : Nat} (hf : vp f = some (Zzen c1 c2 t1)) (m1 : modeOf vp c1 = some 1) (ck : ∀ (ps : Sl Part) (h : Heap), callRes vp c1 [ps.v encP] h = some (.int .i64 (rgv ps.l), h)) (h2 : vp c2 = some Zzeo)
  (sv : Srv) (h : Heap) : callRes vp f [.agg (encS sv)] h = some (.int .i64 (chk (SvOk sv)), h) := by
 have m2 : modeOf vp c2 = some 1 := mo h2 rfl rfl
 refine res_pure hf rfl rfl (fun g hg => ?_)
 have hlo := hlo hg
 unfold Zzen encS
 have ck := fun h => ck sv.ps h
 have dk := fun k hk => encS1_epk sv (k := k) hk
 obtain ⟨L, hL⟩ : ∃ L, encS1 sv = L := ⟨_, rfl⟩
 have l1 : L.length = 49 := by rw [← hL, encS1_len]
 have l2 : L.drop 48 = [sv.ps.v encP] := by rw [← hL, encS1_ps]
 rw [hL]
 rw [hL] at dk
 by_cases q1 : rgv sv.ps.l = 0
 case neg =>
  have e := chk_n (p := SvOk sv) (fun o => q1 o.rg)
  simp only [↓zp, zv, seval, l1, l2, m1, ck, q1, not_false_eq_true, e, frzI]
  done
 have q1' := eq_true q1
 obtain ⟨r1, r2⟩ := rgv_0 q1
 simp only [↓zp, zv, seval, l1, l2, m1, ck, q1', not_true]
 generalize hS : Tr.set _ 3 _ = S
 have b1 : Slots.at S 1 = .ptr g.nx 0 := by rw [← hS]; simp only [zs, seval]
 have b3 : Slots.at S 3 = .int .i64 ((0 : Nat) : Int) := by rw [← hS]; simp only [zs, seval] <;> rfl
 clear hS
 obtain ⟨H, hH⟩ : ∃ H, g.new (.cells (.int .u64 sv.now :: L) .cl) = H := ⟨_, rfl⟩
 have hnx : H.nx = g.nx + 1 := by rw [← hH]; rfl
 have ga : H.get g.nx = .cells (.int .u64 sv.now :: L) .cl := by rw [← hH]; simp only [↓zp, zv, seval]
 have hl : H.lo = g.lo := by rw [← hH]; rfl
 rw [hH]
 clear hH
 refine loop_ind (fun m s h => invV1 sv g.nx H m s h) ?_ 16 ⟨0, by omega, by omega, b1, b3, rfl, fun j _ hj => by omega⟩
 clear b1 b3
 rintro m s h ⟨k, hk, hm, c1', c3, rfl, hinc⟩
 have nep := sv.nep
 by_cases hlt : k < 16
 case pos =>
  have hlt' : (k : Int) < 16 := by omega
  have ws := wr_succ (k := k) (by omega)
  obtain ⟨r, dk⟩ := dk k (by omega)
  have dk' : List.drop (33 + k) (.int .u64 sv.now :: L) = .int .u32 sv.ep[k] :: r := by
   rw [← dk, show 33 + k = (32 + k) + 1 by omega]; rfl
  by_cases q : 1000000 < sv.ep[k]
  ·have e := chk_n (p := SvOk sv) (fun o => by have := o.ep k (by omega); omega)
   simp only [↓zp, zv, seval, Nat.mul_one, c1', c3, hlt', ga, hlt, dk', q, e, frzI]
   done
  ·simp only [↓zp, zv, seval, Nat.mul_one, c1', c3, hlt', ga, hlt, dk', q, ws]
   refine ⟨_, by omega, k + 1, by omega, rfl, by simp only [zs, seval, c1'], by simp only [zs, seval], rfl, fun j hj hj2 => ?_⟩
   rcases Nat.lt_or_ge j k with r | r
   ·exact hinc j hj r
   ·obtain rfl : j = k := by omega
    omega
 have hlt' : ¬ ((k : Int) < 16) := by omega
 have he : ∀ j (hj : j < sv.ep.length), sv.ep[j] ≤ 1000000 := fun j hj => hinc j hj (by omega)
 simp only [↓zp, zv, seval, c1', c3, hlt', ga]
 generalize hS : Tr.set _ 4 _ = S
 have b1 : Slots.at S 1 = .ptr g.nx 0 := by rw [← hS]; simp only [zs, seval, c1']
 have b4 : Slots.at S 4 = .int .i64 ((0 : Nat) : Int) := by rw [← hS]; simp only [zs, seval] <;> rfl
 clear hS c1' c3 hinc
 refine loop_ind (fun m s h => invV2 sv L g.nx g.lo m s h) ?_ sv.ps.l.length ⟨0, by omega, by omega, b1, b4, ga, hl, hlo, by omega, fun j _ hj => by omega⟩
 clear b1 b4 ga hl hnx hlt hlt' hk hm h
 rintro m s h ⟨k, hk, hm, c1', c4, ga, hl, hlo, hnx, hinc⟩
 by_cases hlt : k < sv.ps.l.length
 case neg =>
  have hlt' : ¬ ((k : Int) < (sv.ps.l.length : Int)) := by omega
  have e := chk_y (p := SvOk sv) ⟨q1, he, fun x hx => by
   obtain ⟨i, hi, rfl⟩ := List.getElem_of_mem hx
   exact hinc i hi (by omega)⟩
  simp only [↓zp, zv, seval, c1', c4, ga, l2, hlt', e, frzI]
  done
 have hlt' : (k : Int) < (sv.ps.l.length : Int) := by omega
 have hn : ¬ h.nx < h.lo := by omega
 have hb : ¬ g.nx = h.nx := by omega
 have ws := wr_succ (k := k) (by omega)
 have o := r2.ok k hlt
 have n1 := o.us.lens
 have n2 := o.en.lens
 have ia1 := fun h => r_ia_v (h := h) (c := sv.ps) encP_len (by decide) hlt rfl
 simp only [encP] at ia1
 have k1 := fun h => rlate_spec h2 sv.ps.l[k].us.bk (by omega) sv.now h
 have k2 := fun h => rlate_spec h2 sv.ps.l[k].en.bk (by omega) sv.now h
 have bad : lateP sv.now sv.ps.l[k] = true → chk (SvOk sv) = 8 := fun hp => chk_n (fun o => by
  rw [o.lt _ (List.getElem_mem hlt)] at hp
  cases hp)
 by_cases p1 : sv.now < sv.ps.l[k].own.t
 ·have e := bad (by simp only [lateP, p1, decide_true, Bool.true_or])
  simp only [↓zp, zv, seval, c1', c4, ga, l2, hlt', hn, hb, ia1, p1, e, frzI]
  done
 cases p2 : sv.ps.l[k].us.bk.l.any (lateB sv.now)
 case true =>
  have e := bad (by simp only [lateP, p2, Bool.true_or, Bool.or_true])
  simp only [↓zp, zv, seval, c1', c4, ga, l2, hlt', hn, hb, ia1, p1, m2, k1, p2, e, frzI]
  done
 cases p3 : sv.ps.l[k].en.bk.l.any (lateB sv.now)
 case true =>
  have e := bad (by simp only [lateP, p3, Bool.or_true])
  simp only [↓zp, zv, seval, c1', c4, ga, l2, hlt', hn, hb, ia1, p1, m2, k1, p2, k2, p3, e, frzI]
  done
 simp only [↓zp, zv, seval, c1', c4, ga, l2, hlt', hn, hb, ia1, p1, m2, k1, p2, k2, p3, ws]
 refine ⟨_, by omega, k + 1, by omega, rfl, by simp only [zs, seval, c1'], by simp only [zs, seval], by simp only [↓zp, zv, seval, ga, hb], by simp only [Heap.set_lo, Heap.new_lo]; exact hl, hlo, by simp only [Heap.set_nx, Heap.new_nx]; omega, fun j hj hj2 => ?_⟩
 rcases Nat.lt_or_ge j k with r | r
 ·exact hinc j hj r
 ·obtain rfl : j = k := by omega
  simp only [lateP, p1, p2, p3, decide_false, Bool.or_false]
end
end
section
open Go Go.VE Classical
def FzA (h : Heap) (base : Nat) : List V → List V → Prop
 | [], [] => True
 | x :: l, y :: l' => FzV h base 800000 x y ∧ FzA h base l l'
 | _, _ => False
theorem FzA.fz {h : Heap} {base : Nat} : ∀ {l l' : List V}, FzA h base l l' → ∀ n, 800000 + l.length + 1 ≤ n → frzs n h base false l = some l'
 | [], [], _, n, hn => by
  obtain ⟨m, rfl⟩ : ∃ m, n = m + 1 := ⟨n - 1, by omega⟩
  rfl
 | [], _ :: _, f, _, _ => f.elim
 | _ :: _, [], f, _, _ => f.elim
 | x :: l, y :: l', f, n, hn => by
  obtain ⟨m, rfl⟩ : ∃ m, n = m + 1 := ⟨n - 1, by simp only [List.length_cons] at hn; omega⟩
  simp only [List.length_cons] at hn
  rw [frzs, f.1 m (by omega), f.2.fz m (by omega)]
theorem FzA.agg {h : Heap} {base : Nat} {l l' : List V} (f : FzA h base l l') (hl : l.length ≤ 1000) : frz frzFuel h base false (.agg l) = some (.agg l') := by
 show frz (999999 + 1) h base false (.agg l) = _
 rw [frz, f.fz 999999 (by omega), Option.map_some]
theorem FzV.s {h : Heap} {base : Nat} {v : V} (hs : VE.scal v = true) : FzV h base 800000 v v := FzV.le (.scal hs) (by omega)
section
variable {α : Type} {enc : α → List V} {sz bytes : Nat}
def Lv (enc : α → List V) (sz b0 : Nat) (h : Heap) (v : V) (l : List α) : Prop := Own enc sz h v l b0 h.nx
theorem Lv.kp {b0 : Nat} {h h' : Heap} {v : V} {l : List α} (o : Lv enc sz b0 h v l) (k : Kp h h') : Lv enc sz b0 h' v l := by
 rcases o with o | ⟨b, tag, e, h1, h2, h3⟩
 ·exact .inl o
 ·exact .inr ⟨b, tag, e, h1, Nat.lt_of_lt_of_le h2 k.nx, by rw [k.get b h2, h3]⟩
theorem Lv.set {b0 : Nat} {h : Heap} {v : V} {l : List α} (o : Lv enc sz b0 h v l) {b : Nat} {x : Blk} (hb : b < b0) : Lv enc sz b0 (h.set b x) v l := by
 rcases o with o | ⟨b', tag, e, h1, h2, h3⟩
 ·exact .inl o
 ·exact .inr ⟨b', tag, e, h1, h2, by rw [Heap.get_set, if_neg (by omega), h3]⟩
theorem Lv.new {b0 : Nat} {h : Heap} {v : V} {l : List α} (o : Lv enc sz b0 h v l) {x : Blk} : Lv enc sz b0 (h.new x) v l := o.kp ((Kp.refl h).new x)
theorem Lv.fz {b0 base : Nat} {h : Heap} {v : V} {l : List α} (o : Lv enc sz b0 h v l) (he : ∀ x, (enc x).length = sz) (hs : ∀ x, (enc x).all VE.scal = true) (hb : base ≤ b0) (hn : l.length * sz + 4 ≤ 800000) : ∃ c : Sl α, c.l = l ∧ FzV h base 800000 v (c.v enc) := by
 rcases o with ⟨rfl, rfl⟩ | ⟨b, tag, rfl, h1, h2, h3⟩
 ·exact ⟨.nil, rfl, .s rfl⟩
 ·obtain ⟨c, e, f⟩ := FzV.row (h := h) (base := base) (b := b) (c := l.length) he hs (by omega) rfl h3
  exact ⟨c, e, f.le hn⟩
theorem Lv.one {b0 : Nat} {h : Heap} {v : V} {l : List α} (o : Lv enc sz b0 h v l) : oneCell v = true ∧ cellsO v = some [v] := by
 rcases o with ⟨rfl, rfl⟩ | ⟨b, tag, rfl, _⟩
 ·exact ⟨rfl, rfl⟩
 ·exact ⟨rfl, rfl⟩
theorem app_o (he : ∀ x, (enc x).length = sz) {c : Sl α} {b b0 : Nat} {h : Heap} (hb : h.get b = .cells [] .cl) (hbn : b < h.nx) (h0 : b0 ≤ b) (hs : c.l.length * bytes ≤ 140737488355328) :
  ∃ v h', r_app sz bytes (.sl b 0 0 0 sz) (c.v enc) h = some (v, h') ∧ Lv enc sz b0 h' v c.l ∧ Kp h h' ∧ oneCell v = true ∧ cellsO v = some [v] := by
 obtain ⟨b', tag, h', e, h1, h2, h3, k⟩ := app_new (bytes := bytes) he hb hbn hs
 exact ⟨_, h', e, .inr ⟨b', tag, rfl, by omega, h3, h1⟩, k, rfl, rfl⟩
end
theorem apSP {a o n c z b p : Nat} : apartV (.sl a o n c z) (.ptr b p) = !decide (a = b) := by
 show (!(Nat.beq a b)) = _
 rw [beq_dec]
section
variable {vp : Nat → Option VFn}
theorem arTw_spec {f t1 : Nat} (hf : vp f = some (Zzdk t1)) (nx : Sl Int) (us : Sl Bool) (fr : Int) (n1 : nx.l.length ≤ 100) (n2 : us.l.length ≤ 100) (h : Heap) :
  ∃ (nx' : Sl Int) (us' : Sl Bool), callRes vp f [.agg [nx.v eI, us.v eO, .int .i64 fr]] h = some (.agg [nx'.v eI, us'.v eO, .int .i64 fr], h) ∧ nx'.l = nx.l ∧ us'.l = us.l := by
 suffices q : ∃ r, callRes vp f [.agg [nx.v eI, us.v eO, .int .i64 fr]] h = some (r, h) ∧ ∃ (nx' : Sl Int) (us' : Sl Bool), r = .agg [nx'.v eI, us'.v eO, .int .i64 fr] ∧ nx'.l = nx.l ∧ us'.l = us.l by
  obtain ⟨r, e, a, b, rfl, k⟩ := q
  exact ⟨a, b, e, k⟩
 refine res_pure_ex hf rfl rfl (fun g hg => ?_)
 have hlo := hlo hg
 unfold Zzdk
 obtain ⟨v1, H1, e1, o1, k1, s1, t1'⟩ := app_o (bytes := 8) (b0 := g.nx + 2) eI_len (c := nx) (b := g.nx + 2) (h := ((g.new (.cells [nx.v eI, us.v eO, .int .i64 fr] .cl)).new (.cells [.nils, .nils, .int .i64 0] (.ct t1))).new (.cells [] .cl)) (by simp only [Heap.get_new, Heap.new_nx]; rfl) (by simp only [Heap.new_nx]; omega) (by omega) (by omega)
 have x1 := k1.nx
 simp only [Heap.new_nx] at x1
 have a1 : H1.get g.nx = .cells [nx.v eI, us.v eO, .int .i64 fr] .cl := by rw [k1.get _ (by simp only [Heap.new_nx]; omega)]; simp only [↓zp, zv, seval]
 have b1 : H1.get (g.nx + 1) = .cells [.nils, .nils, .int .i64 0] (.ct t1) := by rw [k1.get _ (by simp only [Heap.new_nx]; omega)]; simp only [↓zp, zv, seval]
 have l1 : H1.lo = g.lo := k1.lo
 obtain ⟨v2, H2, e2, o2, k2, s2, t2'⟩ := app_o (bytes := 1) (b0 := g.nx + 2) eO_len (c := us) (b := H1.nx) (h := H1.new (.cells [] .cl)) (by rw [Heap.get_new, if_pos rfl]) (by simp only [Heap.new_nx]; omega) (by omega) (by omega)
 have x2 := k2.nx
 simp only [Heap.new_nx] at x2
 have a2 : H2.get g.nx = .cells [nx.v eI, us.v eO, .int .i64 fr] .cl := by rw [k2.get _ (by simp only [Heap.new_nx]; omega), Heap.get_new, if_neg (by omega), a1]
 have b2 : H2.get (g.nx + 1) = .cells [.nils, .nils, .int .i64 0] (.ct t1) := by rw [k2.get _ (by simp only [Heap.new_nx]; omega), Heap.get_new, if_neg (by omega), b1]
 have l2 : H2.lo = g.lo := k2.lo.trans l1
 have o1 := (o1.new (x := .cells [] .cl)).kp k2
 have z1 : ¬ g.nx + 1 < g.lo := by omega
 have z2 : ¬ g.nx = H1.nx := by omega
 have z3 : ¬ H1.nx = g.nx := by omega
 simp only [↓zp, zv, seval, e1, a1, s1, t1', e2, a2, b2, l2, s2, t2', z1, z2, z3, apSP]
 generalize hH : Heap.set H2 (g.nx + 1) _ = H3
 obtain ⟨c1, d1, f1⟩ := Lv.fz (base := g.nx) (by rw [← hH]; exact o1.set (by omega)) eI_len eI_scal (by omega) (by omega) (h := H3) (v := v1)
 obtain ⟨c2, d2, f2⟩ := Lv.fz (base := g.nx) (by rw [← hH]; exact o2.set (by omega)) eO_len eO_scal (by omega) (by omega) (h := H3) (v := v2)
 exact ⟨_, FzA.agg (l' := [c1.v eI, c2.v eO, .int .i64 fr]) ⟨f1, f2, .s rfl, trivial⟩ (by simp), c1, c2, rfl, d1, d2⟩
end
end
section
open Go Go.VE Classical
theorem apPS {a o n c z b p : Nat} : apartV (.ptr b p) (.sl a o n c z) = !decide (b = a) := by
 show (!(Nat.beq b a)) = _
 rw [beq_dec]
structure TEq (x y : Tab) : Prop where
 cap : y.cap = x.cap
 ks : y.ks.l = x.ks.l
 bk : y.bk.l = x.bk.l
 nx : y.nx.l = x.nx.l
 us : y.us.l = x.us.l
 fr : y.fr = x.fr
 ix : y.ix.l = x.ix.l
 op : y.op.l = x.op.l
 on : y.on.l = x.on.l
 hd : y.hd = x.hd
 tl : y.tl = x.tl
theorem encB_scal (x : Bucket) : (encB x).all VE.scal = true := rfl
theorem sv2 {α : Type} {enc : α → List V} {c : Sl α} : VE.scal (c.v enc) = true := by cases c <;> rfl
section
variable {vp : Nat → Option VFn}
theorem orTw_spec {f t1 : Nat} (hf : vp f = some (Zzdw t1)) (nx us : Sl Int) (hd tl : Int) (n1 : nx.l.length ≤ 100) (n2 : us.l.length ≤ 100) (h : Heap) :
  ∃ (nx' us' : Sl Int), callRes vp f [.agg [nx.v eI, us.v eI, .int .i64 hd, .int .i64 tl]] h = some (.agg [nx'.v eI, us'.v eI, .int .i64 hd, .int .i64 tl], h) ∧ nx'.l = nx.l ∧ us'.l = us.l := by
 suffices q : ∃ r, callRes vp f [.agg [nx.v eI, us.v eI, .int .i64 hd, .int .i64 tl]] h = some (r, h) ∧ ∃ (nx' us' : Sl Int), r = .agg [nx'.v eI, us'.v eI, .int .i64 hd, .int .i64 tl] ∧ nx'.l = nx.l ∧ us'.l = us.l by
  obtain ⟨r, e, a, b, rfl, k⟩ := q
  exact ⟨a, b, e, k⟩
 refine res_pure_ex hf rfl rfl (fun g hg => ?_)
 have hlo := hlo hg
 unfold Zzdw
 obtain ⟨v1, H1, e1, o1, k1, s1, t1'⟩ := app_o (bytes := 8) (b0 := g.nx + 2) eI_len (c := nx) (b := g.nx + 2) (h := ((g.new (.cells [nx.v eI, us.v eI, .int .i64 hd, .int .i64 tl] .cl)).new (.cells [.nils, .nils, .int .i64 0, .int .i64 0] (.ct t1))).new (.cells [] .cl)) (by simp only [Heap.get_new, Heap.new_nx]; rfl) (by simp only [Heap.new_nx]; omega) (by omega) (by omega)
 have x1 := k1.nx
 simp only [Heap.new_nx] at x1
 have a1 : H1.get g.nx = .cells [nx.v eI, us.v eI, .int .i64 hd, .int .i64 tl] .cl := by rw [k1.get _ (by simp only [Heap.new_nx]; omega)]; simp only [↓zp, zv, seval]
 have b1 : H1.get (g.nx + 1) = .cells [.nils, .nils, .int .i64 0, .int .i64 0] (.ct t1) := by rw [k1.get _ (by simp only [Heap.new_nx]; omega)]; simp only [↓zp, zv, seval]
 have l1 : H1.lo = g.lo := k1.lo
 obtain ⟨v2, H2, e2, o2, k2, s2, t2'⟩ := app_o (bytes := 8) (b0 := g.nx + 2) eI_len (c := us) (b := H1.nx) (h := H1.new (.cells [] .cl)) (by rw [Heap.get_new, if_pos rfl]) (by simp only [Heap.new_nx]; omega) (by omega) (by omega)
 have x2 := k2.nx
 simp only [Heap.new_nx] at x2
 have a2 : H2.get g.nx = .cells [nx.v eI, us.v eI, .int .i64 hd, .int .i64 tl] .cl := by rw [k2.get _ (by simp only [Heap.new_nx]; omega), Heap.get_new, if_neg (by omega), a1]
 have b2 : H2.get (g.nx + 1) = .cells [.nils, .nils, .int .i64 0, .int .i64 0] (.ct t1) := by rw [k2.get _ (by simp only [Heap.new_nx]; omega), Heap.get_new, if_neg (by omega), b1]
 have l2 : H2.lo = g.lo := k2.lo.trans l1
 have o1 := (o1.new (x := .cells [] .cl)).kp k2
 have z1 : ¬ g.nx + 1 < g.lo := by omega
 have z2 : ¬ g.nx = H1.nx := by omega
 have z3 : ¬ H1.nx = g.nx := by omega
 simp only [↓zp, zv, seval, e1, a1, s1, t1', e2, a2, b2, l2, s2, t2', z1, z2, z3, apSP]
 generalize hH : Heap.set H2 (g.nx + 1) _ = H3
 obtain ⟨c1, d1, f1⟩ := Lv.fz (base := g.nx) (by rw [← hH]; exact o1.set (by omega)) eI_len eI_scal (by omega) (by omega) (h := H3) (v := v1)
 obtain ⟨c2, d2, f2⟩ := Lv.fz (base := g.nx) (by rw [← hH]; exact o2.set (by omega)) eI_len eI_scal (by omega) (by omega) (h := H3) (v := v2)
 exact ⟨_, FzA.agg (l' := [c1.v eI, c2.v eI, .int .i64 hd, .int .i64 tl]) ⟨f1, f2, .s rfl, .s rfl, trivial⟩ (by simp), c1, c2, rfl, d1, d2⟩
def Sh (t : Tab) : Prop := t.ks.l.length ≤ 100 ∧ t.bk.l.length ≤ 100 ∧ t.nx.l.length ≤ 100 ∧ t.us.l.length ≤ 100 ∧ t.ix.l.length ≤ 100 ∧ t.op.l.length ≤ 100 ∧ t.on.l.length ≤ 100
def zT : List V := [.int .i64 0, .nils, .nils, .nils, .nils, .int .i64 0, .nils, .nils, .nils, .int .i64 0, .int .i64 0]
theorem tbTw_spec {f c1 c2 t1 t2 t3 : Nat} (hf : vp f = some (Zzeb c1 c2 t1)) (h1 : vp c1 = some (Zzdk t2)) (h2 : vp c2 = some (Zzdw t3)) (t : Tab) (sh : Sh t) (h : Heap) :
  ∃ u : Tab, callRes vp f [.agg (encT t)] h = some (.agg (encT u), h) ∧ TEq t u := by
 suffices q : ∃ r, callRes vp f [.agg (encT t)] h = some (r, h) ∧ ∃ u : Tab, r = .agg (encT u) ∧ TEq t u by
  obtain ⟨r, e, a, rfl, k⟩ := q
  exact ⟨a, e, k⟩
 obtain ⟨q1, q2, q3, q4, q5, q6, q7⟩ := sh
 have m1 : modeOf vp c1 = some 1 := mo h1 rfl rfl
 have m2 : modeOf vp c2 = some 1 := mo h2 rfl rfl
 refine res_pure_ex hf rfl rfl (fun g hg => ?_)
 have hlo := hlo hg
 unfold Zzeb
 obtain ⟨v1, H1, e1, o1, k1, s1, t1'⟩ := app_o (bytes := 4) (b0 := g.nx + 2) eK_len (c := t.ks) (b := g.nx + 2) (h := ((g.new (.cells (encT t) .cl)).new (.cells zT (.ct t1))).new (.cells [] .cl)) (by simp only [Heap.get_new, Heap.new_nx]; rfl) (by simp only [Heap.new_nx]; omega) (by omega) (by omega)
 have x1 := k1.nx
 simp only [Heap.new_nx] at x1
 have a1 : H1.get g.nx = .cells (encT t) .cl := by rw [k1.get _ (by simp only [Heap.new_nx]; omega)]; simp only [↓zp, zv, seval]
 have b1 : H1.get (g.nx + 1) = .cells zT (.ct t1) := by rw [k1.get _ (by simp only [Heap.new_nx]; omega)]; simp only [↓zp, zv, seval]
 have l1 : H1.lo = g.lo := k1.lo
 obtain ⟨v2, H2, e2, o2, k2, s2, t2'⟩ := app_o (bytes := 48) (b0 := g.nx + 2) encB_len (c := t.bk) (b := H1.nx) (h := H1.new (.cells [] .cl)) (by rw [Heap.get_new, if_pos rfl]) (by simp only [Heap.new_nx]; omega) (by omega) (by omega)
 have x2 := k2.nx
 simp only [Heap.new_nx] at x2
 have a2 : H2.get g.nx = .cells (encT t) .cl := by rw [k2.get _ (by simp only [Heap.new_nx]; omega), Heap.get_new, if_neg (by omega), a1]
 have b2 : H2.get (g.nx + 1) = .cells zT (.ct t1) := by rw [k2.get _ (by simp only [Heap.new_nx]; omega), Heap.get_new, if_neg (by omega), b1]
 have l2 : H2.lo = g.lo := k2.lo.trans l1
 have o1 := (o1.new (x := .cells [] .cl)).kp k2
 obtain ⟨nx', us', e3, d3, d4⟩ := arTw_spec h1 t.nx t.us t.fr q3 q4 H2
 obtain ⟨v3, H3, e4, o3, k3, s3, t3'⟩ := app_o (bytes := 24) (b0 := g.nx + 2) eC_len (c := t.ix) (b := H2.nx) (h := H2.new (.cells [] .cl)) (by rw [Heap.get_new, if_pos rfl]) (by simp only [Heap.new_nx]; omega) (by omega) (by omega)
 have x3 := k3.nx
 simp only [Heap.new_nx] at x3
 have a3 : H3.get g.nx = .cells (encT t) .cl := by rw [k3.get _ (by simp only [Heap.new_nx]; omega), Heap.get_new, if_neg (by omega), a2]
 have b3 : H3.get (g.nx + 1) = .cells zT (.ct t1) := by rw [k3.get _ (by simp only [Heap.new_nx]; omega), Heap.get_new, if_neg (by omega), b2]
 have l3 : H3.lo = g.lo := k3.lo.trans l2
 have o1 := (o1.new (x := .cells [] .cl)).kp k3
 have o2 := (o2.new (x := .cells [] .cl)).kp k3
 obtain ⟨op', on', e5, d5, d6⟩ := orTw_spec h2 t.op t.on t.hd t.tl q6 q7 H3
 have z1 : ¬ g.nx + 1 < g.lo := by omega
 have z2 : ¬ g.nx = H1.nx := by omega
 have z3 : ¬ H1.nx = g.nx := by omega
 have z4 : ¬ g.nx = H2.nx := by omega
 have z5 : ¬ H2.nx = g.nx := by omega
 unfold encT zT at e1
 unfold encT at a1 a2 a3
 unfold zT at b3
 unfold encT
 simp only [↓zp, zv, seval, e1, a1, s1, t1', e2, a2, s2, t2', m1, e3, e4, a3, b3, l3, s3, t3', m2, e5, z1, z2, z3, z4, z5, apSP, apPS]
 generalize hH : Heap.set H3 (g.nx + 1) _ = H4
 obtain ⟨w1, y1, f1⟩ := Lv.fz (base := g.nx) (by rw [← hH]; exact o1.set (by omega)) eK_len eK_scal (by omega) (by omega) (h := H4) (v := v1)
 obtain ⟨w2, y2, f2⟩ := Lv.fz (base := g.nx) (by rw [← hH]; exact o2.set (by omega)) encB_len encB_scal (by omega) (by omega) (h := H4) (v := v2)
 obtain ⟨w3, y3, f3⟩ := Lv.fz (base := g.nx) (by rw [← hH]; exact o3.set (by omega)) eC_len eC_scal (by omega) (by omega) (h := H4) (v := v3)
 exact ⟨_, FzA.agg (l' := encT ⟨t.cap, w1, w2, nx', us', t.fr, w3, op', on', t.hd, t.tl⟩) ⟨.s rfl, f1, f2, .s sv2, .s sv2, .s rfl, f3, .s sv2, .s sv2, .s rfl, .s rfl, trivial⟩ (by simp), ⟨t.cap, w1, w2, nx', us', t.fr, w3, op', on', t.hd, t.tl⟩, rfl, rfl, y1, y2, d3, d4, rfl, y3, d5, d6, rfl, rfl⟩
structure PEq (x y : Part) : Prop where
 t : y.t = x.t
 l0 : y.l0 = x.l0
 l1 : y.l1 = x.l1
 l2 : y.l2 = x.l2
 own : y.own = x.own
 us : TEq x.us y.us
 en : TEq x.en y.en
 rev : y.rev.l = x.rev.l
 n0 : y.n0 = x.n0
 n1 : y.n1 = x.n1
 n2 : y.n2 = x.n2
def zP : List V := [.int .u32 0, .int .i64 0, .int .i64 0, .int .i64 0, .int .i64 0, .int .i64 0, .int .i64 0, .int .i64 0, .int .i64 0, .int .i64 0, .int .i64 0, .int .i64 0, .int .i64 0, .int .i64 0, .int .i64 0, .int .u64 0, .int .i64 0, .nils, .nils, .nils, .nils, .int .i64 0, .nils, .nils, .nils, .int .i64 0, .int .i64 0, .int .i64 0, .nils, .nils, .nils, .nils, .int .i64 0, .nils, .nils, .nils, .int .i64 0, .int .i64 0, .nils, .int .u64 0, .int .u64 0, .int .u64 0]
def encPv (p : Part) (r : V) : List V := [.int .u32 p.t, .int .i64 p.l0.b, .int .i64 p.l0.r, .int .i64 p.l0.p, .int .i64 p.l1.b, .int .i64 p.l1.r, .int .i64 p.l1.p, .int .i64 p.l2.b, .int .i64 p.l2.r, .int .i64 p.l2.p,
 .int .i64 p.own.l.b, .int .i64 p.own.l.r, .int .i64 p.own.l.p, .int .i64 p.own.lv, .int .i64 p.own.pt, .int .u64 p.own.t,
 .int .i64 p.us.cap, p.us.ks.v eK, p.us.bk.v encB, p.us.nx.v eI, p.us.us.v eO, .int .i64 p.us.fr, p.us.ix.v eC, p.us.op.v eI, p.us.on.v eI, .int .i64 p.us.hd, .int .i64 p.us.tl,
 .int .i64 p.en.cap, p.en.ks.v eK, p.en.bk.v encB, p.en.nx.v eI, p.en.us.v eO, .int .i64 p.en.fr, p.en.ix.v eC, p.en.op.v eI, p.en.on.v eI, .int .i64 p.en.hd, .int .i64 p.en.tl,
 r, .int .u64 p.n0, .int .u64 p.n1, .int .u64 p.n2]
theorem fzPv {h : Heap} {base : Nat} (p : Part) {r : V} {c : Sl Int} (f : FzV h base 800000 r (c.v e32)) : frz frzFuel h base false (.agg (encPv p r)) = some (.agg (encPv p (c.v e32))) := by
 refine FzA.agg ?_ (by simp [encPv])
 unfold encPv
 refine ⟨.s rfl, .s rfl, .s rfl, .s rfl, .s rfl, .s rfl, .s rfl, .s rfl, .s rfl, .s rfl, .s rfl, .s rfl, .s rfl, .s rfl, .s rfl, .s rfl, .s rfl, .s sv2, .s sv2, .s sv2, .s sv2, .s rfl, .s sv2, .s sv2, .s sv2, .s rfl, .s rfl, .s rfl, .s sv2, .s sv2, .s sv2, .s sv2, .s rfl, .s sv2, .s sv2, .s sv2, .s rfl, .s rfl, f, .s rfl, .s rfl, .s rfl, trivial⟩
theorem ptTw_spec {f c0 c1 c2 t0 t1 t2 t3 : Nat} (hf : vp f = some (Zzeh c0 t0)) (h0 : vp c0 = some (Zzeb c1 c2 t1)) (h1 : vp c1 = some (Zzdk t2)) (h2 : vp c2 = some (Zzdw t3)) (x : Part) (su : Sh x.us) (se : Sh x.en) (sr : x.rev.l.length ≤ 100) (h : Heap) :
  ∃ y : Part, callRes vp f [.agg (encP x)] h = some (.agg (encP y), h) ∧ PEq x y := by
 suffices q : ∃ r, callRes vp f [.agg (encP x)] h = some (r, h) ∧ ∃ y : Part, r = .agg (encP y) ∧ PEq x y by
  obtain ⟨r, e, a, rfl, k⟩ := q
  exact ⟨a, e, k⟩
 have m0 : modeOf vp c0 = some 1 := mo h0 rfl rfl
 refine res_pure_ex hf rfl rfl (fun g hg => ?_)
 have hlo := hlo hg
 unfold Zzeh
 obtain ⟨u, e1, d1⟩ := tbTw_spec h0 h1 h2 x.us su ((((g.new (.cells (encP x) .cl)).new (.cells zP (.ct t0))).new (.cells zP (.ct t0))).set (g.nx + 2) (.cells (encP x) (.ct t0)))
 obtain ⟨w, e2, d2⟩ := tbTw_spec h0 h1 h2 x.en se (((((g.new (.cells (encP x) .cl)).new (.cells zP (.ct t0))).new (.cells zP (.ct t0))).set (g.nx + 2) (.cells (encP x) (.ct t0))).set (g.nx + 2) (.cells (encP { x with us := u }) (.ct t0)))
 obtain ⟨v1, H1, e3, o1, k1, s1, t1'⟩ := app_o (bytes := 4) (b0 := g.nx + 3) e32_len (c := x.rev) (b := g.nx + 3) (h := ((((((g.new (.cells (encP x) .cl)).new (.cells zP (.ct t0))).new (.cells zP (.ct t0))).set (g.nx + 2) (.cells (encP x) (.ct t0))).set (g.nx + 2) (.cells (encP { x with us := u }) (.ct t0))).set (g.nx + 2) (.cells (encP { x with us := u, en := w }) (.ct t0))).new (.cells [] .cl)) (by simp only [Heap.get_new, Heap.new_nx, Heap.set_nx, Nat.add_assoc, Nat.reduceAdd, if_true]) (by simp only [Heap.new_nx, Heap.set_nx]; omega) (by omega) (by omega)
 have x1 := k1.nx
 simp only [Heap.new_nx, Heap.set_nx] at x1
 have a1 : H1.get g.nx = .cells (encP x) .cl := by rw [k1.get _ (by simp only [Heap.new_nx, Heap.set_nx]; omega)]; simp only [↓zp, zv, seval]
 have b1 : H1.get (g.nx + 1) = .cells zP (.ct t0) := by rw [k1.get _ (by simp only [Heap.new_nx, Heap.set_nx]; omega)]; simp only [↓zp, zv, seval]
 have b2 : H1.get (g.nx + 2) = .cells (encP { x with us := u, en := w }) (.ct t0) := by rw [k1.get _ (by simp only [Heap.new_nx, Heap.set_nx]; omega)]; simp only [↓zp, zv, seval]
 have l1 : H1.lo = g.lo := k1.lo
 have z1 : ¬ g.nx + 1 < g.lo := by omega
 have z2 : ¬ g.nx + 2 < g.lo := by omega
 simp only [encP, encT, zP, Nat.add_assoc, Nat.reduceAdd] at e1 e2 e3 a1 b1 b2
 simp only [encP]
 simp only [↓zp, zv, seval, z1, z2, m0, e1, e2, e3, a1, b1, b2, l1, s1, t1']
 generalize hH : Heap.set (Heap.set H1 _ _) _ _ = H2
 obtain ⟨c1, d3, f1⟩ := Lv.fz (base := g.nx) (by rw [← hH]; exact (o1.set (by omega)).set (by omega)) e32_len e32_scal (by omega) (by omega) (h := H2) (v := v1)
 exact ⟨_, fzPv { x with us := u, en := w } f1, { x with us := u, en := w, rev := c1 }, rfl, rfl, rfl, rfl, rfl, rfl, d1, d2, d3, rfl, rfl, rfl⟩
end
end
end Go.VE.LB
