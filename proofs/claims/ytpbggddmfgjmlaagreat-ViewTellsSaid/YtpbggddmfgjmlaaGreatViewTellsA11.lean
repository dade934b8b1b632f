/- What the functions of the law ViewTells compute, on typed arguments (part 11). -/
import Derived.Test.YtpbggddmfgjmlaaGreatViewTellsA9
import Derived.Test.YtpbggddmfgjmlaaGreatViewTellsA1
set_option linter.all false
namespace Go.VE.LB
set_option maxRecDepth 100000
set_option maxHeartbeats 4000000
section
open Go Go.VE Classical
theorem mq {vp : Nat → Option VFn} {i : Nat} {fn : VFn} (h : vp i = some fn) (hp : fn.prim = none) (hm : fn.mode = 1) : modeOf vp i = some 1 := by simp [modeOf, h, hp, hm]
theorem k32_ext {x y : K32} (h : x.a = y.a) : x = y := by
 cases x
 cases y
 simp only at h
 subst h
 rfl
theorem eqCC {x y : Cell} {neg : Bool} {h : Heap} : r_eqa neg [0, 0, 1] (.agg [.int .u32 (x.k.a : Int), .int .i64 x.p, .bool x.u]) (.agg [.int .u32 (y.k.a : Int), .int .i64 y.p, .bool y.u]) h = some (.bool (bif neg then !decide (x = y) else decide (x = y)), h) := by
 obtain ⟨⟨a, ha⟩, p, u⟩ := x
 obtain ⟨⟨b, hb⟩, q, w⟩ := y
 have e : decide ((⟨⟨a, ha⟩, p, u⟩ : Cell) = ⟨⟨b, hb⟩, q, w⟩) = (decide ((a : Int) = (b : Int)) && (decide (p = q) && decide (u = w))) := by
  by_cases h1 : a = b
  ·subst h1
   simp
  ·have h2 : ¬ ((a : Int) = (b : Int)) := by omega
   simp [h1, h2]
 rw [e]
 cases h1 : decide ((a : Int) = (b : Int)) <;> cases h2 : decide (p = q) <;> cases u <;> cases w <;> cases neg <;> simp only [r_eqa, eqCells, eqK, kEq_refl, eqI_dec, cond_true, h1, h2, beq_dec, List.length_cons, List.length_nil, decide_true, Bool.and_self] <;> rfl
section
variable {vp : Nat → Option VFn}
def inveU (a b : Sl K32) (H : Heap) (m : Nat) (s : Slots) (h : Heap) : Prop :=
 ∃ k, k ≤ a.l.length ∧ m = a.l.length - k ∧ s.at 0 = a.v eK ∧ s.at 1 = b.v eK ∧ s.at 12 = .int .i64 (a.l.length : Int) ∧ s.at 13 = .int .i64 (k : Int) ∧ h = H ∧ ∀ j (h1 : j < a.l.length) (h2 : j < b.l.length), j < k → a.l[j] = b.l[j]
theorem eU_spec {f : Nat} (hf : vp f = some Zzch) (a b : Sl K32) (h : Heap) (hn : a.l.length < 4611686018427387904) : callRes vp f [a.v eK, b.v eK] h = some (.bool (decide (a.l = b.l)), h) := by
 refine res_pure hf rfl rfl (fun g hg => ?_)
 unfold Zzch
 by_cases ql : a.l.length = b.l.length
 case neg =>
  have ql' : ¬ ((a.l.length : Int) = (b.l.length : Int)) := by omega
  have e : decide (a.l = b.l) = false := decide_eq_false (fun e => ql (by rw [e]))
  simp only [↓zp, zv, seval, ql', not_false_eq_true, e, frzB]
  done
 have ql' : ((a.l.length : Int) = (b.l.length : Int)) = True := eq_true (by omega)
 simp only [↓zp, zv, seval, ql', not_true]
 generalize hS : Tr.set _ 13 _ = S
 have b0 : Slots.at S 0 = a.v eK := by rw [← hS]; simp only [zs, seval]
 have b1 : Slots.at S 1 = b.v eK := by rw [← hS]; simp only [zs, seval]
 have b12 : Slots.at S 12 = .int .i64 (a.l.length : Int) := by rw [← hS]; simp only [zs, seval]
 have bI : Slots.at S 13 = .int .i64 ((0 : Nat) : Int) := by rw [← hS]; simp only [zs, seval] <;> rfl
 clear hS
 refine loop_ind (fun m s h => inveU a b g m s h) ?_ a.l.length ⟨0, by omega, by omega, b0, b1, b12, bI, rfl, fun j _ _ hj => by omega⟩
 rintro m s h ⟨k, hk, hm, c0, c1, c12, cI, rfl, hinc⟩
 by_cases hlt : k < a.l.length
 case neg =>
  have hlt' : ¬ ((k : Int) < (a.l.length : Int)) := by omega
  have e : decide (a.l = b.l) = true := decide_eq_true (List.ext_getElem ql (fun j h1 h2 => hinc j h1 h2 (by omega)))
  simp only [↓zp, zv, seval, c0, c1, c12, cI, hlt', e, frzB]
  done
 have hlt' : (k : Int) < (a.l.length : Int) := by omega
 have hb : k < b.l.length := by omega
 have ws := wr_succ (k := k) (by omega)
 have ia1 := fun h => r_ia_v (h := h) (c := a) eK_len (by decide) hlt rfl
 have ia2 := fun h => r_ia_v (h := h) (c := b) eK_len (by decide) hb rfl
 simp only [eK] at ia1 ia2
 by_cases q : a.l[k] = b.l[k]
 ·have q' : ((a.l[k].a : Int) = (b.l[k].a : Int)) = True := eq_true (by rw [q])
  simp only [↓zp, zv, seval, c0, c1, c12, cI, hlt', ia1, ia2, not_true, not_false_eq_true, q', ws]
  refine ⟨_, by omega, k + 1, by omega, rfl, by simp only [zs, seval, c0], by simp only [zs, seval, c1], by simp only [zs, seval, c12], by simp only [zs, seval], rfl, fun j h1 h2 hj => ?_⟩
  rcases Nat.lt_or_ge j k with r | r
  ·exact hinc j h1 h2 r
  ·obtain rfl : j = k := by omega
   exact q
 ·have q' : ¬ ((a.l[k].a : Int) = (b.l[k].a : Int)) := fun e => q (k32_ext (by omega))
  have e : decide (a.l = b.l) = false := decide_eq_false (fun e => q (by simp only [e]))
  simp only [↓zp, zv, seval, c0, c1, c12, cI, hlt', ia1, ia2, not_true, not_false_eq_true, q', e, frzB]
def inveV (a b : Sl Int) (H : Heap) (m : Nat) (s : Slots) (h : Heap) : Prop :=
 ∃ k, k ≤ a.l.length ∧ m = a.l.length - k ∧ s.at 0 = a.v e32 ∧ s.at 1 = b.v e32 ∧ s.at 12 = .int .i64 (a.l.length : Int) ∧ s.at 13 = .int .i64 (k : Int) ∧ h = H ∧ ∀ j (h1 : j < a.l.length) (h2 : j < b.l.length), j < k → a.l[j] = b.l[j]
theorem eV_spec {f : Nat} (hf : vp f = some Zzch) (a b : Sl Int) (h : Heap) (hn : a.l.length < 4611686018427387904) : callRes vp f [a.v e32, b.v e32] h = some (.bool (decide (a.l = b.l)), h) := by
 refine res_pure hf rfl rfl (fun g hg => ?_)
 unfold Zzch
 by_cases ql : a.l.length = b.l.length
 case neg =>
  have ql' : ¬ ((a.l.length : Int) = (b.l.length : Int)) := by omega
  have e : decide (a.l = b.l) = false := decide_eq_false (fun e => ql (by rw [e]))
  simp only [↓zp, zv, seval, ql', not_false_eq_true, e, frzB]
  done
 have ql' : ((a.l.length : Int) = (b.l.length : Int)) = True := eq_true (by omega)
 simp only [↓zp, zv, seval, ql', not_true]
 generalize hS : Tr.set _ 13 _ = S
 have b0 : Slots.at S 0 = a.v e32 := by rw [← hS]; simp only [zs, seval]
 have b1 : Slots.at S 1 = b.v e32 := by rw [← hS]; simp only [zs, seval]
 have b12 : Slots.at S 12 = .int .i64 (a.l.length : Int) := by rw [← hS]; simp only [zs, seval]
 have bI : Slots.at S 13 = .int .i64 ((0 : Nat) : Int) := by rw [← hS]; simp only [zs, seval] <;> rfl
 clear hS
 refine loop_ind (fun m s h => inveV a b g m s h) ?_ a.l.length ⟨0, by omega, by omega, b0, b1, b12, bI, rfl, fun j _ _ hj => by omega⟩
 rintro m s h ⟨k, hk, hm, c0, c1, c12, cI, rfl, hinc⟩
 by_cases hlt : k < a.l.length
 case neg =>
  have hlt' : ¬ ((k : Int) < (a.l.length : Int)) := by omega
  have e : decide (a.l = b.l) = true := decide_eq_true (List.ext_getElem ql (fun j h1 h2 => hinc j h1 h2 (by omega)))
  simp only [↓zp, zv, seval, c0, c1, c12, cI, hlt', e, frzB]
  done
 have hlt' : (k : Int) < (a.l.length : Int) := by omega
 have hb : k < b.l.length := by omega
 have ws := wr_succ (k := k) (by omega)
 have ia1 := fun h => r_ia_v (h := h) (c := a) e32_len (by decide) hlt rfl
 have ia2 := fun h => r_ia_v (h := h) (c := b) e32_len (by decide) hb rfl
 simp only [e32] at ia1 ia2
 by_cases q : a.l[k] = b.l[k]
 ·have q' : (a.l[k] = b.l[k]) = True := eq_true q
  simp only [↓zp, zv, seval, c0, c1, c12, cI, hlt', ia1, ia2, not_true, not_false_eq_true, q', ws]
  refine ⟨_, by omega, k + 1, by omega, rfl, by simp only [zs, seval, c0], by simp only [zs, seval, c1], by simp only [zs, seval, c12], by simp only [zs, seval], rfl, fun j h1 h2 hj => ?_⟩
  rcases Nat.lt_or_ge j k with r | r
  ·exact hinc j h1 h2 r
  ·obtain rfl : j = k := by omega
   exact q
 ·have q' := q
  have e : decide (a.l = b.l) = false := decide_eq_false (fun e => q (by simp only [e]))
  simp only [↓zp, zv, seval, c0, c1, c12, cI, hlt', ia1, ia2, not_true, not_false_eq_true, q', e, frzB]
def inveN (a b : Sl Int) (H : Heap) (m : Nat) (s : Slots) (h : Heap) : Prop :=
 ∃ k, k ≤ a.l.length ∧ m = a.l.length - k ∧ s.at 0 = a.v eI ∧ s.at 1 = b.v eI ∧ s.at 12 = .int .i64 (a.l.length : Int) ∧ s.at 13 = .int .i64 (k : Int) ∧ h = H ∧ ∀ j (h1 : j < a.l.length) (h2 : j < b.l.length), j < k → a.l[j] = b.l[j]
theorem eN_spec {f : Nat} (hf : vp f = some Zzcg) (a b : Sl Int) (h : Heap) (hn : a.l.length < 4611686018427387904) : callRes vp f [a.v eI, b.v eI] h = some (.bool (decide (a.l = b.l)), h) := by
 refine res_pure hf rfl rfl (fun g hg => ?_)
 unfold Zzcg
 by_cases ql : a.l.length = b.l.length
 case neg =>
  have ql' : ¬ ((a.l.length : Int) = (b.l.length : Int)) := by omega
  have e : decide (a.l = b.l) = false := decide_eq_false (fun e => ql (by rw [e]))
  simp only [↓zp, zv, seval, ql', not_false_eq_true, e, frzB]
  done
 have ql' : ((a.l.length : Int) = (b.l.length : Int)) = True := eq_true (by omega)
 simp only [↓zp, zv, seval, ql', not_true]
 generalize hS : Tr.set _ 13 _ = S
 have b0 : Slots.at S 0 = a.v eI := by rw [← hS]; simp only [zs, seval]
 have b1 : Slots.at S 1 = b.v eI := by rw [← hS]; simp only [zs, seval]
 have b12 : Slots.at S 12 = .int .i64 (a.l.length : Int) := by rw [← hS]; simp only [zs, seval]
 have bI : Slots.at S 13 = .int .i64 ((0 : Nat) : Int) := by rw [← hS]; simp only [zs, seval] <;> rfl
 clear hS
 refine loop_ind (fun m s h => inveN a b g m s h) ?_ a.l.length ⟨0, by omega, by omega, b0, b1, b12, bI, rfl, fun j _ _ hj => by omega⟩
 rintro m s h ⟨k, hk, hm, c0, c1, c12, cI, rfl, hinc⟩
 by_cases hlt : k < a.l.length
 case neg =>
  have hlt' : ¬ ((k : Int) < (a.l.length : Int)) := by omega
  have e : decide (a.l = b.l) = true := decide_eq_true (List.ext_getElem ql (fun j h1 h2 => hinc j h1 h2 (by omega)))
  simp only [↓zp, zv, seval, c0, c1, c12, cI, hlt', e, frzB]
  done
 have hlt' : (k : Int) < (a.l.length : Int) := by omega
 have hb : k < b.l.length := by omega
 have ws := wr_succ (k := k) (by omega)
 have ia1 := fun h => r_ia_v (h := h) (c := a) eI_len (by decide) hlt rfl
 have ia2 := fun h => r_ia_v (h := h) (c := b) eI_len (by decide) hb rfl
 simp only [eI] at ia1 ia2
 by_cases q : a.l[k] = b.l[k]
 ·have q' : (a.l[k] = b.l[k]) = True := eq_true q
  simp only [↓zp, zv, seval, c0, c1, c12, cI, hlt', ia1, ia2, not_true, not_false_eq_true, q', ws]
  refine ⟨_, by omega, k + 1, by omega, rfl, by simp only [zs, seval, c0], by simp only [zs, seval, c1], by simp only [zs, seval, c12], by simp only [zs, seval], rfl, fun j h1 h2 hj => ?_⟩
  rcases Nat.lt_or_ge j k with r | r
  ·exact hinc j h1 h2 r
  ·obtain rfl : j = k := by omega
   exact q
 ·have q' := q
  have e : decide (a.l = b.l) = false := decide_eq_false (fun e => q (by simp only [e]))
  simp only [↓zp, zv, seval, c0, c1, c12, cI, hlt', ia1, ia2, not_true, not_false_eq_true, q', e, frzB]
def inveB (a b : Sl Bucket) (H : Heap) (m : Nat) (s : Slots) (h : Heap) : Prop :=
 ∃ k, k ≤ a.l.length ∧ m = a.l.length - k ∧ s.at 0 = a.v encB ∧ s.at 1 = b.v encB ∧ s.at 12 = .int .i64 (a.l.length : Int) ∧ s.at 13 = .int .i64 (k : Int) ∧ h = H ∧ ∀ j (h1 : j < a.l.length) (h2 : j < b.l.length), j < k → a.l[j] = b.l[j]
theorem eB_spec {f : Nat} (hf : vp f = some Zzcd) (a b : Sl Bucket) (h : Heap) (hn : a.l.length < 4611686018427387904) : callRes vp f [a.v encB, b.v encB] h = some (.bool (decide (a.l = b.l)), h) := by
 refine res_pure hf rfl rfl (fun g hg => ?_)
 unfold Zzcd
 by_cases ql : a.l.length = b.l.length
 case neg =>
  have ql' : ¬ ((a.l.length : Int) = (b.l.length : Int)) := by omega
  have e : decide (a.l = b.l) = false := decide_eq_false (fun e => ql (by rw [e]))
  simp only [↓zp, zv, seval, ql', not_false_eq_true, e, frzB]
  done
 have ql' : ((a.l.length : Int) = (b.l.length : Int)) = True := eq_true (by omega)
 simp only [↓zp, zv, seval, ql', not_true]
 generalize hS : Tr.set _ 13 _ = S
 have b0 : Slots.at S 0 = a.v encB := by rw [← hS]; simp only [zs, seval]
 have b1 : Slots.at S 1 = b.v encB := by rw [← hS]; simp only [zs, seval]
 have b12 : Slots.at S 12 = .int .i64 (a.l.length : Int) := by rw [← hS]; simp only [zs, seval]
 have bI : Slots.at S 13 = .int .i64 ((0 : Nat) : Int) := by rw [← hS]; simp only [zs, seval] <;> rfl
 clear hS
 refine loop_ind (fun m s h => inveB a b g m s h) ?_ a.l.length ⟨0, by omega, by omega, b0, b1, b12, bI, rfl, fun j _ _ hj => by omega⟩
 rintro m s h ⟨k, hk, hm, c0, c1, c12, cI, rfl, hinc⟩
 by_cases hlt : k < a.l.length
 case neg =>
  have hlt' : ¬ ((k : Int) < (a.l.length : Int)) := by omega
  have e : decide (a.l = b.l) = true := decide_eq_true (List.ext_getElem ql (fun j h1 h2 => hinc j h1 h2 (by omega)))
  simp only [↓zp, zv, seval, c0, c1, c12, cI, hlt', e, frzB]
  done
 have hlt' : (k : Int) < (a.l.length : Int) := by omega
 have hb : k < b.l.length := by omega
 have ws := wr_succ (k := k) (by omega)
 have ia1 := fun h => r_ia_v (h := h) (c := a) encB_len (by decide) hlt rfl
 have ia2 := fun h => r_ia_v (h := h) (c := b) encB_len (by decide) hb rfl
 simp only [encB] at ia1 ia2
 by_cases q : a.l[k] = b.l[k]
 ·have q' := decide_eq_true q
  simp only [↓zp, zv, seval, c0, c1, c12, cI, hlt', ia1, ia2, eqB, q', ws]
  refine ⟨_, by omega, k + 1, by omega, rfl, by simp only [zs, seval, c0], by simp only [zs, seval, c1], by simp only [zs, seval, c12], by simp only [zs, seval], rfl, fun j h1 h2 hj => ?_⟩
  rcases Nat.lt_or_ge j k with r | r
  ·exact hinc j h1 h2 r
  ·obtain rfl : j = k := by omega
   exact q
 ·have q' := decide_eq_false q
  have e : decide (a.l = b.l) = false := decide_eq_false (fun e => q (by simp only [e]))
  simp only [↓zp, zv, seval, c0, c1, c12, cI, hlt', ia1, ia2, eqB, q', e, frzB]
def inveCe (a b : Sl Cell) (H : Heap) (m : Nat) (s : Slots) (h : Heap) : Prop :=
 ∃ k, k ≤ a.l.length ∧ m = a.l.length - k ∧ s.at 0 = a.v eC ∧ s.at 1 = b.v eC ∧ s.at 12 = .int .i64 (a.l.length : Int) ∧ s.at 13 = .int .i64 (k : Int) ∧ h = H ∧ ∀ j (h1 : j < a.l.length) (h2 : j < b.l.length), j < k → a.l[j] = b.l[j]
theorem eCe_spec {f : Nat} (hf : vp f = some Zzce) (a b : Sl Cell) (h : Heap) (hn : a.l.length < 4611686018427387904) : callRes vp f [a.v eC, b.v eC] h = some (.bool (decide (a.l = b.l)), h) := by
 refine res_pure hf rfl rfl (fun g hg => ?_)
 unfold Zzce
 by_cases ql : a.l.length = b.l.length
 case neg =>
  have ql' : ¬ ((a.l.length : Int) = (b.l.length : Int)) := by omega
  have e : decide (a.l = b.l) = false := decide_eq_false (fun e => ql (by rw [e]))
  simp only [↓zp, zv, seval, ql', not_false_eq_true, e, frzB]
  done
 have ql' : ((a.l.length : Int) = (b.l.length : Int)) = True := eq_true (by omega)
 simp only [↓zp, zv, seval, ql', not_true]
 generalize hS : Tr.set _ 13 _ = S
 have b0 : Slots.at S 0 = a.v eC := by rw [← hS]; simp only [zs, seval]
 have b1 : Slots.at S 1 = b.v eC := by rw [← hS]; simp only [zs, seval]
 have b12 : Slots.at S 12 = .int .i64 (a.l.length : Int) := by rw [← hS]; simp only [zs, seval]
 have bI : Slots.at S 13 = .int .i64 ((0 : Nat) : Int) := by rw [← hS]; simp only [zs, seval] <;> rfl
 clear hS
 refine loop_ind (fun m s h => inveCe a b g m s h) ?_ a.l.length ⟨0, by omega, by omega, b0, b1, b12, bI, rfl, fun j _ _ hj => by omega⟩
 rintro m s h ⟨k, hk, hm, c0, c1, c12, cI, rfl, hinc⟩
 by_cases hlt : k < a.l.length
 case neg =>
  have hlt' : ¬ ((k : Int) < (a.l.length : Int)) := by omega
  have e : decide (a.l = b.l) = true := decide_eq_true (List.ext_getElem ql (fun j h1 h2 => hinc j h1 h2 (by omega)))
  simp only [↓zp, zv, seval, c0, c1, c12, cI, hlt', e, frzB]
  done
 have hlt' : (k : Int) < (a.l.length : Int) := by omega
 have hb : k < b.l.length := by omega
 have ws := wr_succ (k := k) (by omega)
 have ia1 := fun h => r_ia_v (h := h) (c := a) eC_len (by decide) hlt rfl
 have ia2 := fun h => r_ia_v (h := h) (c := b) eC_len (by decide) hb rfl
 simp only [eC] at ia1 ia2
 by_cases q : a.l[k] = b.l[k]
 ·have q' := decide_eq_true q
  simp only [↓zp, zv, seval, c0, c1, c12, cI, hlt', ia1, ia2, eqCC, q', ws]
  refine ⟨_, by omega, k + 1, by omega, rfl, by simp only [zs, seval, c0], by simp only [zs, seval, c1], by simp only [zs, seval, c12], by simp only [zs, seval], rfl, fun j h1 h2 hj => ?_⟩
  rcases Nat.lt_or_ge j k with r | r
  ·exact hinc j h1 h2 r
  ·obtain rfl : j = k := by omega
   exact q
 ·have q' := decide_eq_false q
  have e : decide (a.l = b.l) = false := decide_eq_false (fun e => q (by simp only [e]))
  simp only [↓zp, zv, seval, c0, c1, c12, cI, hlt', ia1, ia2, eqCC, q', e, frzB]
def inveBo (a b : Sl Bool) (H : Heap) (m : Nat) (s : Slots) (h : Heap) : Prop :=
 ∃ k, k ≤ a.l.length ∧ m = a.l.length - k ∧ s.at 0 = a.v eO ∧ s.at 1 = b.v eO ∧ s.at 12 = .int .i64 (a.l.length : Int) ∧ s.at 13 = .int .i64 (k : Int) ∧ h = H ∧ ∀ j (h1 : j < a.l.length) (h2 : j < b.l.length), j < k → a.l[j] = b.l[j]
theorem eBo_spec {f : Nat} (hf : vp f = some Zzcf) (a b : Sl Bool) (h : Heap) (hn : a.l.length < 4611686018427387904) : callRes vp f [a.v eO, b.v eO] h = some (.bool (decide (a.l = b.l)), h) := by
 refine res_pure hf rfl rfl (fun g hg => ?_)
 unfold Zzcf
 by_cases ql : a.l.length = b.l.length
 case neg =>
  have ql' : ¬ ((a.l.length : Int) = (b.l.length : Int)) := by omega
  have e : decide (a.l = b.l) = false := decide_eq_false (fun e => ql (by rw [e]))
  simp only [↓zp, zv, seval, ql', not_false_eq_true, e, frzB]
  done
 have ql' : ((a.l.length : Int) = (b.l.length : Int)) = True := eq_true (by omega)
 simp only [↓zp, zv, seval, ql', not_true]
 generalize hS : Tr.set _ 13 _ = S
 have b0 : Slots.at S 0 = a.v eO := by rw [← hS]; simp only [zs, seval]
 have b1 : Slots.at S 1 = b.v eO := by rw [← hS]; simp only [zs, seval]
 have b12 : Slots.at S 12 = .int .i64 (a.l.length : Int) := by rw [← hS]; simp only [zs, seval]
 have bI : Slots.at S 13 = .int .i64 ((0 : Nat) : Int) := by rw [← hS]; simp only [zs, seval] <;> rfl
 clear hS
 refine loop_ind (fun m s h => inveBo a b g m s h) ?_ a.l.length ⟨0, by omega, by omega, b0, b1, b12, bI, rfl, fun j _ _ hj => by omega⟩
 rintro m s h ⟨k, hk, hm, c0, c1, c12, cI, rfl, hinc⟩
 by_cases hlt : k < a.l.length
 case neg =>
  have hlt' : ¬ ((k : Int) < (a.l.length : Int)) := by omega
  have e : decide (a.l = b.l) = true := decide_eq_true (List.ext_getElem ql (fun j h1 h2 => hinc j h1 h2 (by omega)))
  simp only [↓zp, zv, seval, c0, c1, c12, cI, hlt', e, frzB]
  done
 have hlt' : (k : Int) < (a.l.length : Int) := by omega
 have hb : k < b.l.length := by omega
 have ws := wr_succ (k := k) (by omega)
 have ia1 := fun h => r_ia_v (h := h) (c := a) eO_len (by decide) hlt rfl
 have ia2 := fun h => r_ia_v (h := h) (c := b) eO_len (by decide) hb rfl
 simp only [eO] at ia1 ia2
 by_cases q : a.l[k] = b.l[k]
 ·have q' : (a.l[k] == b.l[k]) = true := by rw [q]; exact beq_self_eq_true _
  simp only [↓zp, zv, seval, c0, c1, c12, cI, hlt', ia1, ia2, bne_self_eq_false, Bool.not_true, Bool.not_false, q', ws]
  refine ⟨_, by omega, k + 1, by omega, rfl, by simp only [zs, seval, c0], by simp only [zs, seval, c1], by simp only [zs, seval, c12], by simp only [zs, seval], rfl, fun j h1 h2 hj => ?_⟩
  rcases Nat.lt_or_ge j k with r | r
  ·exact hinc j h1 h2 r
  ·obtain rfl : j = k := by omega
   exact q
 ·have q' : (a.l[k] == b.l[k]) = false := by
   cases h : (a.l[k] == b.l[k])
   ·rfl
   ·exact absurd (eq_of_beq h) q
  have e : decide (a.l = b.l) = false := decide_eq_false (fun e => q (by simp only [e]))
  simp only [↓zp, zv, seval, c0, c1, c12, cI, hlt', ia1, ia2, bne_self_eq_false, Bool.not_true, Bool.not_false, q', e, frzB]
def invsK (a b : Sl K32) (H : Heap) (m : Nat) (s : Slots) (h : Heap) : Prop :=
 ∃ k, k ≤ a.l.length ∧ m = a.l.length - k ∧ s.at 0 = a.v eK ∧ s.at 1 = b.v eK ∧  s.at 5 = .int .i64 (k : Int) ∧ h = H ∧ ∀ j (h1 : j < a.l.length) (h2 : j < b.l.length), j < k → a.l[j] = b.l[j]
theorem sK_spec {f : Nat} (hf : vp f = some Zzea) (a b : Sl K32) (h : Heap) (hn : a.l.length < 4611686018427387904) : callRes vp f [a.v eK, b.v eK] h = some (.bool (decide (a.l = b.l)), h) := by
 refine res_pure hf rfl rfl (fun g hg => ?_)
 unfold Zzea
 by_cases ql : a.l.length = b.l.length
 case neg =>
  have ql' : ¬ ((a.l.length : Int) = (b.l.length : Int)) := by omega
  have e : decide (a.l = b.l) = false := decide_eq_false (fun e => ql (by rw [e]))
  simp only [↓zp, zv, seval, ql', not_false_eq_true, e, frzB]
  done
 have ql' : ((a.l.length : Int) = (b.l.length : Int)) = True := eq_true (by omega)
 simp only [↓zp, zv, seval, ql', not_true]
 generalize hS : Tr.set _ 5 _ = S
 have b0 : Slots.at S 0 = a.v eK := by rw [← hS]; simp only [zs, seval]
 have b1 : Slots.at S 1 = b.v eK := by rw [← hS]; simp only [zs, seval]
 have bI : Slots.at S 5 = .int .i64 ((0 : Nat) : Int) := by rw [← hS]; simp only [zs, seval] <;> rfl
 clear hS
 refine loop_ind (fun m s h => invsK a b g m s h) ?_ a.l.length ⟨0, by omega, by omega, b0, b1,  bI, rfl, fun j _ _ hj => by omega⟩
 rintro m s h ⟨k, hk, hm, c0, c1,  cI, rfl, hinc⟩
 by_cases hlt : k < a.l.length
 case neg =>
  have hlt' : ¬ ((k : Int) < (a.l.length : Int)) := by omega
  have e : decide (a.l = b.l) = true := decide_eq_true (List.ext_getElem ql (fun j h1 h2 => hinc j h1 h2 (by omega)))
  simp only [↓zp, zv, seval, c0, c1,  cI, hlt', e, frzB]
  done
 have hlt' : (k : Int) < (a.l.length : Int) := by omega
 have hb : k < b.l.length := by omega
 have ws := wr_succ (k := k) (by omega)
 have ia1 := fun h => r_ia_v (h := h) (c := a) eK_len (by decide) hlt rfl
 have ia2 := fun h => r_ia_v (h := h) (c := b) eK_len (by decide) hb rfl
 simp only [eK] at ia1 ia2
 by_cases q : a.l[k] = b.l[k]
 ·have q' : ((a.l[k].a : Int) = (b.l[k].a : Int)) = True := eq_true (by rw [q])
  simp only [↓zp, zv, seval, c0, c1,  cI, hlt', ia1, ia2, not_true, not_false_eq_true, q', ws]
  refine ⟨_, by omega, k + 1, by omega, rfl, by simp only [zs, seval, c0], by simp only [zs, seval, c1],  by simp only [zs, seval], rfl, fun j h1 h2 hj => ?_⟩
  rcases Nat.lt_or_ge j k with r | r
  ·exact hinc j h1 h2 r
  ·obtain rfl : j = k := by omega
   exact q
 ·have q' : ¬ ((a.l[k].a : Int) = (b.l[k].a : Int)) := fun e => q (k32_ext (by omega))
  have e : decide (a.l = b.l) = false := decide_eq_false (fun e => q (by simp only [e]))
  simp only [↓zp, zv, seval, c0, c1,  cI, hlt', ia1, ia2, not_true, not_false_eq_true, q', e, frzB]
def invsV (a b : Sl Int) (H : Heap) (m : Nat) (s : Slots) (h : Heap) : Prop :=
 ∃ k, k ≤ a.l.length ∧ m = a.l.length - k ∧ s.at 0 = a.v e32 ∧ s.at 1 = b.v e32 ∧  s.at 5 = .int .i64 (k : Int) ∧ h = H ∧ ∀ j (h1 : j < a.l.length) (h2 : j < b.l.length), j < k → a.l[j] = b.l[j]
theorem sV_spec {f : Nat} (hf : vp f = some Zzea) (a b : Sl Int) (h : Heap) (hn : a.l.length < 4611686018427387904) : callRes vp f [a.v e32, b.v e32] h = some (.bool (decide (a.l = b.l)), h) := by
 refine res_pure hf rfl rfl (fun g hg => ?_)
 unfold Zzea
 by_cases ql : a.l.length = b.l.length
 case neg =>
  have ql' : ¬ ((a.l.length : Int) = (b.l.length : Int)) := by omega
  have e : decide (a.l = b.l) = false := decide_eq_false (fun e => ql (by rw [e]))
  simp only [↓zp, zv, seval, ql', not_false_eq_true, e, frzB]
  done
 have ql' : ((a.l.length : Int) = (b.l.length : Int)) = True := eq_true (by omega)
 simp only [↓zp, zv, seval, ql', not_true]
 generalize hS : Tr.set _ 5 _ = S
 have b0 : Slots.at S 0 = a.v e32 := by rw [← hS]; simp only [zs, seval]
 have b1 : Slots.at S 1 = b.v e32 := by rw [← hS]; simp only [zs, seval]
 have bI : Slots.at S 5 = .int .i64 ((0 : Nat) : Int) := by rw [← hS]; simp only [zs, seval] <;> rfl
 clear hS
 refine loop_ind (fun m s h => invsV a b g m s h) ?_ a.l.length ⟨0, by omega, by omega, b0, b1,  bI, rfl, fun j _ _ hj => by omega⟩
 rintro m s h ⟨k, hk, hm, c0, c1,  cI, rfl, hinc⟩
 by_cases hlt : k < a.l.length
 case neg =>
  have hlt' : ¬ ((k : Int) < (a.l.length : Int)) := by omega
  have e : decide (a.l = b.l) = true := decide_eq_true (List.ext_getElem ql (fun j h1 h2 => hinc j h1 h2 (by omega)))
  simp only [↓zp, zv, seval, c0, c1,  cI, hlt', e, frzB]
  done
 have hlt' : (k : Int) < (a.l.length : Int) := by omega
 have hb : k < b.l.length := by omega
 have ws := wr_succ (k := k) (by omega)
 have ia1 := fun h => r_ia_v (h := h) (c := a) e32_len (by decide) hlt rfl
 have ia2 := fun h => r_ia_v (h := h) (c := b) e32_len (by decide) hb rfl
 simp only [e32] at ia1 ia2
 by_cases q : a.l[k] = b.l[k]
 ·have q' : (a.l[k] = b.l[k]) = True := eq_true q
  simp only [↓zp, zv, seval, c0, c1,  cI, hlt', ia1, ia2, not_true, not_false_eq_true, q', ws]
  refine ⟨_, by omega, k + 1, by omega, rfl, by simp only [zs, seval, c0], by simp only [zs, seval, c1],  by simp only [zs, seval], rfl, fun j h1 h2 hj => ?_⟩
  rcases Nat.lt_or_ge j k with r | r
  ·exact hinc j h1 h2 r
  ·obtain rfl : j = k := by omega
   exact q
 ·have q' := q
  have e : decide (a.l = b.l) = false := decide_eq_false (fun e => q (by simp only [e]))
  simp only [↓zp, zv, seval, c0, c1,  cI, hlt', ia1, ia2, not_true, not_false_eq_true, q', e, frzB]
def invs14 (a b : Sl Cell) (H : Heap) (m : Nat) (s : Slots) (h : Heap) : Prop :=
 ∃ k, k ≤ a.l.length ∧ m = a.l.length - k ∧ s.at 0 = a.v eC ∧ s.at 1 = b.v eC ∧  s.at 5 = .int .i64 (k : Int) ∧ h = H ∧ ∀ j (h1 : j < a.l.length) (h2 : j < b.l.length), j < k → a.l[j] = b.l[j]
theorem s14_spec {f : Nat} (hf : vp f = some Zzdp) (a b : Sl Cell) (h : Heap) (hn : a.l.length < 4611686018427387904) : callRes vp f [a.v eC, b.v eC] h = some (.bool (decide (a.l = b.l)), h) := by
 refine res_pure hf rfl rfl (fun g hg => ?_)
 unfold Zzdp
 by_cases ql : a.l.length = b.l.length
 case neg =>
  have ql' : ¬ ((a.l.length : Int) = (b.l.length : Int)) := by omega
  have e : decide (a.l = b.l) = false := decide_eq_false (fun e => ql (by rw [e]))
  simp only [↓zp, zv, seval, ql', not_false_eq_true, e, frzB]
  done
 have ql' : ((a.l.length : Int) = (b.l.length : Int)) = True := eq_true (by omega)
 simp only [↓zp, zv, seval, ql', not_true]
 generalize hS : Tr.set _ 5 _ = S
 have b0 : Slots.at S 0 = a.v eC := by rw [← hS]; simp only [zs, seval]
 have b1 : Slots.at S 1 = b.v eC := by rw [← hS]; simp only [zs, seval]
 have bI : Slots.at S 5 = .int .i64 ((0 : Nat) : Int) := by rw [← hS]; simp only [zs, seval] <;> rfl
 clear hS
 refine loop_ind (fun m s h => invs14 a b g m s h) ?_ a.l.length ⟨0, by omega, by omega, b0, b1,  bI, rfl, fun j _ _ hj => by omega⟩
 rintro m s h ⟨k, hk, hm, c0, c1,  cI, rfl, hinc⟩
 by_cases hlt : k < a.l.length
 case neg =>
  have hlt' : ¬ ((k : Int) < (a.l.length : Int)) := by omega
  have e : decide (a.l = b.l) = true := decide_eq_true (List.ext_getElem ql (fun j h1 h2 => hinc j h1 h2 (by omega)))
  simp only [↓zp, zv, seval, c0, c1,  cI, hlt', e, frzB]
  done
 have hlt' : (k : Int) < (a.l.length : Int) := by omega
 have hb : k < b.l.length := by omega
 have ws := wr_succ (k := k) (by omega)
 have ia1 := fun h => r_ia_v (h := h) (c := a) eC_len (by decide) hlt rfl
 have ia2 := fun h => r_ia_v (h := h) (c := b) eC_len (by decide) hb rfl
 simp only [eC] at ia1 ia2
 by_cases q : a.l[k] = b.l[k]
 ·have q' := decide_eq_true q
  simp only [↓zp, zv, seval, c0, c1,  cI, hlt', ia1, ia2, eqCC, q', ws]
  refine ⟨_, by omega, k + 1, by omega, rfl, by simp only [zs, seval, c0], by simp only [zs, seval, c1],  by simp only [zs, seval], rfl, fun j h1 h2 hj => ?_⟩
  rcases Nat.lt_or_ge j k with r | r
  ·exact hinc j h1 h2 r
  ·obtain rfl : j = k := by omega
   exact q
 ·have q' := decide_eq_false q
  have e : decide (a.l = b.l) = false := decide_eq_false (fun e => q (by simp only [e]))
  simp only [↓zp, zv, seval, c0, c1,  cI, hlt', ia1, ia2, eqCC, q', e, frzB]
end
end
section
open Go Go.VE Classical
section
variable {vp : Nat → Option VFn}
theorem vtab_spec {f c1 c2 c3 c4 c5 : Nat} (hf : vp f = some (Zzfb c1 c2 c3 c4 c5)) (h1 : vp c1 = some Zzch) (h2 : vp c2 = some Zzcd) (h3 : vp c3 = some Zzcg) (h4 : vp c4 = some Zzcf) (h5 : vp c5 = some Zzce)
  (x y : Tab) (sx : Sh x) (h : Heap) : callRes vp f [.agg (encT x), .agg (encT y)] h = some (.bool (decide (TEq x y)), h) := by
 obtain ⟨q1, q2, q3, q4, q5, q6, q7⟩ := sx
 have m1 := mq h1 rfl rfl
 have m2 := mq h2 rfl rfl
 have m3 := mq h3 rfl rfl
 have m4 := mq h4 rfl rfl
 have m5 := mq h5 rfl rfl
 have k1 := fun h => eU_spec h1 x.ks y.ks h (by omega)
 have k2 := fun h => eB_spec h2 x.bk y.bk h (by omega)
 have k3 := fun h => eN_spec h3 x.nx y.nx h (by omega)
 have k4 := fun h => eBo_spec h4 x.us y.us h (by omega)
 have k5 := fun h => eCe_spec h5 x.ix y.ix h (by omega)
 have k6 := fun h => eN_spec h3 x.op y.op h (by omega)
 have k7 := fun h => eN_spec h3 x.on y.on h (by omega)
 have no : ∀ p : Prop, ¬ p → (TEq x y → p) → decide (TEq x y) = false := fun p np t => decide_eq_false (fun o => np (t o))
 refine res_pure hf rfl rfl (fun g hg => ?_)
 unfold Zzfb encT
 by_cases a0 : x.cap = y.cap
 case neg =>
  have e := no _ a0 (fun o => o.cap.symm)
  simp only [↓zp, zv, seval, a0, not_false_eq_true, not_true, e, frzB]
  done
 have b0 := eq_true a0
 by_cases a1 : x.fr = y.fr
 case neg =>
  have e := no _ a1 (fun o => o.fr.symm)
  simp only [↓zp, zv, seval, b0, a1, not_false_eq_true, not_true, e, frzB]
  done
 have b1 := eq_true a1
 by_cases a2 : x.hd = y.hd
 case neg =>
  have e := no _ a2 (fun o => o.hd.symm)
  simp only [↓zp, zv, seval, b0, b1, a2, not_false_eq_true, not_true, e, frzB]
  done
 have b2 := eq_true a2
 by_cases a3 : x.tl = y.tl
 case neg =>
  have e := no _ a3 (fun o => o.tl.symm)
  simp only [↓zp, zv, seval, b0, b1, b2, a3, not_false_eq_true, not_true, e, frzB]
  done
 have b3 := eq_true a3
 by_cases r1 : x.ks.l = y.ks.l
 case neg =>
  have e := no _ r1 (fun o => o.ks.symm)
  have d1 := decide_eq_false r1
  simp only [↓zp, zv, seval, b0, b1, b2, b3, not_true, m1, k1, d1, e, frzB]
  done
 have d1 := decide_eq_true r1
 by_cases r2 : x.bk.l = y.bk.l
 case neg =>
  have e := no _ r2 (fun o => o.bk.symm)
  have d2 := decide_eq_false r2
  simp only [↓zp, zv, seval, b0, b1, b2, b3, not_true, m1, k1, d1, m2, k2, d2, e, frzB]
  done
 have d2 := decide_eq_true r2
 by_cases r3 : x.nx.l = y.nx.l
 case neg =>
  have e := no _ r3 (fun o => o.nx.symm)
  have d3 := decide_eq_false r3
  simp only [↓zp, zv, seval, b0, b1, b2, b3, not_true, m1, k1, d1, m2, k2, d2, m3, k3, d3, e, frzB]
  done
 have d3 := decide_eq_true r3
 by_cases r4 : x.us.l = y.us.l
 case neg =>
  have e := no _ r4 (fun o => o.us.symm)
  have d4 := decide_eq_false r4
  simp only [↓zp, zv, seval, b0, b1, b2, b3, not_true, m1, k1, d1, m2, k2, d2, m3, k3, d3, m4, k4, d4, e, frzB]
  done
 have d4 := decide_eq_true r4
 by_cases r5 : x.ix.l = y.ix.l
 case neg =>
  have e := no _ r5 (fun o => o.ix.symm)
  have d5 := decide_eq_false r5
  simp only [↓zp, zv, seval, b0, b1, b2, b3, not_true, m1, k1, d1, m2, k2, d2, m3, k3, d3, m4, k4, d4, m5, k5, d5, e, frzB]
  done
 have d5 := decide_eq_true r5
 by_cases r6 : x.op.l = y.op.l
 case neg =>
  have e := no _ r6 (fun o => o.op.symm)
  have d6 := decide_eq_false r6
  simp only [↓zp, zv, seval, b0, b1, b2, b3, not_true, m1, k1, d1, m2, k2, d2, m3, k3, d3, m4, k4, d4, m5, k5, d5, k6, d6, e, frzB]
  done
 have d6 := decide_eq_true r6
 by_cases r7 : x.on.l = y.on.l
 case neg =>
  have e := no _ r7 (fun o => o.on.symm)
  have d7 := decide_eq_false r7
  simp only [↓zp, zv, seval, b0, b1, b2, b3, not_true, m1, k1, d1, m2, k2, d2, m3, k3, d3, m4, k4, d4, m5, k5, d5, k6, d6, k7, d7, e, frzB]
  done
 have d7 := decide_eq_true r7
 have e : decide (TEq x y) = true := decide_eq_true ⟨a0.symm, r1.symm, r2.symm, r3.symm, r4.symm, a1.symm, r5.symm, r6.symm, r7.symm, a2.symm, a3.symm⟩
 simp only [↓zp, zv, seval, b0, b1, b2, b3, not_true, m1, k1, d1, m2, k2, d2, m3, k3, d3, m4, k4, d4, m5, k5, d5, k6, d6, k7, d7, e, frzB]
end
end
section
open Go Go.VE Classical
section
variable {vp : Nat → Option VFn}
def inv13a (a b : Sl Int) (bx : Nat) (H : Heap) (m : Nat) (s : Slots) (h : Heap) : Prop :=
 ∃ k, k ≤ a.l.length ∧ m = a.l.length - k ∧ s.at 2 = .ptr bx 0 ∧ s.at 3 = .ptr (bx + 1) 0 ∧ s.at 5 = .int .i64 (k : Int) ∧ h = H ∧ ∀ j (h1 : j < a.l.length) (h2 : j < b.l.length), j < k → a.l[j] = b.l[j]
def inv13b (a b : Sl Bool) (bx : Nat) (H : Heap) (m : Nat) (s : Slots) (h : Heap) : Prop :=
 ∃ k, k ≤ a.l.length ∧ m = a.l.length - k ∧ s.at 2 = .ptr bx 0 ∧ s.at 3 = .ptr (bx + 1) 0 ∧ s.at 6 = .int .i64 (k : Int) ∧ h = H ∧ ∀ j (h1 : j < a.l.length) (h2 : j < b.l.length), j < k → a.l[j] = b.l[j]
theorem s13_spec {f : Nat} (hf : vp f = some Zzdj) (nx nx' : Sl Int) (us us' : Sl Bool) (fr fr' : Int) (n1 : nx.l.length ≤ 1000) (n2 : us.l.length ≤ 1000) (h : Heap) :
  callRes vp f [.agg [nx.v eI, us.v eO, .int .i64 fr], .agg [nx'.v eI, us'.v eO, .int .i64 fr']] h = some (.bool (decide (nx.l = nx'.l ∧ us.l = us'.l ∧ fr = fr')), h) := by
 generalize hD : decide (nx.l = nx'.l ∧ us.l = us'.l ∧ fr = fr') = D
 refine res_pure hf rfl rfl (fun g hg => ?_)
 unfold Zzdj
 by_cases q1 : fr = fr'
 case neg =>
  have e : D = false := by rw [← hD]; exact decide_eq_false (fun o => q1 o.2.2)
  simp only [↓zp, zv, seval, q1, not_false_eq_true, e, frzB]
  done
 have b1 := eq_true q1
 by_cases q2 : nx.l.length = nx'.l.length
 case neg =>
  have e : D = false := by rw [← hD]; exact decide_eq_false (fun o => q2 (by rw [o.1]))
  have q2' : ¬ ((nx.l.length : Int) = (nx'.l.length : Int)) := by omega
  simp only [↓zp, zv, seval, b1, not_true, q2', not_false_eq_true, e, frzB]
  done
 have b2 : ((nx.l.length : Int) = (nx'.l.length : Int)) = True := eq_true (by omega)
 by_cases q3 : us.l.length = us'.l.length
 case neg =>
  have e : D = false := by rw [← hD]; exact decide_eq_false (fun o => q3 (by rw [o.2.1]))
  have q3' : ¬ ((us.l.length : Int) = (us'.l.length : Int)) := by omega
  simp only [↓zp, zv, seval, b1, not_true, b2, q3', not_false_eq_true, e, frzB]
  done
 have b3 : ((us.l.length : Int) = (us'.l.length : Int)) = True := eq_true (by omega)
 simp only [↓zp, zv, seval, b1, not_true, b2, b3]
 generalize hS : Tr.set _ 5 _ = S
 have s2 : Slots.at S 2 = .ptr g.nx 0 := by rw [← hS]; simp only [zs, seval]
 have s3 : Slots.at S 3 = .ptr (g.nx + 1) 0 := by rw [← hS]; simp only [zs, seval]
 have s5 : Slots.at S 5 = .int .i64 ((0 : Nat) : Int) := by rw [← hS]; simp only [zs, seval] <;> rfl
 clear hS
 generalize hH : Heap.new (Heap.new g _) _ = H
 have ga : H.get g.nx = .cells [nx.v eI, us.v eO, .int .i64 fr] .cl := by rw [← hH]; simp only [↓zp, zv, seval]
 have gb : H.get (g.nx + 1) = .cells [nx'.v eI, us'.v eO, .int .i64 fr'] .cl := by rw [← hH]; simp only [↓zp, zv, seval]
 clear hH
 refine loop_ind (fun m s h => inv13a nx nx' g.nx H m s h) ?_ nx.l.length ⟨0, by omega, by omega, s2, s3, s5, rfl, fun j _ _ hj => by omega⟩
 clear s2 s3 s5
 rintro m s h ⟨k, hk, hm, c2, c3, c5, rfl, hinc⟩
 by_cases hlt : k < nx.l.length
 case pos =>
  have hlt' : (k : Int) < (nx.l.length : Int) := by omega
  have hb : k < nx'.l.length := by omega
  have ws := wr_succ (k := k) (by omega)
  have ia1 : ∀ h, r_ia 1 (nx.v eI) (.int .i64 (k : Int)) h = some (.iptr (.int .i64 nx.l[k] :: (nx.l.drop (k + 1)).flatMap eI), h) := fun h => by rw [r_ia_v eI_len (by decide) hlt rfl]; rfl
  have ia2 : ∀ h, r_ia 1 (nx'.v eI) (.int .i64 (k : Int)) h = some (.iptr (.int .i64 nx'.l[k] :: (nx'.l.drop (k + 1)).flatMap eI), h) := fun h => by rw [r_ia_v eI_len (by decide) hb rfl]; rfl
  by_cases q : nx.l[k] = nx'.l[k]
  ·have q' := eq_true q
   simp only [↓zp, zv, seval, c2, c3, c5, ga, gb, hlt', ia1, ia2, q', not_true, ws]
   refine ⟨_, by omega, k + 1, by omega, rfl, by simp only [zs, seval, c2], by simp only [zs, seval, c3], by simp only [zs, seval], rfl, fun j h1 h2 hj => ?_⟩
   rcases Nat.lt_or_ge j k with r | r
   ·exact hinc j h1 h2 r
   ·obtain rfl : j = k := by omega
    exact q
  ·have e : D = false := by rw [← hD]; exact decide_eq_false (fun o => q (by simp only [o.1]))
   simp only [↓zp, zv, seval, c2, c3, c5, ga, gb, hlt', ia1, ia2, q, not_false_eq_true, e, frzB]
 have hlt' : ¬ ((k : Int) < (nx.l.length : Int)) := by omega
 have eN : nx.l = nx'.l := List.ext_getElem q2 (fun j h1 h2 => hinc j h1 h2 (by omega))
 simp only [↓zp, zv, seval, c2, c3, c5, ga, hlt']
 generalize hS : Tr.set _ 6 _ = S
 have s2 : Slots.at S 2 = .ptr g.nx 0 := by rw [← hS]; simp only [zs, seval, c2]
 have s3 : Slots.at S 3 = .ptr (g.nx + 1) 0 := by rw [← hS]; simp only [zs, seval, c3]
 have s6 : Slots.at S 6 = .int .i64 ((0 : Nat) : Int) := by rw [← hS]; simp only [zs, seval] <;> rfl
 clear hS c2 c3 c5 hinc hlt hlt'
 refine loop_ind (fun m s h' => inv13b us us' g.nx h m s h') ?_ us.l.length ⟨0, by omega, by omega, s2, s3, s6, rfl, fun j _ _ hj => by omega⟩
 clear s2 s3 s6 hk hm
 rintro m s h' ⟨k, hk, hm, c2, c3, c6, rfl, hinc⟩
 by_cases hlt : k < us.l.length
 case neg =>
  have hlt' : ¬ ((k : Int) < (us.l.length : Int)) := by omega
  have eU : us.l = us'.l := List.ext_getElem q3 (fun j h1 h2 => hinc j h1 h2 (by omega))
  have e : D = true := by rw [← hD]; exact decide_eq_true ⟨eN, eU, q1⟩
  simp only [↓zp, zv, seval, c2, c3, c6, ga, hlt', e, frzB]
  done
 have hlt' : (k : Int) < (us.l.length : Int) := by omega
 have hb : k < us'.l.length := by omega
 have ws := wr_succ (k := k) (by omega)
 have ia1 : ∀ h, r_ia 1 (us.v eO) (.int .i64 (k : Int)) h = some (.iptr (.bool us.l[k] :: (us.l.drop (k + 1)).flatMap eO), h) := fun h => by rw [r_ia_v eO_len (by decide) hlt rfl]; rfl
 have ia2 : ∀ h, r_ia 1 (us'.v eO) (.int .i64 (k : Int)) h = some (.iptr (.bool us'.l[k] :: (us'.l.drop (k + 1)).flatMap eO), h) := fun h => by rw [r_ia_v eO_len (by decide) hb rfl]; rfl
 by_cases q : us.l[k] = us'.l[k]
 ·have q' : (us.l[k] == us'.l[k]) = true := by rw [q]; exact beq_self_eq_true _
  simp only [↓zp, zv, seval, c2, c3, c6, ga, gb, hlt', ia1, ia2, q', Bool.not_true, ws]
  refine ⟨_, by omega, k + 1, by omega, rfl, by simp only [zs, seval, c2], by simp only [zs, seval, c3], by simp only [zs, seval], rfl, fun j h1 h2 hj => ?_⟩
  rcases Nat.lt_or_ge j k with r | r
  ·exact hinc j h1 h2 r
  ·obtain rfl : j = k := by omega
   exact q
 ·have q' : (us.l[k] == us'.l[k]) = false := by
   cases h : (us.l[k] == us'.l[k])
   ·rfl
   ·exact absurd (eq_of_beq h) q
  have e : D = false := by rw [← hD]; exact decide_eq_false (fun o => q (by simp only [o.2.1]))
  simp only [↓zp, zv, seval, c2, c3, c6, ga, gb, hlt', ia1, ia2, q', Bool.not_false, e, frzB]
end
end
section
open Go Go.VE Classical
section
variable {vp : Nat → Option VFn}
def inv16 (a b : Sl Bucket) (bx : Nat) (H : Heap) (m : Nat) (s : Slots) (h : Heap) : Prop :=
 ∃ k, k ≤ a.l.length ∧ m = a.l.length - k ∧ s.at 2 = .ptr bx 0 ∧ s.at 3 = .ptr (bx + 1) 0 ∧ s.at 5 = .int .i64 (k : Int) ∧ h = H ∧ ∀ j (h1 : j < a.l.length) (h2 : j < b.l.length), j < k → a.l[j] = b.l[j]
theorem s16_spec {f c1 c2 c3 c4 : Nat} (hf : vp f = some (Zzdz c1 c2 c3 c4)) (h1 : vp c1 = some Zzea) (h2 : vp c2 = some Zzdj) (h3 : vp c3 = some Zzdp) (m4 : modeOf vp c4 = some 1)
  (so : ∀ (p p' n n' : Sl Int) (hd hd' tl tl' : Int) (h : Heap), p.l.length ≤ 1000 → n.l.length ≤ 1000 → ∃ b, callRes vp c4 [.agg [p.v eI, n.v eI, .int .i64 hd, .int .i64 tl], .agg [p'.v eI, n'.v eI, .int .i64 hd', .int .i64 tl']] h = some (.bool b, h) ∧ (b = true ↔ p.l = p'.l ∧ n.l = n'.l ∧ hd = hd' ∧ tl = tl'))
  (x y : Tab) (sx : Sh x) (h : Heap) : callRes vp f [.agg (encT x), .agg (encT y)] h = some (.bool (decide (TEq x y)), h) := by
 obtain ⟨q1, q2, q3, q4, q5, q6, q7⟩ := sx
 have m1 := mq h1 rfl rfl
 have m2 := mq h2 rfl rfl
 have m3 := mq h3 rfl rfl
 generalize hD : decide (TEq x y) = D
 have no : ∀ p : Prop, ¬ p → (TEq x y → p) → D = false := fun p np t => by rw [← hD]; exact decide_eq_false (fun o => np (t o))
 refine res_pure hf rfl rfl (fun g hg => ?_)
 have k1 := fun h => sK_spec h1 x.ks y.ks h (by omega)
 have k2 := fun h => s13_spec h2 x.nx y.nx x.us y.us x.fr y.fr (by omega) (by omega) h
 have k3 := fun h => s14_spec h3 x.ix y.ix h (by omega)
 obtain ⟨H, hH⟩ : ∃ H, (g.new (.cells (encT x) .cl)).new (.cells (encT y) .cl) = H := ⟨_, rfl⟩
 have ga : H.get g.nx = .cells (encT x) .cl := by rw [← hH]; simp only [↓zp, zv, seval]
 have gb : H.get (g.nx + 1) = .cells (encT y) .cl := by rw [← hH]; simp only [↓zp, zv, seval]
 obtain ⟨b4, k4, e4⟩ := so x.op y.op x.on y.on x.hd y.hd x.tl y.tl H (by omega) (by omega)
 unfold Zzdz
 unfold encT at hH ga gb ⊢
 by_cases a0 : x.cap = y.cap
 case neg =>
  have e := no _ a0 (fun o => o.cap.symm)
  simp only [↓zp, zv, seval, hH, ga, gb, a0, not_false_eq_true, e, frzB]
  done
 have b0 := eq_true a0
 by_cases a1 : x.ks.l = y.ks.l
 case neg =>
  have e := no _ a1 (fun o => o.ks.symm)
  have d := decide_eq_false a1
  simp only [↓zp, zv, seval, hH, ga, gb, b0, not_true, m1, k1, d, Bool.not_false, e, frzB]
  done
 have d1 := decide_eq_true a1
 by_cases a2 : x.bk.l.length = y.bk.l.length
 case neg =>
  have e := no _ a2 (fun o => by rw [o.bk])
  have a2' : ¬ ((x.bk.l.length : Int) = (y.bk.l.length : Int)) := by omega
  simp only [↓zp, zv, seval, hH, ga, gb, b0, not_true, m1, k1, d1, Bool.not_true, a2', not_false_eq_true, e, frzB]
  done
 have b2 : ((x.bk.l.length : Int) = (y.bk.l.length : Int)) = True := eq_true (by omega)
 by_cases a3 : x.nx.l = y.nx.l ∧ x.us.l = y.us.l ∧ x.fr = y.fr
 case neg =>
  have e := no _ a3 (fun o => ⟨o.nx.symm, o.us.symm, o.fr.symm⟩)
  have d := decide_eq_false a3
  simp only [↓zp, zv, seval, hH, ga, gb, b0, not_true, m1, k1, d1, Bool.not_true, b2, m2, k2, d, Bool.not_false, e, frzB]
  done
 have d3 := decide_eq_true a3
 by_cases a5 : x.ix.l = y.ix.l
 case neg =>
  have e := no _ a5 (fun o => o.ix.symm)
  have d := decide_eq_false a5
  simp only [↓zp, zv, seval, hH, ga, gb, b0, not_true, m1, k1, d1, Bool.not_true, b2, m2, k2, d3, m3, k3, d, Bool.not_false, e, frzB]
  done
 have d5 := decide_eq_true a5
 cases b4
 case false =>
  have e := no _ (fun o => Bool.false_ne_true (e4.2 o)) (fun o => ⟨o.op.symm, o.on.symm, o.hd.symm, o.tl.symm⟩)
  simp only [↓zp, zv, seval, hH, ga, gb, b0, not_true, m1, k1, d1, Bool.not_true, b2, m2, k2, d3, m3, k3, d5, m4, k4, Bool.not_false, e, frzB]
  done
 obtain ⟨p1, p2, p3, p4⟩ := e4.1 rfl
 simp only [↓zp, zv, seval, hH, ga, gb, b0, not_true, m1, k1, d1, Bool.not_true, b2, m2, k2, d3, m3, k3, d5, m4, k4]
 generalize hS : Tr.set _ 5 _ = S
 have s2 : Slots.at S 2 = .ptr g.nx 0 := by rw [← hS]; simp only [zs, seval]
 have s3 : Slots.at S 3 = .ptr (g.nx + 1) 0 := by rw [← hS]; simp only [zs, seval]
 have s5 : Slots.at S 5 = .int .i64 ((0 : Nat) : Int) := by rw [← hS]; simp only [zs, seval] <;> rfl
 clear hS
 refine loop_ind (fun m s h => inv16 x.bk y.bk g.nx H m s h) ?_ x.bk.l.length ⟨0, by omega, by omega, s2, s3, s5, rfl, fun j _ _ hj => by omega⟩
 clear s2 s3 s5
 rintro m s h ⟨k, hk, hm, c2', c3', c5', rfl, hinc⟩
 by_cases hlt : k < x.bk.l.length
 case neg =>
  have hlt' : ¬ ((k : Int) < (x.bk.l.length : Int)) := by omega
  have eB : x.bk.l = y.bk.l := List.ext_getElem a2 (fun j h1 h2 => hinc j h1 h2 (by omega))
  have e : D = true := by rw [← hD]; exact decide_eq_true ⟨a0.symm, a1.symm, eB.symm, a3.1.symm, a3.2.1.symm, a3.2.2.symm, a5.symm, p1.symm, p2.symm, p3.symm, p4.symm⟩
  simp only [↓zp, zv, seval, c2', c3', c5', ga, hlt', e, frzB]
  done
 have hlt' : (k : Int) < (x.bk.l.length : Int) := by omega
 have hb : k < y.bk.l.length := by omega
 have ws := wr_succ (k := k) (by omega)
 have ia1 := fun h => r_ia_v (h := h) (c := x.bk) encB_len (by decide) hlt rfl
 have ia2 := fun h => r_ia_v (h := h) (c := y.bk) encB_len (by decide) hb rfl
 simp only [encB] at ia1 ia2
 by_cases q : x.bk.l[k] = y.bk.l[k]
 ·have q' := decide_eq_true q
  simp only [↓zp, zv, seval, c2', c3', c5', ga, gb, hlt', ia1, ia2, eqB, q', ws]
  refine ⟨_, by omega, k + 1, by omega, rfl, by simp only [zs, seval, c2'], by simp only [zs, seval, c3'], by simp only [zs, seval], rfl, fun j h1 h2 hj => ?_⟩
  rcases Nat.lt_or_ge j k with r | r
  ·exact hinc j h1 h2 r
  ·obtain rfl : j = k := by omega
   exact q
 ·have q' := decide_eq_false q
  have e : D = false := by rw [← hD]; exact decide_eq_false (fun o => q (by simp only [o.bk]))
  simp only [↓zp, zv, seval, c2', c3', c5', ga, gb, hlt', ia1, ia2, eqB, q', e, frzB]
end
end
end Go.VE.LB
