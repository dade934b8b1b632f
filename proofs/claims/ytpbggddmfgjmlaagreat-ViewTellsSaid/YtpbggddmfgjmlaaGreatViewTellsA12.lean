/- What the functions of the law ViewTells compute, on typed arguments (part 12). -/
import Derived.Test.YtpbggddmfgjmlaaGreatViewTellsA11
set_option linter.all false
namespace Go.VE.LB
set_option maxRecDepth 100000
set_option maxHeartbeats 4000000
section
open Go Go.VE Classical
section
variable {vp : Nat → Option VFn}
theorem s18_spec {f c1 c2 : Nat} (hf : vp f = some (Zzeg c1 c2)) (m1 : modeOf vp c1 = some 1) (h2 : vp c2 = some Zzea)
  (st : ∀ (x y : Tab), Sh x → ∀ h : Heap, callRes vp c1 [.agg (encT x), .agg (encT y)] h = some (.bool (decide (TEq x y)), h))
  (x y : Part) (su : Sh x.us) (se : Sh x.en) (sr : x.rev.l.length ≤ 1000) (h : Heap) : callRes vp f [.agg (encP x), .agg (encP y)] h = some (.bool (decide (PEq x y)), h) := by
 have m2 := mq h2 rfl rfl
 generalize hD : decide (PEq x y) = D
 have no : ∀ p : Prop, ¬ p → (PEq x y → p) → D = false := fun p np t => by rw [← hD]; exact decide_eq_false (fun o => np (t o))
 refine res_pure hf rfl rfl (fun g hg => ?_)
 have k1 := fun h => st x.us y.us su h
 have k2 := fun h => st x.en y.en se h
 have k3 := fun h => sV_spec h2 x.rev y.rev h (by omega)
 unfold Zzeg encP
 unfold encT at k1 k2
 by_cases a0 : x.t = y.t
 case neg =>
  have e := no _ a0 (fun o => o.t.symm)
  simp only [↓zp, zv, seval, a0, e, frzB]
  done
 have b0 := eq_true a0
 by_cases a1 : x.l0 = y.l0 ∧ x.l1 = y.l1 ∧ x.l2 = y.l2
 case neg =>
  have e := no _ a1 (fun o => ⟨o.l0.symm, o.l1.symm, o.l2.symm⟩)
  have d := decide_eq_false a1
  simp only [↓zp, zv, seval, b0, eq9l, d, e, frzB]
  done
 have d1 := decide_eq_true a1
 by_cases a2 : x.own = y.own
 case neg =>
  have e := no _ a2 (fun o => o.own.symm)
  have d := decide_eq_false a2
  simp only [↓zp, zv, seval, b0, eq9l, d1, eqB, d, e, frzB]
  done
 have d2 := decide_eq_true a2
 by_cases a3 : TEq x.us y.us
 case neg =>
  have e := no _ a3 (fun o => o.us)
  have d := decide_eq_false a3
  simp only [↓zp, zv, seval, b0, eq9l, d1, eqB, d2, m1, k1, d, e, frzB]
  done
 have d3 := decide_eq_true a3
 by_cases a4 : TEq x.en y.en
 case neg =>
  have e := no _ a4 (fun o => o.en)
  have d := decide_eq_false a4
  simp only [↓zp, zv, seval, b0, eq9l, d1, eqB, d2, m1, k1, d3, k2, d, e, frzB]
  done
 have d4 := decide_eq_true a4
 by_cases a5 : x.rev.l = y.rev.l
 case neg =>
  have e := no _ a5 (fun o => o.rev.symm)
  have d := decide_eq_false a5
  simp only [↓zp, zv, seval, b0, eq9l, d1, eqB, d2, m1, k1, d3, k2, d4, m2, k3, d, e, frzB]
  done
 have d5 := decide_eq_true a5
 by_cases a6 : x.n0 = y.n0 ∧ x.n1 = y.n1 ∧ x.n2 = y.n2
 case neg =>
  have e := no _ a6 (fun o => ⟨o.n0.symm, o.n1.symm, o.n2.symm⟩)
  have d := decide_eq_false a6
  simp only [↓zp, zv, seval, b0, eq9l, d1, eqB, d2, m1, k1, d3, k2, d4, m2, k3, d5, eq3, d, e, frzB]
  done
 have d6 := decide_eq_true a6
 have e : D = true := by rw [← hD]; exact decide_eq_true ⟨a0.symm, a1.1.symm, a1.2.1.symm, a1.2.2.symm, a2.symm, a3, a4, a5.symm, a6.1.symm, a6.2.1.symm, a6.2.2.symm⟩
 simp only [↓zp, zv, seval, b0, eq9l, d1, eqB, d2, m1, k1, d3, k2, d4, m2, k3, d5, eq3, d6, e, frzB]
end
end
section
open Go Go.VE Classical
section
variable {vp : Nat → Option VFn}
theorem s24_spec {f c1 : Nat} (hf : vp f = some (Zzes c1)) (m1 : modeOf vp c1 = some 1)
  (sp : ∀ (x y : Part), Sh x.us → Sh x.en → x.rev.l.length ≤ 1000 → ∀ h : Heap, callRes vp c1 [.agg (encP x), .agg (encP y)] h = some (.bool (decide (PEq x y)), h))
  (n n' e e' : Int) (i i' : Bool) (x y : Part) (su : Sh x.us) (se : Sh x.en) (sr : x.rev.l.length ≤ 1000) (h : Heap) :
  callRes vp f [.agg (encW n e i (encP x)), .agg (encW n' e' i' (encP y))] h = some (.bool (decide (n = n' ∧ e = e' ∧ i = i' ∧ PEq x y)), h) := by
 generalize hD : decide (n = n' ∧ e = e' ∧ i = i' ∧ PEq x y) = D
 have no : ∀ p : Prop, ¬ p → ((n = n' ∧ e = e' ∧ i = i' ∧ PEq x y) → p) → D = false := fun p np t => by rw [← hD]; exact decide_eq_false (fun o => np (t o))
 refine res_pure hf rfl rfl (fun g hg => ?_)
 have k1 := fun h => sp x y su se sr h
 unfold Zzes encW
 unfold encP at k1 ⊢
 by_cases a0 : n = n'
 case neg =>
  have w := no _ a0 (fun o => o.1)
  simp only [↓zp, zv, seval, a0, w, frzB]
  done
 have b0 := eq_true a0
 by_cases a1 : e = e'
 case neg =>
  have w := no _ a1 (fun o => o.2.1)
  simp only [↓zp, zv, seval, b0, a1, w, frzB]
  done
 have b1 := eq_true a1
 by_cases a2 : i = i'
 case neg =>
  have w := no _ a2 (fun o => o.2.2.1)
  have d : (i == i') = false := by
   cases h : (i == i')
   ·rfl
   ·exact absurd (eq_of_beq h) a2
  simp only [↓zp, zv, seval, b0, b1, d, w, frzB]
  done
 have d2 : (i == i') = true := by rw [a2]; exact beq_self_eq_true _
 by_cases a3 : PEq x y
 case neg =>
  have w := no _ a3 (fun o => o.2.2.2)
  have d := decide_eq_false a3
  simp only [↓zp, zv, seval, b0, b1, d2, m1, k1, d, w, frzB]
  done
 have d3 := decide_eq_true a3
 have w : D = true := by rw [← hD]; exact decide_eq_true ⟨a0, a1, a2, a3⟩
 simp only [↓zp, zv, seval, b0, b1, d2, m1, k1, d3, w, frzB]
end
end
section
open Go Go.VE Classical
def encF (n e : Int) (i : Bool) (p : Part) : List V := [.int .u64 n, .int .u32 e, .int .u32 p.t, .bool i, .int .i64 p.l0.b, .int .i64 p.l0.r, .int .i64 p.l0.p, .int .i64 p.l1.b, .int .i64 p.l1.r, .int .i64 p.l1.p, .int .i64 p.l2.b, .int .i64 p.l2.r, .int .i64 p.l2.p,
 .int .i64 p.own.l.b, .int .i64 p.own.l.r, .int .i64 p.own.l.p, .int .i64 p.own.lv, .int .i64 p.own.pt, .int .u64 p.own.t, .int .u64 p.n0, .int .u64 p.n1, .int .u64 p.n2]
theorem encF_scal (n e : Int) (i : Bool) (p : Part) : (encF n e i p).all VE.scal = true := rfl
def FEq (x y : Part) : Prop := x.t = y.t ∧ (x.l0 = y.l0 ∧ x.l1 = y.l1 ∧ x.l2 = y.l2) ∧ x.own = y.own ∧ (x.n0 = y.n0 ∧ x.n1 = y.n1 ∧ x.n2 = y.n2)
theorem eqC_app : ∀ (a : List (IntKind × Int × Int)) (ks : List Nat) (xs ys : List V) (r : Bool), eqCells ks xs ys = some r →
  eqCells ((a.map fun _ => 0) ++ ks) ((a.map fun p => .int p.1 p.2.1) ++ xs) ((a.map fun p => .int p.1 p.2.2) ++ ys) = some (decide (∀ p ∈ a, p.2.1 = p.2.2) && r)
 | [], _, _, _, r, h => by simp [h]
 | p :: a, ks, xs, ys, r, h => by
  have ih := eqC_app a ks xs ys r h
  simp only [List.map_cons, List.cons_append, eqC, ih]
  by_cases h : p.2.1 = p.2.2
  ·simp [h]
  ·simp [h]
theorem eqC_mid (a b : List (IntKind × Int × Int)) (i i' : Bool) :
  eqCells ((a.map fun _ => 0) ++ 1 :: (b.map fun _ => 0)) ((a.map fun p => .int p.1 p.2.1) ++ .bool i :: (b.map fun p => .int p.1 p.2.1)) ((a.map fun p => .int p.1 p.2.2) ++ .bool i' :: (b.map fun p => .int p.1 p.2.2)) = some (decide (∀ p ∈ a, p.2.1 = p.2.2) && (i == i' && decide (∀ p ∈ b, p.2.1 = p.2.2))) := by
 refine eqC_app a _ _ _ _ ?_
 rw [eqCells, eqK]
 cases hi : (i == i')
 ·rfl
 ·simp only [eqInts, Bool.true_and]
theorem eqF {n e n' e' : Int} {i i' : Bool} {x y : Part} {h : Heap} : r_eqa false [0, 0, 0, 1, 0, 0, 0, 0, 0, 0, 0, 0, 0, 0, 0, 0, 0, 0, 0, 0, 0, 0] (.agg (encF n e i x)) (.agg (encF n' e' i' y)) h = some (.bool (decide (n = n' ∧ e = e' ∧ i = i' ∧ FEq x y)), h) := by
 have e4 := eqC_mid [(.u64, n, n'), (.u32, e, e'), (.u32, x.t, y.t)] [(.i64, x.l0.b, y.l0.b), (.i64, x.l0.r, y.l0.r), (.i64, x.l0.p, y.l0.p), (.i64, x.l1.b, y.l1.b), (.i64, x.l1.r, y.l1.r), (.i64, x.l1.p, y.l1.p), (.i64, x.l2.b, y.l2.b), (.i64, x.l2.r, y.l2.r), (.i64, x.l2.p, y.l2.p),
  (.i64, x.own.l.b, y.own.l.b), (.i64, x.own.l.r, y.own.l.r), (.i64, x.own.l.p, y.own.l.p), (.i64, x.own.lv, y.own.lv), (.i64, x.own.pt, y.own.pt), (.u64, x.own.t, y.own.t), (.u64, x.n0, y.n0), (.u64, x.n1, y.n1), (.u64, x.n2, y.n2)] i i'
 have e5 : eqCells [0, 0, 0, 1, 0, 0, 0, 0, 0, 0, 0, 0, 0, 0, 0, 0, 0, 0, 0, 0, 0, 0] (encF n e i x) (encF n' e' i' y) = some (decide (n = n' ∧ e = e' ∧ i = i' ∧ FEq x y)) := by
  refine Eq.trans e4 (congrArg some ?_)
  simp only [FEq, limit_ext, bucket_ext, List.mem_cons, List.not_mem_nil, or_false, forall_eq_or_imp, forall_eq]
  by_cases hi : i = i'
  ·subst hi
   simp only [beq_self_eq_true, Bool.true_and, true_and, ← Bool.decide_and, and_assoc]
  ·have hi' : (i == i') = false := by
    cases h : (i == i')
    ·rfl
    ·exact absurd (eq_of_beq h) hi
   simp only [hi', hi, Bool.false_and, Bool.and_false, false_and, and_false, decide_false]
 simp only [r_eqa, e5, cond_false]
 rfl
section
variable {vp : Nat → Option VFn}
theorem vf_spec {f t1 : Nat} (hf : vp f = some (Zzfa t1)) (n e : Int) (i : Bool) (p : Part) (h : Heap) : callRes vp f [.agg (encW n e i (encP p))] h = some (.agg (encF n e i p), h) := by
 refine res_pure hf rfl rfl (fun g hg => ?_)
 unfold Zzfa encW encP
 have hlo := hlo hg
 have z1 : ¬ g.nx + 1 < g.lo := by omega
 have fz : ∀ (H : Heap) (b : Nat), frz frzFuel H b false (.agg (encF n e i p)) = some (.agg (encF n e i p)) := fun H b => by
  show frz (999999 + 1) H b false (.agg _) = _
  rw [frz, frzs_scal _ (encF_scal n e i p) (by simp [encF]), Option.map_some]
 simp only [encF] at fz ⊢
 simp only [↓zp, zv, seval, z1, fz]
theorem vs_spec {f c1 c2 c3 t1 d1 d2 d3 d4 d5 : Nat} (hf : vp f = some (Zzex c1 c2 c3)) (h1 : vp c1 = some (Zzfa t1)) (h2 : vp c2 = some (Zzfb d1 d2 d3 d4 d5)) (h3 : vp c3 = some Zzch)
  (st : ∀ (x y : Tab), Sh x → ∀ h : Heap, callRes vp c2 [.agg (encT x), .agg (encT y)] h = some (.bool (decide (TEq x y)), h))
  (n n' e e' : Int) (i i' : Bool) (x y : Part) (su : Sh x.us) (se : Sh x.en) (sr : x.rev.l.length ≤ 1000) (h : Heap) :
  callRes vp f [.agg (encW n e i (encP x)), .agg (encW n' e' i' (encP y))] h = some (.bool (decide (n = n' ∧ e = e' ∧ i = i' ∧ PEq x y)), h) := by
 generalize hD : decide (n = n' ∧ e = e' ∧ i = i' ∧ PEq x y) = D
 have no : ∀ p : Prop, ¬ p → ((n = n' ∧ e = e' ∧ i = i' ∧ PEq x y) → p) → D = false := fun p np t => by rw [← hD]; exact decide_eq_false (fun o => np (t o))
 have m1 := mq h1 rfl rfl
 have m2 := mq h2 rfl rfl
 have m3 := mq h3 rfl rfl
 refine res_pure hf rfl rfl (fun g hg => ?_)
 have k1 := fun h => vf_spec h1 n e i x h
 have k2 := fun h => vf_spec h1 n' e' i' y h
 have k3 := fun h => st x.us y.us su h
 have k4 := fun h => st x.en y.en se h
 have k5 := fun h => eV_spec h3 x.rev y.rev h (by omega)
 have kE := fun h => eqF (n := n) (e := e) (n' := n') (e' := e') (i := i) (i' := i') (x := x) (y := y) (h := h)
 obtain ⟨F1, hF1⟩ : ∃ F, encF n e i x = F := ⟨_, rfl⟩
 obtain ⟨F2, hF2⟩ : ∃ F, encF n' e' i' y = F := ⟨_, rfl⟩
 rw [hF1] at k1 kE
 rw [hF2] at k2 kE
 unfold Zzex
 unfold encW encP at k1 k2 ⊢
 unfold encT at k3 k4
 by_cases a0 : n = n' ∧ e = e' ∧ i = i' ∧ FEq x y
 case neg =>
  have w := no _ a0 (fun o => ⟨o.1, o.2.1, o.2.2.1, o.2.2.2.t.symm, ⟨o.2.2.2.l0.symm, o.2.2.2.l1.symm, o.2.2.2.l2.symm⟩, o.2.2.2.own.symm, o.2.2.2.n0.symm, o.2.2.2.n1.symm, o.2.2.2.n2.symm⟩)
  have d := decide_eq_false a0
  simp only [↓zp, zv, seval, m1, k1, k2, kE, d, w, frzB]
  done
 have d0 := decide_eq_true a0
 by_cases a1 : TEq x.us y.us
 case neg =>
  have w := no _ a1 (fun o => o.2.2.2.us)
  have d := decide_eq_false a1
  simp only [↓zp, zv, seval, m1, k1, k2, kE, d0, m2, k3, d, w, frzB]
  done
 have d1 := decide_eq_true a1
 by_cases a2 : TEq x.en y.en
 case neg =>
  have w := no _ a2 (fun o => o.2.2.2.en)
  have d := decide_eq_false a2
  simp only [↓zp, zv, seval, m1, k1, k2, kE, d0, m2, k3, d1, k4, d, w, frzB]
  done
 have d2 := decide_eq_true a2
 by_cases a3 : x.rev.l = y.rev.l
 case neg =>
  have w := no _ a3 (fun o => o.2.2.2.rev.symm)
  have d := decide_eq_false a3
  simp only [↓zp, zv, seval, m1, k1, k2, kE, d0, m2, k3, d1, k4, d2, m3, k5, d, w, frzB]
  done
 have d3 := decide_eq_true a3
 obtain ⟨p1, p2, p3, p4, p5, p6, p7⟩ := a0
 have w : D = true := by rw [← hD]; exact decide_eq_true ⟨p1, p2, p3, p4.symm, p5.1.symm, p5.2.1.symm, p5.2.2.symm, p6.symm, a1, a2, a3.symm, p7.1.symm, p7.2.1.symm, p7.2.2.symm⟩
 simp only [↓zp, zv, seval, m1, k1, k2, kE, d0, m2, k3, d1, k4, d2, m3, k5, d3, w, frzB]
end
end
end Go.VE.LB
