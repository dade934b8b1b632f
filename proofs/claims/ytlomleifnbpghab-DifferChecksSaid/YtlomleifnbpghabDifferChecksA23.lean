/- What the functions of the law DifferChecks compute, on typed arguments (part 23). -/
import Derived.Test.YtlomleifnbpghabDifferChecksA22
import Derived.Test.YtlomleifnbpghabDifferChecksT
set_option linter.all false
namespace Go.VE.LB
open Go Go.VE Classical
set_option maxRecDepth 100000
set_option maxHeartbeats 4000000
set_option linter.all false
structure Tab (vp : Nat → Option VFn) : Prop where
  t3 : vp 3 = some v3
  t4 : vp 4 = some v4
  t5 : vp 5 = some v5
  t6 : vp 6 = some v6
  t7 : vp 7 = some v7
  t8 : vp 8 = some v8
  t9 : vp 9 = some v9
  t10 : vp 10 = some v10
  t11 : vp 11 = some v11
  t12 : vp 12 = some v12
  t13 : vp 13 = some v13
  t14 : vp 14 = some v14
  t15 : vp 15 = some v15
  t16 : vp 16 = some v16
  t17 : vp 17 = some v17
  t18 : vp 18 = some v18
  t19 : vp 19 = some v19
  t20 : vp 20 = some v20
  t21 : vp 21 = some v21
  t22 : vp 22 = some v22
  t23 : vp 23 = some v23
  t24 : vp 24 = some v24
  t25 : vp 25 = some v25
  t26 : vp 26 = some v26
  t27 : vp 27 = some v27
  t28 : vp 28 = some v28
  t29 : vp 29 = some v29
  t30 : vp 30 = some v30
  t31 : vp 31 = some v31
  t32 : vp 32 = some v32
  t33 : vp 33 = some v33
  t34 : vp 34 = some v34
  t35 : vp 35 = some v35
  t36 : vp 36 = some v36
  t37 : vp 37 = some v37
  t38 : vp 38 = some v38
  t39 : vp 39 = some v39
  t40 : vp 40 = some v40
  t41 : vp 41 = some v41
  t42 : vp 42 = some v42
  t43 : vp 43 = some v43
  t44 : vp 44 = some v44
theorem great_short {l : List Lack} (h : greatD l = false) : (∀ x ∈ l, Short x.a) ∧ l.length ≤ 40 := by
  unfold greatD at h
  simp only [Bool.or_eq_false_iff, decide_eq_false_iff_not, List.any_eq_false] at h
  refine ⟨fun x hx => ?_, by omega⟩
  have := h.1 x hx
  simp only [Bool.or_eq_true, decide_eq_true_eq, not_or] at this
  exact ⟨by omega, by omega, by omega⟩
theorem law {vp : Nat → Option VFn} (t : Tab vp) (nd ne : Int) (d e : Sl Lack) (h : Heap) (hnd : d.l.length ≤ 9223372036854775807) (hne : e.l.length ≤ 9223372036854775807) :
    callRes vp 3 [.agg [.int .u64 nd, d.v encK], .agg [.int .u64 ne, e.v encK]] h = some (.bool true, h) := by
  have m4 : modeOf vp 4 = some 1 := by simp [modeOf, t.t4, v4, B_spigotref34_Great]
  have m5 : modeOf vp 5 = some 1 := by simp [modeOf, t.t5, v5, B_differ_Join]
  have m6 : modeOf vp 6 = some 1 := by simp [modeOf, t.t6, v6, B_spigotref34_Join]
  have m7 : modeOf vp 7 = some 1 := by simp [modeOf, t.t7, v7, B_differ_Tenants]
  have m8 : modeOf vp 8 = some 1 := by simp [modeOf, t.t8, v8, B_spigotref34_Tenants]
  have m9 : modeOf vp 9 = some 1 := by simp [modeOf, t.t9, v9, B_differ_Check]
  have m10 : modeOf vp 10 = some 1 := by simp [modeOf, t.t10, v10, B_spigotref34_Check]
  have m11 : modeOf vp 11 = some 1 := by simp [modeOf, t.t11, v11, B_spigotref34_Same]
  have m12 : modeOf vp 12 = some 1 := by simp [modeOf, t.t12, v12, B_spigotref32_Same]
  have m15 : modeOf vp 15 = some 1 := by simp [modeOf, t.t15, v15, B_spigotref34_at]
  have m16 : modeOf vp 16 = some 1 := by simp [modeOf, t.t16, v16, B_spigotref34_twin]
  have gd := fun h => great4_spec t.t4 nd d h hnd
  have ge := fun h => great4_spec t.t4 ne e h hne
  have k9 : ∀ (now : Int) (v : V) (l : List Lack) (h : Heap), Rd encK 27 h v l → (∀ x ∈ l, Short x.a) → l.length < 4611686018427387904 → callRes vp 9 [.agg [.int .u64 now, v]] h = some (.int .i64 (chkD now l), h) := fun now v l h hv sh hn => check9_spec t.t9 t.t17 t.t18 t.t25 t.t32 t.t26 t.t27 t.t28 t.t33 t.t34 t.t35 t.t39 t.t43 t.t36 t.t29 t.t36 now v l h hv sh hn
  have k10 : ∀ (now : Int) (v : V) (l : List Lack) (h : Heap), Rd encK 27 h v l → (∀ x ∈ l, Short x.a) → l.length < 4611686018427387904 → callRes vp 10 [.agg [.int .u64 now, v]] h = some (.int .i64 (chkD now l), h) := fun now v l h hv sh hn => check10_spec t.t10 t.t19 t.t30 t.t37 t.t38 t.t40 t.t41 t.t42 t.t44 t.t20 t.t21 t.t31 now v l h hv sh hn
  refine res_pure t.t3 rfl rfl (fun g hg => ?_)
  have hlo := hlo hg
  have hl : ∀ i, ¬ (g.nx + i < g.lo) := fun i => by omega
  unfold v3 B_spigotlaw34_DifferChecks
  cases qd : greatD d.l with
  | true => simp only [↓zp, zz, true_and, and_true, chkOk, Nat.reduceEqDiff, Nat.reduceAdd, Nat.reduceSub, Nat.reduceMul, Nat.reduceLT, Nat.reduceLeDiff, Int.reduceLT, Int.reduceLE, Int.reduceEq, Int.reduceAdd, Int.reduceNeg, if_false, if_true, reduceIte, List.getElem?_cons_succ, List.getElem?_cons_zero, Option.getD_some, r_mv, r_pick, r_box, r_alloc, r_un, r_eqb, r_ext, r_mkf, r_cnv, r_st, r_nck, r_ix, r_iaa, takeN, List.cons_append, List.nil_append, VE.store, over, cellsAt, VE.part, Option.map_some, Option.bind_some, blkX, gEval, cond_true, cond_false, r_build, r_bsl, fill, VE.unOp, r_bin, List.drop_zero, List.drop_succ_cons, resOf, resVs, resV, List.length_cons, List.length_nil, reduceCtorEq, or_true, true_or, false_or, or_false, eq_self, exists_eq_left', Option.some.injEq, m4, gd, qd, frzB]
  | false =>
  cases qe : greatD e.l with
  | true => simp only [↓zp, zz, true_and, and_true, chkOk, Nat.reduceEqDiff, Nat.reduceAdd, Nat.reduceSub, Nat.reduceMul, Nat.reduceLT, Nat.reduceLeDiff, Int.reduceLT, Int.reduceLE, Int.reduceEq, Int.reduceAdd, Int.reduceNeg, if_false, if_true, reduceIte, List.getElem?_cons_succ, List.getElem?_cons_zero, Option.getD_some, r_mv, r_pick, r_box, r_alloc, r_un, r_eqb, r_ext, r_mkf, r_cnv, r_st, r_nck, r_ix, r_iaa, takeN, List.cons_append, List.nil_append, VE.store, over, cellsAt, VE.part, Option.map_some, Option.bind_some, blkX, gEval, cond_true, cond_false, r_build, r_bsl, fill, VE.unOp, r_bin, List.drop_zero, List.drop_succ_cons, resOf, resVs, resV, List.length_cons, List.length_nil, reduceCtorEq, or_true, true_or, false_or, or_false, eq_self, exists_eq_left', Option.some.injEq, m4, gd, ge, qd, qe, frzB]
  | false =>
  obtain ⟨shd, ld⟩ := great_short qd
  obtain ⟨she, le⟩ := great_short qe
  have hput : ∀ (x : Lack), Short x.a → ∀ (bo t : Nat) (now : Int) (l : List Lack) (h : Heap), OrdK bo t now h l → (l.length + 1) * 256 ≤ 140737488355328 → ∃ y h', SameK x y ∧ callRes vp 13 [.agg (encK x), .ptr bo 0] h = some (.tup [], h') ∧ OrdK bo t now h' (l ++ [y]) ∧ ExtB bo h h' := fun x sh bo t' now l h o hb => put_spec t.t13 t.t14 t.t22 t.t23 x sh bo t' now l h o hb
  have hat : ∀ (now : Int) (c : Sl Lack) (t : Int) (h : Heap), c.l.length < 4611686018427387904 → callRes vp 15 [.agg [.int .u64 now, c.v encK], .int .u32 t] h = some (.int .i64 (fidx (isT t) c.l), h) := fun now c t' h hn => at15_spec t.t15 now c t' h hn
  have htw : ∀ (x : Lack), Short x.a → ∀ h, ∃ y, SameA x.a y ∧ callRes vp 16 [.agg (encK x)] h = some (.agg (encK ⟨x.t, x.e, x.is, y, x.ok⟩), h) := fun x sh h => twin16_spec t.t16 t.t24 x sh h
  have j5 : ∀ h, ∃ p : Int × Sl Lack, callRes vp 5 [.agg [.int .u64 nd, d.v encK], .agg [.int .u64 ne, e.v encK]] h = some (.tup [.agg [.int .u64 p.1, p.2.v encK], .int .i64 (joinE nd d.l ne e.l)], h) ∧ ((joinE nd d.l ne e.l = 0 ∧ p.1 = ne ∧ AllK (J d.l e.l) p.2.l) ∨ (joinE nd d.l ne e.l ≠ 0 ∧ p.1 = 0 ∧ p.2.l = [])) := fun h => by
    obtain ⟨r, e1, no, o, rfl, e3⟩ := joinP_spec t.t5 m9 k9 hput nd d ne e h shd she (by omega) (by omega)
    exact ⟨(no, o), e1, e3⟩
  have j6 : ∀ h, ∃ p : Int × Sl Lack, callRes vp 6 [.agg [.int .u64 nd, d.v encK], .agg [.int .u64 ne, e.v encK]] h = some (.tup [.agg [.int .u64 p.1, p.2.v encK], .int .i64 (joinE nd d.l ne e.l)], h) ∧ ((joinE nd d.l ne e.l = 0 ∧ p.1 = ne ∧ AllK (J d.l e.l) p.2.l) ∨ (joinE nd d.l ne e.l ≠ 0 ∧ p.1 = 0 ∧ p.2.l = [])) := fun h => by
    obtain ⟨r, e1, no, o, rfl, e3⟩ := joinR_spec t.t6 m10 m15 m16 k10 hat htw nd d ne e h shd she (by omega) (by omega)
    exact ⟨(no, o), e1, e3⟩
  have j7 : ∀ h, ∃ o : Sl Int, callRes vp 7 [.agg [.int .u64 nd, d.v encK]] h = some (.tup [o.v e32, .int .i64 (chkD nd d.l)], h) ∧ o.l = if chkD nd d.l = 0 then d.l.map (·.t) else [] := fun h => by
    obtain ⟨r, e1, o, rfl, e3⟩ := ten7_spec t.t7 m9 k9 nd d h shd (by omega)
    exact ⟨o, e1, e3⟩
  have j8 : ∀ h, ∃ o : Sl Int, callRes vp 8 [.agg [.int .u64 nd, d.v encK]] h = some (.tup [o.v e32, .int .i64 (chkD nd d.l)], h) ∧ o.l = if chkD nd d.l = 0 then d.l.map (·.t) else [] := fun h => by
    obtain ⟨r, e1, o, rfl, e3⟩ := ten8_spec t.t8 m10 k10 nd d h shd (by omega)
    exact ⟨o, e1, e3⟩
  obtain ⟨F5, j5⟩ := Classical.skolem.1 j5
  obtain ⟨F6, j6⟩ := Classical.skolem.1 j6
  obtain ⟨F7, j7⟩ := Classical.skolem.1 j7
  obtain ⟨F8, j8⟩ := Classical.skolem.1 j8
  have s11 : ∀ a b h, callRes vp 11 [.agg [.int .u64 (F5 a).1, (F5 a).2.v encK], .agg [.int .u64 (F6 b).1, (F6 b).2.v encK]] h = some (.bool true, h) := fun a b h => by
    rcases (j5 a).2 with ⟨p1, p2, p3⟩ | ⟨p1, p2, p3⟩
    · rcases (j6 b).2 with ⟨q1, q2, q3⟩ | ⟨q1, _⟩
      · rw [p2, q2]
        exact same11_spec t.t11 t.t21 t.t31 ne _ _ h (p3.symm.trans q3) (shortJ shd she p3) (by rw [← p3.1]; exact Nat.le_trans (J_len _ _ _) (by omega))
      · exact absurd p1 q1
    · rcases (j6 b).2 with ⟨q1, _⟩ | ⟨q1, q2, q3⟩
      · exact absurd q1 p1
      · rw [p2, q2]
        exact same11_spec t.t11 t.t21 t.t31 0 _ _ h (by rw [p3, q3]; exact AllK.refl _) (by rw [p3]; simp) (by rw [p3]; simp)
  have s12 : ∀ a b h, callRes vp 12 [(F7 a).v e32, (F8 b).v e32] h = some (.bool true, h) := fun a b h =>
    same12_spec t.t12 _ _ h ((j7 a).2.trans (j8 b).2.symm) (by rw [(j7 a).2]; split <;> simp; omega)
  have e5 := fun h => (j5 h).1
  have e6 := fun h => (j6 h).1
  have e7 := fun h => (j7 h).1
  have e8 := fun h => (j8 h).1
  have cd9 := fun h => k9 nd (d.v encK) d.l h (Rd.sl d) shd (by omega)
  have cd10 := fun h => k10 nd (d.v encK) d.l h (Rd.sl d) shd (by omega)
  simp only [↓zp, zz, true_and, and_true, chkOk, Nat.reduceEqDiff, Nat.reduceAdd, Nat.reduceSub, Nat.reduceMul, Nat.reduceLT, Nat.reduceLeDiff, Int.reduceLT, Int.reduceLE, Int.reduceEq, Int.reduceAdd, Int.reduceNeg, if_false, if_true, reduceIte, List.getElem?_cons_succ, List.getElem?_cons_zero, Option.getD_some, r_mv, r_pick, r_box, r_alloc, r_un, r_eqb, r_ext, r_mkf, r_cnv, r_st, r_nck, r_ix, r_iaa, takeN, List.cons_append, List.nil_append, VE.store, over, cellsAt, VE.part, Option.map_some, Option.bind_some, blkX, gEval, cond_true, cond_false, r_build, r_bsl, fill, VE.unOp, r_bin, List.drop_zero, List.drop_succ_cons, resOf, resVs, resV, List.length_cons, List.length_nil, reduceCtorEq, or_true, true_or, false_or, or_false, eq_self, exists_eq_left', Option.some.injEq, m4, gd, ge, qd, qe, m5, m6, m7, m8, m9, m10, m11, m12, e5, e6, e7, e8, s11, s12, cd9, cd10, hl, oneCell_v, cellsO_v, frzB]
end Go.VE.LB
