/- What the functions of the law DifferChecks compute, on typed arguments (part 10). -/
import Derived.Test.YtlomleifnbpghabDifferChecksA9
set_option linter.all false
namespace Go.VE.LB
open Go Go.VE Classical
set_option maxRecDepth 100000
set_option maxHeartbeats 2000000
set_option linter.all false
theorem scal_v {α : Type} {enc : α → List V} {c : Sl α} : VE.scal (c.v enc) = true := by cases c <;> rfl
theorem encH_scal (x : Held) : (encH x).all VE.scal = true := rfl
theorem e32_scal (x : Int) : (e32 x).all VE.scal = true := rfl
theorem encA_scal (x : Acct) : (encA x).all VE.scal = true := by
  unfold encA
  simp only [List.all_cons, List.all_nil, scal_v, Bool.and_true, Bool.true_and]
  rfl
structure Lack where
  t : Int
  e : Int
  is : Bool
  a : Acct
  ok : 0 ≤ t
def encK (x : Lack) : List V := .int .u32 x.t :: .int .u32 x.e :: .bool x.is :: encA x.a
theorem encK_len (x : Lack) : (encK x).length = 27 := rfl
theorem encK_scal (x : Lack) : (encK x).all VE.scal = true := by
  unfold encK
  simp only [List.all_cons, encA_scal, Bool.and_true]
  rfl
theorem one_v {α : Type} {enc : α → List V} {c : Sl α} : oneCell (c.v enc) = true := by cases c <;> rfl
theorem encA_one (x : Acct) : (encA x).all oneCell = true := by
  unfold encA
  simp only [List.all_cons, List.all_nil, one_v, Bool.and_true, Bool.true_and]
  rfl
theorem encK_one (x : Lack) : (encK x).all oneCell = true := by
  unfold encK
  simp only [List.all_cons, encA_one, Bool.and_true]
  rfl
theorem frzA {h : Heap} {b : Nat} {l : List V} (hs : l.all VE.scal = true) (hn : l.length ≤ 900000) : frz frzFuel h b false (.agg l) = some (.agg l) := by
  show frz (999999 + 1) h b false (.agg l) = _
  rw [frz, frzs_scal l hs (by omega), Option.map_some]
section
variable {α : Type} {enc : α → List V} {sz bytes : Nat}
theorem app_new (he : ∀ x, (enc x).length = sz) {c : Sl α} {b : Nat} {h : Heap} (hb : h.get b = .cells [] .cl) (hbn : b < h.nx) (hs : c.l.length * bytes ≤ 140737488355328) :
    ∃ b' tag h', r_app sz bytes (.sl b 0 0 0 sz) (c.v enc) h = some (.sl b' 0 c.l.length c.l.length sz, h') ∧ h'.get b' = .cells (c.l.flatMap enc) tag ∧ b ≤ b' ∧ b' < h'.nx ∧ Kp h h' := by
  have hl : lenOf (c.v enc) = some c.l.length := by cases c <;> rfl
  have hr : rowOf h sz (c.v enc) = some (c.l.flatMap enc) := by
    cases c with
    | nil => rfl
    | mk l cap => simp only [Sl.v, rowOf, Sl.l, flat_len2 he, beq_dec, decide_true, cond_true]
  have hnb : Nat.blt 140737488355328 ((0 + c.l.length) * bytes) = false := by rw [blt_dec]; simp; omega
  cases hn : c.l with
  | nil =>
    rw [hn] at hl hr
    refine ⟨b, .cl, h, ?_, by rw [hb]; rfl, Nat.le_refl _, hbn, Kp.refl h⟩
    simp only [r_app, hl, hr, List.length_nil, appendV]
  | cons x l =>
    rw [hn] at hl hr hnb
    refine ⟨h.nx, .op, h.new (.cells ((x :: l).flatMap enc) .op), ?_, by rw [Heap.get_new, if_pos rfl], by omega, by simp [Heap.new], (Kp.refl h).new _⟩
    have hz : Nat.ble (0 + (l.length + 1)) 0 = false := by rw [ble_dec]; simp
    simp only [List.length_cons, Nat.zero_add] at hl hnb hz ⊢
    simp only [r_app, hl, hr, appendV, beq_dec, decide_true, cond_true, hb, hz, cond_false, hnb, Nat.zero_mul, List.drop_nil, takeN, Tag.opn, Bool.false_and, List.nil_append, tagN, Nat.zero_add]
end
theorem rn_isl {l : List V} {n : Nat} {c : Option Nat} {h : Heap} : r_eqn false 1 (.isl l n c) .nils h = some (.bool false, h) := rfl
theorem rn_nils {h : Heap} : r_eqn false 1 .nils .nils h = some (.bool true, h) := rfl
section
variable {vp : Nat → Option VFn}
theorem cloneH_spec {f : Nat} (hf : vp f = some B_slices_Clone_api_Held) (c : Sl Held) (h : Heap) (hn : c.l.length ≤ 100000) : ∃ o : Sl Held, o.l = c.l ∧ callRes vp f [c.v encH] h = some (o.v encH, h) := by
  suffices q : ∃ r, callRes vp f [c.v encH] h = some (r, h) ∧ ∃ o : Sl Held, o.l = c.l ∧ r = o.v encH by
    obtain ⟨r, e, o, h1, rfl⟩ := q
    exact ⟨o, h1, e⟩
  refine res_pure_ex hf rfl rfl (fun g hg => ?_)
  unfold B_slices_Clone_api_Held
  cases c with
  | nil =>
    simp only [↓zp, zz, true_and, and_true, chkOk, Nat.reduceEqDiff, Nat.reduceAdd, Nat.reduceSub, Nat.reduceMul, Nat.reduceLT, Nat.reduceLeDiff, Int.reduceLT, Int.reduceLE, Int.reduceEq, Int.reduceAdd, Int.reduceNeg, if_false, if_true, reduceIte, List.getElem?_cons_succ, List.getElem?_cons_zero, Option.getD_some, r_mv, r_pick, r_box, r_alloc, r_un, r_eqb, r_ext, r_mkf, r_cnv, r_st, r_nck, r_ix, r_iaa, takeN, List.cons_append, List.nil_append, VE.store, over, cellsAt, VE.part, Option.map_some, Option.bind_some, blkX, gEval, cond_true, cond_false, r_build, r_bsl, fill, VE.unOp, r_bin, List.drop_zero, List.drop_succ_cons, resOf, resVs, resV, List.length_cons, List.length_nil, reduceCtorEq, or_true, true_or, false_or, or_false, eq_self, exists_eq_left', Option.some.injEq, Sl.v, rn_nils]
    exact ⟨_, rfl, .nil, rfl, rfl⟩
  | mk l cap =>
    have hn' : l.length ≤ 100000 := hn
    obtain ⟨b', tag, h', e, q1, q2, q3, q4⟩ := app_new (bytes := 56) encH_len (c := .mk l cap) (b := g.nx) (h := g.new (.cells [] .cl)) (by rw [Heap.get_new, if_pos rfl]) (by simp [Heap.new]) (by simp only [Sl.l]; omega)
    simp only [Sl.v, Sl.l] at e q1
    simp only [↓zp, zz, true_and, and_true, chkOk, Nat.reduceEqDiff, Nat.reduceAdd, Nat.reduceSub, Nat.reduceMul, Nat.reduceLT, Nat.reduceLeDiff, Int.reduceLT, Int.reduceLE, Int.reduceEq, Int.reduceAdd, Int.reduceNeg, if_false, if_true, reduceIte, List.getElem?_cons_succ, List.getElem?_cons_zero, Option.getD_some, r_mv, r_pick, r_box, r_alloc, r_un, r_eqb, r_ext, r_mkf, r_cnv, r_st, r_nck, r_ix, r_iaa, takeN, List.cons_append, List.nil_append, VE.store, over, cellsAt, VE.part, Option.map_some, Option.bind_some, blkX, gEval, cond_true, cond_false, r_build, r_bsl, fill, VE.unOp, r_bin, List.drop_zero, List.drop_succ_cons, resOf, resVs, resV, List.length_cons, List.length_nil, reduceCtorEq, or_true, true_or, false_or, or_false, eq_self, exists_eq_left', Option.some.injEq, Sl.v, rn_isl, e]
    obtain ⟨o, o1, o2⟩ := FzV.row (base := g.nx) encH_len encH_scal q2 (n := l.length) (c := l.length) rfl q1
    exact ⟨_, o2 _ (by show _ ≤ 1000000; omega), o, o1, rfl⟩
theorem clone32_spec {f : Nat} (hf : vp f = some B_slices_Clone_uint32) (c : Sl Int) (h : Heap) (hn : c.l.length ≤ 100000) : ∃ o : Sl Int, o.l = c.l ∧ callRes vp f [c.v e32] h = some (o.v e32, h) := by
  suffices q : ∃ r, callRes vp f [c.v e32] h = some (r, h) ∧ ∃ o : Sl Int, o.l = c.l ∧ r = o.v e32 by
    obtain ⟨r, e, o, h1, rfl⟩ := q
    exact ⟨o, h1, e⟩
  refine res_pure_ex hf rfl rfl (fun g hg => ?_)
  unfold B_slices_Clone_uint32
  cases c with
  | nil =>
    simp only [↓zp, zz, true_and, and_true, chkOk, Nat.reduceEqDiff, Nat.reduceAdd, Nat.reduceSub, Nat.reduceMul, Nat.reduceLT, Nat.reduceLeDiff, Int.reduceLT, Int.reduceLE, Int.reduceEq, Int.reduceAdd, Int.reduceNeg, if_false, if_true, reduceIte, List.getElem?_cons_succ, List.getElem?_cons_zero, Option.getD_some, r_mv, r_pick, r_box, r_alloc, r_un, r_eqb, r_ext, r_mkf, r_cnv, r_st, r_nck, r_ix, r_iaa, takeN, List.cons_append, List.nil_append, VE.store, over, cellsAt, VE.part, Option.map_some, Option.bind_some, blkX, gEval, cond_true, cond_false, r_build, r_bsl, fill, VE.unOp, r_bin, List.drop_zero, List.drop_succ_cons, resOf, resVs, resV, List.length_cons, List.length_nil, reduceCtorEq, or_true, true_or, false_or, or_false, eq_self, exists_eq_left', Option.some.injEq, Sl.v, rn_nils]
    exact ⟨_, rfl, .nil, rfl, rfl⟩
  | mk l cap =>
    have hn' : l.length ≤ 100000 := hn
    obtain ⟨b', tag, h', e, q1, q2, q3, q4⟩ := app_new (bytes := 4) e32_len (c := .mk l cap) (b := g.nx) (h := g.new (.cells [] .cl)) (by rw [Heap.get_new, if_pos rfl]) (by simp [Heap.new]) (by simp only [Sl.l]; omega)
    simp only [Sl.v, Sl.l] at e q1
    simp only [↓zp, zz, true_and, and_true, chkOk, Nat.reduceEqDiff, Nat.reduceAdd, Nat.reduceSub, Nat.reduceMul, Nat.reduceLT, Nat.reduceLeDiff, Int.reduceLT, Int.reduceLE, Int.reduceEq, Int.reduceAdd, Int.reduceNeg, if_false, if_true, reduceIte, List.getElem?_cons_succ, List.getElem?_cons_zero, Option.getD_some, r_mv, r_pick, r_box, r_alloc, r_un, r_eqb, r_ext, r_mkf, r_cnv, r_st, r_nck, r_ix, r_iaa, takeN, List.cons_append, List.nil_append, VE.store, over, cellsAt, VE.part, Option.map_some, Option.bind_some, blkX, gEval, cond_true, cond_false, r_build, r_bsl, fill, VE.unOp, r_bin, List.drop_zero, List.drop_succ_cons, resOf, resVs, resV, List.length_cons, List.length_nil, reduceCtorEq, or_true, true_or, false_or, or_false, eq_self, exists_eq_left', Option.some.injEq, Sl.v, rn_isl, e]
    obtain ⟨o, o1, o2⟩ := FzV.row (base := g.nx) e32_len e32_scal q2 (n := l.length) (c := l.length) rfl q1
    exact ⟨_, o2 _ (by show _ ≤ 1000000; omega), o, o1, rfl⟩
structure Short (x : Acct) : Prop where
  u : x.users.l.length ≤ 100000
  e : x.ends.l.length ≤ 100000
  r : x.rev.l.length ≤ 100000
theorem clone_spec {f c1 c2 t1 : Nat} (hf : vp f = some (B_differ_clone c1 c2 t1)) (h1 : vp c1 = some B_slices_Clone_api_Held) (h2 : vp c2 = some B_slices_Clone_uint32) (x : Acct) (sh : Short x) (h : Heap) :
    ∃ y, SameA x y ∧ callRes vp f [.agg (encA x)] h = some (.agg (encA y), h) := by
  have m1 : modeOf vp c1 = some 1 := by simp [modeOf, h1, B_slices_Clone_api_Held]
  have m2 : modeOf vp c2 = some 1 := by simp [modeOf, h2, B_slices_Clone_uint32]
  suffices q : ∃ r, callRes vp f [.agg (encA x)] h = some (r, h) ∧ ∃ y, SameA x y ∧ r = .agg (encA y) by
    obtain ⟨r, e, o, h1, rfl⟩ := q
    exact ⟨o, h1, e⟩
  refine res_pure_ex hf rfl rfl (fun g hg => ?_)
  have hlo := hlo hg
  generalize hX : (g.new (.cells (encA x) .cl)) = X
  have kp1 : ∃ X2, X2 = X := ⟨_, rfl⟩
  have e1 := fun h => cloneH_spec h1 x.users h sh.u
  have e2 := fun h => cloneH_spec h1 x.ends h sh.e
  have e3 := fun h => clone32_spec h2 x.rev h sh.r
  obtain ⟨o1, p1, e1⟩ := e1 ((g.new (.cells (encA x) .cl)).new (.cells [.int .u32 0, .int .i64 0, .int .i64 0, .int .i64 0, .int .i64 0, .int .i64 0, .int .i64 0, .int .i64 0, .int .i64 0, .int .i64 0, .int .i64 0, .int .i64 0, .int .i64 0, .int .i64 0, .int .i64 0, .int .i64 0, .int .i64 0, .int .u64 0, .nils, .nils, .nils, .int .u64 0, .int .u64 0, .int .u64 0] (.ct t1)))
  obtain ⟨o2, p2, e2⟩ := e2 ((g.new (.cells (encA x) .cl)).new (.cells [.int .u32 0, .int .i64 0, .int .i64 0, .int .i64 0, .int .i64 0, .int .i64 0, .int .i64 0, .int .i64 0, .int .i64 0, .int .i64 0, .int .i64 0, .int .i64 0, .int .i64 0, .int .i64 0, .int .i64 0, .int .i64 0, .int .i64 0, .int .u64 0, .nils, .nils, .nils, .int .u64 0, .int .u64 0, .int .u64 0] (.ct t1)))
  obtain ⟨o3, p3, e3⟩ := e3 ((g.new (.cells (encA x) .cl)).new (.cells [.int .u32 0, .int .i64 0, .int .i64 0, .int .i64 0, .int .i64 0, .int .i64 0, .int .i64 0, .int .i64 0, .int .i64 0, .int .i64 0, .int .i64 0, .int .i64 0, .int .i64 0, .int .i64 0, .int .i64 0, .int .i64 0, .int .i64 0, .int .u64 0, .nils, .nils, .nils, .int .u64 0, .int .u64 0, .int .u64 0] (.ct t1)))
  have hl0 : ¬ (g.nx < g.lo) := by omega
  have hl1 : ¬ (g.nx + 1 < g.lo) := by omega
  unfold B_differ_clone
  simp only [encA] at e1 e2 e3
  simp only [↓zp, zz, true_and, and_true, chkOk, Nat.reduceEqDiff, Nat.reduceAdd, Nat.reduceSub, Nat.reduceMul, Nat.reduceLT, Nat.reduceLeDiff, Int.reduceLT, Int.reduceLE, Int.reduceEq, Int.reduceAdd, Int.reduceNeg, if_false, if_true, reduceIte, List.getElem?_cons_succ, List.getElem?_cons_zero, Option.getD_some, r_mv, r_pick, r_box, r_alloc, r_un, r_eqb, r_ext, r_mkf, r_cnv, r_st, r_nck, r_ix, r_iaa, takeN, List.cons_append, List.nil_append, VE.store, over, cellsAt, VE.part, Option.map_some, Option.bind_some, blkX, gEval, cond_true, cond_false, r_build, r_bsl, fill, VE.unOp, r_bin, List.drop_zero, List.drop_succ_cons, resOf, resVs, resV, List.length_cons, List.length_nil, reduceCtorEq, or_true, true_or, false_or, or_false, eq_self, exists_eq_left', Option.some.injEq, encA, m1, m2, e1, e2, e3, hl0, hl1, oneCell_v, cellsO_v]
  refine ⟨_, frzA (l := encA { x with users := o1, ends := o2, rev := o3 }) (encA_scal _) (by simp [encA]), { x with users := o1, ends := o2, rev := o3 }, ⟨by rw [p3], fun k _ _ => by simp only [p3], rfl, ⟨rfl, rfl, rfl⟩, ⟨rfl, rfl⟩, rfl, p1.symm, p2.symm, ⟨rfl, rfl, rfl⟩⟩, rfl⟩
end
end Go.VE.LB
