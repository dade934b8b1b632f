/- What the functions of the law DifferChecks compute, on typed arguments (part 12). -/
import Derived.Test.YtlomleifnbpghabDifferChecksA11
set_option linter.all false
namespace Go.VE.LB
open Go Go.VE Classical
set_option maxRecDepth 100000
set_option maxHeartbeats 2000000
set_option linter.all false
def cA (x : Acct) (u e r : V) : List V := [.int .u32 x.t, .int .i64 x.l0.b, .int .i64 x.l0.r, .int .i64 x.l0.p, .int .i64 x.l1.b, .int .i64 x.l1.r, .int .i64 x.l1.p, .int .i64 x.l2.b, .int .i64 x.l2.r, .int .i64 x.l2.p, .int .i64 x.c0, .int .i64 x.c1,
  .int .i64 x.own.l.b, .int .i64 x.own.l.r, .int .i64 x.own.l.p, .int .i64 x.own.lv, .int .i64 x.own.pt, .int .u64 x.own.t, u, e, r, .int .u64 x.n0, .int .u64 x.n1, .int .u64 x.n2]
def zc : List V := [.int .u32 0, .int .i64 0, .int .i64 0, .int .i64 0, .int .i64 0, .int .i64 0, .int .i64 0, .int .i64 0, .int .i64 0, .int .i64 0, .int .i64 0, .int .i64 0, .int .i64 0, .int .i64 0, .int .i64 0, .int .i64 0, .int .i64 0, .int .u64 0, .nils, .nils, .nils, .int .u64 0, .int .u64 0, .int .u64 0]
theorem fzA {h : Heap} {base : Nat} {x : Acct} {u e r u' e' r' : V} (hu : FzV h base 800000 u u') (he : FzV h base 800000 e e') (hr : FzV h base 800000 r r') : frz frzFuel h base false (.agg (cA x u e r)) = some (.agg (cA x u' e' r')) := by
  have z : FzL h base 800000 [] [] := fun n hn => FzL.nil n (by omega)
  have sc : ∀ {M : Nat} {v : V} {l l' : List V}, VE.scal v = true → FzL h base M l l' → 800000 ≤ M → FzL h base (M + 1) (v :: l) (v :: l') := fun hs g hm => FzL.sc hs g (by omega)
  have q := sc (v := .int .u64 x.n0) rfl (sc (v := .int .u64 x.n1) rfl (sc (v := .int .u64 x.n2) rfl z (by omega)) (by omega)) (by omega)
  have q := FzL.cons hu (FzL.cons he (FzL.cons hr q (by omega)) (by omega)) (by omega)
  have q := sc (v := .int .i64 x.own.l.b) rfl (sc (v := .int .i64 x.own.l.r) rfl (sc (v := .int .i64 x.own.l.p) rfl (sc (v := .int .i64 x.own.lv) rfl (sc (v := .int .i64 x.own.pt) rfl (sc (v := .int .u64 x.own.t) rfl q (by omega)) (by omega)) (by omega)) (by omega)) (by omega)) (by omega)
  have q := sc (v := .int .i64 x.c0) rfl (sc (v := .int .i64 x.c1) rfl q (by omega)) (by omega)
  have q := sc (v := .int .i64 x.l2.b) rfl (sc (v := .int .i64 x.l2.r) rfl (sc (v := .int .i64 x.l2.p) rfl q (by omega)) (by omega)) (by omega)
  have q := sc (v := .int .i64 x.l1.b) rfl (sc (v := .int .i64 x.l1.r) rfl (sc (v := .int .i64 x.l1.p) rfl q (by omega)) (by omega)) (by omega)
  have q := sc (v := .int .i64 x.l0.b) rfl (sc (v := .int .i64 x.l0.r) rfl (sc (v := .int .i64 x.l0.p) rfl q (by omega)) (by omega)) (by omega)
  have q := sc (v := .int .u32 x.t) rfl q (by omega)
  exact (FzV.agg q) frzFuel (by show _ ≤ 1000000; omega)
section
variable {vp : Nat → Option VFn}
theorem Twin_spec {f t1 : Nat} (hf : vp f = some (B_spigotref25_Twin t1)) (x : Acct) (sh : Short x) (h : Heap) : ∃ y, SameA x y ∧ callRes vp f [.agg (encA x)] h = some (.agg (encA y), h) := by
  suffices q : ∃ r, callRes vp f [.agg (encA x)] h = some (r, h) ∧ ∃ y, SameA x y ∧ r = .agg (encA y) by
    obtain ⟨r, e, o, h1, rfl⟩ := q
    exact ⟨o, h1, e⟩
  refine res_pure_ex hf rfl rfl (fun g hg => ?_)
  have hlo := hlo hg
  have hu := sh.u
  have he := sh.e
  have hr := sh.r
  have hl0 : ¬ (g.nx < g.lo) := by omega
  have hl1 : ¬ (g.nx + 1 < g.lo) := by omega
  obtain ⟨b1, tg1, H1, e1, p1, p2, p3, p4⟩ := app_new (bytes := 56) encH_len (c := x.users) (b := g.nx + 1 + 1) (h := ((g.new (.cells (cA x (x.users.v encH) (x.ends.v encH) (x.rev.v e32)) .cl)).new (.cells zc (.ct t1))).new (.cells [] .cl)) (by rw [Heap.get_new, if_pos (by simp only [Heap.new_nx])]) (by simp only [Heap.new_nx]; omega) (by omega)
  have gb1 : H1.get g.nx = .cells (cA x (x.users.v encH) (x.ends.v encH) (x.rev.v e32)) .cl := by
    rw [p4.get _ (by simp only [Heap.new_nx]; omega)]; simp only [↓zp, zz, true_and, and_true, chkOk, Nat.reduceEqDiff, Nat.reduceAdd, Nat.reduceSub, Nat.reduceMul, Nat.reduceLT, Nat.reduceLeDiff, Int.reduceLT, Int.reduceLE, Int.reduceEq, Int.reduceAdd, Int.reduceNeg, if_false, if_true, reduceIte, List.getElem?_cons_succ, List.getElem?_cons_zero, Option.getD_some, r_mv, r_pick, r_box, r_alloc, r_un, r_eqb, r_ext, r_mkf, r_cnv, r_st, r_nck, r_ix, r_iaa, takeN, List.cons_append, List.nil_append, VE.store, over, cellsAt, VE.part, Option.map_some, Option.bind_some, blkX, gEval, cond_true, cond_false, r_build, r_bsl, fill, VE.unOp, r_bin, List.drop_zero, List.drop_succ_cons, resOf, resVs, resV, List.length_cons, List.length_nil, reduceCtorEq, or_true, true_or, false_or, or_false, eq_self, exists_eq_left', Option.some.injEq]
  have gz1 : H1.get (g.nx + 1) = .cells zc (.ct t1) := by
    rw [p4.get _ (by simp only [Heap.new_nx]; omega)]; simp only [↓zp, zz, true_and, and_true, chkOk, Nat.reduceEqDiff, Nat.reduceAdd, Nat.reduceSub, Nat.reduceMul, Nat.reduceLT, Nat.reduceLeDiff, Int.reduceLT, Int.reduceLE, Int.reduceEq, Int.reduceAdd, Int.reduceNeg, if_false, if_true, reduceIte, List.getElem?_cons_succ, List.getElem?_cons_zero, Option.getD_some, r_mv, r_pick, r_box, r_alloc, r_un, r_eqb, r_ext, r_mkf, r_cnv, r_st, r_nck, r_ix, r_iaa, takeN, List.cons_append, List.nil_append, VE.store, over, cellsAt, VE.part, Option.map_some, Option.bind_some, blkX, gEval, cond_true, cond_false, r_build, r_bsl, fill, VE.unOp, r_bin, List.drop_zero, List.drop_succ_cons, resOf, resVs, resV, List.length_cons, List.length_nil, reduceCtorEq, or_true, true_or, false_or, or_false, eq_self, exists_eq_left', Option.some.injEq]
  have lo1 : H1.lo = g.lo := p4.lo
  have nx1 : g.nx + 3 ≤ H1.nx := p4.nx
  clear p4
  unfold B_spigotref25_Twin
  simp only [cA, zc, Nat.add_assoc, Nat.reduceAdd] at e1 gb1 gz1
  simp only [↓zp, zz, true_and, and_true, chkOk, Nat.reduceEqDiff, Nat.reduceAdd, Nat.reduceSub, Nat.reduceMul, Nat.reduceLT, Nat.reduceLeDiff, Int.reduceLT, Int.reduceLE, Int.reduceEq, Int.reduceAdd, Int.reduceNeg, if_false, if_true, reduceIte, List.getElem?_cons_succ, List.getElem?_cons_zero, Option.getD_some, r_mv, r_pick, r_box, r_alloc, r_un, r_eqb, r_ext, r_mkf, r_cnv, r_st, r_nck, r_ix, r_iaa, takeN, List.cons_append, List.nil_append, VE.store, over, cellsAt, VE.part, Option.map_some, Option.bind_some, blkX, gEval, cond_true, cond_false, r_build, r_bsl, fill, VE.unOp, r_bin, List.drop_zero, List.drop_succ_cons, resOf, resVs, resV, List.length_cons, List.length_nil, reduceCtorEq, or_true, true_or, false_or, or_false, eq_self, exists_eq_left', Option.some.injEq, encA, e1, gb1, lo1, hl0, oneCell_v, cellsO_v]
  generalize hG : Heap.set H1 g.nx _ = G1
  have g1 : G1.get g.nx = .cells (cA x (.sl b1 0 x.users.l.length x.users.l.length 7) (x.ends.v encH) (x.rev.v e32)) .cl := by rw [← hG, Heap.get_set, if_pos rfl]; rfl
  have z1 : G1.get (g.nx + 1) = .cells zc (.ct t1) := by rw [← hG, Heap.get_set, if_neg (by omega), gz1]; rfl
  have u1 : G1.get b1 = .cells (x.users.l.flatMap encH) tg1 := by rw [← hG, Heap.get_set, if_neg (by omega), p1]
  have lo1 : G1.lo = g.lo := by rw [← hG]; exact lo1
  have nx1 : g.nx + 3 ≤ G1.nx := by rw [← hG]; exact nx1
  have bx1 : b1 < G1.nx := by rw [← hG]; exact p3
  have hGn : Heap.nx H1 = G1.nx := by rw [← hG]; rfl
  rw [hGn]
  clear hG hGn e1 p1 gb1 gz1
  obtain ⟨b2, tg2, H2, e2, p1, q2, q3, p4⟩ := app_new (bytes := 56) encH_len (c := x.ends) (b := G1.nx) (h := G1.new (.cells [] .cl)) (by rw [Heap.get_new, if_pos rfl]) (by simp only [Heap.new_nx]; omega) (by omega)
  have gb2 : H2.get g.nx = .cells (cA x (.sl b1 0 x.users.l.length x.users.l.length 7) (x.ends.v encH) (x.rev.v e32)) .cl := by
    rw [p4.get _ (by simp only [Heap.new_nx]; omega), Heap.get_new, if_neg (by omega), g1]
  have gz2 : H2.get (g.nx + 1) = .cells zc (.ct t1) := by
    rw [p4.get _ (by simp only [Heap.new_nx]; omega), Heap.get_new, if_neg (by omega), z1]
  have gu2 : H2.get b1 = .cells (x.users.l.flatMap encH) tg1 := by
    rw [p4.get _ (by simp only [Heap.new_nx]; omega), Heap.get_new, if_neg (by omega), u1]
  have lo2 : H2.lo = g.lo := p4.lo.trans lo1
  have nx2 : G1.nx + 1 ≤ H2.nx := p4.nx
  clear p4
  simp only [cA] at g1 gb2
  have hne1 : ¬ g.nx = G1.nx := by omega
  simp only [↓zp, zz, true_and, and_true, chkOk, Nat.reduceEqDiff, Nat.reduceAdd, Nat.reduceSub, Nat.reduceMul, Nat.reduceLT, Nat.reduceLeDiff, Int.reduceLT, Int.reduceLE, Int.reduceEq, Int.reduceAdd, Int.reduceNeg, if_false, if_true, reduceIte, List.getElem?_cons_succ, List.getElem?_cons_zero, Option.getD_some, r_mv, r_pick, r_box, r_alloc, r_un, r_eqb, r_ext, r_mkf, r_cnv, r_st, r_nck, r_ix, r_iaa, takeN, List.cons_append, List.nil_append, VE.store, over, cellsAt, VE.part, Option.map_some, Option.bind_some, blkX, gEval, cond_true, cond_false, r_build, r_bsl, fill, VE.unOp, r_bin, List.drop_zero, List.drop_succ_cons, resOf, resVs, resV, List.length_cons, List.length_nil, reduceCtorEq, or_true, true_or, false_or, or_false, eq_self, exists_eq_left', Option.some.injEq, e2, g1, gb2, lo2, hl0, hne1, oneCell_v, cellsO_v]
  generalize hG : Heap.set H2 g.nx _ = G2
  have g2 : G2.get g.nx = .cells (cA x (.sl b1 0 x.users.l.length x.users.l.length 7) (.sl b2 0 x.ends.l.length x.ends.l.length 7) (x.rev.v e32)) .cl := by rw [← hG, Heap.get_set, if_pos rfl]; rfl
  have z2 : G2.get (g.nx + 1) = .cells zc (.ct t1) := by rw [← hG, Heap.get_set, if_neg (by omega), gz2]
  have u2 : G2.get b1 = .cells (x.users.l.flatMap encH) tg1 := by rw [← hG, Heap.get_set, if_neg (by omega), gu2]
  have v2 : G2.get b2 = .cells (x.ends.l.flatMap encH) tg2 := by rw [← hG, Heap.get_set, if_neg (by omega), p1]
  have lo2 : G2.lo = g.lo := by rw [← hG]; exact lo2
  have nx2 : G1.nx + 1 ≤ G2.nx := by rw [← hG]; exact nx2
  have bx2 : b2 < G2.nx := by rw [← hG]; exact q3
  have hGn : Heap.nx H2 = G2.nx := by rw [← hG]; rfl
  rw [hGn]
  clear hG hGn e2 p1 gb2 gz2 gu2
  obtain ⟨b3, tg3, H3, e3, p1, r2, r3, p4⟩ := app_new (bytes := 4) e32_len (c := x.rev) (b := G2.nx) (h := G2.new (.cells [] .cl)) (by rw [Heap.get_new, if_pos rfl]) (by simp only [Heap.new_nx]; omega) (by omega)
  have gb3 : H3.get g.nx = .cells (cA x (.sl b1 0 x.users.l.length x.users.l.length 7) (.sl b2 0 x.ends.l.length x.ends.l.length 7) (x.rev.v e32)) .cl := by
    rw [p4.get _ (by simp only [Heap.new_nx]; omega), Heap.get_new, if_neg (by omega), g2]
  have gz3 : H3.get (g.nx + 1) = .cells zc (.ct t1) := by
    rw [p4.get _ (by simp only [Heap.new_nx]; omega), Heap.get_new, if_neg (by omega), z2]
  have gu3 : H3.get b1 = .cells (x.users.l.flatMap encH) tg1 := by
    rw [p4.get _ (by simp only [Heap.new_nx]; omega), Heap.get_new, if_neg (by omega), u2]
  have gv3 : H3.get b2 = .cells (x.ends.l.flatMap encH) tg2 := by
    rw [p4.get _ (by simp only [Heap.new_nx]; omega), Heap.get_new, if_neg (by omega), v2]
  have lo3 : H3.lo = g.lo := p4.lo.trans lo2
  have nx3 : G2.nx + 1 ≤ H3.nx := p4.nx
  clear p4
  simp only [cA, zc] at g2 gb3 gz3
  have hne2 : ¬ g.nx = G2.nx := by omega
  simp only [↓zp, zz, true_and, and_true, chkOk, Nat.reduceEqDiff, Nat.reduceAdd, Nat.reduceSub, Nat.reduceMul, Nat.reduceLT, Nat.reduceLeDiff, Int.reduceLT, Int.reduceLE, Int.reduceEq, Int.reduceAdd, Int.reduceNeg, if_false, if_true, reduceIte, List.getElem?_cons_succ, List.getElem?_cons_zero, Option.getD_some, r_mv, r_pick, r_box, r_alloc, r_un, r_eqb, r_ext, r_mkf, r_cnv, r_st, r_nck, r_ix, r_iaa, takeN, List.cons_append, List.nil_append, VE.store, over, cellsAt, VE.part, Option.map_some, Option.bind_some, blkX, gEval, cond_true, cond_false, r_build, r_bsl, fill, VE.unOp, r_bin, List.drop_zero, List.drop_succ_cons, resOf, resVs, resV, List.length_cons, List.length_nil, reduceCtorEq, or_true, true_or, false_or, or_false, eq_self, exists_eq_left', Option.some.injEq, e3, g2, gb3, gz3, lo3, hl0, hl1, hne2, oneCell_v, cellsO_v]
  obtain ⟨o1, f1, z1⟩ := FzV.row (h := (H3.set g.nx (.cells (cA x (.sl b1 0 x.users.l.length x.users.l.length 7) (.sl b2 0 x.ends.l.length x.ends.l.length 7) (.sl b3 0 x.rev.l.length x.rev.l.length 1)) .cl)).set (g.nx + 1) (.cells (cA x (.sl b1 0 x.users.l.length x.users.l.length 7) (.sl b2 0 x.ends.l.length x.ends.l.length 7) (.sl b3 0 x.rev.l.length x.rev.l.length 1)) (.ct t1))) (base := g.nx) (b := b1) (c := x.users.l.length) encH_len encH_scal (by omega) rfl (by rw [Heap.get_set, if_neg (by omega), Heap.get_set, if_neg (by omega), gu3])
  obtain ⟨o2, f2, z2⟩ := FzV.row (h := (H3.set g.nx (.cells (cA x (.sl b1 0 x.users.l.length x.users.l.length 7) (.sl b2 0 x.ends.l.length x.ends.l.length 7) (.sl b3 0 x.rev.l.length x.rev.l.length 1)) .cl)).set (g.nx + 1) (.cells (cA x (.sl b1 0 x.users.l.length x.users.l.length 7) (.sl b2 0 x.ends.l.length x.ends.l.length 7) (.sl b3 0 x.rev.l.length x.rev.l.length 1)) (.ct t1))) (base := g.nx) (b := b2) (c := x.ends.l.length) encH_len encH_scal (by omega) rfl (by rw [Heap.get_set, if_neg (by omega), Heap.get_set, if_neg (by omega), gv3])
  obtain ⟨o3, f3, z3⟩ := FzV.row (h := (H3.set g.nx (.cells (cA x (.sl b1 0 x.users.l.length x.users.l.length 7) (.sl b2 0 x.ends.l.length x.ends.l.length 7) (.sl b3 0 x.rev.l.length x.rev.l.length 1)) .cl)).set (g.nx + 1) (.cells (cA x (.sl b1 0 x.users.l.length x.users.l.length 7) (.sl b2 0 x.ends.l.length x.ends.l.length 7) (.sl b3 0 x.rev.l.length x.rev.l.length 1)) (.ct t1))) (base := g.nx) (b := b3) (c := x.rev.l.length) e32_len e32_scal (by omega) rfl (by rw [Heap.get_set, if_neg (by omega), Heap.get_set, if_neg (by omega), p1])
  refine ⟨_, fzA (z1.le (by omega)) (z2.le (by omega)) (z3.le (by omega)), { x with users := o1, ends := o2, rev := o3 }, ⟨by rw [f3], fun k _ _ => by simp only [f3], rfl, ⟨rfl, rfl, rfl⟩, ⟨rfl, rfl⟩, rfl, f1.symm, f2.symm, ⟨rfl, rfl, rfl⟩⟩, rfl⟩
end
end Go.VE.LB
