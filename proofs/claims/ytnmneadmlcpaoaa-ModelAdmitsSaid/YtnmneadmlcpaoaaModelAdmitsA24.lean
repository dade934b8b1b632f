/- What the functions of the law ModelAdmits compute, on typed arguments (part 24). -/
import Derived.Test.YtnmneadmlcpaoaaModelAdmitsA23
set_option linter.all false
namespace Go.VE.LB
open Go Go.VE
set_option maxRecDepth 100000
set_option linter.all false
set_option maxHeartbeats 2000000
theorem Own.one {α : Type} {enc : α → List V} {sz : Nat} {h : Heap} {v : V} {l : List α} {lo hi : Nat} (o : Own enc sz h v l lo hi) : oneCell v = true ∧ cellsO v = some [v] := by
  rcases o with ⟨rfl, _⟩ | ⟨b, tag, rfl, _⟩ <;> exact ⟨rfl, rfl⟩
theorem encA_S (a : Acct) : encA a = encS a (a.users.v encH) (a.ends.v encH) (a.rev.v e32) a.own a.n0 a.n1 a.n2 := rfl
section
variable {vp : Nat → Option VFn}
theorem mclone_spec {f c1 c2 t1 : Nat} (hf : vp f = some (B_model_clone c1 c2 t1)) (h1 : vp c1 = some B_slices_Clone_api_Held_v2) (h2 : vp c2 = some B_slices_Clone_uint32_v2) (a : Acct) (h : Heap) (hu : a.users.l.length ≤ 100000) (he : a.ends.l.length ≤ 100000) (hr : a.rev.l.length ≤ 100000) (hl : h.lo ≤ h.nx) :
    ∃ v h', callRes vp f [.agg (encA a)] h = some (v, h') ∧ ∃ u e r n0 n1 n2 n3, v = .agg (encS a u e r a.own a.n0 a.n1 a.n2) ∧ Own encH 7 h' u a.users.l n0 n1 ∧ Own encH 7 h' e a.ends.l n1 n2 ∧ Own e32 1 h' r a.rev.l n2 n3 ∧ h.nx ≤ n0 ∧ n0 ≤ n1 ∧ n1 ≤ n2 ∧ n2 ≤ n3 ∧ n3 ≤ h'.nx ∧ Kp h h' := by
  refine res_raw hf rfl rfl ?_
  have m1 : modeOf vp c1 = some 2 := by simp [modeOf, h1, B_slices_Clone_api_Held_v2]
  have m2 : modeOf vp c2 = some 2 := by simp [modeOf, h2, B_slices_Clone_uint32_v2]
  have l0 : ¬ (h.nx < h.lo) := by omega
  have l1 : ¬ (h.nx + 1 < h.lo) := by omega
  have K0 : Kp h ((h.new (.cells (encA a) .cl)).new (.cells [.int .u32 0, .int .i64 0, .int .i64 0, .int .i64 0, .int .i64 0, .int .i64 0, .int .i64 0, .int .i64 0, .int .i64 0, .int .i64 0, .int .i64 0, .int .i64 0, .int .i64 0, .int .i64 0, .int .i64 0, .int .i64 0, .int .i64 0, .int .u64 0, .nils, .nils, .nils, .int .u64 0, .int .u64 0, .int .u64 0] (.ct t1))) := ((Kp.refl h).new _).new _
  have g0 : ((h.new (.cells (encA a) .cl)).new (.cells [.int .u32 0, .int .i64 0, .int .i64 0, .int .i64 0, .int .i64 0, .int .i64 0, .int .i64 0, .int .i64 0, .int .i64 0, .int .i64 0, .int .i64 0, .int .i64 0, .int .i64 0, .int .i64 0, .int .i64 0, .int .i64 0, .int .i64 0, .int .u64 0, .nils, .nils, .nils, .int .u64 0, .int .u64 0, .int .u64 0] (.ct t1))).get h.nx = .cells (encA a) .cl := by simp only [↓zp, zz, true_and, and_true, chkOk, Nat.reduceEqDiff, Nat.reduceAdd, Nat.reduceSub, Nat.reduceMul, Nat.reduceLT, Nat.reduceLeDiff, Int.reduceLT, Int.reduceLE, Int.reduceEq, Int.reduceAdd, Int.reduceNeg, if_false, if_true, reduceIte, ags, LB.agz, agd, r_mv, r_pick, r_box, r_alloc, r_un, r_eqb, r_ext, r_mkf, r_cnv, r_st, r_nck, r_ix, r_iaa, takeN, agc, agn, VE.store, over, cellsAt, VE.part, agm, agb, blkX, gEval, cond_true, cond_false, r_build, r_bsl, fill, VE.unOp, r_bin, adz, ads, resOf, resVs, resV, alc, aln, reduceCtorEq, or_true, true_or, false_or, or_false, eq_self, exists_eq_left', Option.some.injEq]
  have g0' : ((h.new (.cells (encA a) .cl)).new (.cells [.int .u32 0, .int .i64 0, .int .i64 0, .int .i64 0, .int .i64 0, .int .i64 0, .int .i64 0, .int .i64 0, .int .i64 0, .int .i64 0, .int .i64 0, .int .i64 0, .int .i64 0, .int .i64 0, .int .i64 0, .int .i64 0, .int .i64 0, .int .u64 0, .nils, .nils, .nils, .int .u64 0, .int .u64 0, .int .u64 0] (.ct t1))).get (h.nx + 1) = .cells [.int .u32 0, .int .i64 0, .int .i64 0, .int .i64 0, .int .i64 0, .int .i64 0, .int .i64 0, .int .i64 0, .int .i64 0, .int .i64 0, .int .i64 0, .int .i64 0, .int .i64 0, .int .i64 0, .int .i64 0, .int .i64 0, .int .i64 0, .int .u64 0, .nils, .nils, .nils, .int .u64 0, .int .u64 0, .int .u64 0] (.ct t1) := by simp only [↓zp, zz, true_and, and_true, chkOk, Nat.reduceEqDiff, Nat.reduceAdd, Nat.reduceSub, Nat.reduceMul, Nat.reduceLT, Nat.reduceLeDiff, Int.reduceLT, Int.reduceLE, Int.reduceEq, Int.reduceAdd, Int.reduceNeg, if_false, if_true, reduceIte, ags, LB.agz, agd, r_mv, r_pick, r_box, r_alloc, r_un, r_eqb, r_ext, r_mkf, r_cnv, r_st, r_nck, r_ix, r_iaa, takeN, agc, agn, VE.store, over, cellsAt, VE.part, agm, agb, blkX, gEval, cond_true, cond_false, r_build, r_bsl, fill, VE.unOp, r_bin, adz, ads, resOf, resVs, resV, alc, aln, reduceCtorEq, or_true, true_or, false_or, or_false, eq_self, exists_eq_left', Option.some.injEq]
  have nx0 : ((h.new (.cells (encA a) .cl)).new (.cells [.int .u32 0, .int .i64 0, .int .i64 0, .int .i64 0, .int .i64 0, .int .i64 0, .int .i64 0, .int .i64 0, .int .i64 0, .int .i64 0, .int .i64 0, .int .i64 0, .int .i64 0, .int .i64 0, .int .i64 0, .int .i64 0, .int .i64 0, .int .u64 0, .nils, .nils, .nils, .int .u64 0, .int .u64 0, .int .u64 0] (.ct t1))).nx = h.nx + 2 := rfl
  unfold B_model_clone
  unfold encA at *
  simp only [↓zp, zz, true_and, and_true, chkOk, Nat.reduceEqDiff, Nat.reduceAdd, Nat.reduceSub, Nat.reduceMul, Nat.reduceLT, Nat.reduceLeDiff, Int.reduceLT, Int.reduceLE, Int.reduceEq, Int.reduceAdd, Int.reduceNeg, if_false, if_true, reduceIte, ags, LB.agz, agd, r_mv, r_pick, r_box, r_alloc, r_un, r_eqb, r_ext, r_mkf, r_cnv, r_st, r_nck, r_ix, r_iaa, takeN, agc, agn, VE.store, over, cellsAt, VE.part, agm, agb, blkX, gEval, cond_true, cond_false, r_build, r_bsl, fill, VE.unOp, r_bin, adz, ads, resOf, resVs, resV, alc, aln, reduceCtorEq, or_true, true_or, false_or, or_false, eq_self, exists_eq_left', Option.some.injEq, m1]
  generalize Heap.new _ _ = H0 at *
  obtain ⟨u, H1, cu, ou, K1⟩ := cloneH_spec h1 a.users H0 hu (by rw [K0.lo]; omega)
  obtain ⟨e, H2, ce, oe, K2⟩ := cloneH_spec h1 a.ends H1 he (by rw [K1.lo, K0.lo]; have := K1.nx; omega)
  obtain ⟨r, H3, cr, or', K3⟩ := cloneU_spec h2 a.rev H2 hr (by rw [K2.lo, K1.lo, K0.lo]; have := K1.nx; have := K2.nx; omega)
  have a1 := K1.nx
  have a2 := K2.nx
  have a3 := K3.nx
  have g1 : H1.get h.nx = _ := (K1.get h.nx (by omega)).trans g0
  have g2 : H2.get h.nx = _ := (K2.get h.nx (by omega)).trans g1
  have g3 : H3.get h.nx = _ := (K3.get h.nx (by omega)).trans g2
  have g3' : H3.get (h.nx + 1) = _ := (K3.get _ (by omega)).trans ((K2.get _ (by omega)).trans ((K1.get _ (by omega)).trans g0'))
  have lo3 : H3.lo = h.lo := by rw [K3.lo, K2.lo, K1.lo, K0.lo]
  have u1 := ou.one
  have e1 := oe.one
  have r1 := or'.one
  simp only [↓zp, zz, true_and, and_true, chkOk, Nat.reduceEqDiff, Nat.reduceAdd, Nat.reduceSub, Nat.reduceMul, Nat.reduceLT, Nat.reduceLeDiff, Int.reduceLT, Int.reduceLE, Int.reduceEq, Int.reduceAdd, Int.reduceNeg, if_false, if_true, reduceIte, ags, LB.agz, agd, r_mv, r_pick, r_box, r_alloc, r_un, r_eqb, r_ext, r_mkf, r_cnv, r_st, r_nck, r_ix, r_iaa, takeN, agc, agn, VE.store, over, cellsAt, VE.part, agm, agb, blkX, gEval, cond_true, cond_false, r_build, r_bsl, fill, VE.unOp, r_bin, adz, ads, resOf, resVs, resV, alc, aln, reduceCtorEq, or_true, true_or, false_or, or_false, eq_self, exists_eq_left', Option.some.injEq, g0, cu, m1, g1, ce, m2, g2, cr, g3, g3', lo3, l0, l1, u1.1, u1.2, e1.1, e1.2, r1.1, r1.2]
  have kk : Kp h H3 := K0.trans (K1.trans (K2.trans K3))
  refine ⟨u, e, r, H0.nx, H1.nx, H2.nx, H3.nx, rfl, ?_, ?_, ?_, by omega, by omega, by omega, by omega, Nat.le_refl _, (((kk.set _ (Nat.le_refl _)).set _ (Nat.le_refl _)).set _ (Nat.le_refl _)).set _ (by omega)⟩
  · exact ou.keep (fun b h1 h2 => by
      simp only [Heap.get_set]
      rw [if_neg (by omega), if_neg (by omega), if_neg (by omega), if_neg (by omega), K3.get b (by omega), K2.get b (by omega)])
  · exact oe.keep (fun b h1 h2 => by
      simp only [Heap.get_set]
      rw [if_neg (by omega), if_neg (by omega), if_neg (by omega), if_neg (by omega), K3.get b (by omega)])
  · exact or'.keep (fun b h1 h2 => by
      simp only [Heap.get_set]
      rw [if_neg (by omega), if_neg (by omega), if_neg (by omega), if_neg (by omega)])
end
end Go.VE.LB
