/- What the functions of the law ModelAdmits compute, on typed arguments (part 13). -/
import Derived.Test.YtnmneadmlcpaoaaModelAdmitsA12
import Derived.Test.YtnmneadmlcpaoaaModelAdmitsA4
set_option linter.all false
namespace Go.VE.LB
open Go Go.VE
set_option maxRecDepth 100000
set_option linter.all false
set_option maxHeartbeats 1000000
/-- cells of a number of 128 bits -/
def wc (n : Nat) : List V := [.int .u64 ((n / 18446744073709551616 : Nat) : Int), .int .u64 ((n % 18446744073709551616 : Nat) : Int)]
def cmpN (a b : Nat) : Int := if a < b then -1 else if a = b then 0 else 1
theorem wc_small {n : Nat} (h : n < 18446744073709551616) : wc n = [.int .u64 0, .int .u64 (n : Int)] := by
  unfold wc
  rw [Nat.div_eq_of_lt h, Nat.mod_eq_of_lt h]
  rfl
theorem r_carry_f {x y c : Nat} {h : Heap} (hc : c ≤ 1) : r_carry false (.int .u64 (x : Int)) (.int .u64 (y : Int)) (.int .u64 (c : Int)) h = some (.tup [.int .u64 (((x + y + c) % 18446744073709551616 : Nat) : Int), .int .u64 (((x + y + c) / 18446744073709551616 : Nat) : Int)], h) := by
  have : Nat.ble c 1 = true := by rw [ble_dec]; simpa using hc
  show (bif Nat.ble c 1 then _ else _) = _
  rw [this]
  rfl
theorem r_carry_t {x y c : Nat} {h : Heap} (hc : c ≤ 1) : r_carry true (.int .u64 (x : Int)) (.int .u64 (y : Int)) (.int .u64 (c : Int)) h = some (.tup [.int .u64 (((x + 18446744073709551616 - y - c) % 18446744073709551616 : Nat) : Int), .int .u64 (if x < y + c then 1 else 0)], h) := by
  have : Nat.ble c 1 = true := by rw [ble_dec]; simpa using hc
  show (bif Nat.ble c 1 then _ else _) = _
  rw [this]
  simp only [cond_true, carryV, blt_dec, Bool.cond_eq_ite, decide_eq_true_eq]
  rfl
section
variable {vp : Nat → Option VFn}
theorem of_spec {f t1 : Nat} (hf : vp f = some (B_wide_Of t1)) (x : Nat) (hx : x < 18446744073709551616) (h : Heap) : callRes vp f [.int .u64 (x : Int)] h = some (.agg (wc x), h) := by
  refine res_pure hf rfl rfl (fun g hg => ?_)
  have l1 : ¬ (g.nx < g.lo) := by have := hlo hg; omega
  rw [wc_small hx]
  unfold B_wide_Of
  simp only [↓zp, zz, true_and, and_true, chkOk, Nat.reduceEqDiff, Nat.reduceAdd, Nat.reduceSub, Nat.reduceMul, Nat.reduceLT, Nat.reduceLeDiff, Int.reduceLT, Int.reduceLE, Int.reduceEq, Int.reduceAdd, Int.reduceNeg, if_false, if_true, reduceIte, ags, LB.agz, agd, r_mv, r_pick, r_box, r_alloc, r_un, r_eqb, r_ext, r_mkf, r_cnv, r_st, r_nck, r_ix, r_iaa, takeN, agc, agn, VE.store, over, cellsAt, VE.part, agm, agb, blkX, gEval, cond_true, cond_false, r_build, r_bsl, fill, VE.unOp, r_bin, adz, ads, resOf, resVs, resV, alc, aln, reduceCtorEq, or_true, true_or, false_or, or_false, eq_self, exists_eq_left', Option.some.injEq, l1, frzA2]
theorem small_spec {f : Nat} (hf : vp f = some B_wide_Small) (x : Nat) (h : Heap) : callRes vp f [.agg (wc x)] h = some (if x < 18446744073709551616 then .tup [.int .u64 (x : Int), .int .i64 0] else .tup [.int .u64 0, .int .i64 16], h) := by
  refine res_pure hf rfl rfl (fun g hg => ?_)
  unfold B_wide_Small wc
  by_cases q : x < 18446744073709551616
  · have q1 : (((x / 18446744073709551616 : Nat) : Int) = 0) = True := by rw [Nat.div_eq_of_lt q]; simp
    have q2 : x % 18446744073709551616 = x := Nat.mod_eq_of_lt q
    simp only [↓zp, zz, true_and, and_true, chkOk, Nat.reduceEqDiff, Nat.reduceAdd, Nat.reduceSub, Nat.reduceMul, Nat.reduceLT, Nat.reduceLeDiff, Int.reduceLT, Int.reduceLE, Int.reduceEq, Int.reduceAdd, Int.reduceNeg, if_false, if_true, reduceIte, ags, LB.agz, agd, r_mv, r_pick, r_box, r_alloc, r_un, r_eqb, r_ext, r_mkf, r_cnv, r_st, r_nck, r_ix, r_iaa, takeN, agc, agn, VE.store, over, cellsAt, VE.part, agm, agb, blkX, gEval, cond_true, cond_false, r_build, r_bsl, fill, VE.unOp, r_bin, adz, ads, resOf, resVs, resV, alc, aln, reduceCtorEq, or_true, true_or, false_or, or_false, eq_self, exists_eq_left', Option.some.injEq, q1, q2, q, frzT2]
  · have q1 : (((x / 18446744073709551616 : Nat) : Int) = 0) = False := by simp; omega
    simp only [↓zp, zz, true_and, and_true, chkOk, Nat.reduceEqDiff, Nat.reduceAdd, Nat.reduceSub, Nat.reduceMul, Nat.reduceLT, Nat.reduceLeDiff, Int.reduceLT, Int.reduceLE, Int.reduceEq, Int.reduceAdd, Int.reduceNeg, if_false, if_true, reduceIte, ags, LB.agz, agd, r_mv, r_pick, r_box, r_alloc, r_un, r_eqb, r_ext, r_mkf, r_cnv, r_st, r_nck, r_ix, r_iaa, takeN, agc, agn, VE.store, over, cellsAt, VE.part, agm, agb, blkX, gEval, cond_true, cond_false, r_build, r_bsl, fill, VE.unOp, r_bin, adz, ads, resOf, resVs, resV, alc, aln, reduceCtorEq, or_true, true_or, false_or, or_false, eq_self, exists_eq_left', Option.some.injEq, q1, q, frzT2]
theorem wmul_spec {f c1 t1 : Nat} (hf : vp f = some (B_wide_Mul c1 t1)) (h1 : vp c1 = some B_math_bits_Mul64) (x y : Nat) (hx : x < 18446744073709551616) (hy : y < 18446744073709551616) (h : Heap) : callRes vp f [.int .u64 (x : Int), .int .u64 (y : Int)] h = some (.agg (wc (x * y)), h) := by
  have m1 : modeOf vp c1 = some 1 := by simp [modeOf, h1, B_math_bits_Mul64]
  have call := fun h => mul64_spec h1 x y hx hy h
  refine res_pure hf rfl rfl (fun g hg => ?_)
  have l1 : ¬ (g.nx < g.lo) := by have := hlo hg; omega
  unfold B_wide_Mul wc
  simp only [↓zp, zz, true_and, and_true, chkOk, Nat.reduceEqDiff, Nat.reduceAdd, Nat.reduceSub, Nat.reduceMul, Nat.reduceLT, Nat.reduceLeDiff, Int.reduceLT, Int.reduceLE, Int.reduceEq, Int.reduceAdd, Int.reduceNeg, if_false, if_true, reduceIte, ags, LB.agz, agd, r_mv, r_pick, r_box, r_alloc, r_un, r_eqb, r_ext, r_mkf, r_cnv, r_st, r_nck, r_ix, r_iaa, takeN, agc, agn, VE.store, over, cellsAt, VE.part, agm, agb, blkX, gEval, cond_true, cond_false, r_build, r_bsl, fill, VE.unOp, r_bin, adz, ads, resOf, resVs, resV, alc, aln, reduceCtorEq, or_true, true_or, false_or, or_false, eq_self, exists_eq_left', Option.some.injEq, l1, m1, call, frzA2]
theorem wadd_spec {f t1 : Nat} (hf : vp f = some (B_wide_Add t1)) (a b : Nat) (hab : a + b < 340282366920938463463374607431768211456) (h : Heap) : callRes vp f [.agg (wc a), .agg (wc b)] h = some (.tup [.agg (wc (a + b)), .int .i64 0], h) := by
  refine res_pure hf rfl rfl (fun g hg => ?_)
  have l1 : ¬ (g.nx + 2 < g.lo) := by have := hlo hg; omega
  have e1 : ∀ h, r_carry false (.int .u64 ((a % 18446744073709551616 : Nat) : Int)) (.int .u64 ((b % 18446744073709551616 : Nat) : Int)) (.int .u64 0) h = some (.tup [.int .u64 (((a + b) % 18446744073709551616 : Nat) : Int), .int .u64 (((a % 18446744073709551616 + b % 18446744073709551616) / 18446744073709551616 : Nat) : Int)], h) := fun h => by
    rw [bn_0, r_carry_f (by decide)]
    congr 4
    simp only [Nat.add_zero, ← Nat.add_mod]
  have e2 : ∀ h, r_carry false (.int .u64 ((a / 18446744073709551616 : Nat) : Int)) (.int .u64 ((b / 18446744073709551616 : Nat) : Int)) (.int .u64 (((a % 18446744073709551616 + b % 18446744073709551616) / 18446744073709551616 : Nat) : Int)) h = some (.tup [.int .u64 (((a + b) / 18446744073709551616 : Nat) : Int), .int .u64 0], h) := fun h => by
    rw [r_carry_f (by omega)]
    have k1 : (a / 18446744073709551616 + b / 18446744073709551616 + (a % 18446744073709551616 + b % 18446744073709551616) / 18446744073709551616) % 18446744073709551616 = (a + b) / 18446744073709551616 := by omega
    have k2 : (a / 18446744073709551616 + b / 18446744073709551616 + (a % 18446744073709551616 + b % 18446744073709551616) / 18446744073709551616) / 18446744073709551616 = 0 := by omega
    rw [k1, k2]
    rfl
  unfold B_wide_Add wc
  simp only [↓zp, zz, true_and, and_true, chkOk, Nat.reduceEqDiff, Nat.reduceAdd, Nat.reduceSub, Nat.reduceMul, Nat.reduceLT, Nat.reduceLeDiff, Int.reduceLT, Int.reduceLE, Int.reduceEq, Int.reduceAdd, Int.reduceNeg, if_false, if_true, reduceIte, ags, LB.agz, agd, r_mv, r_pick, r_box, r_alloc, r_un, r_eqb, r_ext, r_mkf, r_cnv, r_st, r_nck, r_ix, r_iaa, takeN, agc, agn, VE.store, over, cellsAt, VE.part, agm, agb, blkX, gEval, cond_true, cond_false, r_build, r_bsl, fill, VE.unOp, r_bin, adz, ads, resOf, resVs, resV, alc, aln, reduceCtorEq, or_true, true_or, false_or, or_false, eq_self, exists_eq_left', Option.some.injEq, l1, e1, e2, frzTA]
theorem wsub_spec {f t1 : Nat} (hf : vp f = some (B_wide_Sub t1)) (a b : Nat) (hab : b ≤ a) (ha : a < 340282366920938463463374607431768211456) (h : Heap) : callRes vp f [.agg (wc a), .agg (wc b)] h = some (.tup [.agg (wc (a - b)), .int .i64 0], h) := by
  refine res_pure hf rfl rfl (fun g hg => ?_)
  have l1 : ¬ (g.nx + 2 < g.lo) := by have := hlo hg; omega
  have e1 : ∀ h, r_carry true (.int .u64 ((a % 18446744073709551616 : Nat) : Int)) (.int .u64 ((b % 18446744073709551616 : Nat) : Int)) (.int .u64 0) h = some (.tup [.int .u64 (((a - b) % 18446744073709551616 : Nat) : Int), .int .u64 (((if a % 18446744073709551616 < b % 18446744073709551616 then 1 else 0 : Nat)) : Int)], h) := fun h => by
    rw [bn_0, r_carry_t (by decide)]
    have k1 : (a % 18446744073709551616 + 18446744073709551616 - b % 18446744073709551616 - 0) % 18446744073709551616 = (a - b) % 18446744073709551616 := by
      rw [Nat.sub_zero]
      omega
    rw [k1, Nat.add_zero]
    split <;> rfl
  have e2 : ∀ h, r_carry true (.int .u64 ((a / 18446744073709551616 : Nat) : Int)) (.int .u64 ((b / 18446744073709551616 : Nat) : Int)) (.int .u64 (((if a % 18446744073709551616 < b % 18446744073709551616 then 1 else 0 : Nat)) : Int)) h = some (.tup [.int .u64 (((a - b) / 18446744073709551616 : Nat) : Int), .int .u64 0], h) := fun h => by
    rw [r_carry_t (by split <;> omega)]
    have k1 : (a / 18446744073709551616 + 18446744073709551616 - b / 18446744073709551616 - (if a % 18446744073709551616 < b % 18446744073709551616 then 1 else 0)) % 18446744073709551616 = (a - b) / 18446744073709551616 := by split <;> omega
    have k2 : ¬ (a / 18446744073709551616 < b / 18446744073709551616 + (if a % 18446744073709551616 < b % 18446744073709551616 then 1 else 0)) := by split <;> omega
    rw [k1, if_neg k2]
  unfold B_wide_Sub wc
  simp only [↓zp, zz, true_and, and_true, chkOk, Nat.reduceEqDiff, Nat.reduceAdd, Nat.reduceSub, Nat.reduceMul, Nat.reduceLT, Nat.reduceLeDiff, Int.reduceLT, Int.reduceLE, Int.reduceEq, Int.reduceAdd, Int.reduceNeg, if_false, if_true, reduceIte, ags, LB.agz, agd, r_mv, r_pick, r_box, r_alloc, r_un, r_eqb, r_ext, r_mkf, r_cnv, r_st, r_nck, r_ix, r_iaa, takeN, agc, agn, VE.store, over, cellsAt, VE.part, agm, agb, blkX, gEval, cond_true, cond_false, r_build, r_bsl, fill, VE.unOp, r_bin, adz, ads, resOf, resVs, resV, alc, aln, reduceCtorEq, or_true, true_or, false_or, or_false, eq_self, exists_eq_left', Option.some.injEq, l1, e1, e2, frzTA]
end
end Go.VE.LB
