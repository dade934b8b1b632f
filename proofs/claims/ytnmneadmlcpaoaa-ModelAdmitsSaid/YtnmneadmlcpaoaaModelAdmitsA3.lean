/- What the functions of the law ModelAdmits compute, on typed arguments (part 3). -/
import Derived.Test.YtnmneadmlcpaoaaModelAdmitsA2
set_option linter.all false
namespace Go.VE.LB
open Go Go.VE
set_option maxRecDepth 100000
set_option linter.all false
theorem ch1 (a1 : Prop) : a1 = True ∨ a1 = False := by
  by_cases h : a1
  · exact .inl (eq_true h)
  · exact .inr (eq_false h)
theorem ch2 (a1 a2 : Prop) : a1 = True ∨ a1 = False ∧ a2 = True ∨ a1 = False ∧ a2 = False := by
  by_cases h : a1
  · exact .inl (eq_true h)
  · rcases ch1 a2 with q | q <;> simp [h, q]
theorem ch3 (a1 a2 a3 : Prop) : a1 = True ∨ a1 = False ∧ a2 = True ∨ a1 = False ∧ a2 = False ∧ a3 = True ∨ a1 = False ∧ a2 = False ∧ a3 = False := by
  by_cases h : a1
  · exact .inl (eq_true h)
  · rcases ch2 a2 a3 with q | q | q <;> simp [h, q]
theorem ch4 (a1 a2 a3 a4 : Prop) : a1 = True ∨ a1 = False ∧ a2 = True ∨ a1 = False ∧ a2 = False ∧ a3 = True ∨ a1 = False ∧ a2 = False ∧ a3 = False ∧ a4 = True ∨ a1 = False ∧ a2 = False ∧ a3 = False ∧ a4 = False := by
  by_cases h : a1
  · exact .inl (eq_true h)
  · rcases ch3 a2 a3 a4 with q | q | q | q <;> simp [h, q]
theorem ch5 (a1 a2 a3 a4 a5 : Prop) : a1 = True ∨ a1 = False ∧ a2 = True ∨ a1 = False ∧ a2 = False ∧ a3 = True ∨ a1 = False ∧ a2 = False ∧ a3 = False ∧ a4 = True ∨ a1 = False ∧ a2 = False ∧ a3 = False ∧ a4 = False ∧ a5 = True ∨ a1 = False ∧ a2 = False ∧ a3 = False ∧ a4 = False ∧ a5 = False := by
  by_cases h : a1
  · exact .inl (eq_true h)
  · rcases ch4 a2 a3 a4 a5 with q | q | q | q | q <;> simp [h, q]
theorem ch6 (a1 a2 a3 a4 a5 a6 : Prop) : a1 = True ∨ a1 = False ∧ a2 = True ∨ a1 = False ∧ a2 = False ∧ a3 = True ∨ a1 = False ∧ a2 = False ∧ a3 = False ∧ a4 = True ∨ a1 = False ∧ a2 = False ∧ a3 = False ∧ a4 = False ∧ a5 = True ∨ a1 = False ∧ a2 = False ∧ a3 = False ∧ a4 = False ∧ a5 = False ∧ a6 = True ∨ a1 = False ∧ a2 = False ∧ a3 = False ∧ a4 = False ∧ a5 = False ∧ a6 = False := by
  by_cases h : a1
  · exact .inl (eq_true h)
  · rcases ch5 a2 a3 a4 a5 a6 with q | q | q | q | q | q <;> simp [h, q]
theorem ch7 (a1 a2 a3 a4 a5 a6 a7 : Prop) : a1 = True ∨ a1 = False ∧ a2 = True ∨ a1 = False ∧ a2 = False ∧ a3 = True ∨ a1 = False ∧ a2 = False ∧ a3 = False ∧ a4 = True ∨ a1 = False ∧ a2 = False ∧ a3 = False ∧ a4 = False ∧ a5 = True ∨ a1 = False ∧ a2 = False ∧ a3 = False ∧ a4 = False ∧ a5 = False ∧ a6 = True ∨ a1 = False ∧ a2 = False ∧ a3 = False ∧ a4 = False ∧ a5 = False ∧ a6 = False ∧ a7 = True ∨ a1 = False ∧ a2 = False ∧ a3 = False ∧ a4 = False ∧ a5 = False ∧ a6 = False ∧ a7 = False := by
  by_cases h : a1
  · exact .inl (eq_true h)
  · rcases ch6 a2 a3 a4 a5 a6 a7 with q | q | q | q | q | q | q <;> simp [h, q]
theorem ch8 (a1 a2 a3 a4 a5 a6 a7 a8 : Prop) : a1 = True ∨ a1 = False ∧ a2 = True ∨ a1 = False ∧ a2 = False ∧ a3 = True ∨ a1 = False ∧ a2 = False ∧ a3 = False ∧ a4 = True ∨ a1 = False ∧ a2 = False ∧ a3 = False ∧ a4 = False ∧ a5 = True ∨ a1 = False ∧ a2 = False ∧ a3 = False ∧ a4 = False ∧ a5 = False ∧ a6 = True ∨ a1 = False ∧ a2 = False ∧ a3 = False ∧ a4 = False ∧ a5 = False ∧ a6 = False ∧ a7 = True ∨ a1 = False ∧ a2 = False ∧ a3 = False ∧ a4 = False ∧ a5 = False ∧ a6 = False ∧ a7 = False ∧ a8 = True ∨ a1 = False ∧ a2 = False ∧ a3 = False ∧ a4 = False ∧ a5 = False ∧ a6 = False ∧ a7 = False ∧ a8 = False := by
  by_cases h : a1
  · exact .inl (eq_true h)
  · rcases ch7 a2 a3 a4 a5 a6 a7 a8 with q | q | q | q | q | q | q | q <;> simp [h, q]
structure Limit where
  b : Int
  r : Int
  p : Int
structure Bucket where
  l : Limit
  lv : Int
  pt : Int
  t : Int
  ok : lv < 9223372036854775808
structure Held where
  k : Int
  b : Bucket
structure Acct where
  t : Int
  l0 : Limit
  l1 : Limit
  l2 : Limit
  c0 : Int
  c1 : Int
  own : Bucket
  users : Sl Held
  ends : Sl Held
  rev : Sl Int
  n0 : Int
  n1 : Int
  n2 : Int
def e32 (n : Int) : List V := [.int .u32 n]
def encL (x : Limit) : List V := [.int .i64 x.b, .int .i64 x.r, .int .i64 x.p]
def encB (x : Bucket) : List V := [.int .i64 x.l.b, .int .i64 x.l.r, .int .i64 x.l.p, .int .i64 x.lv, .int .i64 x.pt, .int .u64 x.t]
def encH (x : Held) : List V := [.int .u32 x.k, .int .i64 x.b.l.b, .int .i64 x.b.l.r, .int .i64 x.b.l.p, .int .i64 x.b.lv, .int .i64 x.b.pt, .int .u64 x.b.t]
def encA (x : Acct) : List V := [.int .u32 x.t, .int .i64 x.l0.b, .int .i64 x.l0.r, .int .i64 x.l0.p, .int .i64 x.l1.b, .int .i64 x.l1.r, .int .i64 x.l1.p, .int .i64 x.l2.b, .int .i64 x.l2.r, .int .i64 x.l2.p, .int .i64 x.c0, .int .i64 x.c1,
  .int .i64 x.own.l.b, .int .i64 x.own.l.r, .int .i64 x.own.l.p, .int .i64 x.own.lv, .int .i64 x.own.pt, .int .u64 x.own.t, x.users.v encH, x.ends.v encH, x.rev.v e32, .int .u64 x.n0, .int .u64 x.n1, .int .u64 x.n2]
theorem e32_len (x : Int) : (e32 x).length = 1 := rfl
theorem encH_len (x : Held) : (encH x).length = 7 := rfl
theorem encA_len (x : Acct) : (encA x).length = 24 := rfl

def limBad (x : Limit) : Bool := decide (x.b < 1) || (decide (1000000000 < x.b) || (decide (x.r < 0) || (decide (1000000000 < x.r) || (decide (x.p < 1) || decide (1000000000 < x.p)))))
def chkLim (x : Limit) : Int := if limBad x = true then 8 else 0
def bkBad (x : Bucket) : Bool := limBad x.l || (decide (x.lv < 0) || (decide (x.l.b < x.lv) || (decide (x.pt < 0) || (decide (x.l.p ≤ x.pt) || (decide (x.lv = x.l.b) && !decide (x.pt = 0))))))
def chkB (x : Bucket) : Int := if bkBad x = true then 8 else 0
section
variable {vp : Nat → Option VFn}
theorem lim_spec {f : Nat} (hf : vp f = some B_bucket_CheckLimit) (x : Limit) (h : Heap) : callRes vp f [.agg [.int .i64 x.b, .int .i64 x.r, .int .i64 x.p]] h = some (.int .i64 (chkLim x), h) := by
  refine res_pure hf rfl rfl (fun g hg => ?_)
  unfold B_bucket_CheckLimit chkLim limBad
  rcases ch6 (x.b < 1) (1000000000 < x.b) (x.r < 0) (1000000000 < x.r) (x.p < 1) (1000000000 < x.p) with q | q | q | q | q | q | q <;> simp only [↓zp, zz, true_and, and_true, chkOk, Nat.reduceEqDiff, Nat.reduceAdd, Nat.reduceSub, Nat.reduceMul, Nat.reduceLT, Nat.reduceLeDiff, Int.reduceLT, Int.reduceLE, Int.reduceEq, Int.reduceAdd, Int.reduceNeg, if_false, if_true, reduceIte, ags, LB.agz, agd, r_mv, r_pick, r_box, r_alloc, r_un, r_eqb, r_ext, r_mkf, r_cnv, r_st, r_nck, r_ix, r_iaa, takeN, agc, agn, VE.store, over, cellsAt, VE.part, agm, agb, blkX, gEval, cond_true, cond_false, r_build, r_bsl, fill, VE.unOp, r_bin, adz, ads, resOf, resVs, resV, alc, aln, reduceCtorEq, or_true, true_or, false_or, or_false, eq_self, exists_eq_left', Option.some.injEq, q, frzI]
theorem lim_spec2 {f : Nat} (hf : vp f = some B_spigotref03_CheckLimit) (x : Limit) (h : Heap) : callRes vp f [.agg [.int .i64 x.b, .int .i64 x.r, .int .i64 x.p]] h = some (.int .i64 (chkLim x), h) := lim_spec (hf.trans rfl) x h
theorem bk_spec {f c1 : Nat} (hf : vp f = some (B_bucket_Check c1)) (h1 : vp c1 = some B_bucket_CheckLimit) (x : Bucket) (h : Heap) : callRes vp f [.agg (encB x)] h = some (.int .i64 (chkB x), h) := by
  have lim := fun y h => lim_spec h1 y h
  have m1 : modeOf vp c1 = some 1 := by simp [modeOf, h1, B_bucket_CheckLimit]
  refine res_pure hf rfl rfl (fun g hg => ?_)
  unfold B_bucket_Check encB chkB bkBad
  cases q0 : limBad x.l
  case true => simp only [↓zp, zz, true_and, and_true, chkOk, Nat.reduceEqDiff, Nat.reduceAdd, Nat.reduceSub, Nat.reduceMul, Nat.reduceLT, Nat.reduceLeDiff, Int.reduceLT, Int.reduceLE, Int.reduceEq, Int.reduceAdd, Int.reduceNeg, if_false, if_true, reduceIte, ags, LB.agz, agd, r_mv, r_pick, r_box, r_alloc, r_un, r_eqb, r_ext, r_mkf, r_cnv, r_st, r_nck, r_ix, r_iaa, takeN, agc, agn, VE.store, over, cellsAt, VE.part, agm, agb, blkX, gEval, cond_true, cond_false, r_build, r_bsl, fill, VE.unOp, r_bin, adz, ads, resOf, resVs, resV, alc, aln, reduceCtorEq, or_true, true_or, false_or, or_false, eq_self, exists_eq_left', Option.some.injEq, lim, m1, chkLim, q0, frzI]
  have hr : 1 ≤ x.l.b ∧ x.l.b ≤ 1000000000 := by
    simp [limBad] at q0
    omega
  have ok := x.ok
  by_cases q1 : x.lv < 0
  case pos => simp only [↓zp, zz, true_and, and_true, chkOk, Nat.reduceEqDiff, Nat.reduceAdd, Nat.reduceSub, Nat.reduceMul, Nat.reduceLT, Nat.reduceLeDiff, Int.reduceLT, Int.reduceLE, Int.reduceEq, Int.reduceAdd, Int.reduceNeg, if_false, if_true, reduceIte, ags, LB.agz, agd, r_mv, r_pick, r_box, r_alloc, r_un, r_eqb, r_ext, r_mkf, r_cnv, r_st, r_nck, r_ix, r_iaa, takeN, agc, agn, VE.store, over, cellsAt, VE.part, agm, agb, blkX, gEval, cond_true, cond_false, r_build, r_bsl, fill, VE.unOp, r_bin, adz, ads, resOf, resVs, resV, alc, aln, reduceCtorEq, or_true, true_or, false_or, or_false, eq_self, exists_eq_left', Option.some.injEq, lim, m1, chkLim, q0, q1, frzI]
  have e : wr .i64 (x.l.b - x.lv) = x.l.b - x.lv := wr_i64 (by omega) (by omega)
  by_cases q2 : x.l.b < x.lv
  case pos =>
    have q2' : x.l.b - x.lv < 0 := by omega
    simp only [↓zp, zz, true_and, and_true, chkOk, Nat.reduceEqDiff, Nat.reduceAdd, Nat.reduceSub, Nat.reduceMul, Nat.reduceLT, Nat.reduceLeDiff, Int.reduceLT, Int.reduceLE, Int.reduceEq, Int.reduceAdd, Int.reduceNeg, if_false, if_true, reduceIte, ags, LB.agz, agd, r_mv, r_pick, r_box, r_alloc, r_un, r_eqb, r_ext, r_mkf, r_cnv, r_st, r_nck, r_ix, r_iaa, takeN, agc, agn, VE.store, over, cellsAt, VE.part, agm, agb, blkX, gEval, cond_true, cond_false, r_build, r_bsl, fill, VE.unOp, r_bin, adz, ads, resOf, resVs, resV, alc, aln, reduceCtorEq, or_true, true_or, false_or, or_false, eq_self, exists_eq_left', Option.some.injEq, lim, m1, chkLim, q0, q1, q2, q2', e, frzI]
  have q2' : ¬ x.l.b - x.lv < 0 := by omega
  have e5 : (x.l.b - x.lv = 0) = (x.lv = x.l.b) := propext (by omega)
  rcases ch3 (x.pt < 0) (x.l.p ≤ x.pt) (x.lv = x.l.b) with q | q | q | q
  case inr.inr.inl =>
    have e6 : (0 < x.pt) = ¬ x.pt = 0 := propext (by have := of_eq_false q.1; omega)
    rcases ch1 (x.pt = 0) with q' | q' <;> simp only [↓zp, zz, true_and, and_true, chkOk, Nat.reduceEqDiff, Nat.reduceAdd, Nat.reduceSub, Nat.reduceMul, Nat.reduceLT, Nat.reduceLeDiff, Int.reduceLT, Int.reduceLE, Int.reduceEq, Int.reduceAdd, Int.reduceNeg, if_false, if_true, reduceIte, ags, LB.agz, agd, r_mv, r_pick, r_box, r_alloc, r_un, r_eqb, r_ext, r_mkf, r_cnv, r_st, r_nck, r_ix, r_iaa, takeN, agc, agn, VE.store, over, cellsAt, VE.part, agm, agb, blkX, gEval, cond_true, cond_false, r_build, r_bsl, fill, VE.unOp, r_bin, adz, ads, resOf, resVs, resV, alc, aln, reduceCtorEq, or_true, true_or, false_or, or_false, eq_self, exists_eq_left', Option.some.injEq, lim, m1, chkLim, q0, q1, q2, q2', e, e5, e6, q, q', frzI, not_true, not_false_eq_true]
  all_goals simp only [↓zp, zz, true_and, and_true, chkOk, Nat.reduceEqDiff, Nat.reduceAdd, Nat.reduceSub, Nat.reduceMul, Nat.reduceLT, Nat.reduceLeDiff, Int.reduceLT, Int.reduceLE, Int.reduceEq, Int.reduceAdd, Int.reduceNeg, if_false, if_true, reduceIte, ags, LB.agz, agd, r_mv, r_pick, r_box, r_alloc, r_un, r_eqb, r_ext, r_mkf, r_cnv, r_st, r_nck, r_ix, r_iaa, takeN, agc, agn, VE.store, over, cellsAt, VE.part, agm, agb, blkX, gEval, cond_true, cond_false, r_build, r_bsl, fill, VE.unOp, r_bin, adz, ads, resOf, resVs, resV, alc, aln, reduceCtorEq, or_true, true_or, false_or, or_false, eq_self, exists_eq_left', Option.some.injEq, lim, m1, chkLim, q0, q1, q2, q2', e, e5, q, frzI]
theorem bk_spec2 {f c1 : Nat} (hf : vp f = some (B_spigotref03_Check c1)) (h1 : vp c1 = some B_spigotref03_CheckLimit) (x : Bucket) (h : Heap) : callRes vp f [.agg (encB x)] h = some (.int .i64 (chkB x), h) := by
  have lim := fun y h => lim_spec2 h1 y h
  have m1 : modeOf vp c1 = some 1 := by simp [modeOf, h1, B_spigotref03_CheckLimit]
  refine res_pure hf rfl rfl (fun g hg => ?_)
  unfold B_spigotref03_Check encB chkB bkBad
  cases q0 : limBad x.l
  case true => simp only [↓zp, zz, true_and, and_true, chkOk, Nat.reduceEqDiff, Nat.reduceAdd, Nat.reduceSub, Nat.reduceMul, Nat.reduceLT, Nat.reduceLeDiff, Int.reduceLT, Int.reduceLE, Int.reduceEq, Int.reduceAdd, Int.reduceNeg, if_false, if_true, reduceIte, ags, LB.agz, agd, r_mv, r_pick, r_box, r_alloc, r_un, r_eqb, r_ext, r_mkf, r_cnv, r_st, r_nck, r_ix, r_iaa, takeN, agc, agn, VE.store, over, cellsAt, VE.part, agm, agb, blkX, gEval, cond_true, cond_false, r_build, r_bsl, fill, VE.unOp, r_bin, adz, ads, resOf, resVs, resV, alc, aln, reduceCtorEq, or_true, true_or, false_or, or_false, eq_self, exists_eq_left', Option.some.injEq, lim, m1, chkLim, q0, frzI]
  rcases ch5 (x.lv < 0) (x.l.b < x.lv) (x.pt < 0) (x.l.p ≤ x.pt) (x.lv = x.l.b) with q | q | q | q | q | q
  case inr.inr.inr.inr.inl => rcases ch1 (x.pt = 0) with q' | q' <;> simp only [↓zp, zz, true_and, and_true, chkOk, Nat.reduceEqDiff, Nat.reduceAdd, Nat.reduceSub, Nat.reduceMul, Nat.reduceLT, Nat.reduceLeDiff, Int.reduceLT, Int.reduceLE, Int.reduceEq, Int.reduceAdd, Int.reduceNeg, if_false, if_true, reduceIte, ags, LB.agz, agd, r_mv, r_pick, r_box, r_alloc, r_un, r_eqb, r_ext, r_mkf, r_cnv, r_st, r_nck, r_ix, r_iaa, takeN, agc, agn, VE.store, over, cellsAt, VE.part, agm, agb, blkX, gEval, cond_true, cond_false, r_build, r_bsl, fill, VE.unOp, r_bin, adz, ads, resOf, resVs, resV, alc, aln, reduceCtorEq, or_true, true_or, false_or, or_false, eq_self, exists_eq_left', Option.some.injEq, lim, m1, chkLim, q0, q, q', frzI]
  all_goals simp only [↓zp, zz, true_and, and_true, chkOk, Nat.reduceEqDiff, Nat.reduceAdd, Nat.reduceSub, Nat.reduceMul, Nat.reduceLT, Nat.reduceLeDiff, Int.reduceLT, Int.reduceLE, Int.reduceEq, Int.reduceAdd, Int.reduceNeg, if_false, if_true, reduceIte, ags, LB.agz, agd, r_mv, r_pick, r_box, r_alloc, r_un, r_eqb, r_ext, r_mkf, r_cnv, r_st, r_nck, r_ix, r_iaa, takeN, agc, agn, VE.store, over, cellsAt, VE.part, agm, agb, blkX, gEval, cond_true, cond_false, r_build, r_bsl, fill, VE.unOp, r_bin, adz, ads, resOf, resVs, resV, alc, aln, reduceCtorEq, or_true, true_or, false_or, or_false, eq_self, exists_eq_left', Option.some.injEq, lim, m1, chkLim, q0, q, frzI]
end
end Go.VE.LB
