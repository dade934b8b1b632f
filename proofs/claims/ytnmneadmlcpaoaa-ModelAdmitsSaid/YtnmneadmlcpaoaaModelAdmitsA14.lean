/- What the functions of the law ModelAdmits compute, on typed arguments (part 14). -/
import Derived.Test.YtnmneadmlcpaoaaModelAdmitsA13
set_option linter.all false
namespace Go.VE.LB
open Go Go.VE
set_option maxRecDepth 100000
set_option linter.all false
set_option maxHeartbeats 1000000
theorem div_two (a y : Nat) (hy : 0 < y) : a / 18446744073709551616 % y * 18446744073709551616 + a % 18446744073709551616 = a - a / 18446744073709551616 / y * 18446744073709551616 * y := by
  have h1 := Nat.div_add_mod (a / 18446744073709551616) y
  have h2 := Nat.div_add_mod a 18446744073709551616
  generalize a / 18446744073709551616 / y = q at *
  generalize a / 18446744073709551616 % y = r at *
  generalize a % 18446744073709551616 = l at *
  have e : q * 18446744073709551616 * y = y * q * 18446744073709551616 := by rw [Nat.mul_comm (q * 18446744073709551616), ← Nat.mul_assoc]
  rw [e]
  generalize y * q = p at *
  omega
theorem div_hi {a y : Nat} (hy : 0 < y) : a / 18446744073709551616 / y = a / y / 18446744073709551616 := by rw [Nat.div_div_eq_div_mul, Nat.div_div_eq_div_mul, Nat.mul_comm]
theorem div_lo {a y : Nat} (hy : 0 < y) : (a / 18446744073709551616 % y * 18446744073709551616 + a % 18446744073709551616) / y = a / y % 18446744073709551616 := by
  have e := div_two a y hy
  have e2 : a / 18446744073709551616 / y * 18446744073709551616 * y ≤ a := by
    rw [Nat.mul_right_comm]
    have h1 := Nat.div_mul_le_self (a / 18446744073709551616) y
    have h2 := Nat.div_mul_le_self a 18446744073709551616
    exact Nat.le_trans (Nat.mul_le_mul_right _ h1) h2
  rw [e, Nat.mul_comm _ y, Nat.sub_mul_div_of_le _ _ _ (by rw [Nat.mul_comm]; exact e2), div_hi hy]
  omega
theorem mod_lo {a y : Nat} (hy : 0 < y) : (a / 18446744073709551616 % y * 18446744073709551616 + a % 18446744073709551616) % y = a % y := by
  have e := div_two a y hy
  have e2 : a / 18446744073709551616 / y * 18446744073709551616 * y ≤ a := by
    rw [Nat.mul_right_comm]
    have h1 := Nat.div_mul_le_self (a / 18446744073709551616) y
    have h2 := Nat.div_mul_le_self a 18446744073709551616
    exact Nat.le_trans (Nat.mul_le_mul_right _ h1) h2
  rw [e, Nat.mul_comm _ y]
  exact Nat.sub_mul_mod (by rw [Nat.mul_comm]; exact e2)
section
variable {vp : Nat → Option VFn}
theorem wdiv_spec {f c1 c2 c3 t1 : Nat} (hf : vp f = some (B_wide_Div c1 t1)) (h1 : vp c1 = some (B_math_bits_Div64 c2)) (h2 : vp c2 = some (B_math_bits_LeadingZeros64 c3)) (h3 : vp c3 = some B_math_bits_Len64) (a y : Nat) (ha : a < 340282366920938463463374607431768211456) (hy0 : 0 < y) (hy : y < 4294967296) (h : Heap) :
    callRes vp f [.agg (wc a), .int .u64 (y : Int)] h = some (.tup [.agg (wc (a / y)), .int .u64 ((a % y : Nat) : Int), .int .i64 0], h) := by
  have m1 : modeOf vp c1 = some 1 := by simp [modeOf, h1, B_math_bits_Div64]
  have k1 : ∀ h, callRes vp c1 [.int .u64 0, .int .u64 ((a / 18446744073709551616 : Nat) : Int), .int .u64 (y : Int)] h = some (.tup [.int .u64 ((a / y / 18446744073709551616 : Nat) : Int), .int .u64 ((a / 18446744073709551616 % y : Nat) : Int)], h) := fun h => by
    have := div64_spec h1 h2 h3 0 (a / 18446744073709551616) y hy0 (by omega) hy h
    rw [Nat.zero_mul, Nat.zero_add, div_hi hy0] at this
    exact this
  have k2 : ∀ h, callRes vp c1 [.int .u64 ((a / 18446744073709551616 % y : Nat) : Int), .int .u64 ((a % 18446744073709551616 : Nat) : Int), .int .u64 (y : Int)] h = some (.tup [.int .u64 ((a / y % 18446744073709551616 : Nat) : Int), .int .u64 ((a % y : Nat) : Int)], h) := fun h => by
    have := div64_spec h1 h2 h3 (a / 18446744073709551616 % y) (a % 18446744073709551616) y (Nat.mod_lt _ hy0) (Nat.mod_lt _ (by decide)) hy h
    rw [div_lo hy0, mod_lo hy0] at this
    exact this
  refine res_pure hf rfl rfl (fun g hg => ?_)
  have l1 : ¬ (g.nx + 1 < g.lo) := by have := hlo hg; omega
  have y0 : ¬ (y : Int) = 0 := by omega
  unfold B_wide_Div wc
  simp only [↓zp, zz, true_and, and_true, chkOk, Nat.reduceEqDiff, Nat.reduceAdd, Nat.reduceSub, Nat.reduceMul, Nat.reduceLT, Nat.reduceLeDiff, Int.reduceLT, Int.reduceLE, Int.reduceEq, Int.reduceAdd, Int.reduceNeg, if_false, if_true, reduceIte, ags, LB.agz, agd, r_mv, r_pick, r_box, r_alloc, r_un, r_eqb, r_ext, r_mkf, r_cnv, r_st, r_nck, r_ix, r_iaa, takeN, agc, agn, VE.store, over, cellsAt, VE.part, agm, agb, blkX, gEval, cond_true, cond_false, r_build, r_bsl, fill, VE.unOp, r_bin, adz, ads, resOf, resVs, resV, alc, aln, reduceCtorEq, or_true, true_or, false_or, or_false, eq_self, exists_eq_left', Option.some.injEq, l1, m1, y0, k1, k2, frzTA2]
theorem wup_spec {f c1 c2 c3 c4 c5 c6 t1 t2 t3 t4 : Nat} (hf : vp f = some (B_wide_Up c1 c2 c3 t1)) (h1 : vp c1 = some (B_wide_Div c4 t2)) (h2 : vp c2 = some (B_wide_Of t3)) (h3 : vp c3 = some (B_wide_Add t4)) (h4 : vp c4 = some (B_math_bits_Div64 c5)) (h5 : vp c5 = some (B_math_bits_LeadingZeros64 c6)) (h6 : vp c6 = some B_math_bits_Len64)
    (a y : Nat) (ha : a < 170141183460469231731687303715884105728) (hy0 : 0 < y) (hy : y < 4294967296) (h : Heap) :
    callRes vp f [.agg (wc a), .int .u64 (y : Int)] h = some (.tup [.agg (wc (if a % y = 0 then a / y else a / y + 1)), .int .i64 0], h) := by
  have m1 : modeOf vp c1 = some 1 := by simp [modeOf, h1, B_wide_Div]
  have m2 : modeOf vp c2 = some 1 := by simp [modeOf, h2, B_wide_Of]
  have m3 : modeOf vp c3 = some 1 := by simp [modeOf, h3, B_wide_Add]
  have k1 := fun h => wdiv_spec h1 h4 h5 h6 a y (by omega) hy0 hy h
  have k2 : ∀ h, callRes vp c2 [.int .u64 1] h = _ := fun h => of_spec h2 1 (by decide) h
  have hq : a / y ≤ a := Nat.div_le_self _ _
  have k3 := fun h => wadd_spec h3 (a / y) 1 (by omega) h
  refine res_pure hf rfl rfl (fun g hg => ?_)
  have l1 : ¬ (g.nx + 1 < g.lo) := by have := hlo hg; omega
  have l2 : ¬ (g.nx + 2 < g.lo) := by have := hlo hg; omega
  unfold B_wide_Up
  unfold wc at k1 k2 k3
  by_cases q : a % y = 0
  · have q' : (((a % y : Nat) : Int) = 0) = True := by rw [q]; simp
    rw [if_pos q]
    unfold wc
    simp only [↓zp, zz, true_and, and_true, chkOk, Nat.reduceEqDiff, Nat.reduceAdd, Nat.reduceSub, Nat.reduceMul, Nat.reduceLT, Nat.reduceLeDiff, Int.reduceLT, Int.reduceLE, Int.reduceEq, Int.reduceAdd, Int.reduceNeg, if_false, if_true, reduceIte, ags, LB.agz, agd, r_mv, r_pick, r_box, r_alloc, r_un, r_eqb, r_ext, r_mkf, r_cnv, r_st, r_nck, r_ix, r_iaa, takeN, agc, agn, VE.store, over, cellsAt, VE.part, agm, agb, blkX, gEval, cond_true, cond_false, r_build, r_bsl, fill, VE.unOp, r_bin, adz, ads, resOf, resVs, resV, alc, aln, reduceCtorEq, or_true, true_or, false_or, or_false, eq_self, exists_eq_left', Option.some.injEq, l1, l2, m1, m2, m3, k1, q', frzTA]
  · have q' : (((a % y : Nat) : Int) = 0) = False := by simp; omega
    rw [if_neg q]
    unfold wc
    simp only [↓zp, zz, true_and, and_true, chkOk, Nat.reduceEqDiff, Nat.reduceAdd, Nat.reduceSub, Nat.reduceMul, Nat.reduceLT, Nat.reduceLeDiff, Int.reduceLT, Int.reduceLE, Int.reduceEq, Int.reduceAdd, Int.reduceNeg, if_false, if_true, reduceIte, ags, LB.agz, agd, r_mv, r_pick, r_box, r_alloc, r_un, r_eqb, r_ext, r_mkf, r_cnv, r_st, r_nck, r_ix, r_iaa, takeN, agc, agn, VE.store, over, cellsAt, VE.part, agm, agb, blkX, gEval, cond_true, cond_false, r_build, r_bsl, fill, VE.unOp, r_bin, adz, ads, resOf, resVs, resV, alc, aln, reduceCtorEq, or_true, true_or, false_or, or_false, eq_self, exists_eq_left', Option.some.injEq, l1, l2, m1, m2, m3, k1, k2, k3, q', frzTA]
theorem rmul_spec {f t1 : Nat} (hf : vp f = some (B_spigotref01_Mul t1)) (x y : Nat) (hx : x < 18446744073709551616) (hy : y < 18446744073709551616) (h : Heap) : callRes vp f [.int .u64 (x : Int), .int .u64 (y : Int)] h = some (.agg (wc (x * y)), h) := by
  refine res_pure hf rfl rfl (fun g hg => ?_)
  have l1 : ¬ (g.nx < g.lo) := by have := hlo hg; omega
  have e := mul_parts x y
  have hbd := mul_lt32 (Nat.mod_lt x (show 0 < 4294967296 by decide)) (Nat.mod_lt y (show 0 < 4294967296 by decide))
  have had := mul_lt32 (show x / 4294967296 < 4294967296 by omega) (Nat.mod_lt y (show 0 < 4294967296 by decide))
  have hbc := mul_lt32 (Nat.mod_lt x (show 0 < 4294967296 by decide)) (show y / 4294967296 < 4294967296 by omega)
  have hac := mul_lt32 (show x / 4294967296 < 4294967296 by omega) (show y / 4294967296 < 4294967296 by omega)
  have q1 : ∀ a : Nat, a < 18446744073709551616 → VE.binOp .quo (.int .u64 (a : Int)) (.int .u64 4294967296) = some (.int .u64 ((a / 4294967296 : Nat) : Int)) := fun a ha => by rw [bn_32, bn_quo (by decide) ha]
  have r1 : ∀ a : Nat, VE.binOp .rem (.int .u64 (a : Int)) (.int .u64 4294967296) = some (.int .u64 ((a % 4294967296 : Nat) : Int)) := fun a => by rw [bn_32, bn_rem (by decide)]
  have t1 : ∀ a : Nat, VE.binOp .mul (.int .u64 (a : Int)) (.int .u64 4294967296) = some (.int .u64 ((a * 4294967296 % 18446744073709551616 : Nat) : Int)) := fun a => by rw [bn_32, bn_mul]
  have qx := q1 x hx
  have qy := q1 y hy
  have u1 : ∀ a : Nat, VE.binOp .quo (.int .u64 ((a % 18446744073709551616 : Nat) : Int)) (.int .u64 4294967296) = _ := fun a => q1 _ (Nat.mod_lt _ (by decide))
  unfold B_spigotref01_Mul wc
  simp only [↓zp, zz, true_and, and_true, chkOk, Nat.reduceEqDiff, Nat.reduceAdd, Nat.reduceSub, Nat.reduceMul, Nat.reduceLT, Nat.reduceLeDiff, Int.reduceLT, Int.reduceLE, Int.reduceEq, Int.reduceAdd, Int.reduceNeg, if_false, if_true, reduceIte, ags, LB.agz, agd, r_mv, r_pick, r_box, r_alloc, r_un, r_eqb, r_ext, r_mkf, r_cnv, r_st, r_nck, r_ix, r_iaa, takeN, agc, agn, VE.store, over, cellsAt, VE.part, agm, agb, blkX, gEval, cond_true, cond_false, r_build, r_bsl, fill, VE.unOp, r_bin, adz, ads, resOf, resVs, resV, alc, aln, reduceCtorEq, or_true, true_or, false_or, or_false, eq_self, exists_eq_left', Option.some.injEq, l1, qx, qy, r1, u1, bn_mul, t1, nu_add, frzA2]
  refine congrArg V.agg ?_
  have fin : ∀ A B C D : Nat, A = C → B = D → [V.int .u64 (A : Int), V.int .u64 (B : Int)] = [V.int .u64 (C : Int), V.int .u64 (D : Int)] := fun A B C D h1 h2 => by rw [h1, h2]
  generalize x / 4294967296 * (y / 4294967296) = ac at *
  generalize x / 4294967296 * (y % 4294967296) = ad at *
  generalize x % 4294967296 * (y / 4294967296) = bc at *
  generalize x % 4294967296 * (y % 4294967296) = bd at *
  rw [e]
  have hac' := Nat.mod_eq_of_lt (show ac < 18446744073709551616 by omega)
  have had' := Nat.mod_eq_of_lt (show ad < 18446744073709551616 by omega)
  have hbc' := Nat.mod_eq_of_lt (show bc < 18446744073709551616 by omega)
  have hbd' := Nat.mod_eq_of_lt (show bd < 18446744073709551616 by omega)
  simp only [hac', had', hbc', hbd']
  have k1 : (bd / 4294967296 + ad % 4294967296) % 18446744073709551616 = bd / 4294967296 + ad % 4294967296 := by omega
  rw [k1]
  have k2 : (bd / 4294967296 + ad % 4294967296 + bc % 4294967296) % 18446744073709551616 = bd / 4294967296 + ad % 4294967296 + bc % 4294967296 := by omega
  rw [k2]
  clear k1 k2 hac' had' hbc' hbd'
  refine fin _ _ _ _ ?_ ?_ <;> omega
theorem radd_spec {f t1 : Nat} (hf : vp f = some (B_spigotref01_Add t1)) (a b : Nat) (hab : a + b < 340282366920938463463374607431768211456) (h : Heap) : callRes vp f [.agg (wc a), .agg (wc b)] h = some (.tup [.agg (wc (a + b)), .int .i64 0], h) := by
  refine res_pure hf rfl rfl (fun g hg => ?_)
  have l1 : ¬ (g.nx + 2 < g.lo) := by have := hlo hg; omega
  have s1 : ∀ a : Nat, a < 18446744073709551616 → wr .u64 ((18446744073709551615 : Int) - (a : Int)) = ((18446744073709551615 - a : Nat) : Int) := fun a ha => nu_sub (a := 18446744073709551615) (by omega) (by decide)
  have s2 := s1 (a % 18446744073709551616) (Nat.mod_lt _ (by decide))
  have s3 := s1 (a / 18446744073709551616) (by omega)
  have c2 : ¬ (18446744073709551615 - a / 18446744073709551616 < b / 18446744073709551616) := by omega
  have fin : ∀ A B C D : Nat, A = C → B = D → V.tup [.agg [V.int .u64 (A : Int), V.int .u64 (B : Int)], .int .i64 0] = .tup [.agg [V.int .u64 (C : Int), V.int .u64 (D : Int)], .int .i64 0] := fun A B C D h1 h2 => by rw [h1, h2]
  unfold B_spigotref01_Add wc
  by_cases q : 18446744073709551615 - a % 18446744073709551616 < b % 18446744073709551616
  · have c3 : ¬ ((((a / 18446744073709551616 + b / 18446744073709551616) % 18446744073709551616 : Nat) : Int) = 18446744073709551615) := by omega
    have w1 : ∀ n : Nat, wr .u64 ((n : Int) + 1) = _ := fun n => nu_add (a := n) (b := 1)
    simp only [↓zp, zz, true_and, and_true, chkOk, Nat.reduceEqDiff, Nat.reduceAdd, Nat.reduceSub, Nat.reduceMul, Nat.reduceLT, Nat.reduceLeDiff, Int.reduceLT, Int.reduceLE, Int.reduceEq, Int.reduceAdd, Int.reduceNeg, if_false, if_true, reduceIte, ags, LB.agz, agd, r_mv, r_pick, r_box, r_alloc, r_un, r_eqb, r_ext, r_mkf, r_cnv, r_st, r_nck, r_ix, r_iaa, takeN, agc, agn, VE.store, over, cellsAt, VE.part, agm, agb, blkX, gEval, cond_true, cond_false, r_build, r_bsl, fill, VE.unOp, r_bin, adz, ads, resOf, resVs, resV, alc, aln, reduceCtorEq, or_true, true_or, false_or, or_false, eq_self, exists_eq_left', Option.some.injEq, l1, s2, s3, bn_lt, c2, q, nu_add, c3, w1, frzTA]
    refine fin _ _ _ _ ?_ ?_ <;> omega
  · have w1 : ∀ n : Nat, wr .u64 ((n : Int) + 0) = _ := fun n => nu_add (a := n) (b := 0)
    have w2 : ∀ n : Nat, wr .u64 (n : Int) = _ := wr_u
    simp only [↓zp, zz, true_and, and_true, chkOk, Nat.reduceEqDiff, Nat.reduceAdd, Nat.reduceSub, Nat.reduceMul, Nat.reduceLT, Nat.reduceLeDiff, Int.reduceLT, Int.reduceLE, Int.reduceEq, Int.reduceAdd, Int.reduceNeg, if_false, if_true, reduceIte, ags, LB.agz, agd, r_mv, r_pick, r_box, r_alloc, r_un, r_eqb, r_ext, r_mkf, r_cnv, r_st, r_nck, r_ix, r_iaa, takeN, agc, agn, VE.store, over, cellsAt, VE.part, agm, agb, blkX, gEval, cond_true, cond_false, r_build, r_bsl, fill, VE.unOp, r_bin, adz, ads, resOf, resVs, resV, alc, aln, reduceCtorEq, or_true, true_or, false_or, or_false, eq_self, exists_eq_left', Option.some.injEq, l1, s2, s3, bn_lt, c2, q, nu_add, Int.add_zero, w2, frzTA]
    refine fin _ _ _ _ ?_ ?_ <;> omega
theorem cmp_spec {f : Nat} (hf : vp f = some B_spigotref01_Cmp) (a b : Nat) (h : Heap) : callRes vp f [.agg (wc a), .agg (wc b)] h = some (.int .i64 (cmpN a b), h) := by
  refine res_pure hf rfl rfl (fun g hg => ?_)
  have e : ∀ h, r_eqa false [0, 0] (.agg [.int .u64 ((a / 18446744073709551616 : Nat) : Int), .int .u64 ((a % 18446744073709551616 : Nat) : Int)]) (.agg [.int .u64 ((b / 18446744073709551616 : Nat) : Int), .int .u64 ((b % 18446744073709551616 : Nat) : Int)]) h = some (.bool (decide (a = b)), h) := fun h => by
    simp only [r_eqa, List.length_cons, List.length_nil, beq_dec, decide_true, Bool.and_self, cond_true, eqCells, eqK, kEq_refl, eqI_dec, bn_eq]
    by_cases q1 : a / 18446744073709551616 = b / 18446744073709551616
    · by_cases q2 : a % 18446744073709551616 = b % 18446744073709551616
      · have : a = b := by omega
        simp [this]
      · have : ¬ a = b := by intro h; exact q2 (by rw [h])
        simp [q1, q2, this]
    · have : ¬ a = b := by intro h; exact q1 (by rw [h])
      simp [q1, this]
  unfold B_spigotref01_Cmp
  unfold wc cmpN
  rcases Nat.lt_trichotomy (a / 18446744073709551616) (b / 18446744073709551616) with q | q | q
  · have c : a < b := by omega
    simp only [↓zp, zz, true_and, and_true, chkOk, Nat.reduceEqDiff, Nat.reduceAdd, Nat.reduceSub, Nat.reduceMul, Nat.reduceLT, Nat.reduceLeDiff, Int.reduceLT, Int.reduceLE, Int.reduceEq, Int.reduceAdd, Int.reduceNeg, if_false, if_true, reduceIte, ags, LB.agz, agd, r_mv, r_pick, r_box, r_alloc, r_un, r_eqb, r_ext, r_mkf, r_cnv, r_st, r_nck, r_ix, r_iaa, takeN, agc, agn, VE.store, over, cellsAt, VE.part, agm, agb, blkX, gEval, cond_true, cond_false, r_build, r_bsl, fill, VE.unOp, r_bin, adz, ads, resOf, resVs, resV, alc, aln, reduceCtorEq, or_true, true_or, false_or, or_false, eq_self, exists_eq_left', Option.some.injEq, bn_lt, bn_eq, q, c, frzI]
  · have q0 : ¬ (a / 18446744073709551616 < b / 18446744073709551616) := by omega
    have q' := eq_true q
    by_cases q2 : a % 18446744073709551616 < b % 18446744073709551616
    · have c : a < b := by omega
      simp only [↓zp, zz, true_and, and_true, chkOk, Nat.reduceEqDiff, Nat.reduceAdd, Nat.reduceSub, Nat.reduceMul, Nat.reduceLT, Nat.reduceLeDiff, Int.reduceLT, Int.reduceLE, Int.reduceEq, Int.reduceAdd, Int.reduceNeg, if_false, if_true, reduceIte, ags, LB.agz, agd, r_mv, r_pick, r_box, r_alloc, r_un, r_eqb, r_ext, r_mkf, r_cnv, r_st, r_nck, r_ix, r_iaa, takeN, agc, agn, VE.store, over, cellsAt, VE.part, agm, agb, blkX, gEval, cond_true, cond_false, r_build, r_bsl, fill, VE.unOp, r_bin, adz, ads, resOf, resVs, resV, alc, aln, reduceCtorEq, or_true, true_or, false_or, or_false, eq_self, exists_eq_left', Option.some.injEq, bn_lt, bn_eq, q', q0, q2, c, frzI]
    · have c : ¬ a < b := by omega
      by_cases q3 : a = b
      · have q3' := eq_true q3
        simp only [↓zp, zz, true_and, and_true, chkOk, Nat.reduceEqDiff, Nat.reduceAdd, Nat.reduceSub, Nat.reduceMul, Nat.reduceLT, Nat.reduceLeDiff, Int.reduceLT, Int.reduceLE, Int.reduceEq, Int.reduceAdd, Int.reduceNeg, if_false, if_true, reduceIte, ags, LB.agz, agd, r_mv, r_pick, r_box, r_alloc, r_un, r_eqb, r_ext, r_mkf, r_cnv, r_st, r_nck, r_ix, r_iaa, takeN, agc, agn, VE.store, over, cellsAt, VE.part, agm, agb, blkX, gEval, cond_true, cond_false, r_build, r_bsl, fill, VE.unOp, r_bin, adz, ads, resOf, resVs, resV, alc, aln, reduceCtorEq, or_true, true_or, false_or, or_false, eq_self, exists_eq_left', Option.some.injEq, bn_lt, bn_eq, q', q0, q2, c, e, q3', frzI]
      · simp only [↓zp, zz, true_and, and_true, chkOk, Nat.reduceEqDiff, Nat.reduceAdd, Nat.reduceSub, Nat.reduceMul, Nat.reduceLT, Nat.reduceLeDiff, Int.reduceLT, Int.reduceLE, Int.reduceEq, Int.reduceAdd, Int.reduceNeg, if_false, if_true, reduceIte, ags, LB.agz, agd, r_mv, r_pick, r_box, r_alloc, r_un, r_eqb, r_ext, r_mkf, r_cnv, r_st, r_nck, r_ix, r_iaa, takeN, agc, agn, VE.store, over, cellsAt, VE.part, agm, agb, blkX, gEval, cond_true, cond_false, r_build, r_bsl, fill, VE.unOp, r_bin, adz, ads, resOf, resVs, resV, alc, aln, reduceCtorEq, or_true, true_or, false_or, or_false, eq_self, exists_eq_left', Option.some.injEq, bn_lt, bn_eq, q', q0, q2, c, e, q3, frzI]
  · have q0 : ¬ (a / 18446744073709551616 < b / 18446744073709551616) := by omega
    have q1 : ¬ (a / 18446744073709551616 = b / 18446744073709551616) := by omega
    have c : ¬ a < b := by omega
    have c2 : ¬ a = b := by omega
    simp only [↓zp, zz, true_and, and_true, chkOk, Nat.reduceEqDiff, Nat.reduceAdd, Nat.reduceSub, Nat.reduceMul, Nat.reduceLT, Nat.reduceLeDiff, Int.reduceLT, Int.reduceLE, Int.reduceEq, Int.reduceAdd, Int.reduceNeg, if_false, if_true, reduceIte, ags, LB.agz, agd, r_mv, r_pick, r_box, r_alloc, r_un, r_eqb, r_ext, r_mkf, r_cnv, r_st, r_nck, r_ix, r_iaa, takeN, agc, agn, VE.store, over, cellsAt, VE.part, agm, agb, blkX, gEval, cond_true, cond_false, r_build, r_bsl, fill, VE.unOp, r_bin, adz, ads, resOf, resVs, resV, alc, aln, reduceCtorEq, or_true, true_or, false_or, or_false, eq_self, exists_eq_left', Option.some.injEq, bn_lt, bn_eq, q0, q1, c, c2, e, frzI]
theorem less_spec {f t1 : Nat} (hf : vp f = some (B_spigotref01_Less t1)) (a b : Nat) (hab : b ≤ a) (ha : a < 340282366920938463463374607431768211456) (h : Heap) : callRes vp f [.agg (wc a), .agg (wc b)] h = some (.agg (wc (a - b)), h) := by
  refine res_pure hf rfl rfl (fun g hg => ?_)
  have l1 : ¬ (g.nx + 2 < g.lo) := by have := hlo hg; omega
  have hs : wr .u64 (((a / 18446744073709551616 : Nat) : Int) - ((b / 18446744073709551616 : Nat) : Int)) = ((a / 18446744073709551616 - b / 18446744073709551616 : Nat) : Int) := nu_sub (by omega) (by omega)
  have ls : wr .u64 (((a % 18446744073709551616 : Nat) : Int) - ((b % 18446744073709551616 : Nat) : Int)) = (((a - b) % 18446744073709551616 : Nat) : Int) := by
    rw [nu_subw (by omega) (by omega)]
    congr 1
    omega
  unfold B_spigotref01_Less wc
  by_cases q : a % 18446744073709551616 < b % 18446744073709551616
  · have hs2 : wr .u64 (((a / 18446744073709551616 - b / 18446744073709551616 : Nat) : Int) - 1) = (((a - b) / 18446744073709551616 : Nat) : Int) := by
      have : wr .u64 (((a / 18446744073709551616 - b / 18446744073709551616 : Nat) : Int) - ((1 : Nat) : Int)) = _ := nu_sub (by omega) (by omega)
      rw [show ((1 : Nat) : Int) = 1 from rfl] at this
      rw [this]
      congr 1
      omega
    simp only [↓zp, zz, true_and, and_true, chkOk, Nat.reduceEqDiff, Nat.reduceAdd, Nat.reduceSub, Nat.reduceMul, Nat.reduceLT, Nat.reduceLeDiff, Int.reduceLT, Int.reduceLE, Int.reduceEq, Int.reduceAdd, Int.reduceNeg, if_false, if_true, reduceIte, ags, LB.agz, agd, r_mv, r_pick, r_box, r_alloc, r_un, r_eqb, r_ext, r_mkf, r_cnv, r_st, r_nck, r_ix, r_iaa, takeN, agc, agn, VE.store, over, cellsAt, VE.part, agm, agb, blkX, gEval, cond_true, cond_false, r_build, r_bsl, fill, VE.unOp, r_bin, adz, ads, resOf, resVs, resV, alc, aln, reduceCtorEq, or_true, true_or, false_or, or_false, eq_self, exists_eq_left', Option.some.injEq, l1, bn_lt, q, hs, ls, hs2, frzA2]
  · have hs2 : a / 18446744073709551616 - b / 18446744073709551616 = (a - b) / 18446744073709551616 := by omega
    simp only [↓zp, zz, true_and, and_true, chkOk, Nat.reduceEqDiff, Nat.reduceAdd, Nat.reduceSub, Nat.reduceMul, Nat.reduceLT, Nat.reduceLeDiff, Int.reduceLT, Int.reduceLE, Int.reduceEq, Int.reduceAdd, Int.reduceNeg, if_false, if_true, reduceIte, ags, LB.agz, agd, r_mv, r_pick, r_box, r_alloc, r_un, r_eqb, r_ext, r_mkf, r_cnv, r_st, r_nck, r_ix, r_iaa, takeN, agc, agn, VE.store, over, cellsAt, VE.part, agm, agb, blkX, gEval, cond_true, cond_false, r_build, r_bsl, fill, VE.unOp, r_bin, adz, ads, resOf, resVs, resV, alc, aln, reduceCtorEq, or_true, true_or, false_or, or_false, eq_self, exists_eq_left', Option.some.injEq, l1, bn_lt, q, hs, ls, hs2, frzA2]
end
end Go.VE.LB
