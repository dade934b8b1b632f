/- What the functions of the law ModelAdmits compute, on typed arguments (part 11). -/
import Derived.Test.YtnmneadmlcpaoaaModelAdmitsA10
set_option linter.all false
namespace Go.VE.LB
open Go Go.VE
set_option maxRecDepth 100000
set_option linter.all false
def n8 (x : Nat) : Nat := match tab8[x]? with
  | some b => b.toNat
  | none => 0
theorem n8_ok : ∀ x : Fin 256, 0 < x.val → 1 ≤ n8 x.val ∧ n8 x.val ≤ 8 ∧ 2 ^ (n8 x.val - 1) ≤ x.val ∧ x.val < 2 ^ n8 x.val := by decide +kernel
theorem n8_at {x : Nat} (h : x < 256) : ∃ b : UInt8, tab8[x]? = some b ∧ b.toNat = n8 x := by
  have : x < tab8.length := h
  refine ⟨tab8[x], List.getElem?_eq_getElem this, ?_⟩
  simp only [n8, List.getElem?_eq_getElem this]
section
variable {vp : Nat → Option VFn}
theorem r_ixs_n {l : List UInt8} {k : IntKind} {i : Nat} {b : UInt8} {h : Heap} (e : l[i]? = some b) : r_ixs (.str l) (.int k (i : Int)) h = some (.int .u8 ((b.toNat : Nat) : Int), h) := by
  simp only [r_ixs, asNatN, e, Option.map_some]
theorem wr_u8 {x : Nat} (h : x < 256) : wr .u8 (x : Int) = (x : Int) := by
  show Int.ofNat (x % 256) = _
  rw [Nat.mod_eq_of_lt h]
  rfl
theorem len64_spec {f : Nat} (hf : vp f = some B_math_bits_Len64) (x : Nat) (h0 : 0 < x) (hx : x < 4294967296) (h : Heap) :
    ∃ n : Nat, 1 ≤ n ∧ n ≤ 32 ∧ 2 ^ (n - 1) ≤ x ∧ x < 2 ^ n ∧ callRes vp f [.int .u64 (x : Int)] h = some (.int .i64 (n : Int), h) := by
  have s16 : VE.binOp .shr (.int .u64 (x : Int)) (.int .u64 16) = _ := bn_shr (a := x) (y := 16) (k := .u64) (by decide)
  have s8 : ∀ a : Nat, VE.binOp .shr (.int .u64 (a : Int)) (.int .u64 8) = _ := fun a => bn_shr (a := a) (y := 8) (k := .u64) (by decide)
  simp only [Nat.reducePow] at s16 s8
  have c0 : ¬ ((4294967296 : Int) ≤ (x : Int)) := by omega
  have key : ∀ (z m : Nat), 0 < z → z < 256 → m ≤ 24 → x / 2 ^ m = z → (1 ≤ m + n8 z ∧ m + n8 z ≤ 32 ∧ 2 ^ (m + n8 z - 1) ≤ x ∧ x < 2 ^ (m + n8 z)) ∧ wr .u8 (z : Int) = (z : Int) ∧ wr .i64 ((m : Int) + (n8 z : Int)) = ((m + n8 z : Nat) : Int) ∧ wr .i64 ((n8 z : Nat) : Int) = (n8 z : Int) := by
    intro z m hz1 hz2 hm hzm
    obtain ⟨p1, p2, p3, p4⟩ := n8_ok ⟨z, hz2⟩ hz1
    simp only at p1 p2 p3 p4
    refine ⟨⟨by omega, by omega, ?_, ?_⟩, wr_u8 hz2, by rw [wr_i64 (by omega) (by omega)]; push_cast; rfl, by rw [wr_i64 (by omega) (by omega)]⟩
    · have : 2 ^ (m + n8 z - 1) = 2 ^ m * 2 ^ (n8 z - 1) := by rw [← Nat.pow_add]; congr 1; omega
      rw [this, Nat.mul_comm]
      rw [← hzm] at p3
      exact (Nat.le_div_iff_mul_le (Nat.two_pow_pos m)).1 (by rw [hzm] at p3 ⊢; exact p3)
    · rw [Nat.pow_add, Nat.mul_comm]
      exact (Nat.div_lt_iff_lt_mul (Nat.two_pow_pos m)).1 (by rw [hzm]; exact p4)
  by_cases q1 : 65536 ≤ x
  · have q1' : (65536 : Int) ≤ (x : Int) := by omega
    by_cases q2 : 256 ≤ x / 65536
    · have q2' : (256 : Int) ≤ ((x / 65536 : Nat) : Int) := by omega
      obtain ⟨k1, k2, k3, k4⟩ := key (x / 65536 / 256) 24 (by omega) (by omega) (by omega) (by rw [Nat.div_div_eq_div_mul])
      obtain ⟨b, e1, e2⟩ := n8_at (x := x / 65536 / 256) (by omega)
      have e3 : ∀ h, r_ixs (.str tab8) (.int .u8 ((x / 65536 / 256 : Nat) : Int)) h = some (.int .u8 (n8 (x / 65536 / 256) : Int), h) := fun h => by rw [← e2]; exact r_ixs_n e1
      have w1 : wr .i64 16 = 16 := rfl
      have w2 : wr .i64 24 = 24 := rfl
      refine ⟨24 + n8 (x / 65536 / 256), k1.1, k1.2.1, k1.2.2.1, k1.2.2.2, res_pure hf rfl rfl (fun g hg => ?_)⟩
      unfold B_math_bits_Len64
      have k3 : wr .i64 (24 + (n8 (x / 65536 / 256) : Int)) = _ := k3
      simp only [↓zp, zz, true_and, and_true, chkOk, Nat.reduceEqDiff, Nat.reduceAdd, Nat.reduceSub, Nat.reduceMul, Nat.reduceLT, Nat.reduceLeDiff, Int.reduceLT, Int.reduceLE, Int.reduceEq, Int.reduceAdd, Int.reduceNeg, if_false, if_true, reduceIte, ags, LB.agz, agd, r_mv, r_pick, r_box, r_alloc, r_un, r_eqb, r_ext, r_mkf, r_cnv, r_st, r_nck, r_ix, r_iaa, takeN, agc, agn, VE.store, over, cellsAt, VE.part, agm, agb, blkX, gEval, cond_true, cond_false, r_build, r_bsl, fill, VE.unOp, r_bin, adz, ads, resOf, resVs, resV, alc, aln, reduceCtorEq, or_true, true_or, false_or, or_false, eq_self, exists_eq_left', Option.some.injEq, c0, q1', s16, s8, q2', k2, e3, k4, k3, w1, w2, frzI]
    · have q2' : ¬ (256 : Int) ≤ ((x / 65536 : Nat) : Int) := by omega
      obtain ⟨k1, k2, k3, k4⟩ := key (x / 65536) 16 (by omega) (by omega) (by omega) rfl
      obtain ⟨b, e1, e2⟩ := n8_at (x := x / 65536) (by omega)
      have e3 : ∀ h, r_ixs (.str tab8) (.int .u8 ((x / 65536 : Nat) : Int)) h = some (.int .u8 (n8 (x / 65536) : Int), h) := fun h => by rw [← e2]; exact r_ixs_n e1
      have w1 : wr .i64 16 = 16 := rfl
      refine ⟨16 + n8 (x / 65536), k1.1, k1.2.1, k1.2.2.1, k1.2.2.2, res_pure hf rfl rfl (fun g hg => ?_)⟩
      unfold B_math_bits_Len64
      have k3 : wr .i64 (16 + (n8 (x / 65536) : Int)) = _ := k3
      simp only [↓zp, zz, true_and, and_true, chkOk, Nat.reduceEqDiff, Nat.reduceAdd, Nat.reduceSub, Nat.reduceMul, Nat.reduceLT, Nat.reduceLeDiff, Int.reduceLT, Int.reduceLE, Int.reduceEq, Int.reduceAdd, Int.reduceNeg, if_false, if_true, reduceIte, ags, LB.agz, agd, r_mv, r_pick, r_box, r_alloc, r_un, r_eqb, r_ext, r_mkf, r_cnv, r_st, r_nck, r_ix, r_iaa, takeN, agc, agn, VE.store, over, cellsAt, VE.part, agm, agb, blkX, gEval, cond_true, cond_false, r_build, r_bsl, fill, VE.unOp, r_bin, adz, ads, resOf, resVs, resV, alc, aln, reduceCtorEq, or_true, true_or, false_or, or_false, eq_self, exists_eq_left', Option.some.injEq, c0, q1', s16, s8, q2', k2, e3, k4, k3, w1, frzI]
  · have q1' : ¬ (65536 : Int) ≤ (x : Int) := by omega
    by_cases q2 : 256 ≤ x
    · have q2' : (256 : Int) ≤ (x : Int) := by omega
      obtain ⟨k1, k2, k3, k4⟩ := key (x / 256) 8 (by omega) (by omega) (by omega) rfl
      obtain ⟨b, e1, e2⟩ := n8_at (x := x / 256) (by omega)
      have e3 : ∀ h, r_ixs (.str tab8) (.int .u8 ((x / 256 : Nat) : Int)) h = some (.int .u8 (n8 (x / 256) : Int), h) := fun h => by rw [← e2]; exact r_ixs_n e1
      have w1 : wr .i64 8 = 8 := rfl
      refine ⟨8 + n8 (x / 256), k1.1, k1.2.1, k1.2.2.1, k1.2.2.2, res_pure hf rfl rfl (fun g hg => ?_)⟩
      unfold B_math_bits_Len64
      have k3 : wr .i64 (8 + (n8 (x / 256) : Int)) = _ := k3
      simp only [↓zp, zz, true_and, and_true, chkOk, Nat.reduceEqDiff, Nat.reduceAdd, Nat.reduceSub, Nat.reduceMul, Nat.reduceLT, Nat.reduceLeDiff, Int.reduceLT, Int.reduceLE, Int.reduceEq, Int.reduceAdd, Int.reduceNeg, if_false, if_true, reduceIte, ags, LB.agz, agd, r_mv, r_pick, r_box, r_alloc, r_un, r_eqb, r_ext, r_mkf, r_cnv, r_st, r_nck, r_ix, r_iaa, takeN, agc, agn, VE.store, over, cellsAt, VE.part, agm, agb, blkX, gEval, cond_true, cond_false, r_build, r_bsl, fill, VE.unOp, r_bin, adz, ads, resOf, resVs, resV, alc, aln, reduceCtorEq, or_true, true_or, false_or, or_false, eq_self, exists_eq_left', Option.some.injEq, c0, q1', s8, q2', k2, e3, k4, k3, w1, frzI]
    · have q2' : ¬ (256 : Int) ≤ (x : Int) := by omega
      obtain ⟨k1, k2, k3, k4⟩ := key x 0 (by omega) (by omega) (by omega) (by simp)
      obtain ⟨b, e1, e2⟩ := n8_at (x := x) (by omega)
      have e3 : ∀ h, r_ixs (.str tab8) (.int .u8 (x : Int)) h = some (.int .u8 (n8 x : Int), h) := fun h => by rw [← e2]; exact r_ixs_n e1
      refine ⟨0 + n8 x, k1.1, k1.2.1, k1.2.2.1, k1.2.2.2, res_pure hf rfl rfl (fun g hg => ?_)⟩
      unfold B_math_bits_Len64
      have k3 : wr .i64 (0 + (n8 x : Int)) = _ := k3
      simp only [↓zp, zz, true_and, and_true, chkOk, Nat.reduceEqDiff, Nat.reduceAdd, Nat.reduceSub, Nat.reduceMul, Nat.reduceLT, Nat.reduceLeDiff, Int.reduceLT, Int.reduceLE, Int.reduceEq, Int.reduceAdd, Int.reduceNeg, if_false, if_true, reduceIte, ags, LB.agz, agd, r_mv, r_pick, r_box, r_alloc, r_un, r_eqb, r_ext, r_mkf, r_cnv, r_st, r_nck, r_ix, r_iaa, takeN, agc, agn, VE.store, over, cellsAt, VE.part, agm, agb, blkX, gEval, cond_true, cond_false, r_build, r_bsl, fill, VE.unOp, r_bin, adz, ads, resOf, resVs, resV, alc, aln, reduceCtorEq, or_true, true_or, false_or, or_false, eq_self, exists_eq_left', Option.some.injEq, c0, q1', q2', k2, e3, k4, k3, frzI]
theorem lz64_spec {f c1 : Nat} (hf : vp f = some (B_math_bits_LeadingZeros64 c1)) (h1 : vp c1 = some B_math_bits_Len64) (x : Nat) (h0 : 0 < x) (hx : x < 4294967296) (h : Heap) :
    ∃ n : Nat, 1 ≤ n ∧ n ≤ 32 ∧ 2 ^ (n - 1) ≤ x ∧ x < 2 ^ n ∧ callRes vp f [.int .u64 (x : Int)] h = some (.int .i64 ((64 - n : Nat) : Int), h) := by
  obtain ⟨n, a1, a2, a3, a4, _⟩ := len64_spec h1 x h0 hx h
  have m1 : modeOf vp c1 = some 1 := by simp [modeOf, h1, B_math_bits_Len64]
  have call : ∀ h, callRes vp c1 [.int .u64 (x : Int)] h = some (.int .i64 (n : Int), h) := by
    intro h
    obtain ⟨m, b1, b2, b3, b4, e⟩ := len64_spec h1 x h0 hx h
    have : m = n := by
      rcases Nat.lt_trichotomy m n with q | q | q
      · have := Nat.pow_le_pow_right (show 0 < 2 by decide) (show m ≤ n - 1 by omega); omega
      · exact q
      · have := Nat.pow_le_pow_right (show 0 < 2 by decide) (show n ≤ m - 1 by omega); omega
    rw [← this]
    exact e
  refine ⟨n, a1, a2, a3, a4, res_pure hf rfl rfl (fun g hg => ?_)⟩
  have w : wr .i64 (64 - (n : Int)) = ((64 - n : Nat) : Int) := by rw [wr_i64 (by omega) (by omega)]; omega
  unfold B_math_bits_LeadingZeros64
  simp only [↓zp, zz, true_and, and_true, chkOk, Nat.reduceEqDiff, Nat.reduceAdd, Nat.reduceSub, Nat.reduceMul, Nat.reduceLT, Nat.reduceLeDiff, Int.reduceLT, Int.reduceLE, Int.reduceEq, Int.reduceAdd, Int.reduceNeg, if_false, if_true, reduceIte, ags, LB.agz, agd, r_mv, r_pick, r_box, r_alloc, r_un, r_eqb, r_ext, r_mkf, r_cnv, r_st, r_nck, r_ix, r_iaa, takeN, agc, agn, VE.store, over, cellsAt, VE.part, agm, agb, blkX, gEval, cond_true, cond_false, r_build, r_bsl, fill, VE.unOp, r_bin, adz, ads, resOf, resVs, resV, alc, aln, reduceCtorEq, or_true, true_or, false_or, or_false, eq_self, exists_eq_left', Option.some.injEq, m1, call, w, frzI]
end
end Go.VE.LB
