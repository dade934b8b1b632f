/- What the functions of the law ModelAdmits compute, on typed arguments (part 12). -/
import Derived.Test.YtnmneadmlcpaoaaModelAdmitsA11
set_option linter.all false
namespace Go.VE.LB
open Go Go.VE
set_option maxRecDepth 100000
set_option linter.all false
set_option maxHeartbeats 1000000
theorem nu_subw {a b : Nat} (h : b < 18446744073709551616) (ha : a < 18446744073709551616) : wr .u64 ((a : Int) - (b : Int)) = (((a + (18446744073709551616 - b)) % 18446744073709551616 : Nat) : Int) := by
  rcases Nat.lt_or_ge a b with q | q
  · have e : (a : Int) - (b : Int) = Int.negSucc (b - a - 1) := by omega
    rw [e]
    show Int.ofNat (18446744073709551616 - 1 - (b - a - 1) % 18446744073709551616) = _
    rw [Int.ofNat_eq_natCast]
    congr 1
    omega
  · rw [nu_sub q ha]
    congr 1
    omega
theorem div_fin {N y P Q R Y : Nat} (hP : 0 < P) (hY : y * P = Y) (key : N * P = Q * Y + R) (hR : R < Y) : Q = N / y ∧ R / P = N % y := by
  have e1 : N / y = Q := by
    have : N / y = N * P / (y * P) := (Nat.mul_div_mul_right _ _ hP).symm
    rw [this, hY, key, Nat.mul_comm Q, Nat.mul_add_div (by omega), Nat.div_eq_of_lt hR, Nat.add_zero]
  refine ⟨e1.symm, ?_⟩
  have e2 : N % y * P = R := by
    have : N % y * P = N * P % (y * P) := (Nat.mul_mod_mul_right _ _ _).symm
    rw [this, hY, key, Nat.mul_comm Q, Nat.mul_add_mod, Nat.mod_eq_of_lt hR]
  rw [← e2, Nat.mul_div_cancel _ hP]
theorem key_law0 (K : Nat) {a b q r : Nat} (A B : Nat) (hv : a * K + q = B + b) : (A + a) * (K * K) + (K * q + r) = (A * K + B) * K + (b * K + r) := by
  have e : (A * K + B) * K + (b * K + r) = A * K * K + (B + b) * K + r := by simp only [Nat.add_mul, Nat.add_assoc]
  have e2 : (B + b) * K = a * K * K + q * K := by rw [← hv, Nat.add_mul]
  rw [e, e2, Nat.add_mul, Nat.mul_assoc, Nat.mul_assoc, Nat.mul_comm K q]
  simp only [Nat.add_assoc]
theorem key_law {u v n : Nat} (A B : Nat) (hA : A ≤ u) (hB : B ≤ v) (hv : (u - A) * 4294967296 + n / 4294967296 = v) : u * 18446744073709551616 + n = (A * 4294967296 + B) * 4294967296 + ((v - B) * 4294967296 + n % 4294967296) := by
  obtain ⟨a, rfl⟩ := Nat.exists_eq_add_of_le hA
  obtain ⟨b, rfl⟩ := Nat.exists_eq_add_of_le hB
  rw [Nat.add_sub_cancel_left] at hv ⊢
  have h := Nat.div_add_mod n 4294967296
  have := key_law0 4294967296 (r := n % 4294967296) A B hv
  rw [h] at this
  exact this
/-- the numbers of a division of 128 bits by a small number -/
theorem div_law {hi lo y s : Nat} (hs1 : 32 ≤ s) (hs2 : s ≤ 63) (h1 : hi < y) (h2 : lo < 18446744073709551616) (h3 : y * 2 ^ s < 18446744073709551616) :
    ∃ z Y un32 un10 q1 un21 q0 : Nat, Y = y * 2 ^ s ∧ Y = z * 4294967296 ∧ 0 < z ∧ z < 4294967296 ∧ hi * 2 ^ s < 18446744073709551616 ∧ lo / 2 ^ (64 - s) < 2 ^ s ∧ un32 = hi * 2 ^ s + lo / 2 ^ (64 - s) ∧ un32 < Y ∧ un10 = lo * 2 ^ s % 18446744073709551616 ∧
      q1 = un32 / z ∧ q1 * z ≤ un32 ∧ q1 < 4294967296 ∧ un32 - q1 * z < z ∧ un21 = (un32 - q1 * z) * 4294967296 + un10 / 4294967296 ∧ un21 < 18446744073709551616 ∧ q1 * Y ≤ un32 * 4294967296 ∧ un32 * 4294967296 - q1 * Y = (un32 - q1 * z) * 4294967296 ∧ q0 = un21 / z ∧ q0 * z ≤ un21 ∧ q0 < 4294967296 ∧ un21 - q0 * z < z ∧
      q0 * Y ≤ un21 * 4294967296 ∧ un21 * 4294967296 - q0 * Y = (un21 - q0 * z) * 4294967296 ∧ q1 * 4294967296 + q0 = (hi * 18446744073709551616 + lo) / y ∧ ((un21 - q0 * z) * 4294967296 + un10 % 4294967296) / 2 ^ s = (hi * 18446744073709551616 + lo) % y := by
  obtain ⟨t, rfl⟩ : ∃ t, s = 32 + t := ⟨s - 32, by omega⟩
  have hP : 0 < 2 ^ (32 + t) := Nat.two_pow_pos _
  have hp : 2 ^ (32 + t) = 4294967296 * 2 ^ t := by rw [Nat.pow_add]
  have hY : y * 2 ^ (32 + t) = (y * 2 ^ t) * 4294967296 := by rw [hp, Nat.mul_left_comm, Nat.mul_comm]
  have hz0 : 0 < y * 2 ^ t := Nat.mul_pos (by omega) (Nat.two_pow_pos t)
  have hP2 : 2 ^ (64 - (32 + t)) * 2 ^ (32 + t) = 18446744073709551616 := by rw [← Nat.pow_add, show 64 - (32 + t) + (32 + t) = 64 by omega]
  have hh : hi * 2 ^ (32 + t) + 2 ^ (32 + t) ≤ y * 2 ^ (32 + t) := by
    rw [← Nat.succ_mul]
    exact Nat.mul_le_mul_right _ h1
  have hl : lo / 2 ^ (64 - (32 + t)) < 2 ^ (32 + t) := by
    rw [Nat.div_lt_iff_lt_mul (Nat.two_pow_pos _), Nat.mul_comm, hP2]
    exact h2
  have hlo : lo * 2 ^ (32 + t) = lo / 2 ^ (64 - (32 + t)) * 18446744073709551616 + lo * 2 ^ (32 + t) % 18446744073709551616 := by
    have e := Nat.div_add_mod (lo * 2 ^ (32 + t)) 18446744073709551616
    have e2 : lo * 2 ^ (32 + t) / 18446744073709551616 = lo / 2 ^ (64 - (32 + t)) := by
      rw [← hP2, Nat.mul_div_mul_right _ _ hP]
    rw [e2] at e
    rw [Nat.mul_comm (lo / _)]
    exact e.symm
  have hN : (hi * 18446744073709551616 + lo) * 2 ^ (32 + t) = (hi * 2 ^ (32 + t) + lo / 2 ^ (64 - (32 + t))) * 18446744073709551616 + lo * 2 ^ (32 + t) % 18446744073709551616 := by
    rw [Nat.add_mul, hlo, Nat.add_mul, Nat.mul_right_comm]
    omega
  generalize hz : y * 2 ^ t = z at *
  generalize hY2 : y * 2 ^ (32 + t) = Y at *
  generalize hu : hi * 2 ^ (32 + t) + lo / 2 ^ (64 - (32 + t)) = un32 at *
  generalize hu10 : lo * 2 ^ (32 + t) % 18446744073709551616 = un10 at *
  have hun : un32 < Y := by omega
  have hu10b : un10 < 18446744073709551616 := by rw [← hu10]; exact Nat.mod_lt _ (by decide)
  have d1 := Nat.div_add_mod un32 z
  have m1 := Nat.mod_lt un32 hz0
  have hq1 : un32 / z < 4294967296 := by
    rw [Nat.div_lt_iff_lt_mul hz0, Nat.mul_comm]
    omega
  generalize hq : un32 / z = q1 at *
  rw [Nat.mul_comm] at d1
  obtain ⟨un21, hu21⟩ : ∃ u, (un32 - q1 * z) * 4294967296 + un10 / 4294967296 = u := ⟨_, rfl⟩
  have hun21 : un21 < z * 4294967296 := by omega
  have d2 := Nat.div_add_mod un21 z
  have m2 := Nat.mod_lt un21 hz0
  have hq0 : un21 / z < 4294967296 := by
    rw [Nat.div_lt_iff_lt_mul hz0, Nat.mul_comm]
    omega
  generalize hq' : un21 / z = q0 at *
  rw [Nat.mul_comm] at d2
  have c1 : q1 * Y = q1 * z * 4294967296 := by rw [hY, Nat.mul_assoc]
  have c0 : q0 * Y = q0 * z * 4294967296 := by rw [hY, Nat.mul_assoc]
  have cQ : (q1 * 4294967296 + q0) * Y = (q1 * z * 4294967296 + q0 * z) * 4294967296 := by
    have : (q1 * 4294967296 + q0) * Y = q1 * 4294967296 * Y + q0 * Y := Nat.add_mul _ _ _
    have e2 : q1 * 4294967296 * Y = q1 * Y * 4294967296 := Nat.mul_right_comm _ _ _
    exact this.trans ((congrArg (fun n => n + q0 * Y) (e2.trans (congrArg (fun n => n * 4294967296) c1))).trans ((congrArg (fun n => q1 * z * 4294967296 * 4294967296 + n) c0).trans (Nat.add_mul _ _ _).symm))
  have hR : un21 - q0 * z < z := by omega
  have key : (hi * 18446744073709551616 + lo) * 2 ^ (32 + t) = (q1 * 4294967296 + q0) * Y + ((un21 - q0 * z) * 4294967296 + un10 % 4294967296) := by
    refine hN.trans (Eq.trans ?_ (congrArg (fun n => n + ((un21 - q0 * z) * 4294967296 + un10 % 4294967296)) cQ.symm))
    exact key_law (q1 * z) (q0 * z) (by omega) (by omega) hu21
  have hRb : (un21 - q0 * z) * 4294967296 + un10 % 4294967296 < Y := by omega
  have fin := div_fin hP hY2 key hRb
  exact ⟨z, Y, un32, un10, q1, un21, q0, rfl, hY, hz0, by omega, by omega, hl, rfl, hun, rfl, hq.symm, by omega, hq1, by omega, hu21.symm, by omega, by omega, by omega, hq'.symm, by omega, hq0, hR, by omega, by omega, fin.1, fin.2⟩
section
variable {vp : Nat → Option VFn}
theorem div64_spec {f c1 c2 : Nat} (hf : vp f = some (B_math_bits_Div64 c1)) (h1 : vp c1 = some (B_math_bits_LeadingZeros64 c2)) (h2 : vp c2 = some B_math_bits_Len64) (hi lo y : Nat) (hhi : hi < y) (hlo : lo < 18446744073709551616) (hy : y < 4294967296) (h : Heap) :
    callRes vp f [.int .u64 (hi : Int), .int .u64 (lo : Int), .int .u64 (y : Int)] h = some (.tup [.int .u64 (((hi * 18446744073709551616 + lo) / y : Nat) : Int), .int .u64 (((hi * 18446744073709551616 + lo) % y : Nat) : Int)], h) := by
  have m1 : modeOf vp c1 = some 1 := by simp [modeOf, h1, B_math_bits_LeadingZeros64]
  obtain ⟨n, n1, n2, n3, n4, _⟩ := lz64_spec h1 h2 y (by omega) hy h
  have call : ∀ h, callRes vp c1 [.int .u64 (y : Int)] h = some (.int .i64 ((64 - n : Nat) : Int), h) := by
    intro h
    obtain ⟨m, b1, b2, b3, b4, e⟩ := lz64_spec h1 h2 y (by omega) hy h
    have : m = n := by
      rcases Nat.lt_trichotomy m n with q | q | q
      · have := Nat.pow_le_pow_right (show 0 < 2 by decide) (show m ≤ n - 1 by omega); omega
      · exact q
      · have := Nat.pow_le_pow_right (show 0 < 2 by decide) (show n ≤ m - 1 by omega); omega
    rw [← this]
    exact e
  have hys : y * 2 ^ (64 - n) < 18446744073709551616 := by
    have : 2 ^ n * 2 ^ (64 - n) = 18446744073709551616 := by rw [← Nat.pow_add, show n + (64 - n) = 64 by omega]
    rw [← this]
    exact Nat.mul_lt_mul_of_pos_right n4 (Nat.two_pow_pos _)
  obtain ⟨z, Y, un32, un10, q1, un21, q0, e1, e2, e3, e4, e5, e6, e7, e8, e9, f1, f2, f3, f4, f5, f6, f7, f8, f9, g1, g2, g3, g4, g5, g6, g7⟩ := div_law (hi := hi) (lo := lo) (y := y) (s := 64 - n) (by omega) (by omega) hhi hlo hys
  have hYb : Y < 18446744073709551616 := by omega
  have hd : 2 ^ (64 - n) ∣ hi * 2 ^ (64 - n) := ⟨hi, Nat.mul_comm _ _⟩
  have hn64 : 64 - (64 - n) = n := by omega
  generalize 64 - n = s at *
  have y0 : ¬ (y : Int) = 0 := by omega
  have yh : ¬ (y : Int) ≤ (hi : Int) := by omega
  refine res_pure hf rfl rfl (fun g hg => ?_)
  unfold B_math_bits_Div64
  by_cases hz : hi = 0
  · subst hz
    have yh0 : ¬ (y : Int) ≤ 0 := by omega
    have b1 : VE.binOp .quo (.int .u64 (lo : Int)) (.int .u64 (y : Int)) = _ := bn_quo (by omega) hlo
    have b2 : VE.binOp .rem (.int .u64 (lo : Int)) (.int .u64 (y : Int)) = _ := bn_rem (by omega)
    simp only [↓zp, zz, true_and, and_true, chkOk, Nat.reduceEqDiff, Nat.reduceAdd, Nat.reduceSub, Nat.reduceMul, Nat.reduceLT, Nat.reduceLeDiff, Int.reduceLT, Int.reduceLE, Int.reduceEq, Int.reduceAdd, Int.reduceNeg, if_false, if_true, reduceIte, ags, LB.agz, agd, r_mv, r_pick, r_box, r_alloc, r_un, r_eqb, r_ext, r_mkf, r_cnv, r_st, r_nck, r_ix, r_iaa, takeN, agc, agn, VE.store, over, cellsAt, VE.part, agm, agb, blkX, gEval, cond_true, cond_false, r_build, r_bsl, fill, VE.unOp, r_bin, adz, ads, resOf, resVs, resV, alc, aln, reduceCtorEq, or_true, true_or, false_or, or_false, eq_self, exists_eq_left', Option.some.injEq, y0, yh, yh0, Int.natCast_zero, b1, b2, frzT2, Nat.zero_mul]
  have hz' : ¬ (hi : Int) = 0 := by omega
  have s1 : wr .u64 ((s : Nat) : Int) = (s : Int) := wr_ul (by omega)
  have a1 : VE.binOp .shl (.int .u64 (y : Int)) (.int .u64 (s : Int)) = some (.int .u64 (Y : Int)) := by rw [bn_shl (by omega), ← e1, Nat.mod_eq_of_lt hYb]
  have a2 : VE.binOp .shr (.int .u64 (Y : Int)) (.int .u64 32) = some (.int .u64 (z : Int)) := by
    have : VE.binOp .shr (.int .u64 (Y : Int)) (.int .u64 32) = _ := bn_shr (a := Y) (y := 32) (k := .u64) (by decide)
    rw [this, e2, show (2 : Nat) ^ 32 = 4294967296 from rfl, Nat.mul_div_cancel _ (by decide)]
  have a3 : VE.binOp .and (.int .u64 (Y : Int)) (.int .u64 4294967295) = some (.int .u64 0) := by rw [bn_and32 hYb, e2, Nat.mul_mod_left]; rfl
  have a4 : VE.binOp .shl (.int .u64 (hi : Int)) (.int .u64 (s : Int)) = some (.int .u64 ((hi * 2 ^ s : Nat) : Int)) := by rw [bn_shl (by omega), Nat.mod_eq_of_lt e5]
  have a5 : wr .u64 (64 - (s : Int)) = ((64 - s : Nat) : Int) := nu_sub (a := 64) (b := s) (by omega) (by decide)
  have a6 : VE.binOp .shr (.int .u64 (lo : Int)) (.int .u64 ((64 - s : Nat) : Int)) = _ := bn_shr (by omega)
  have a7 : VE.binOp .or (.int .u64 ((hi * 2 ^ s : Nat) : Int)) (.int .u64 ((lo / 2 ^ (64 - s) : Nat) : Int)) = some (.int .u64 (un32 : Int)) := by rw [bn_or e5 hd e6 (by omega), e7]
  have a8 : VE.binOp .shl (.int .u64 (lo : Int)) (.int .u64 (s : Int)) = some (.int .u64 (un10 : Int)) := by rw [bn_shl (by omega), ← e9]
  have hu10 : un10 < 18446744073709551616 := by rw [e9]; exact Nat.mod_lt _ (by decide)
  have a9 : VE.binOp .shr (.int .u64 (un10 : Int)) (.int .u64 32) = some (.int .u64 ((un10 / 4294967296 : Nat) : Int)) := bn_shr (a := un10) (y := 32) (k := .u64) (by decide)
  have b1 := bn_and32 hu10
  have b2 : VE.binOp .quo (.int .u64 (un32 : Int)) (.int .u64 (z : Int)) = some (.int .u64 (q1 : Int)) := by rw [bn_quo e3 (by omega), f1]
  have b3 : VE.binOp .mul (.int .u64 (q1 : Int)) (.int .u64 (z : Int)) = some (.int .u64 ((q1 * z : Nat) : Int)) := by rw [bn_mul, Nat.mod_eq_of_lt (by omega)]
  have b4 : wr .u64 ((un32 : Int) - ((q1 * z : Nat) : Int)) = ((un32 - q1 * z : Nat) : Int) := nu_sub f2 (by omega)
  have b5 : ¬ ((4294967296 : Int) ≤ (q1 : Int)) := by omega
  have b6 : ∀ a : Nat, VE.binOp .mul (.int .u64 (a : Int)) (.int .u64 0) = some (.int .u64 0) := fun a => by
    have := bn_mul (a := a) (b := 0)
    simpa using this
  have b7 : VE.binOp .mul (.int .u64 4294967296) (.int .u64 ((un32 - q1 * z : Nat) : Int)) = some (.int .u64 (((un32 - q1 * z) * 4294967296 : Nat) : Int)) := by
    rw [bn_32, bn_mul, Nat.mul_comm, Nat.mod_eq_of_lt (by omega)]
  have b8 : wr .u64 ((((un32 - q1 * z) * 4294967296 : Nat) : Int) + ((un10 / 4294967296 : Nat) : Int)) = (un21 : Int) := by rw [nu_add, Nat.mod_eq_of_lt (by omega), f5]
  have b9 : ¬ ((un21 : Int) < 0) := by omega
  have c1 : VE.binOp .mul (.int .u64 (un32 : Int)) (.int .u64 4294967296) = some (.int .u64 ((un32 * 4294967296 % 18446744073709551616 : Nat) : Int)) := by rw [bn_32, bn_mul]
  have c2 : wr .u64 (((un32 * 4294967296 % 18446744073709551616 : Nat) : Int) + ((un10 / 4294967296 : Nat) : Int)) = (((un32 * 4294967296 % 18446744073709551616 + un10 / 4294967296) % 18446744073709551616 : Nat) : Int) := nu_add
  have c3 : VE.binOp .mul (.int .u64 (q1 : Int)) (.int .u64 (Y : Int)) = _ := bn_mul
  have c4 : wr .u64 ((((un32 * 4294967296 % 18446744073709551616 + un10 / 4294967296) % 18446744073709551616 : Nat) : Int) - ((q1 * Y % 18446744073709551616 : Nat) : Int)) = (un21 : Int) := by
    rw [nu_subw (Nat.mod_lt _ (by decide)) (Nat.mod_lt _ (by decide))]
    congr 1
    omega
  have c5 : VE.binOp .quo (.int .u64 (un21 : Int)) (.int .u64 (z : Int)) = some (.int .u64 (q0 : Int)) := by rw [bn_quo e3 f6, f9]
  have c6 : VE.binOp .mul (.int .u64 (q0 : Int)) (.int .u64 (z : Int)) = some (.int .u64 ((q0 * z : Nat) : Int)) := by rw [bn_mul, Nat.mod_eq_of_lt (by omega)]
  have c7 : wr .u64 ((un21 : Int) - ((q0 * z : Nat) : Int)) = ((un21 - q0 * z : Nat) : Int) := nu_sub g1 f6
  have c8 : ¬ ((4294967296 : Int) ≤ (q0 : Int)) := by omega
  have c9 : VE.binOp .mul (.int .u64 4294967296) (.int .u64 ((un21 - q0 * z : Nat) : Int)) = some (.int .u64 (((un21 - q0 * z) * 4294967296 : Nat) : Int)) := by
    rw [bn_32, bn_mul, Nat.mul_comm, Nat.mod_eq_of_lt (by omega)]
  have d1 : wr .u64 ((((un21 - q0 * z) * 4294967296 : Nat) : Int) + ((un10 % 4294967296 : Nat) : Int)) = (((un21 - q0 * z) * 4294967296 + un10 % 4294967296 : Nat) : Int) := by rw [nu_add, Nat.mod_eq_of_lt (by omega)]
  have d2 : ¬ ((((un21 - q0 * z) * 4294967296 + un10 % 4294967296 : Nat) : Int) < 0) := by omega
  have d3 : VE.binOp .mul (.int .u64 (q1 : Int)) (.int .u64 4294967296) = some (.int .u64 ((q1 * 4294967296 : Nat) : Int)) := by rw [bn_32, bn_mul, Nat.mod_eq_of_lt (by omega)]
  have d4 : wr .u64 (((q1 * 4294967296 : Nat) : Int) + (q0 : Int)) = (((hi * 18446744073709551616 + lo) / y : Nat) : Int) := by rw [nu_add, Nat.mod_eq_of_lt (by omega), g6]
  have d5 : VE.binOp .mul (.int .u64 (un21 : Int)) (.int .u64 4294967296) = some (.int .u64 ((un21 * 4294967296 % 18446744073709551616 : Nat) : Int)) := by rw [bn_32, bn_mul]
  have d6 : wr .u64 (((un21 * 4294967296 % 18446744073709551616 : Nat) : Int) + ((un10 % 4294967296 : Nat) : Int)) = (((un21 * 4294967296 % 18446744073709551616 + un10 % 4294967296) % 18446744073709551616 : Nat) : Int) := nu_add
  have d7 : VE.binOp .mul (.int .u64 (q0 : Int)) (.int .u64 (Y : Int)) = _ := bn_mul
  have d8 : wr .u64 ((((un21 * 4294967296 % 18446744073709551616 + un10 % 4294967296) % 18446744073709551616 : Nat) : Int) - ((q0 * Y % 18446744073709551616 : Nat) : Int)) = (((un21 - q0 * z) * 4294967296 + un10 % 4294967296 : Nat) : Int) := by
    rw [nu_subw (Nat.mod_lt _ (by decide)) (Nat.mod_lt _ (by decide))]
    congr 1
    omega
  have d9 : VE.binOp .shr (.int .u64 (((un21 - q0 * z) * 4294967296 + un10 % 4294967296 : Nat) : Int)) (.int .u64 (s : Int)) = some (.int .u64 (((hi * 18446744073709551616 + lo) % y : Nat) : Int)) := by rw [bn_shr (by omega), g7]
  simp only [↓zp, zz, true_and, and_true, chkOk, Nat.reduceEqDiff, Nat.reduceAdd, Nat.reduceSub, Nat.reduceMul, Nat.reduceLT, Nat.reduceLeDiff, Int.reduceLT, Int.reduceLE, Int.reduceEq, Int.reduceAdd, Int.reduceNeg, if_false, if_true, reduceIte, ags, LB.agz, agd, r_mv, r_pick, r_box, r_alloc, r_un, r_eqb, r_ext, r_mkf, r_cnv, r_st, r_nck, r_ix, r_iaa, takeN, agc, agn, VE.store, over, cellsAt, VE.part, agm, agb, blkX, gEval, cond_true, cond_false, r_build, r_bsl, fill, VE.unOp, r_bin, adz, ads, resOf, resVs, resV, alc, aln, reduceCtorEq, or_true, true_or, false_or, or_false, eq_self, exists_eq_left', Option.some.injEq, y0, yh, hz', m1, call, s1, a1, a2, a3, a4, a5, a6, a7, a8, a9, b1, b2, b3, b4]
  refine w_loop1 ?_
  simp only [↓zp, zz, true_and, and_true, chkOk, Nat.reduceEqDiff, Nat.reduceAdd, Nat.reduceSub, Nat.reduceMul, Nat.reduceLT, Nat.reduceLeDiff, Int.reduceLT, Int.reduceLE, Int.reduceEq, Int.reduceAdd, Int.reduceNeg, if_false, if_true, reduceIte, ags, LB.agz, agd, r_mv, r_pick, r_box, r_alloc, r_un, r_eqb, r_ext, r_mkf, r_cnv, r_st, r_nck, r_ix, r_iaa, takeN, agc, agn, VE.store, over, cellsAt, VE.part, agm, agb, blkX, gEval, cond_true, cond_false, r_build, r_bsl, fill, VE.unOp, r_bin, adz, ads, resOf, resVs, resV, alc, aln, reduceCtorEq, or_true, true_or, false_or, or_false, eq_self, exists_eq_left', Option.some.injEq, b5, b6, b7, b8, b9]
  simp only [↓zp, zz, true_and, and_true, chkOk, Nat.reduceEqDiff, Nat.reduceAdd, Nat.reduceSub, Nat.reduceMul, Nat.reduceLT, Nat.reduceLeDiff, Int.reduceLT, Int.reduceLE, Int.reduceEq, Int.reduceAdd, Int.reduceNeg, if_false, if_true, reduceIte, ags, LB.agz, agd, r_mv, r_pick, r_box, r_alloc, r_un, r_eqb, r_ext, r_mkf, r_cnv, r_st, r_nck, r_ix, r_iaa, takeN, agc, agn, VE.store, over, cellsAt, VE.part, agm, agb, blkX, gEval, cond_true, cond_false, r_build, r_bsl, fill, VE.unOp, r_bin, adz, ads, resOf, resVs, resV, alc, aln, reduceCtorEq, or_true, true_or, false_or, or_false, eq_self, exists_eq_left', Option.some.injEq, c1, c2, c3, c4, c5, c6, c7]
  refine w_loop1 ?_
  simp only [↓zp, zz, true_and, and_true, chkOk, Nat.reduceEqDiff, Nat.reduceAdd, Nat.reduceSub, Nat.reduceMul, Nat.reduceLT, Nat.reduceLeDiff, Int.reduceLT, Int.reduceLE, Int.reduceEq, Int.reduceAdd, Int.reduceNeg, if_false, if_true, reduceIte, ags, LB.agz, agd, r_mv, r_pick, r_box, r_alloc, r_un, r_eqb, r_ext, r_mkf, r_cnv, r_st, r_nck, r_ix, r_iaa, takeN, agc, agn, VE.store, over, cellsAt, VE.part, agm, agb, blkX, gEval, cond_true, cond_false, r_build, r_bsl, fill, VE.unOp, r_bin, adz, ads, resOf, resVs, resV, alc, aln, reduceCtorEq, or_true, true_or, false_or, or_false, eq_self, exists_eq_left', Option.some.injEq, c8, b6, c9, d1, d2]
  simp only [↓zp, zz, true_and, and_true, chkOk, Nat.reduceEqDiff, Nat.reduceAdd, Nat.reduceSub, Nat.reduceMul, Nat.reduceLT, Nat.reduceLeDiff, Int.reduceLT, Int.reduceLE, Int.reduceEq, Int.reduceAdd, Int.reduceNeg, if_false, if_true, reduceIte, ags, LB.agz, agd, r_mv, r_pick, r_box, r_alloc, r_un, r_eqb, r_ext, r_mkf, r_cnv, r_st, r_nck, r_ix, r_iaa, takeN, agc, agn, VE.store, over, cellsAt, VE.part, agm, agb, blkX, gEval, cond_true, cond_false, r_build, r_bsl, fill, VE.unOp, r_bin, adz, ads, resOf, resVs, resV, alc, aln, reduceCtorEq, or_true, true_or, false_or, or_false, eq_self, exists_eq_left', Option.some.injEq, d3, d4, d5, d6, d7, d8, d9, frzT2]
end
end Go.VE.LB
