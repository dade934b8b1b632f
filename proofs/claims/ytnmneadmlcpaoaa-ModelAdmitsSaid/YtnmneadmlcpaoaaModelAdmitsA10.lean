/- What the functions of the law ModelAdmits compute, on typed arguments (part 10). -/
import Derived.Test.YtnmneadmlcpaoaaModelAdmitsA9
set_option linter.all false
namespace Go.VE.LB
open Go Go.VE
set_option maxRecDepth 100000
set_option linter.all false
/-- numbers of 64 bits without sign -/
theorem low_u (a : Nat) : low .u64 (a : Int) = a % 18446744073709551616 := rfl
theorem wr_u (a : Nat) : wr .u64 (a : Int) = ((a % 18446744073709551616 : Nat) : Int) := rfl
theorem wr_ul {a : Nat} (h : a < 18446744073709551616) : wr .u64 (a : Int) = (a : Int) := by rw [wr_u, Nat.mod_eq_of_lt h]
theorem wr_ui {a : Int} (h0 : 0 ≤ a) (h : a < 18446744073709551616) : wr .u64 a = a := by
  obtain ⟨n, rfl⟩ := Int.eq_ofNat_of_zero_le h0
  exact wr_ul (by omega)
theorem nu_add {a b : Nat} : wr .u64 ((a : Int) + (b : Int)) = (((a + b) % 18446744073709551616 : Nat) : Int) := wr_u (a + b)
theorem nu_sub {a b : Nat} (h : b ≤ a) (h2 : a < 18446744073709551616) : wr .u64 ((a : Int) - (b : Int)) = ((a - b : Nat) : Int) := by
  rw [← Int.ofNat_sub h]
  exact wr_ul (by omega)
theorem bn_mul {a b : Nat} : VE.binOp .mul (.int .u64 (a : Int)) (.int .u64 (b : Int)) = some (.int .u64 ((a * b % 18446744073709551616 : Nat) : Int)) := by
  have : (a : Int) * (b : Int) = ((a * b : Nat) : Int) := by push_cast; rfl
  simp only [VE.binOp, kEq_refl, cond_true, binInt, this, wr_u]
theorem bn_quo {a b : Nat} (hb : 0 < b) (ha : a < 18446744073709551616) : VE.binOp .quo (.int .u64 (a : Int)) (.int .u64 (b : Int)) = some (.int .u64 ((a / b : Nat) : Int)) := by
  have h1 : eqI (b : Int) 0 = false := by rw [eqI_dec]; simp; omega
  have h2 : Int.tdiv (a : Int) (b : Int) = ((a / b : Nat) : Int) := rfl
  have h3 : a / b ≤ a := Nat.div_le_self _ _
  simp only [VE.binOp, kEq_refl, cond_true, binInt, h1, cond_false, h2, wr_u]
  rw [Nat.mod_eq_of_lt (by omega)]
theorem bn_rem {a b : Nat} (hb : 0 < b) : VE.binOp .rem (.int .u64 (a : Int)) (.int .u64 (b : Int)) = some (.int .u64 ((a % b : Nat) : Int)) := by
  have h1 : eqI (b : Int) 0 = false := by rw [eqI_dec]; simp; omega
  have h2 : Int.tmod (a : Int) (b : Int) = ((a % b : Nat) : Int) := rfl
  simp only [VE.binOp, kEq_refl, cond_true, binInt, h1, cond_false, h2]
theorem bn_and {a k : Nat} (hk : 2 ^ k ≤ 18446744073709551616) : VE.binOp .and (.int .u64 (a : Int)) (.int .u64 ((2 ^ k - 1 : Nat) : Int)) = some (.int .u64 ((a % 18446744073709551616 % 2 ^ k : Nat) : Int)) := by
  have h1 : low .u64 ((2 ^ k - 1 : Nat) : Int) = 2 ^ k - 1 := by rw [low_u, Nat.mod_eq_of_lt (by have := Nat.two_pow_pos k; omega)]
  have h2 : (a % 18446744073709551616) &&& (2 ^ k - 1) = a % 18446744073709551616 % 2 ^ k := Nat.and_two_pow_sub_one_eq_mod _ _
  simp only [VE.binOp, kEq_refl, cond_true, binInt, bitOp, low_u a, h1, h2, Option.map_some]
  show some (V.int .u64 (wr .u64 ((a % 18446744073709551616 % 2 ^ k : Nat) : Int))) = _
  rw [wr_ul]
  exact Nat.lt_of_le_of_lt (Nat.mod_le _ _) (Nat.mod_lt _ (by decide))
theorem bn_and32 {a : Nat} (ha : a < 18446744073709551616) : VE.binOp .and (.int .u64 (a : Int)) (.int .u64 4294967295) = some (.int .u64 ((a % 4294967296 : Nat) : Int)) := by
  have := bn_and (a := a) (k := 32) (by decide)
  rw [Nat.mod_eq_of_lt ha] at this
  exact this
theorem bn_and1 {a : Nat} (ha : a < 18446744073709551616) : VE.binOp .and (.int .u64 (a : Int)) (.int .u64 1) = some (.int .u64 ((a % 2 : Nat) : Int)) := by
  have := bn_and (a := a) (k := 1) (by decide)
  rw [Nat.mod_eq_of_lt ha] at this
  exact this
theorem min_n {y : Nat} (h : y ≤ 64) : Nat.min y (IntKind.u64).bits = y := Nat.min_eq_left h
theorem bn_shr {a y : Nat} {k : IntKind} (h : y ≤ 64) : VE.binOp .shr (.int .u64 (a : Int)) (.int k (y : Int)) = some (.int .u64 ((a / 2 ^ y : Nat) : Int)) := by
  show some (V.int .u64 (Int.ofNat (a / 2 ^ Nat.min y (IntKind.u64).bits))) = _
  rw [min_n h]
  rfl
theorem bn_shl {a y : Nat} {k : IntKind} (h : y ≤ 64) : VE.binOp .shl (.int .u64 (a : Int)) (.int k (y : Int)) = some (.int .u64 ((a * 2 ^ y % 18446744073709551616 : Nat) : Int)) := by
  show some (V.int .u64 (wr .u64 ((a : Int) * Int.ofNat (2 ^ Nat.min y (IntKind.u64).bits)))) = _
  rw [min_n h]
  have : (a : Int) * Int.ofNat (2 ^ y) = ((a * 2 ^ y : Nat) : Int) := by simp
  rw [this, wr_u]
theorem bn_or {a b s : Nat} (ha : a < 18446744073709551616) (hs : 2 ^ s ∣ a) (hb : b < 2 ^ s) (hab : a + b < 18446744073709551616) : VE.binOp .or (.int .u64 (a : Int)) (.int .u64 (b : Int)) = some (.int .u64 ((a + b : Nat) : Int)) := by
  obtain ⟨c, rfl⟩ := hs
  have h2 : 2 ^ s * c ||| b = 2 ^ s * c + b := (Nat.two_pow_add_eq_or_of_lt hb c).symm
  simp only [VE.binOp, kEq_refl, cond_true, binInt, bitOp, low_u, Option.map_some]
  rw [Nat.mod_eq_of_lt ha, Nat.mod_eq_of_lt (show b < 18446744073709551616 by omega), h2]
  show some (V.int .u64 (wr .u64 ((2 ^ s * c + b : Nat) : Int))) = _
  rw [wr_ul hab]
theorem bn_lt {a b : Nat} : ((a : Int) < (b : Int)) = (a < b) := propext Int.ofNat_lt
theorem bn_le {a b : Nat} : ((a : Int) ≤ (b : Int)) = (a ≤ b) := propext Int.ofNat_le
theorem bn_eq {a b : Nat} : ((a : Int) = (b : Int)) = (a = b) := propext Int.ofNat_inj
theorem bn_32 : (4294967296 : Int) = ((4294967296 : Nat) : Int) := rfl
theorem bn_0 : (0 : Int) = ((0 : Nat) : Int) := rfl
theorem bn_M : (18446744073709551615 : Int) = ((18446744073709551615 : Nat) : Int) := rfl
theorem frzA2 {h : Heap} {b : Nat} {k k' : IntKind} {x y : Int} : frz frzFuel h b false (.agg [.int k x, .int k' y]) = some (.agg [.int k x, .int k' y]) := rfl
theorem frzT2 {h : Heap} {b : Nat} {k k' : IntKind} {x y : Int} : frz frzFuel h b false (.tup [.int k x, .int k' y]) = some (.tup [.int k x, .int k' y]) := rfl
theorem frzTA {h : Heap} {b : Nat} {k k' k2 : IntKind} {x y z : Int} : frz frzFuel h b false (.tup [.agg [.int k x, .int k' y], .int k2 z]) = some (.tup [.agg [.int k x, .int k' y], .int k2 z]) := rfl
theorem frzTA2 {h : Heap} {b : Nat} {k k' k2 k3 : IntKind} {x y z w : Int} : frz frzFuel h b false (.tup [.agg [.int k x, .int k' y], .int k2 z, .int k3 w]) = some (.tup [.agg [.int k x, .int k' y], .int k2 z, .int k3 w]) := rfl

/-- a number of 128 bits -/
def wd (n : Nat) : V := .agg [.int .u64 ((n / 18446744073709551616 : Nat) : Int), .int .u64 ((n % 18446744073709551616 : Nat) : Int)]
theorem mul_parts (x y : Nat) : x * y = (x / 4294967296) * (y / 4294967296) * 18446744073709551616 + ((x / 4294967296) * (y % 4294967296) + (x % 4294967296) * (y / 4294967296)) * 4294967296 + (x % 4294967296) * (y % 4294967296) := by
  have h1 := Nat.div_add_mod x 4294967296
  have h2 := Nat.div_add_mod y 4294967296
  generalize x / 4294967296 = a at *
  generalize x % 4294967296 = b at *
  generalize y / 4294967296 = c at *
  generalize y % 4294967296 = d at *
  subst h1; subst h2
  simp only [Nat.add_mul, Nat.mul_add]
  have e1 : 4294967296 * a * (4294967296 * c) = a * c * 18446744073709551616 := by rw [Nat.mul_mul_mul_comm, Nat.mul_comm _ (a * c)]
  have e2 : 4294967296 * a * d = a * d * 4294967296 := by rw [Nat.mul_assoc, Nat.mul_comm]
  have e3 : b * (4294967296 * c) = b * c * 4294967296 := by rw [Nat.mul_left_comm, Nat.mul_comm]
  rw [e1, e2, e3]
  omega
theorem mul_lt32 {a b : Nat} (ha : a < 4294967296) (hb : b < 4294967296) : a * b ≤ 18446744065119617025 := Nat.mul_le_mul (show a ≤ 4294967295 by omega) (show b ≤ 4294967295 by omega)
section
variable {vp : Nat → Option VFn}
theorem mul64_spec {f : Nat} (hf : vp f = some B_math_bits_Mul64) (x y : Nat) (hx : x < 18446744073709551616) (hy : y < 18446744073709551616) (h : Heap) :
    callRes vp f [.int .u64 (x : Int), .int .u64 (y : Int)] h = some (.tup [.int .u64 ((x * y / 18446744073709551616 : Nat) : Int), .int .u64 ((x * y % 18446744073709551616 : Nat) : Int)], h) := by
  refine res_pure hf rfl rfl (fun g hg => ?_)
  have e := mul_parts x y
  have hbd := mul_lt32 (Nat.mod_lt x (show 0 < 4294967296 by decide)) (Nat.mod_lt y (show 0 < 4294967296 by decide))
  have had := mul_lt32 (show x / 4294967296 < 4294967296 by omega) (Nat.mod_lt y (show 0 < 4294967296 by decide))
  have hbc := mul_lt32 (Nat.mod_lt x (show 0 < 4294967296 by decide)) (show y / 4294967296 < 4294967296 by omega)
  have hac := mul_lt32 (show x / 4294967296 < 4294967296 by omega) (show y / 4294967296 < 4294967296 by omega)
  have a1 := bn_and32 hx
  have a2 := bn_and32 hy
  have s1 := fun (a : Nat) => bn_shr (a := a) (y := 32) (k := .u64) (by decide)
  have a3 := fun (a : Nat) => bn_and32 (a := a % 18446744073709551616) (Nat.mod_lt _ (by decide))
  simp only [show ((32 : Nat) : Int) = (32 : Int) from rfl, Nat.reducePow] at s1
  unfold B_math_bits_Mul64
  simp only [↓zp, zz, true_and, and_true, chkOk, Nat.reduceEqDiff, Nat.reduceAdd, Nat.reduceSub, Nat.reduceMul, Nat.reduceLT, Nat.reduceLeDiff, Int.reduceLT, Int.reduceLE, Int.reduceEq, Int.reduceAdd, Int.reduceNeg, if_false, if_true, reduceIte, ags, LB.agz, agd, r_mv, r_pick, r_box, r_alloc, r_un, r_eqb, r_ext, r_mkf, r_cnv, r_st, r_nck, r_ix, r_iaa, takeN, agc, agn, VE.store, over, cellsAt, VE.part, agm, agb, blkX, gEval, cond_true, cond_false, r_build, r_bsl, fill, VE.unOp, r_bin, adz, ads, resOf, resVs, resV, alc, aln, reduceCtorEq, or_true, true_or, false_or, or_false, eq_self, exists_eq_left', Option.some.injEq, a1, a2, a3, s1, bn_mul, nu_add, frzT2]
  have e1 : ∀ P Q : Nat, P = Q → some (V.tup [.int .u64 (P : Int), .int .u64 ((x * y % 18446744073709551616 : Nat) : Int)]) = some (V.tup [.int .u64 (Q : Int), .int .u64 ((x * y % 18446744073709551616 : Nat) : Int)]) := fun P Q h => by rw [h]
  refine congrArg (fun n : Nat => V.tup [.int .u64 (n : Int), .int .u64 ((x * y % 18446744073709551616 : Nat) : Int)]) ?_
  generalize x / 4294967296 * (y / 4294967296) = ac at *
  generalize x / 4294967296 * (y % 4294967296) = ad at *
  generalize x % 4294967296 * (y / 4294967296) = bc at *
  generalize x % 4294967296 * (y % 4294967296) = bd at *
  rw [e]
  omega
end
end Go.VE.LB
