/- What the functions of the law ModelCommands compute, on typed arguments (part 4). -/
import Derived.Test.YtdggjlfamjfdkaaGreatModelCommandsA1
import Derived.Test.YtdggjlfamjfdkaaGreatModelCommandsA2
set_option linter.all false
namespace Go.VE.LB
section
open Go Go.VE
set_option maxRecDepth 100000
set_option linter.all false
theorem low_u (a : Nat) : low .u64 (a : Int) = a % 18446744073709551616 := rfl
theorem wr_u (a : Nat) : wr .u64 (a : Int) = ((a % 18446744073709551616 : Nat) : Int) := rfl
theorem wr_ul {a : Nat} (h : a < 18446744073709551616) : wr .u64 (a : Int) = (a : Int) := by rw [wr_u, Nat.mod_eq_of_lt h]
theorem nu_add {a b : Nat} : wr .u64 ((a : Int) + (b : Int)) = (((a + b) % 18446744073709551616 : Nat) : Int) := wr_u (a + b)
theorem nu_sub {a b : Nat} (h : b ≤ a) (h2 : a < 18446744073709551616) : wr .u64 ((a : Int) - (b : Int)) = ((a - b : Nat) : Int) := by
 rw [← Int.ofNat_sub h]
 exact wr_ul (by omega)
theorem bn_mul {a b : Nat} : VE.binOp .mul (.int .u64 (a : Int)) (.int .u64 (b : Int)) = some (.int .u64 ((a * b % 18446744073709551616 : Nat) : Int)) := by
 have : (a : Int) * (b : Int) = ((a * b : Nat) : Int) := by push_cast; rfl
 simp only [VE.binOp, kEq_refl, cond_true, binInt, this, wr_u]
theorem bn_quo {a b : Nat} (hb : 0 < b) (ha : a < 18446744073709551616) : VE.binOp .quo (.int .u64 (a : Int)) (.int .u64 (b : Int)) = some (.int .u64 ((a / b : Nat) : Int)) := by
 have h1 : eqI (b : Int) 0 = false := by rw [eqI_dec]; simp; omega
 have h2 : Int.tdiv (a : Int) (b : Int) = ((a / b : Nat) : Int) := rfl
 have h3 : a / b ≤ a := Nat.div_le_self _ _
 simp only [VE.binOp, kEq_refl, cond_true, binInt, h1, cond_false, h2, wr_u]
 rw [Nat.mod_eq_of_lt (by omega)]
theorem bn_rem {a b : Nat} (hb : 0 < b) : VE.binOp .rem (.int .u64 (a : Int)) (.int .u64 (b : Int)) = some (.int .u64 ((a % b : Nat) : Int)) := by
 have h1 : eqI (b : Int) 0 = false := by rw [eqI_dec]; simp; omega
 have h2 : Int.tmod (a : Int) (b : Int) = ((a % b : Nat) : Int) := rfl
 simp only [VE.binOp, kEq_refl, cond_true, binInt, h1, cond_false, h2]
theorem bn_and {a k : Nat} (hk : 2 ^ k ≤ 18446744073709551616) : VE.binOp .and (.int .u64 (a : Int)) (.int .u64 ((2 ^ k - 1 : Nat) : Int)) = some (.int .u64 ((a % 18446744073709551616 % 2 ^ k : Nat) : Int)) := by
 have h1 : low .u64 ((2 ^ k - 1 : Nat) : Int) = 2 ^ k - 1 := by rw [low_u, Nat.mod_eq_of_lt (by have := Nat.two_pow_pos k; omega)]
 have h2 : (a % 18446744073709551616) &&& (2 ^ k - 1) = a % 18446744073709551616 % 2 ^ k := Nat.and_two_pow_sub_one_eq_mod _ _
 simp only [VE.binOp, kEq_refl, cond_true, binInt, bitOp, low_u a, h1, h2, Option.map_some]
 show some (V.int .u64 (wr .u64 ((a % 18446744073709551616 % 2 ^ k : Nat) : Int))) = _
 rw [wr_ul]
 exact Nat.lt_of_le_of_lt (Nat.mod_le _ _) (Nat.mod_lt _ (by decide))
theorem bn_and32 {a : Nat} (ha : a < 18446744073709551616) : VE.binOp .and (.int .u64 (a : Int)) (.int .u64 4294967295) = some (.int .u64 ((a % 4294967296 : Nat) : Int)) := by
 have := bn_and (a := a) (k := 32) (by decide)
 rw [Nat.mod_eq_of_lt ha] at this
 exact this
theorem min_n {y : Nat} (h : y ≤ 64) : Nat.min y (IntKind.u64).bits = y := Nat.min_eq_left h
theorem bn_shr {a y : Nat} {k : IntKind} (h : y ≤ 64) : VE.binOp .shr (.int .u64 (a : Int)) (.int k (y : Int)) = some (.int .u64 ((a / 2 ^ y : Nat) : Int)) := by
 show some (V.int .u64 (Int.ofNat (a / 2 ^ Nat.min y (IntKind.u64).bits))) = _
 rw [min_n h]
 rfl
theorem bn_shl {a y : Nat} {k : IntKind} (h : y ≤ 64) : VE.binOp .shl (.int .u64 (a : Int)) (.int k (y : Int)) = some (.int .u64 ((a * 2 ^ y % 18446744073709551616 : Nat) : Int)) := by
 show some (V.int .u64 (wr .u64 ((a : Int) * Int.ofNat (2 ^ Nat.min y (IntKind.u64).bits)))) = _
 rw [min_n h]
 have : (a : Int) * Int.ofNat (2 ^ y) = ((a * 2 ^ y : Nat) : Int) := by simp
 rw [this, wr_u]
theorem bn_or {a b s : Nat} (ha : a < 18446744073709551616) (hs : 2 ^ s ∣ a) (hb : b < 2 ^ s) (hab : a + b < 18446744073709551616) : VE.binOp .or (.int .u64 (a : Int)) (.int .u64 (b : Int)) = some (.int .u64 ((a + b : Nat) : Int)) := by
 obtain ⟨c, rfl⟩ := hs
 have h2 : 2 ^ s * c ||| b = 2 ^ s * c + b := (Nat.two_pow_add_eq_or_of_lt hb c).symm
 simp only [VE.binOp, kEq_refl, cond_true, binInt, bitOp, low_u, Option.map_some]
 rw [Nat.mod_eq_of_lt ha, Nat.mod_eq_of_lt (show b < 18446744073709551616 by omega), h2]
 show some (V.int .u64 (wr .u64 ((2 ^ s * c + b : Nat) : Int))) = _
 rw [wr_ul hab]
theorem bn_le {a b : Nat} : ((a : Int) ≤ (b : Int)) = (a ≤ b) := propext Int.ofNat_le
theorem bn_32 : (4294967296 : Int) = ((4294967296 : Nat) : Int) := rfl
theorem bn_0 : (0 : Int) = ((0 : Nat) : Int) := rfl
theorem frzA2 {h : Heap} {b : Nat} {k k' : IntKind} {x y : Int} : frz frzFuel h b false (.agg [.int k x, .int k' y]) = some (.agg [.int k x, .int k' y]) := rfl
theorem frzT2 {h : Heap} {b : Nat} {k k' : IntKind} {x y : Int} : frz frzFuel h b false (.tup [.int k x, .int k' y]) = some (.tup [.int k x, .int k' y]) := rfl
theorem frzTA {h : Heap} {b : Nat} {k k' k2 : IntKind} {x y z : Int} : frz frzFuel h b false (.tup [.agg [.int k x, .int k' y], .int k2 z]) = some (.tup [.agg [.int k x, .int k' y], .int k2 z]) := rfl
theorem frzTA2 {h : Heap} {b : Nat} {k k' k2 k3 : IntKind} {x y z w : Int} : frz frzFuel h b false (.tup [.agg [.int k x, .int k' y], .int k2 z, .int k3 w]) = some (.tup [.agg [.int k x, .int k' y], .int k2 z, .int k3 w]) := rfl
theorem mul_parts (x y : Nat) : x * y = (x / 4294967296) * (y / 4294967296) * 18446744073709551616 + ((x / 4294967296) * (y % 4294967296) + (x % 4294967296) * (y / 4294967296)) * 4294967296 + (x % 4294967296) * (y % 4294967296) := by
 have h1 := Nat.div_add_mod x 4294967296
 have h2 := Nat.div_add_mod y 4294967296
 generalize x / 4294967296 = a at *
 generalize x % 4294967296 = b at *
 generalize y / 4294967296 = c at *
 generalize y % 4294967296 = d at *
 subst h1; subst h2
 simp only [Nat.add_mul, Nat.mul_add]
 have e1 : 4294967296 * a * (4294967296 * c) = a * c * 18446744073709551616 := by rw [Nat.mul_mul_mul_comm, Nat.mul_comm _ (a * c)]
 have e2 : 4294967296 * a * d = a * d * 4294967296 := by rw [Nat.mul_assoc, Nat.mul_comm]
 have e3 : b * (4294967296 * c) = b * c * 4294967296 := by rw [Nat.mul_left_comm, Nat.mul_comm]
 rw [e1, e2, e3]
 omega
theorem mul_lt32 {a b : Nat} (ha : a < 4294967296) (hb : b < 4294967296) : a * b ≤ 18446744065119617025 := Nat.mul_le_mul (show a ≤ 4294967295 by omega) (show b ≤ 4294967295 by omega)
section
variable {vp : Nat → Option VFn}
theorem mul64_spec {f : Nat} (hf : vp f = some B_math_bits_Mul64) (x y : Nat) (hx : x < 18446744073709551616) (hy : y < 18446744073709551616) (h : Heap) :
  callRes vp f [.int .u64 (x : Int), .int .u64 (y : Int)] h = some (.tup [.int .u64 ((x * y / 18446744073709551616 : Nat) : Int), .int .u64 ((x * y % 18446744073709551616 : Nat) : Int)], h) := by
 refine res_pure hf rfl rfl (fun g hg => ?_)
 have e := mul_parts x y
 have hbd := mul_lt32 (Nat.mod_lt x (show 0 < 4294967296 by decide)) (Nat.mod_lt y (show 0 < 4294967296 by decide))
 have had := mul_lt32 (show x / 4294967296 < 4294967296 by omega) (Nat.mod_lt y (show 0 < 4294967296 by decide))
 have hbc := mul_lt32 (Nat.mod_lt x (show 0 < 4294967296 by decide)) (show y / 4294967296 < 4294967296 by omega)
 have hac := mul_lt32 (show x / 4294967296 < 4294967296 by omega) (show y / 4294967296 < 4294967296 by omega)
 have a1 := bn_and32 hx
 have a2 := bn_and32 hy
 have s1 := fun (a : Nat) => bn_shr (a := a) (y := 32) (k := .u64) (by decide)
 have a3 := fun (a : Nat) => bn_and32 (a := a % 18446744073709551616) (Nat.mod_lt _ (by decide))
 simp only [show ((32 : Nat) : Int) = (32 : Int) from rfl, Nat.reducePow] at s1
 unfold B_math_bits_Mul64
 simp only [↓zp, zz, zy, chkOk, Nat.reduceEqDiff, Nat.reduceAdd, Nat.reduceSub, Nat.reduceMul, Nat.reduceLT, Nat.reduceLeDiff, Int.reduceLT, Int.reduceLE, Int.reduceEq, Int.reduceAdd, Int.reduceNeg, reduceIte, r_st, r_nck, r_ix, r_iaa, takeN, VE.store, over, cellsAt, VE.part, blkX, gEval, fill, VE.unOp, resVs, resV, reduceCtorEq, a1, a2, a3, s1, bn_mul, nu_add, frzT2]
 have e1 : ∀ P Q : Nat, P = Q → some (V.tup [.int .u64 (P : Int), .int .u64 ((x * y % 18446744073709551616 : Nat) : Int)]) = some (V.tup [.int .u64 (Q : Int), .int .u64 ((x * y % 18446744073709551616 : Nat) : Int)]) := fun P Q h => by rw [h]
 refine congrArg (fun n : Nat => V.tup [.int .u64 (n : Int), .int .u64 ((x * y % 18446744073709551616 : Nat) : Int)]) ?_
 generalize x / 4294967296 * (y / 4294967296) = ac at *
 generalize x / 4294967296 * (y % 4294967296) = ad at *
 generalize x % 4294967296 * (y / 4294967296) = bc at *
 generalize x % 4294967296 * (y % 4294967296) = bd at *
 rw [e]
 omega
end
end
section
open Go Go.VE
set_option maxRecDepth 100000
set_option linter.all false
def n8 (x : Nat) : Nat := match tab8[x]? with
 | some b => b.toNat
 | none => 0
theorem n8_ok : ∀ x : Fin 256, 0 < x.val → 1 ≤ n8 x.val ∧ n8 x.val ≤ 8 ∧ 2 ^ (n8 x.val - 1) ≤ x.val ∧ x.val < 2 ^ n8 x.val := by decide +kernel
theorem n8_at {x : Nat} (h : x < 256) : ∃ b : UInt8, tab8[x]? = some b ∧ b.toNat = n8 x := by
 have : x < tab8.length := h
 refine ⟨tab8[x], List.getElem?_eq_getElem this, ?_⟩
 simp only [n8, List.getElem?_eq_getElem this]
section
variable {vp : Nat → Option VFn}
theorem r_ixs_n {l : List UInt8} {k : IntKind} {i : Nat} {b : UInt8} {h : Heap} (e : l[i]? = some b) : r_ixs (.str l) (.int k (i : Int)) h = some (.int .u8 ((b.toNat : Nat) : Int), h) := by
 simp only [r_ixs, asNatN, e, Option.map_some]
theorem wr_u8 {x : Nat} (h : x < 256) : wr .u8 (x : Int) = (x : Int) := by
 show Int.ofNat (x % 256) = _
 rw [Nat.mod_eq_of_lt h]
 rfl
theorem len64_spec {f : Nat} (hf : vp f = some B_math_bits_Len64) (x : Nat) (h0 : 0 < x) (hx : x < 4294967296) (h : Heap) :
  ∃ n : Nat, 1 ≤ n ∧ n ≤ 32 ∧ 2 ^ (n - 1) ≤ x ∧ x < 2 ^ n ∧ callRes vp f [.int .u64 (x : Int)] h = some (.int .i64 (n : Int), h) := by
 have s16 : VE.binOp .shr (.int .u64 (x : Int)) (.int .u64 16) = _ := bn_shr (a := x) (y := 16) (k := .u64) (by decide)
 have s8 : ∀ a : Nat, VE.binOp .shr (.int .u64 (a : Int)) (.int .u64 8) = _ := fun a => bn_shr (a := a) (y := 8) (k := .u64) (by decide)
 simp only [Nat.reducePow] at s16 s8
 have c0 : ¬ ((4294967296 : Int) ≤ (x : Int)) := by omega
 have key : ∀ (z m : Nat), 0 < z → z < 256 → m ≤ 24 → x / 2 ^ m = z → (1 ≤ m + n8 z ∧ m + n8 z ≤ 32 ∧ 2 ^ (m + n8 z - 1) ≤ x ∧ x < 2 ^ (m + n8 z)) ∧ wr .u8 (z : Int) = (z : Int) ∧ wr .i64 ((m : Int) + (n8 z : Int)) = ((m + n8 z : Nat) : Int) ∧ wr .i64 ((n8 z : Nat) : Int) = (n8 z : Int) := by
  intro z m hz1 hz2 hm hzm
  obtain ⟨p1, p2, p3, p4⟩ := n8_ok ⟨z, hz2⟩ hz1
  simp only at p1 p2 p3 p4
  refine ⟨⟨by omega, by omega, ?_, ?_⟩, wr_u8 hz2, by rw [wr_i64 (by omega) (by omega)]; push_cast; rfl, by rw [wr_i64 (by omega) (by omega)]⟩
  ·have : 2 ^ (m + n8 z - 1) = 2 ^ m * 2 ^ (n8 z - 1) := by rw [← Nat.pow_add]; congr 1; omega
   rw [this, Nat.mul_comm]
   rw [← hzm] at p3
   exact (Nat.le_div_iff_mul_le (Nat.two_pow_pos m)).1 (by rw [hzm] at p3 ⊢; exact p3)
  ·rw [Nat.pow_add, Nat.mul_comm]
   exact (Nat.div_lt_iff_lt_mul (Nat.two_pow_pos m)).1 (by rw [hzm]; exact p4)
 by_cases q1 : 65536 ≤ x
 ·have q1' : (65536 : Int) ≤ (x : Int) := by omega
  by_cases q2 : 256 ≤ x / 65536
  ·have q2' : (256 : Int) ≤ ((x / 65536 : Nat) : Int) := by omega
   obtain ⟨k1, k2, k3, k4⟩ := key (x / 65536 / 256) 24 (by omega) (by omega) (by omega) (by rw [Nat.div_div_eq_div_mul])
   obtain ⟨b, e1, e2⟩ := n8_at (x := x / 65536 / 256) (by omega)
   have e3 : ∀ h, r_ixs (.str tab8) (.int .u8 ((x / 65536 / 256 : Nat) : Int)) h = some (.int .u8 (n8 (x / 65536 / 256) : Int), h) := fun h => by rw [← e2]; exact r_ixs_n e1
   have w1 : wr .i64 16 = 16 := rfl
   have w2 : wr .i64 24 = 24 := rfl
   refine ⟨24 + n8 (x / 65536 / 256), k1.1, k1.2.1, k1.2.2.1, k1.2.2.2, res_pure hf rfl rfl (fun g hg => ?_)⟩
   unfold B_math_bits_Len64
   have k3 : wr .i64 (24 + (n8 (x / 65536 / 256) : Int)) = _ := k3
   simp only [↓zp, zz, zy, chkOk, Nat.reduceEqDiff, Nat.reduceAdd, Nat.reduceSub, Nat.reduceMul, Nat.reduceLT, Nat.reduceLeDiff, Int.reduceLT, Int.reduceLE, Int.reduceEq, Int.reduceAdd, Int.reduceNeg, reduceIte, r_st, r_nck, r_ix, r_iaa, takeN, VE.store, over, cellsAt, VE.part, blkX, gEval, fill, VE.unOp, resVs, resV, reduceCtorEq, c0, q1', s16, s8, q2', k2, e3, k4, k3, w1, w2, frzI]
  ·have q2' : ¬ (256 : Int) ≤ ((x / 65536 : Nat) : Int) := by omega
   obtain ⟨k1, k2, k3, k4⟩ := key (x / 65536) 16 (by omega) (by omega) (by omega) rfl
   obtain ⟨b, e1, e2⟩ := n8_at (x := x / 65536) (by omega)
   have e3 : ∀ h, r_ixs (.str tab8) (.int .u8 ((x / 65536 : Nat) : Int)) h = some (.int .u8 (n8 (x / 65536) : Int), h) := fun h => by rw [← e2]; exact r_ixs_n e1
   have w1 : wr .i64 16 = 16 := rfl
   refine ⟨16 + n8 (x / 65536), k1.1, k1.2.1, k1.2.2.1, k1.2.2.2, res_pure hf rfl rfl (fun g hg => ?_)⟩
   unfold B_math_bits_Len64
   have k3 : wr .i64 (16 + (n8 (x / 65536) : Int)) = _ := k3
   simp only [↓zp, zz, zy, chkOk, Nat.reduceEqDiff, Nat.reduceAdd, Nat.reduceSub, Nat.reduceMul, Nat.reduceLT, Nat.reduceLeDiff, Int.reduceLT, Int.reduceLE, Int.reduceEq, Int.reduceAdd, Int.reduceNeg, reduceIte, r_st, r_nck, r_ix, r_iaa, takeN, VE.store, over, cellsAt, VE.part, blkX, gEval, fill, VE.unOp, resVs, resV, reduceCtorEq, c0, q1', s16, s8, q2', k2, e3, k4, k3, w1, frzI]
 ·have q1' : ¬ (65536 : Int) ≤ (x : Int) := by omega
  by_cases q2 : 256 ≤ x
  ·have q2' : (256 : Int) ≤ (x : Int) := by omega
   obtain ⟨k1, k2, k3, k4⟩ := key (x / 256) 8 (by omega) (by omega) (by omega) rfl
   obtain ⟨b, e1, e2⟩ := n8_at (x := x / 256) (by omega)
   have e3 : ∀ h, r_ixs (.str tab8) (.int .u8 ((x / 256 : Nat) : Int)) h = some (.int .u8 (n8 (x / 256) : Int), h) := fun h => by rw [← e2]; exact r_ixs_n e1
   have w1 : wr .i64 8 = 8 := rfl
   refine ⟨8 + n8 (x / 256), k1.1, k1.2.1, k1.2.2.1, k1.2.2.2, res_pure hf rfl rfl (fun g hg => ?_)⟩
   unfold B_math_bits_Len64
   have k3 : wr .i64 (8 + (n8 (x / 256) : Int)) = _ := k3
   simp only [↓zp, zz, zy, chkOk, Nat.reduceEqDiff, Nat.reduceAdd, Nat.reduceSub, Nat.reduceMul, Nat.reduceLT, Nat.reduceLeDiff, Int.reduceLT, Int.reduceLE, Int.reduceEq, Int.reduceAdd, Int.reduceNeg, reduceIte, r_st, r_nck, r_ix, r_iaa, takeN, VE.store, over, cellsAt, VE.part, blkX, gEval, fill, VE.unOp, resVs, resV, reduceCtorEq, c0, q1', s8, q2', k2, e3, k4, k3, w1, frzI]
  ·have q2' : ¬ (256 : Int) ≤ (x : Int) := by omega
   obtain ⟨k1, k2, k3, k4⟩ := key x 0 (by omega) (by omega) (by omega) (by simp)
   obtain ⟨b, e1, e2⟩ := n8_at (x := x) (by omega)
   have e3 : ∀ h, r_ixs (.str tab8) (.int .u8 (x : Int)) h = some (.int .u8 (n8 x : Int), h) := fun h => by rw [← e2]; exact r_ixs_n e1
   refine ⟨0 + n8 x, k1.1, k1.2.1, k1.2.2.1, k1.2.2.2, res_pure hf rfl rfl (fun g hg => ?_)⟩
   unfold B_math_bits_Len64
   have k3 : wr .i64 (0 + (n8 x : Int)) = _ := k3
   simp only [↓zp, zz, zy, chkOk, Nat.reduceEqDiff, Nat.reduceAdd, Nat.reduceSub, Nat.reduceMul, Nat.reduceLT, Nat.reduceLeDiff, Int.reduceLT, Int.reduceLE, Int.reduceEq, Int.reduceAdd, Int.reduceNeg, reduceIte, r_st, r_nck, r_ix, r_iaa, takeN, VE.store, over, cellsAt, VE.part, blkX, gEval, fill, VE.unOp, resVs, resV, reduceCtorEq, c0, q1', q2', k2, e3, k4, k3, frzI]
theorem lz64_spec {f c1 : Nat} (hf : vp f = some (B_math_bits_LeadingZeros64 c1)) (h1 : vp c1 = some B_math_bits_Len64) (x : Nat) (h0 : 0 < x) (hx : x < 4294967296) (h : Heap) :
  ∃ n : Nat, 1 ≤ n ∧ n ≤ 32 ∧ 2 ^ (n - 1) ≤ x ∧ x < 2 ^ n ∧ callRes vp f [.int .u64 (x : Int)] h = some (.int .i64 ((64 - n : Nat) : Int), h) := by
 obtain ⟨n, a1, a2, a3, a4, _⟩ := len64_spec h1 x h0 hx h
 have m1 : modeOf vp c1 = some 1 := by simp [modeOf, h1, B_math_bits_Len64]
 have call : ∀ h, callRes vp c1 [.int .u64 (x : Int)] h = some (.int .i64 (n : Int), h) := by
  intro h
  obtain ⟨m, b1, b2, b3, b4, e⟩ := len64_spec h1 x h0 hx h
  have : m = n := by
   rcases Nat.lt_trichotomy m n with q | q | q
   ·have := Nat.pow_le_pow_right (show 0 < 2 by decide) (show m ≤ n - 1 by omega); omega
   ·exact q
   ·have := Nat.pow_le_pow_right (show 0 < 2 by decide) (show n ≤ m - 1 by omega); omega
  rw [← this]
  exact e
 refine ⟨n, a1, a2, a3, a4, res_pure hf rfl rfl (fun g hg => ?_)⟩
 have w : wr .i64 (64 - (n : Int)) = ((64 - n : Nat) : Int) := by rw [wr_i64 (by omega) (by omega)]; omega
 unfold B_math_bits_LeadingZeros64
 simp only [↓zp, zz, zy, chkOk, Nat.reduceEqDiff, Nat.reduceAdd, Nat.reduceSub, Nat.reduceMul, Nat.reduceLT, Nat.reduceLeDiff, Int.reduceLT, Int.reduceLE, Int.reduceEq, Int.reduceAdd, Int.reduceNeg, reduceIte, r_st, r_nck, r_ix, r_iaa, takeN, VE.store, over, cellsAt, VE.part, blkX, gEval, fill, VE.unOp, resVs, resV, reduceCtorEq, m1, call, w, frzI]
end
end
section
open Go Go.VE
set_option maxRecDepth 100000
set_option linter.all false
set_option maxHeartbeats 1000000
theorem nu_subw {a b : Nat} (h : b < 18446744073709551616) (ha : a < 18446744073709551616) : wr .u64 ((a : Int) - (b : Int)) = (((a + (18446744073709551616 - b)) % 18446744073709551616 : Nat) : Int) := by
 rcases Nat.lt_or_ge a b with q | q
 ·have e : (a : Int) - (b : Int) = Int.negSucc (b - a - 1) := by omega
  rw [e]
  show Int.ofNat (18446744073709551616 - 1 - (b - a - 1) % 18446744073709551616) = _
  rw [Int.ofNat_eq_natCast]
  congr 1
  omega
 ·rw [nu_sub q ha]
  congr 1
  omega
theorem div_fin {N y P Q R Y : Nat} (hP : 0 < P) (hY : y * P = Y) (key : N * P = Q * Y + R) (hR : R < Y) : Q = N / y ∧ R / P = N % y := by
 have e1 : N / y = Q := by
  have : N / y = N * P / (y * P) := (Nat.mul_div_mul_right _ _ hP).symm
  rw [this, hY, key, Nat.mul_comm Q, Nat.mul_add_div (by omega), Nat.div_eq_of_lt hR, Nat.add_zero]
 refine ⟨e1.symm, ?_⟩
 have e2 : N % y * P = R := by
  have : N % y * P = N * P % (y * P) := (Nat.mul_mod_mul_right _ _ _).symm
  rw [this, hY, key, Nat.mul_comm Q, Nat.mul_add_mod, Nat.mod_eq_of_lt hR]
 rw [← e2, Nat.mul_div_cancel _ hP]
theorem key_law0 (K : Nat) {a b q r : Nat} (A B : Nat) (hv : a * K + q = B + b) : (A + a) * (K * K) + (K * q + r) = (A * K + B) * K + (b * K + r) := by
 have e : (A * K + B) * K + (b * K + r) = A * K * K + (B + b) * K + r := by simp only [Nat.add_mul, Nat.add_assoc]
 have e2 : (B + b) * K = a * K * K + q * K := by rw [← hv, Nat.add_mul]
 rw [e, e2, Nat.add_mul, Nat.mul_assoc, Nat.mul_assoc, Nat.mul_comm K q]
 simp only [Nat.add_assoc]
theorem key_law {u v n : Nat} (A B : Nat) (hA : A ≤ u) (hB : B ≤ v) (hv : (u - A) * 4294967296 + n / 4294967296 = v) : u * 18446744073709551616 + n = (A * 4294967296 + B) * 4294967296 + ((v - B) * 4294967296 + n % 4294967296) := by
 obtain ⟨a, rfl⟩ := Nat.exists_eq_add_of_le hA
 obtain ⟨b, rfl⟩ := Nat.exists_eq_add_of_le hB
 rw [Nat.add_sub_cancel_left] at hv ⊢
 have h := Nat.div_add_mod n 4294967296
 have := key_law0 4294967296 (r := n % 4294967296) A B hv
 rw [h] at this
 exact this
theorem div_law {hi lo y s : Nat} (hs1 : 32 ≤ s) (hs2 : s ≤ 63) (h1 : hi < y) (h2 : lo < 18446744073709551616) (h3 : y * 2 ^ s < 18446744073709551616) :
  ∃ z Y un32 un10 q1 un21 q0 : Nat, Y = y * 2 ^ s ∧ Y = z * 4294967296 ∧ 0 < z ∧ z < 4294967296 ∧ hi * 2 ^ s < 18446744073709551616 ∧ lo / 2 ^ (64 - s) < 2 ^ s ∧ un32 = hi * 2 ^ s + lo / 2 ^ (64 - s) ∧ un32 < Y ∧ un10 = lo * 2 ^ s % 18446744073709551616 ∧
   q1 = un32 / z ∧ q1 * z ≤ un32 ∧ q1 < 4294967296 ∧ un32 - q1 * z < z ∧ un21 = (un32 - q1 * z) * 4294967296 + un10 / 4294967296 ∧ un21 < 18446744073709551616 ∧ q1 * Y ≤ un32 * 4294967296 ∧ un32 * 4294967296 - q1 * Y = (un32 - q1 * z) * 4294967296 ∧ q0 = un21 / z ∧ q0 * z ≤ un21 ∧ q0 < 4294967296 ∧ un21 - q0 * z < z ∧
   q0 * Y ≤ un21 * 4294967296 ∧ un21 * 4294967296 - q0 * Y = (un21 - q0 * z) * 4294967296 ∧ q1 * 4294967296 + q0 = (hi * 18446744073709551616 + lo) / y ∧ ((un21 - q0 * z) * 4294967296 + un10 % 4294967296) / 2 ^ s = (hi * 18446744073709551616 + lo) % y := by
 obtain ⟨t, rfl⟩ : ∃ t, s = 32 + t := ⟨s - 32, by omega⟩
 have hP : 0 < 2 ^ (32 + t) := Nat.two_pow_pos _
 have hp : 2 ^ (32 + t) = 4294967296 * 2 ^ t := by rw [Nat.pow_add]
 have hY : y * 2 ^ (32 + t) = (y * 2 ^ t) * 4294967296 := by rw [hp, Nat.mul_left_comm, Nat.mul_comm]
 have hz0 : 0 < y * 2 ^ t := Nat.mul_pos (by omega) (Nat.two_pow_pos t)
 have hP2 : 2 ^ (64 - (32 + t)) * 2 ^ (32 + t) = 18446744073709551616 := by rw [← Nat.pow_add, show 64 - (32 + t) + (32 + t) = 64 by omega]
 have hh : hi * 2 ^ (32 + t) + 2 ^ (32 + t) ≤ y * 2 ^ (32 + t) := by
  rw [← Nat.succ_mul]
  exact Nat.mul_le_mul_right _ h1
 have hl : lo / 2 ^ (64 - (32 + t)) < 2 ^ (32 + t) := by
  rw [Nat.div_lt_iff_lt_mul (Nat.two_pow_pos _), Nat.mul_comm, hP2]
  exact h2
 have hlo : lo * 2 ^ (32 + t) = lo / 2 ^ (64 - (32 + t)) * 18446744073709551616 + lo * 2 ^ (32 + t) % 18446744073709551616 := by
  have e := Nat.div_add_mod (lo * 2 ^ (32 + t)) 18446744073709551616
  have e2 : lo * 2 ^ (32 + t) / 18446744073709551616 = lo / 2 ^ (64 - (32 + t)) := by
   rw [← hP2, Nat.mul_div_mul_right _ _ hP]
  rw [e2] at e
  rw [Nat.mul_comm (lo / _)]
  exact e.symm
 have hN : (hi * 18446744073709551616 + lo) * 2 ^ (32 + t) = (hi * 2 ^ (32 + t) + lo / 2 ^ (64 - (32 + t))) * 18446744073709551616 + lo * 2 ^ (32 + t) % 18446744073709551616 := by
  rw [Nat.add_mul, hlo, Nat.add_mul, Nat.mul_right_comm]
  omega
 generalize hz : y * 2 ^ t = z at *
 generalize hY2 : y * 2 ^ (32 + t) = Y at *
 generalize hu : hi * 2 ^ (32 + t) + lo / 2 ^ (64 - (32 + t)) = un32 at *
 generalize hu10 : lo * 2 ^ (32 + t) % 18446744073709551616 = un10 at *
 have hun : un32 < Y := by omega
 have hu10b : un10 < 18446744073709551616 := by rw [← hu10]; exact Nat.mod_lt _ (by decide)
 have d1 := Nat.div_add_mod un32 z
 have m1 := Nat.mod_lt un32 hz0
 have hq1 : un32 / z < 4294967296 := by
  rw [Nat.div_lt_iff_lt_mul hz0, Nat.mul_comm]
  omega
 generalize hq : un32 / z = q1 at *
 rw [Nat.mul_comm] at d1
 obtain ⟨un21, hu21⟩ : ∃ u, (un32 - q1 * z) * 4294967296 + un10 / 4294967296 = u := ⟨_, rfl⟩
 have hun21 : un21 < z * 4294967296 := by omega
 have d2 := Nat.div_add_mod un21 z
 have m2 := Nat.mod_lt un21 hz0
 have hq0 : un21 / z < 4294967296 := by
  rw [Nat.div_lt_iff_lt_mul hz0, Nat.mul_comm]
  omega
 generalize hq' : un21 / z = q0 at *
 rw [Nat.mul_comm] at d2
 have c1 : q1 * Y = q1 * z * 4294967296 := by rw [hY, Nat.mul_assoc]
 have c0 : q0 * Y = q0 * z * 4294967296 := by rw [hY, Nat.mul_assoc]
 have cQ : (q1 * 4294967296 + q0) * Y = (q1 * z * 4294967296 + q0 * z) * 4294967296 := by
  have : (q1 * 4294967296 + q0) * Y = q1 * 4294967296 * Y + q0 * Y := Nat.add_mul _ _ _
  have e2 : q1 * 4294967296 * Y = q1 * Y * 4294967296 := Nat.mul_right_comm _ _ _
  exact this.trans ((congrArg (fun n => n + q0 * Y) (e2.trans (congrArg (fun n => n * 4294967296) c1))).trans ((congrArg (fun n => q1 * z * 4294967296 * 4294967296 + n) c0).trans (Nat.add_mul _ _ _).symm))
 have hR : un21 - q0 * z < z := by omega
 have key : (hi * 18446744073709551616 + lo) * 2 ^ (32 + t) = (q1 * 4294967296 + q0) * Y + ((un21 - q0 * z) * 4294967296 + un10 % 4294967296) := by
  refine hN.trans (Eq.trans ?_ (congrArg (fun n => n + ((un21 - q0 * z) * 4294967296 + un10 % 4294967296)) cQ.symm))
  exact key_law (q1 * z) (q0 * z) (by omega) (by omega) hu21
 have hRb : (un21 - q0 * z) * 4294967296 + un10 % 4294967296 < Y := by omega
 have fin := div_fin hP hY2 key hRb
 exact ⟨z, Y, un32, un10, q1, un21, q0, rfl, hY, hz0, by omega, by omega, hl, rfl, hun, rfl, hq.symm, by omega, hq1, by omega, hu21.symm, by omega, by omega, by omega, hq'.symm, by omega, hq0, hR, by omega, by omega, fin.1, fin.2⟩
section
variable {vp : Nat → Option VFn}
theorem div64_spec {f c1 c2 : Nat} (hf : vp f = some (B_math_bits_Div64 c1)) (h1 : vp c1 = some (B_math_bits_LeadingZeros64 c2)) (h2 : vp c2 = some B_math_bits_Len64) (hi lo y : Nat) (hhi : hi < y) (hlo : lo < 18446744073709551616) (hy : y < 4294967296) (h : Heap) :
  callRes vp f [.int .u64 (hi : Int), .int .u64 (lo : Int), .int .u64 (y : Int)] h = some (.tup [.int .u64 (((hi * 18446744073709551616 + lo) / y : Nat) : Int), .int .u64 (((hi * 18446744073709551616 + lo) % y : Nat) : Int)], h) := by
 have m1 : modeOf vp c1 = some 1 := by simp [modeOf, h1, B_math_bits_LeadingZeros64]
 obtain ⟨n, n1, n2, n3, n4, _⟩ := lz64_spec h1 h2 y (by omega) hy h
 have call : ∀ h, callRes vp c1 [.int .u64 (y : Int)] h = some (.int .i64 ((64 - n : Nat) : Int), h) := by
  intro h
  obtain ⟨m, b1, b2, b3, b4, e⟩ := lz64_spec h1 h2 y (by omega) hy h
  have : m = n := by
   rcases Nat.lt_trichotomy m n with q | q | q
   ·have := Nat.pow_le_pow_right (show 0 < 2 by decide) (show m ≤ n - 1 by omega); omega
   ·exact q
   ·have := Nat.pow_le_pow_right (show 0 < 2 by decide) (show n ≤ m - 1 by omega); omega
  rw [← this]
  exact e
 have hys : y * 2 ^ (64 - n) < 18446744073709551616 := by
  have : 2 ^ n * 2 ^ (64 - n) = 18446744073709551616 := by rw [← Nat.pow_add, show n + (64 - n) = 64 by omega]
  rw [← this]
  exact Nat.mul_lt_mul_of_pos_right n4 (Nat.two_pow_pos _)
 obtain ⟨z, Y, un32, un10, q1, un21, q0, e1, e2, e3, e4, e5, e6, e7, e8, e9, f1, f2, f3, f4, f5, f6, f7, f8, f9, g1, g2, g3, g4, g5, g6, g7⟩ := div_law (hi := hi) (lo := lo) (y := y) (s := 64 - n) (by omega) (by omega) hhi hlo hys
 have hYb : Y < 18446744073709551616 := by omega
 have hd : 2 ^ (64 - n) ∣ hi * 2 ^ (64 - n) := ⟨hi, Nat.mul_comm _ _⟩
 have hn64 : 64 - (64 - n) = n := by omega
 generalize 64 - n = s at *
 have y0 : ¬ (y : Int) = 0 := by omega
 have yh : ¬ (y : Int) ≤ (hi : Int) := by omega
 refine res_pure hf rfl rfl (fun g hg => ?_)
 unfold B_math_bits_Div64
 by_cases hz : hi = 0
 ·subst hz
  have yh0 : ¬ (y : Int) ≤ 0 := by omega
  have b1 : VE.binOp .quo (.int .u64 (lo : Int)) (.int .u64 (y : Int)) = _ := bn_quo (by omega) hlo
  have b2 : VE.binOp .rem (.int .u64 (lo : Int)) (.int .u64 (y : Int)) = _ := bn_rem (by omega)
  simp only [↓zp, zz, zy, chkOk, Nat.reduceEqDiff, Nat.reduceAdd, Nat.reduceSub, Nat.reduceMul, Nat.reduceLT, Nat.reduceLeDiff, Int.reduceLT, Int.reduceLE, Int.reduceEq, Int.reduceAdd, Int.reduceNeg, reduceIte, r_st, r_nck, r_ix, r_iaa, takeN, VE.store, over, cellsAt, VE.part, blkX, gEval, fill, VE.unOp, resVs, resV, reduceCtorEq, y0, yh, yh0, Int.natCast_zero, b1, b2, frzT2, Nat.zero_mul]
 have hz' : ¬ (hi : Int) = 0 := by omega
 have s1 : wr .u64 ((s : Nat) : Int) = (s : Int) := wr_ul (by omega)
 have a1 : VE.binOp .shl (.int .u64 (y : Int)) (.int .u64 (s : Int)) = some (.int .u64 (Y : Int)) := by rw [bn_shl (by omega), ← e1, Nat.mod_eq_of_lt hYb]
 have a2 : VE.binOp .shr (.int .u64 (Y : Int)) (.int .u64 32) = some (.int .u64 (z : Int)) := by
  have : VE.binOp .shr (.int .u64 (Y : Int)) (.int .u64 32) = _ := bn_shr (a := Y) (y := 32) (k := .u64) (by decide)
  rw [this, e2, show (2 : Nat) ^ 32 = 4294967296 from rfl, Nat.mul_div_cancel _ (by decide)]
 have a3 : VE.binOp .and (.int .u64 (Y : Int)) (.int .u64 4294967295) = some (.int .u64 0) := by rw [bn_and32 hYb, e2, Nat.mul_mod_left]; rfl
 have a4 : VE.binOp .shl (.int .u64 (hi : Int)) (.int .u64 (s : Int)) = some (.int .u64 ((hi * 2 ^ s : Nat) : Int)) := by rw [bn_shl (by omega), Nat.mod_eq_of_lt e5]
 have a5 : wr .u64 (64 - (s : Int)) = ((64 - s : Nat) : Int) := nu_sub (a := 64) (b := s) (by omega) (by decide)
 have a6 : VE.binOp .shr (.int .u64 (lo : Int)) (.int .u64 ((64 - s : Nat) : Int)) = _ := bn_shr (by omega)
 have a7 : VE.binOp .or (.int .u64 ((hi * 2 ^ s : Nat) : Int)) (.int .u64 ((lo / 2 ^ (64 - s) : Nat) : Int)) = some (.int .u64 (un32 : Int)) := by rw [bn_or e5 hd e6 (by omega), e7]
 have a8 : VE.binOp .shl (.int .u64 (lo : Int)) (.int .u64 (s : Int)) = some (.int .u64 (un10 : Int)) := by rw [bn_shl (by omega), ← e9]
 have hu10 : un10 < 18446744073709551616 := by rw [e9]; exact Nat.mod_lt _ (by decide)
 have a9 : VE.binOp .shr (.int .u64 (un10 : Int)) (.int .u64 32) = some (.int .u64 ((un10 / 4294967296 : Nat) : Int)) := bn_shr (a := un10) (y := 32) (k := .u64) (by decide)
 have b1 := bn_and32 hu10
 have b2 : VE.binOp .quo (.int .u64 (un32 : Int)) (.int .u64 (z : Int)) = some (.int .u64 (q1 : Int)) := by rw [bn_quo e3 (by omega), f1]
 have b3 : VE.binOp .mul (.int .u64 (q1 : Int)) (.int .u64 (z : Int)) = some (.int .u64 ((q1 * z : Nat) : Int)) := by rw [bn_mul, Nat.mod_eq_of_lt (by omega)]
 have b4 : wr .u64 ((un32 : Int) - ((q1 * z : Nat) : Int)) = ((un32 - q1 * z : Nat) : Int) := nu_sub f2 (by omega)
 have b5 : ¬ ((4294967296 : Int) ≤ (q1 : Int)) := by omega
 have b6 : ∀ a : Nat, VE.binOp .mul (.int .u64 (a : Int)) (.int .u64 0) = some (.int .u64 0) := fun a => by
  have := bn_mul (a := a) (b := 0)
  simpa using this
 have b7 : VE.binOp .mul (.int .u64 4294967296) (.int .u64 ((un32 - q1 * z : Nat) : Int)) = some (.int .u64 (((un32 - q1 * z) * 4294967296 : Nat) : Int)) := by
  rw [bn_32, bn_mul, Nat.mul_comm, Nat.mod_eq_of_lt (by omega)]
 have b8 : wr .u64 ((((un32 - q1 * z) * 4294967296 : Nat) : Int) + ((un10 / 4294967296 : Nat) : Int)) = (un21 : Int) := by rw [nu_add, Nat.mod_eq_of_lt (by omega), f5]
 have b9 : ¬ ((un21 : Int) < 0) := by omega
 have c1 : VE.binOp .mul (.int .u64 (un32 : Int)) (.int .u64 4294967296) = some (.int .u64 ((un32 * 4294967296 % 18446744073709551616 : Nat) : Int)) := by rw [bn_32, bn_mul]
 have c2 : wr .u64 (((un32 * 4294967296 % 18446744073709551616 : Nat) : Int) + ((un10 / 4294967296 : Nat) : Int)) = (((un32 * 4294967296 % 18446744073709551616 + un10 / 4294967296) % 18446744073709551616 : Nat) : Int) := nu_add
 have c3 : VE.binOp .mul (.int .u64 (q1 : Int)) (.int .u64 (Y : Int)) = _ := bn_mul
 have c4 : wr .u64 ((((un32 * 4294967296 % 18446744073709551616 + un10 / 4294967296) % 18446744073709551616 : Nat) : Int) - ((q1 * Y % 18446744073709551616 : Nat) : Int)) = (un21 : Int) := by
  rw [nu_subw (Nat.mod_lt _ (by decide)) (Nat.mod_lt _ (by decide))]
  congr 1
  omega
 have c5 : VE.binOp .quo (.int .u64 (un21 : Int)) (.int .u64 (z : Int)) = some (.int .u64 (q0 : Int)) := by rw [bn_quo e3 f6, f9]
 have c6 : VE.binOp .mul (.int .u64 (q0 : Int)) (.int .u64 (z : Int)) = some (.int .u64 ((q0 * z : Nat) : Int)) := by rw [bn_mul, Nat.mod_eq_of_lt (by omega)]
 have c7 : wr .u64 ((un21 : Int) - ((q0 * z : Nat) : Int)) = ((un21 - q0 * z : Nat) : Int) := nu_sub g1 f6
 have c8 : ¬ ((4294967296 : Int) ≤ (q0 : Int)) := by omega
 have c9 : VE.binOp .mul (.int .u64 4294967296) (.int .u64 ((un21 - q0 * z : Nat) : Int)) = some (.int .u64 (((un21 - q0 * z) * 4294967296 : Nat) : Int)) := by
  rw [bn_32, bn_mul, Nat.mul_comm, Nat.mod_eq_of_lt (by omega)]
 have d1 : wr .u64 ((((un21 - q0 * z) * 4294967296 : Nat) : Int) + ((un10 % 4294967296 : Nat) : Int)) = (((un21 - q0 * z) * 4294967296 + un10 % 4294967296 : Nat) : Int) := by rw [nu_add, Nat.mod_eq_of_lt (by omega)]
 have d2 : ¬ ((((un21 - q0 * z) * 4294967296 + un10 % 4294967296 : Nat) : Int) < 0) := by omega
 have d3 : VE.binOp .mul (.int .u64 (q1 : Int)) (.int .u64 4294967296) = some (.int .u64 ((q1 * 4294967296 : Nat) : Int)) := by rw [bn_32, bn_mul, Nat.mod_eq_of_lt (by omega)]
 have d4 : wr .u64 (((q1 * 4294967296 : Nat) : Int) + (q0 : Int)) = (((hi * 18446744073709551616 + lo) / y : Nat) : Int) := by rw [nu_add, Nat.mod_eq_of_lt (by omega), g6]
 have d5 : VE.binOp .mul (.int .u64 (un21 : Int)) (.int .u64 4294967296) = some (.int .u64 ((un21 * 4294967296 % 18446744073709551616 : Nat) : Int)) := by rw [bn_32, bn_mul]
 have d6 : wr .u64 (((un21 * 4294967296 % 18446744073709551616 : Nat) : Int) + ((un10 % 4294967296 : Nat) : Int)) = (((un21 * 4294967296 % 18446744073709551616 + un10 % 4294967296) % 18446744073709551616 : Nat) : Int) := nu_add
 have d7 : VE.binOp .mul (.int .u64 (q0 : Int)) (.int .u64 (Y : Int)) = _ := bn_mul
 have d8 : wr .u64 ((((un21 * 4294967296 % 18446744073709551616 + un10 % 4294967296) % 18446744073709551616 : Nat) : Int) - ((q0 * Y % 18446744073709551616 : Nat) : Int)) = (((un21 - q0 * z) * 4294967296 + un10 % 4294967296 : Nat) : Int) := by
  rw [nu_subw (Nat.mod_lt _ (by decide)) (Nat.mod_lt _ (by decide))]
  congr 1
  omega
 have d9 : VE.binOp .shr (.int .u64 (((un21 - q0 * z) * 4294967296 + un10 % 4294967296 : Nat) : Int)) (.int .u64 (s : Int)) = some (.int .u64 (((hi * 18446744073709551616 + lo) % y : Nat) : Int)) := by rw [bn_shr (by omega), g7]
 simp only [↓zp, zz, zy, chkOk, Nat.reduceEqDiff, Nat.reduceAdd, Nat.reduceSub, Nat.reduceMul, Nat.reduceLT, Nat.reduceLeDiff, Int.reduceLT, Int.reduceLE, Int.reduceEq, Int.reduceAdd, Int.reduceNeg, reduceIte, r_st, r_nck, r_ix, r_iaa, takeN, VE.store, over, cellsAt, VE.part, blkX, gEval, fill, VE.unOp, resVs, resV, reduceCtorEq, y0, yh, hz', m1, call, s1, a1, a2, a3, a4, a5, a6, a7, a8, a9, b1, b2, b3, b4]
 refine w_loop1 ?_
 simp only [↓zp, zz, zy, chkOk, Nat.reduceEqDiff, Nat.reduceAdd, Nat.reduceSub, Nat.reduceMul, Nat.reduceLT, Nat.reduceLeDiff, Int.reduceLT, Int.reduceLE, Int.reduceEq, Int.reduceAdd, Int.reduceNeg, reduceIte, r_st, r_nck, r_ix, r_iaa, takeN, VE.store, over, cellsAt, VE.part, blkX, gEval, fill, VE.unOp, resVs, resV, reduceCtorEq, b5, b6, b7, b8, b9]
 simp only [↓zp, zz, zy, chkOk, Nat.reduceEqDiff, Nat.reduceAdd, Nat.reduceSub, Nat.reduceMul, Nat.reduceLT, Nat.reduceLeDiff, Int.reduceLT, Int.reduceLE, Int.reduceEq, Int.reduceAdd, Int.reduceNeg, reduceIte, r_st, r_nck, r_ix, r_iaa, takeN, VE.store, over, cellsAt, VE.part, blkX, gEval, fill, VE.unOp, resVs, resV, reduceCtorEq, c1, c2, c3, c4, c5, c6, c7]
 refine w_loop1 ?_
 simp only [↓zp, zz, zy, chkOk, Nat.reduceEqDiff, Nat.reduceAdd, Nat.reduceSub, Nat.reduceMul, Nat.reduceLT, Nat.reduceLeDiff, Int.reduceLT, Int.reduceLE, Int.reduceEq, Int.reduceAdd, Int.reduceNeg, reduceIte, r_st, r_nck, r_ix, r_iaa, takeN, VE.store, over, cellsAt, VE.part, blkX, gEval, fill, VE.unOp, resVs, resV, reduceCtorEq, c8, b6, c9, d1, d2]
 simp only [↓zp, zz, zy, chkOk, Nat.reduceEqDiff, Nat.reduceAdd, Nat.reduceSub, Nat.reduceMul, Nat.reduceLT, Nat.reduceLeDiff, Int.reduceLT, Int.reduceLE, Int.reduceEq, Int.reduceAdd, Int.reduceNeg, reduceIte, r_st, r_nck, r_ix, r_iaa, takeN, VE.store, over, cellsAt, VE.part, blkX, gEval, fill, VE.unOp, resVs, resV, reduceCtorEq, d3, d4, d5, d6, d7, d8, d9, frzT2]
end
end
section
open Go Go.VE
set_option maxRecDepth 100000
set_option linter.all false
set_option maxHeartbeats 1000000
def wc (n : Nat) : List V := [.int .u64 ((n / 18446744073709551616 : Nat) : Int), .int .u64 ((n % 18446744073709551616 : Nat) : Int)]
theorem wc_small {n : Nat} (h : n < 18446744073709551616) : wc n = [.int .u64 0, .int .u64 (n : Int)] := by
 unfold wc
 rw [Nat.div_eq_of_lt h, Nat.mod_eq_of_lt h]
 rfl
theorem r_carry_f {x y c : Nat} {h : Heap} (hc : c ≤ 1) : r_carry false (.int .u64 (x : Int)) (.int .u64 (y : Int)) (.int .u64 (c : Int)) h = some (.tup [.int .u64 (((x + y + c) % 18446744073709551616 : Nat) : Int), .int .u64 (((x + y + c) / 18446744073709551616 : Nat) : Int)], h) := by
 have : Nat.ble c 1 = true := by rw [ble_dec]; simpa using hc
 show (bif Nat.ble c 1 then _ else _) = _
 rw [this]
 rfl
section
variable {vp : Nat → Option VFn}
theorem of_spec {f t1 : Nat} (hf : vp f = some (B_wide_Of t1)) (x : Nat) (hx : x < 18446744073709551616) (h : Heap) : callRes vp f [.int .u64 (x : Int)] h = some (.agg (wc x), h) := by
 refine res_pure hf rfl rfl (fun g hg => ?_)
 have l1 : ¬ (g.nx < g.lo) := by have := hlo hg; omega
 rw [wc_small hx]
 unfold B_wide_Of
 simp only [↓zp, zz, zy, chkOk, Nat.reduceEqDiff, Nat.reduceAdd, Nat.reduceSub, Nat.reduceMul, Nat.reduceLT, Nat.reduceLeDiff, Int.reduceLT, Int.reduceLE, Int.reduceEq, Int.reduceAdd, Int.reduceNeg, reduceIte, r_st, r_nck, r_ix, r_iaa, takeN, VE.store, over, cellsAt, VE.part, blkX, gEval, fill, VE.unOp, resVs, resV, reduceCtorEq, l1, frzA2]
theorem small_spec {f : Nat} (hf : vp f = some B_wide_Small) (x : Nat) (h : Heap) : callRes vp f [.agg (wc x)] h = some (if x < 18446744073709551616 then .tup [.int .u64 (x : Int), .int .i64 0] else .tup [.int .u64 0, .int .i64 16], h) := by
 refine res_pure hf rfl rfl (fun g hg => ?_)
 unfold B_wide_Small wc
 by_cases q : x < 18446744073709551616
 ·have q1 : (((x / 18446744073709551616 : Nat) : Int) = 0) = True := by rw [Nat.div_eq_of_lt q]; simp
  have q2 : x % 18446744073709551616 = x := Nat.mod_eq_of_lt q
  simp only [↓zp, zz, zy, chkOk, Nat.reduceEqDiff, Nat.reduceAdd, Nat.reduceSub, Nat.reduceMul, Nat.reduceLT, Nat.reduceLeDiff, Int.reduceLT, Int.reduceLE, Int.reduceEq, Int.reduceAdd, Int.reduceNeg, reduceIte, r_st, r_nck, r_ix, r_iaa, takeN, VE.store, over, cellsAt, VE.part, blkX, gEval, fill, VE.unOp, resVs, resV, reduceCtorEq, q1, q2, q, frzT2]
 ·have q1 : (((x / 18446744073709551616 : Nat) : Int) = 0) = False := by simp; omega
  simp only [↓zp, zz, zy, chkOk, Nat.reduceEqDiff, Nat.reduceAdd, Nat.reduceSub, Nat.reduceMul, Nat.reduceLT, Nat.reduceLeDiff, Int.reduceLT, Int.reduceLE, Int.reduceEq, Int.reduceAdd, Int.reduceNeg, reduceIte, r_st, r_nck, r_ix, r_iaa, takeN, VE.store, over, cellsAt, VE.part, blkX, gEval, fill, VE.unOp, resVs, resV, reduceCtorEq, q1, q, frzT2]
theorem wmul_spec {f c1 t1 : Nat} (hf : vp f = some (B_wide_Mul c1 t1)) (h1 : vp c1 = some B_math_bits_Mul64) (x y : Nat) (hx : x < 18446744073709551616) (hy : y < 18446744073709551616) (h : Heap) : callRes vp f [.int .u64 (x : Int), .int .u64 (y : Int)] h = some (.agg (wc (x * y)), h) := by
 have m1 : modeOf vp c1 = some 1 := by simp [modeOf, h1, B_math_bits_Mul64]
 have call := fun h => mul64_spec h1 x y hx hy h
 refine res_pure hf rfl rfl (fun g hg => ?_)
 have l1 : ¬ (g.nx < g.lo) := by have := hlo hg; omega
 unfold B_wide_Mul wc
 simp only [↓zp, zz, zy, chkOk, Nat.reduceEqDiff, Nat.reduceAdd, Nat.reduceSub, Nat.reduceMul, Nat.reduceLT, Nat.reduceLeDiff, Int.reduceLT, Int.reduceLE, Int.reduceEq, Int.reduceAdd, Int.reduceNeg, reduceIte, r_st, r_nck, r_ix, r_iaa, takeN, VE.store, over, cellsAt, VE.part, blkX, gEval, fill, VE.unOp, resVs, resV, reduceCtorEq, l1, m1, call, frzA2]
theorem wadd_spec {f t1 : Nat} (hf : vp f = some (B_wide_Add t1)) (a b : Nat) (hab : a + b < 340282366920938463463374607431768211456) (h : Heap) : callRes vp f [.agg (wc a), .agg (wc b)] h = some (.tup [.agg (wc (a + b)), .int .i64 0], h) := by
 refine res_pure hf rfl rfl (fun g hg => ?_)
 have l1 : ¬ (g.nx + 2 < g.lo) := by have := hlo hg; omega
 have e1 : ∀ h, r_carry false (.int .u64 ((a % 18446744073709551616 : Nat) : Int)) (.int .u64 ((b % 18446744073709551616 : Nat) : Int)) (.int .u64 0) h = some (.tup [.int .u64 (((a + b) % 18446744073709551616 : Nat) : Int), .int .u64 (((a % 18446744073709551616 + b % 18446744073709551616) / 18446744073709551616 : Nat) : Int)], h) := fun h => by
  rw [bn_0, r_carry_f (by decide)]
  congr 4
  simp only [Nat.add_zero, ← Nat.add_mod]
 have e2 : ∀ h, r_carry false (.int .u64 ((a / 18446744073709551616 : Nat) : Int)) (.int .u64 ((b / 18446744073709551616 : Nat) : Int)) (.int .u64 (((a % 18446744073709551616 + b % 18446744073709551616) / 18446744073709551616 : Nat) : Int)) h = some (.tup [.int .u64 (((a + b) / 18446744073709551616 : Nat) : Int), .int .u64 0], h) := fun h => by
  rw [r_carry_f (by omega)]
  have k1 : (a / 18446744073709551616 + b / 18446744073709551616 + (a % 18446744073709551616 + b % 18446744073709551616) / 18446744073709551616) % 18446744073709551616 = (a + b) / 18446744073709551616 := by omega
  have k2 : (a / 18446744073709551616 + b / 18446744073709551616 + (a % 18446744073709551616 + b % 18446744073709551616) / 18446744073709551616) / 18446744073709551616 = 0 := by omega
  rw [k1, k2]
  rfl
 unfold B_wide_Add wc
 simp only [↓zp, zz, zy, chkOk, Nat.reduceEqDiff, Nat.reduceAdd, Nat.reduceSub, Nat.reduceMul, Nat.reduceLT, Nat.reduceLeDiff, Int.reduceLT, Int.reduceLE, Int.reduceEq, Int.reduceAdd, Int.reduceNeg, reduceIte, r_st, r_nck, r_ix, r_iaa, takeN, VE.store, over, cellsAt, VE.part, blkX, gEval, fill, VE.unOp, resVs, resV, reduceCtorEq, l1, e1, e2, frzTA]
end
end
section
open Go Go.VE
set_option maxRecDepth 100000
set_option linter.all false
set_option maxHeartbeats 1000000
theorem div_two (a y : Nat) (hy : 0 < y) : a / 18446744073709551616 % y * 18446744073709551616 + a % 18446744073709551616 = a - a / 18446744073709551616 / y * 18446744073709551616 * y := by
 have h1 := Nat.div_add_mod (a / 18446744073709551616) y
 have h2 := Nat.div_add_mod a 18446744073709551616
 generalize a / 18446744073709551616 / y = q at *
 generalize a / 18446744073709551616 % y = r at *
 generalize a % 18446744073709551616 = l at *
 have e : q * 18446744073709551616 * y = y * q * 18446744073709551616 := by rw [Nat.mul_comm (q * 18446744073709551616), ← Nat.mul_assoc]
 rw [e]
 generalize y * q = p at *
 omega
theorem div_hi {a y : Nat} (hy : 0 < y) : a / 18446744073709551616 / y = a / y / 18446744073709551616 := by rw [Nat.div_div_eq_div_mul, Nat.div_div_eq_div_mul, Nat.mul_comm]
theorem div_lo {a y : Nat} (hy : 0 < y) : (a / 18446744073709551616 % y * 18446744073709551616 + a % 18446744073709551616) / y = a / y % 18446744073709551616 := by
 have e := div_two a y hy
 have e2 : a / 18446744073709551616 / y * 18446744073709551616 * y ≤ a := by
  rw [Nat.mul_right_comm]
  have h1 := Nat.div_mul_le_self (a / 18446744073709551616) y
  have h2 := Nat.div_mul_le_self a 18446744073709551616
  exact Nat.le_trans (Nat.mul_le_mul_right _ h1) h2
 rw [e, Nat.mul_comm _ y, Nat.sub_mul_div_of_le _ _ _ (by rw [Nat.mul_comm]; exact e2), div_hi hy]
 omega
theorem mod_lo {a y : Nat} (hy : 0 < y) : (a / 18446744073709551616 % y * 18446744073709551616 + a % 18446744073709551616) % y = a % y := by
 have e := div_two a y hy
 have e2 : a / 18446744073709551616 / y * 18446744073709551616 * y ≤ a := by
  rw [Nat.mul_right_comm]
  have h1 := Nat.div_mul_le_self (a / 18446744073709551616) y
  have h2 := Nat.div_mul_le_self a 18446744073709551616
  exact Nat.le_trans (Nat.mul_le_mul_right _ h1) h2
 rw [e, Nat.mul_comm _ y]
 exact Nat.sub_mul_mod (by rw [Nat.mul_comm]; exact e2)
section
variable {vp : Nat → Option VFn}
theorem wdiv_spec {f c1 c2 c3 t1 : Nat} (hf : vp f = some (B_wide_Div c1 t1)) (h1 : vp c1 = some (B_math_bits_Div64 c2)) (h2 : vp c2 = some (B_math_bits_LeadingZeros64 c3)) (h3 : vp c3 = some B_math_bits_Len64) (a y : Nat) (ha : a < 340282366920938463463374607431768211456) (hy0 : 0 < y) (hy : y < 4294967296) (h : Heap) :
  callRes vp f [.agg (wc a), .int .u64 (y : Int)] h = some (.tup [.agg (wc (a / y)), .int .u64 ((a % y : Nat) : Int), .int .i64 0], h) := by
 have m1 : modeOf vp c1 = some 1 := by simp [modeOf, h1, B_math_bits_Div64]
 have k1 : ∀ h, callRes vp c1 [.int .u64 0, .int .u64 ((a / 18446744073709551616 : Nat) : Int), .int .u64 (y : Int)] h = some (.tup [.int .u64 ((a / y / 18446744073709551616 : Nat) : Int), .int .u64 ((a / 18446744073709551616 % y : Nat) : Int)], h) := fun h => by
  have := div64_spec h1 h2 h3 0 (a / 18446744073709551616) y hy0 (by omega) hy h
  rw [Nat.zero_mul, Nat.zero_add, div_hi hy0] at this
  exact this
 have k2 : ∀ h, callRes vp c1 [.int .u64 ((a / 18446744073709551616 % y : Nat) : Int), .int .u64 ((a % 18446744073709551616 : Nat) : Int), .int .u64 (y : Int)] h = some (.tup [.int .u64 ((a / y % 18446744073709551616 : Nat) : Int), .int .u64 ((a % y : Nat) : Int)], h) := fun h => by
  have := div64_spec h1 h2 h3 (a / 18446744073709551616 % y) (a % 18446744073709551616) y (Nat.mod_lt _ hy0) (Nat.mod_lt _ (by decide)) hy h
  rw [div_lo hy0, mod_lo hy0] at this
  exact this
 refine res_pure hf rfl rfl (fun g hg => ?_)
 have l1 : ¬ (g.nx + 1 < g.lo) := by have := hlo hg; omega
 have y0 : ¬ (y : Int) = 0 := by omega
 unfold B_wide_Div wc
 simp only [↓zp, zz, zy, chkOk, Nat.reduceEqDiff, Nat.reduceAdd, Nat.reduceSub, Nat.reduceMul, Nat.reduceLT, Nat.reduceLeDiff, Int.reduceLT, Int.reduceLE, Int.reduceEq, Int.reduceAdd, Int.reduceNeg, reduceIte, r_st, r_nck, r_ix, r_iaa, takeN, VE.store, over, cellsAt, VE.part, blkX, gEval, fill, VE.unOp, resVs, resV, reduceCtorEq, l1, m1, y0, k1, k2, frzTA2]
end
end
section
open Go Go.VE
set_option maxRecDepth 100000
set_option linter.all false
set_option maxHeartbeats 1000000
def mkB (l : Limit) (lv pt t : Int) : Bucket := ⟨l, if lv < 9223372036854775808 then lv else 0, pt, t, by split <;> omega⟩
theorem mkB_lv {l : Limit} {lv pt t : Int} (h : lv < 9223372036854775808) : (mkB l lv pt t).lv = lv := if_pos h
theorem encB_mk {l : Limit} {lv pt t : Int} (h : lv < 9223372036854775808) : encB (mkB l lv pt t) = [.int .i64 l.b, .int .i64 l.r, .int .i64 l.p, .int .i64 lv, .int .i64 pt, .int .u64 t] := by
 unfold encB
 rw [mkB_lv h]
 rfl
def fillB (b : Bucket) (t : Int) : Bucket :=
 if t ≤ b.t then b
 else if (b.l.b - b.lv).toNat ≤ ((t - b.t).toNat * b.l.r.toNat + b.pt.toNat) / b.l.p.toNat then mkB b.l b.l.b 0 t
 else mkB b.l (b.lv + (((t - b.t).toNat * b.l.r.toNat + b.pt.toNat) / b.l.p.toNat : Nat)) (((t - b.t).toNat * b.l.r.toNat + b.pt.toNat) % b.l.p.toNat : Nat) t
def u64 (t : Int) : Prop := 0 ≤ t ∧ t < 18446744073709551616
theorem bk_nat {b : Bucket} (hb : bkBad b = false) : ∃ B R P L T : Nat, b.l.b = B ∧ b.l.r = R ∧ b.l.p = P ∧ b.lv = L ∧ b.pt = T ∧ 1 ≤ B ∧ B ≤ 1000000000 ∧ R ≤ 1000000000 ∧ 1 ≤ P ∧ P ≤ 1000000000 ∧ L ≤ B ∧ T < P ∧ (L = B → T = 0) := by
 simp only [bkBad, limBad, Bool.or_eq_false_iff, Bool.and_eq_false_iff, decide_eq_false_iff_not, Bool.not_eq_false', decide_eq_true_eq] at hb
 obtain ⟨⟨a1, a2, a3, a4, a5, a6⟩, a7, a8, a9, a10, a11⟩ := hb
 refine ⟨b.l.b.toNat, b.l.r.toNat, b.l.p.toNat, b.lv.toNat, b.pt.toNat, by omega, by omega, by omega, by omega, by omega, by omega, by omega, by omega, by omega, by omega, by omega, by omega, fun h => ?_⟩
 rcases a11 with q | q
 ·exact absurd (by omega) q
 ·omega
theorem frzB6 {h : Heap} {b : Nat} {a1 a2 a3 a4 a5 a6 : Int} : frz frzFuel h b false (.agg [.int .i64 a1, .int .i64 a2, .int .i64 a3, .int .i64 a4, .int .i64 a5, .int .u64 a6]) = some (.agg [.int .i64 a1, .int .i64 a2, .int .i64 a3, .int .i64 a4, .int .i64 a5, .int .u64 a6]) := rfl
theorem frzTB6 {h : Heap} {b : Nat} {a1 a2 a3 a4 a5 a6 e : Int} : frz frzFuel h b false (.tup [.agg [.int .i64 a1, .int .i64 a2, .int .i64 a3, .int .i64 a4, .int .i64 a5, .int .u64 a6], .int .i64 e]) = some (.tup [.agg [.int .i64 a1, .int .i64 a2, .int .i64 a3, .int .i64 a4, .int .i64 a5, .int .u64 a6], .int .i64 e]) := rfl
section
variable {vp : Nat → Option VFn}
structure WOk (vp : Nat → Option VFn) (cm co ca cd cs : Nat) : Prop where
 m : ∃ c1 t1, vp cm = some (B_wide_Mul c1 t1) ∧ vp c1 = some B_math_bits_Mul64
 o : ∃ t1, vp co = some (B_wide_Of t1)
 a : ∃ t1, vp ca = some (B_wide_Add t1)
 d : ∃ c1 c2 c3 t1, vp cd = some (B_wide_Div c1 t1) ∧ vp c1 = some (B_math_bits_Div64 c2) ∧ vp c2 = some (B_math_bits_LeadingZeros64 c3) ∧ vp c3 = some B_math_bits_Len64
 s : vp cs = some B_wide_Small
theorem mul_lt (D R : Nat) (hD : D < 18446744073709551616) (hR : R ≤ 1000000000) : D * R + 1000000000 < 85070591730234615865843651857942052864 := by
 have : D * R ≤ 18446744073709551616 * 1000000000 := Nat.mul_le_mul (by omega) hR
 omega
theorem bfill_spec {f cm co ca cd cs t1 t2 : Nat} (hf : vp f = some (B_bucket_fill cm co ca cd cs t1 t2)) (w : WOk vp cm co ca cd cs) (b : Bucket) (t : Int) (hb : bkBad b = false) (hbt : u64 b.t) (ht : u64 t) (h : Heap) :
  callRes vp f [.agg (encB b), .int .u64 t] h = some (.agg (encB (fillB b t)), h) := by
 obtain ⟨⟨m1, m2, hm1, hm2⟩, ⟨o1, ho1⟩, ⟨a1, ha1⟩, ⟨d1, d2, d3, d4, hd1, hd2, hd3, hd4⟩, hs⟩ := w
 have mm : modeOf vp cm = some 1 := by simp [modeOf, hm1, B_wide_Mul]
 have mo : modeOf vp co = some 1 := by simp [modeOf, ho1, B_wide_Of]
 have ma : modeOf vp ca = some 1 := by simp [modeOf, ha1, B_wide_Add]
 have md : modeOf vp cd = some 1 := by simp [modeOf, hd1, B_wide_Div]
 have ms : modeOf vp cs = some 1 := by simp [modeOf, hs, B_wide_Small]
 obtain ⟨B, R, P, L, T, eB, eR, eP, eL, eT, v1, v2, v3, v4, v5, v6, v7, v8⟩ := bk_nat hb
 obtain ⟨N, eN⟩ := Int.eq_ofNat_of_zero_le hbt.1
 obtain ⟨U, eU⟩ := Int.eq_ofNat_of_zero_le ht.1
 have hN := hbt.2
 have hU := ht.2
 refine res_pure hf rfl rfl (fun g hg => ?_)
 have hl := hlo hg
 have l0 : ¬ (g.nx < g.lo) := by omega
 have l1 : ¬ (g.nx + 1 < g.lo) := by omega
 have l2 : ¬ (g.nx + 2 < g.lo) := by omega
 have l3 : ¬ (g.nx + 3 < g.lo) := by omega
 unfold B_bucket_fill
 by_cases q : t ≤ b.t
 ·rw [fillB, if_pos q]
  unfold encB
  simp only [↓zp, zz, zy, chkOk, Nat.reduceEqDiff, Nat.reduceAdd, Nat.reduceSub, Nat.reduceMul, Nat.reduceLT, Nat.reduceLeDiff, Int.reduceLT, Int.reduceLE, Int.reduceEq, Int.reduceAdd, Int.reduceNeg, reduceIte, r_st, r_nck, r_ix, r_iaa, takeN, VE.store, over, cellsAt, VE.part, blkX, gEval, fill, VE.unOp, resVs, resV, reduceCtorEq, l1, q, frzB6]
 rw [fillB, if_neg q]
 rw [eB, eR, eP, eL, eT, show (t - b.t) = ((U - N : Nat) : Int) by omega, show ((B : Int) - (L : Int)) = ((B - L : Nat) : Int) by omega]
 simp only [Int.toNat_natCast]
 have s1 : wr .u64 (t - b.t) = ((U - N : Nat) : Int) := by rw [eU, eN]; exact nu_sub (by omega) (by omega)
 have w1 : ∀ n : Nat, n ≤ 1000000000 → wr .u64 (n : Int) = (n : Int) := fun n hn => wr_ul (by omega)
 have bnd := mul_lt (U - N) R (by omega) v3
 have km := fun h => wmul_spec hm1 hm2 (U - N) R (by omega) (by omega) h
 have ko := fun h => of_spec ho1 T (by omega) h
 have ka := fun h => wadd_spec ha1 ((U - N) * R) T (by omega) h
 have kd := fun h => wdiv_spec hd1 hd2 hd3 hd4 ((U - N) * R + T) P (by omega) (by omega) (by omega) h
 have ks := fun h => small_spec hs (((U - N) * R + T) / P) h
 have hr : ((U - N) * R + T) % P < P := Nat.mod_lt _ (by omega)
 generalize hX : (U - N) * R + T = X at *
 generalize hr' : X % P = rr at *
 generalize hq : X / P = qq at *
 have s2 : wr .i64 ((B : Int) - (L : Int)) = ((B - L : Nat) : Int) := by rw [wr_i64 (by omega) (by omega)]; omega
 unfold wc at *
 by_cases qs : qq < 18446744073709551616
 ·have ks2 : ∀ h, callRes vp cs [.agg [.int .u64 ((qq / 18446744073709551616 : Nat) : Int), .int .u64 ((qq % 18446744073709551616 : Nat) : Int)]] h = some (.tup [.int .u64 (qq : Int), .int .i64 0], h) := fun h => by rw [ks, if_pos qs]
  by_cases qc : B - L ≤ qq
  ·rw [if_pos qc]
   rw [encB_mk (show (B : Int) < 9223372036854775808 by omega)]
   unfold encB
   rw [eB, eR, eP, eL, eT]
   simp only [↓zp, zz, zy, chkOk, Nat.reduceEqDiff, Nat.reduceAdd, Nat.reduceSub, Nat.reduceMul, Nat.reduceLT, Nat.reduceLeDiff, Int.reduceLT, Int.reduceLE, Int.reduceEq, Int.reduceAdd, Int.reduceNeg, reduceIte, r_st, r_nck, r_ix, r_iaa, takeN, VE.store, over, cellsAt, VE.part, blkX, gEval, fill, VE.unOp, resVs, resV, reduceCtorEq, l0, l1, l2, l3, q, eB, eR, eP, eL, eT, s1, w1 R (by omega), w1 T (by omega), w1 P (by omega), mm, mo, ma, md, ms, km, ko, ka, kd, ks2, s2, w1 (B - L) (by omega), bn_le, qc, frzB6]
  ·rw [if_neg qc]
   rw [encB_mk (show (L : Int) + (qq : Int) < 9223372036854775808 by omega)]
   unfold encB
   rw [eB, eR, eP, eL, eT]
   have w3 : wr .i64 (qq : Int) = (qq : Int) := wr_i64 (by omega) (by omega)
   have w4 : wr .i64 (rr : Int) = (rr : Int) := wr_i64 (by omega) (by omega)
   have w5 : wr .i64 ((L : Int) + (qq : Int)) = (L : Int) + (qq : Int) := wr_i64 (by omega) (by omega)
   simp only [↓zp, zz, zy, chkOk, Nat.reduceEqDiff, Nat.reduceAdd, Nat.reduceSub, Nat.reduceMul, Nat.reduceLT, Nat.reduceLeDiff, Int.reduceLT, Int.reduceLE, Int.reduceEq, Int.reduceAdd, Int.reduceNeg, reduceIte, r_st, r_nck, r_ix, r_iaa, takeN, VE.store, over, cellsAt, VE.part, blkX, gEval, fill, VE.unOp, resVs, resV, reduceCtorEq, l0, l1, l2, l3, q, eB, eR, eP, eL, eT, s1, w1 R (by omega), w1 T (by omega), w1 P (by omega), mm, mo, ma, md, ms, km, ko, ka, kd, ks2, s2, w1 (B - L) (by omega), bn_le, qc, w3, w4, w5, frzB6]
 ·have ks2 : ∀ h, callRes vp cs [.agg [.int .u64 ((qq / 18446744073709551616 : Nat) : Int), .int .u64 ((qq % 18446744073709551616 : Nat) : Int)]] h = some (.tup [.int .u64 0, .int .i64 16], h) := fun h => by rw [ks, if_neg qs]
  have qc : B - L ≤ qq := by omega
  rw [if_pos qc]
  rw [encB_mk (show (B : Int) < 9223372036854775808 by omega)]
  unfold encB
  rw [eB, eR, eP, eL, eT]
  simp only [↓zp, zz, zy, chkOk, Nat.reduceEqDiff, Nat.reduceAdd, Nat.reduceSub, Nat.reduceMul, Nat.reduceLT, Nat.reduceLeDiff, Int.reduceLT, Int.reduceLE, Int.reduceEq, Int.reduceAdd, Int.reduceNeg, reduceIte, r_st, r_nck, r_ix, r_iaa, takeN, VE.store, over, cellsAt, VE.part, blkX, gEval, fill, VE.unOp, resVs, resV, reduceCtorEq, l0, l1, l2, l3, q, eB, eR, eP, eL, eT, s1, w1 R (by omega), w1 T (by omega), w1 P (by omega), mm, mo, ma, md, ms, km, ko, ka, kd, ks2, s2, frzB6]
end
end
section
open Go Go.VE
set_option maxRecDepth 100000
set_option linter.all false
set_option maxHeartbeats 1000000
theorem chkB_ok {b : Bucket} (hb : bkBad b = false) : chkB b = 0 := by simp [chkB, hb]
theorem chkLim_ok {l : Limit} (hb : limBad l = false) : chkLim l = 0 := by simp [chkLim, hb]
def fullB (l : Limit) (t : Int) : Bucket := mkB l l.b 0 t
theorem lim_b {l : Limit} (hl : limBad l = false) : l.b < 9223372036854775808 := by
 simp only [limBad, Bool.or_eq_false_iff, decide_eq_false_iff_not] at hl
 omega
theorem fullB_lv {l : Limit} {t : Int} (hl : limBad l = false) : (fullB l t).lv = l.b := mkB_lv (lim_b hl)
section
variable {vp : Nat → Option VFn}
theorem full_spec {f c1 t1 : Nat} (hf : vp f = some (B_bucket_Full c1 t1)) (h1 : vp c1 = some B_bucket_CheckLimit) (l : Limit) (t : Int) (hl : limBad l = false) (h : Heap) :
  callRes vp f [.agg (encL l), .int .u64 t] h = some (.tup [.agg (encB (fullB l t)), .int .i64 0], h) := by
 have m1 : modeOf vp c1 = some 1 := by simp [modeOf, h1, B_bucket_CheckLimit]
 have k1 : ∀ h, callRes vp c1 [.agg [.int .i64 l.b, .int .i64 l.r, .int .i64 l.p]] h = some (.int .i64 0, h) := fun h => by rw [lim_spec h1, chkLim_ok hl]
 refine res_pure hf rfl rfl (fun g hg => ?_)
 have hl' := hlo hg
 have l1 : ¬ (g.nx + 1 < g.lo) := by omega
 rw [fullB, encB_mk (lim_b hl)]
 unfold B_bucket_Full encL
 simp only [↓zp, zz, zy, chkOk, Nat.reduceEqDiff, Nat.reduceAdd, Nat.reduceSub, Nat.reduceMul, Nat.reduceLT, Nat.reduceLeDiff, Int.reduceLT, Int.reduceLE, Int.reduceEq, Int.reduceAdd, Int.reduceNeg, reduceIte, r_st, r_nck, r_ix, r_iaa, takeN, VE.store, over, cellsAt, VE.part, blkX, gEval, fill, VE.unOp, resVs, resV, reduceCtorEq, l1, m1, k1, frzTB6]
end
end
end Go.VE.LB
