/- What the functions of the law ReportSees compute, on typed arguments (part 11). -/
import Derived.Test.YtjmlmaidimaloaaGreatDoorReportSeesA10
import Derived.Test.YtjmlmaidimaloaaGreatDoorReportSeesA2
import Derived.Test.YtjmlmaidimaloaaGreatDoorReportSeesA1
set_option linter.all false
namespace Go.VE.LB
set_option maxRecDepth 100000
set_option maxHeartbeats 8000000
section
open Go Go.VE Classical
def dg (n : Nat) : UInt8 := UInt8.ofNat (48 + n % 10)
theorem dg_nat (n : Nat) : (dg n).toNat = 48 + n % 10 := by
 have : 48 + n % 10 < 256 := by omega
 show (48 + n % 10) % 256 = _
 omega
def digs : Nat → Nat → List UInt8
 | 0, _ => []
 | k + 1, n => digs k (n / 10) ++ [dg n]
theorem digs_len : ∀ (k n : Nat), (digs k n).length = k
 | 0, _ => rfl
 | k + 1, n => by rw [digs, List.length_append, digs_len k]; rfl
theorem digs_cons : ∀ (k n : Nat), digs (k + 1) n = dg (n / 10 ^ k) :: digs k n
 | 0, n => by simp [digs]
 | k + 1, n => by
  rw [digs, digs_cons k (n / 10), digs, List.cons_append, Nat.div_div_eq_div_mul, ← Nat.pow_succ']
theorem digs_at : ∀ (k n p : Nat), p < k → (digs k n)[p]? = some (dg (n / 10 ^ (k - 1 - p)))
 | 0, _, _, h => by omega
 | k + 1, n, p, h => by
  rw [digs_cons]
  cases p with
  | zero => simp
  | succ p =>
   have e : k + 1 - 1 - (p + 1) = k - 1 - p := by omega
   rw [List.getElem?_cons_succ, digs_at k n p (by omega), e]
def IsLen (n j : Nat) : Prop := 1 ≤ j ∧ n < 10 ^ j ∧ (j = 1 ∨ 10 ^ (j - 1) ≤ n)
theorem IsLen.uniq {n i j : Nat} (a : IsLen n i) (b : IsLen n j) : i = j := by
 obtain ⟨a1, a2, a3⟩ := a
 obtain ⟨b1, b2, b3⟩ := b
 apply Classical.byContradiction
 intro h
 rcases Nat.lt_or_gt_of_ne h with h | h
 ·rcases b3 with r | r
  ·omega
  ·have := Nat.pow_le_pow_right (n := 10) (by decide) (by omega : i ≤ j - 1)
   omega
 ·rcases a3 with r | r
  ·omega
  ·have := Nat.pow_le_pow_right (n := 10) (by decide) (by omega : j ≤ i - 1)
   omega
def bs (l : List UInt8) : List V := l.map fun b => .int .u8 ((b.toNat : Nat) : Int)
theorem bytesS_bs : ∀ l : List UInt8, bytesS (bs l) = some l
 | [] => rfl
 | x :: l => by
  have ih := bytesS_bs l
  have h1 : Nat.blt x.toNat 256 = true := by rw [blt_dec]; simp [x.toNat_lt]
  have h2 : UInt8.ofNat x.toNat = x := UInt8.ofNat_toNat
  show (bif kEq .u8 .u8 && Nat.blt x.toNat 256 then (match bytesS (bs l) with
    | some t => some (UInt8.ofNat x.toNat :: t)
    | none => none) else none) = _
  rw [ih, h1, h2]
  rfl
theorem bs_len (l : List UInt8) : (bs l).length = l.length := by simp [bs]
theorem eff_b2s {h : Heap} {b n c : Nat} {l : List UInt8} {r : List V} {tag : Tag} (hb : h.get b = .cells (bs l ++ r) tag) (hn : n = l.length) : r_eff .b2s [.sl b 0 n c 1] h = some (.str l, h) := by
 subst hn
 have e : rowOf h 1 (.sl b 0 l.length c 1) = some (bs l) := by
  simp only [rowOf, beq_dec, decide_true, cond_true, hb, List.drop_zero, Nat.mul_one]
  rw [← bs_len]
  exact takeN_app _ _
 show effV .b2s [.sl b 0 l.length c 1] h = _
 simp only [effV, e, bytesS_bs, Option.map_some]
theorem bin_adds {a b : List UInt8} (h : a.length + b.length ≤ 140737488355328) : VE.binOp .add (.str a) (.str b) = some (.str (a ++ b)) := by
 have e : Nat.blt 140737488355328 (a.length + b.length) = false := by rw [blt_dec]; simp; omega
 show (bif Nat.blt 140737488355328 (a.length + b.length) then none else some (V.str (a ++ b))) = _
 rw [e]
 rfl
theorem IsLen.le20 {n k : Nat} (hm : n < 18446744073709551616) (h : k = 1 ∨ 10 ^ (k - 1) ≤ n) : k ≤ 20 := by
 rcases h with h | h
 ·omega
 ·apply Classical.byContradiction
  intro hk
  have := Nat.pow_le_pow_right (n := 10) (by decide) (by omega : 20 ≤ k - 1)
  omega
theorem frzS {h : Heap} {b : Nat} {l : List UInt8} : frz frzFuel h b false (.str l) = some (.str l) := rfl
section
variable {vp : Nat → Option VFn}
def invDc (m lo : Nat) (q : Nat) (s : Slots) (h : Heap) : Prop :=
 ∃ k, 1 ≤ k ∧ (k = 1 ∨ 10 ^ (k - 1) ≤ m) ∧ q = m / 10 ^ k ∧ s.at 0 = .int .u64 ((m / 10 ^ k : Nat) : Int) ∧ s.at 3 = .str (digs k m) ∧ h.lo = lo ∧ lo ≤ h.nx
theorem dec_spec {f : Nat} (hf : vp f = some B_spigotref44_Decimal) (m : Nat) (hm : m < 18446744073709551616) (h : Heap) : ∃ j, IsLen m j ∧ callRes vp f [.int .u64 (m : Int)] h = some (.str (digs j m), h) := by
 suffices q : ∃ r, callRes vp f [.int .u64 (m : Int)] h = some (r, h) ∧ ∃ j, IsLen m j ∧ r = .str (digs j m) by
  obtain ⟨r, e, j, k, rfl⟩ := q
  exact ⟨j, k, e⟩
 refine res_pure_ex hf rfl rfl (fun g hg => ?_)
 have hlo := hlo hg
 unfold B_spigotref44_Decimal
 have rm : ∀ a : Nat, VE.binOp .rem (.int .u64 (a : Int)) (.int .u64 10) = some (.int .u64 ((a % 10 : Nat) : Int)) := fun a => bn_rem (b := 10) (by decide)
 have qu : ∀ a : Nat, a < 18446744073709551616 → VE.binOp .quo (.int .u64 (a : Int)) (.int .u64 10) = some (.int .u64 ((a / 10 : Nat) : Int)) := fun a ha => bn_quo (b := 10) (by decide) ha
 have w1 : ∀ a : Nat, wr .u64 (48 + ((a % 10 : Nat) : Int)) = ((48 + a % 10 : Nat) : Int) := fun a => by
  have := nu_add (a := 48) (b := a % 10)
  rw [Nat.mod_eq_of_lt (show 48 + a % 10 < 18446744073709551616 by omega)] at this
  exact this
 have w2 : ∀ a : Nat, wr .u8 ((48 + a % 10 : Nat) : Int) = ((48 + a % 10 : Nat) : Int) := fun a => wr_u8 (by omega)
 have ef : ∀ (a : Nat) (h : Heap), r_eff .b2s [.sl h.nx 0 1 1 1] (h.new (.cells [.int .u8 ((48 + a % 10 : Nat) : Int)] .cl)) = some (.str [dg a], h.new (.cells [.int .u8 ((48 + a % 10 : Nat) : Int)] .cl)) := fun a h => by
  refine eff_b2s (l := [dg a]) (r := []) (tag := .cl) ?_ rfl
  rw [Heap.get_new, if_pos rfl]
  simp only [bs, List.map_cons, List.map_nil, dg_nat, List.append_nil]
 have qm := qu m hm
 have ef1 := ef m g
 simp only [↓zp, zz, zy, zq, seval, reduceIte, reduceCtorEq, rm, w1, w2, ef1, qm]
 generalize hS : Tr.set _ 0 _ = S
 have b0 : Slots.at S 0 = .int .u64 ((m / 10 ^ 1 : Nat) : Int) := by rw [← hS]; simp only [zs, Nat.reduceEqDiff, Nat.pow_one]
 have b3 : Slots.at S 3 = .str (digs 1 m) := by rw [← hS]; simp only [zs, Nat.reduceEqDiff]; rfl
 clear hS
 refine loop_ind (fun q s h => invDc m g.lo q s h) ?_ (m / 10 ^ 1) ⟨1, by omega, .inl rfl, rfl, b0, b3, rfl, by simp only [Heap.new_nx]; omega⟩
 clear b0 b3
 rintro q s h ⟨k, hk, hkm, hq, c0, c3, hl, hx⟩
 obtain ⟨a, ha⟩ : ∃ a, m / 10 ^ k = a := ⟨_, rfl⟩
 have hac : a < 18446744073709551616 := by have := Nat.div_le_self m (10 ^ k); omega
 rw [ha] at c0 hq
 by_cases h0 : 0 < a
 case neg =>
  have h0' : ¬ ((0 : Int) < (a : Int)) := by omega
  have hlt : m < 10 ^ k := by
   rcases Nat.lt_or_ge m (10 ^ k) with r | r
   ·exact r
   ·have := Nat.div_pos r (Nat.pow_pos (by decide))
    omega
  simp only [↓zp, zz, zy, zq, seval, reduceIte, reduceCtorEq, c0, c3, h0', frzS]
  exact ⟨k, ⟨hk, hlt, hkm⟩, rfl⟩
 have h0' : ((0 : Int) < (a : Int)) := by omega
 have qa := qu a hac
 have k20 := IsLen.le20 hm hkm
 have ad : VE.binOp .add (.str [dg a]) (.str (digs k m)) = some (.str (dg a :: digs k m)) := bin_adds (by rw [digs_len]; simp; omega)
 have ef2 := ef a h
 simp only [↓zp, zz, zy, zq, seval, reduceIte, reduceCtorEq, c0, c3, h0', rm, w1, w2, ef2, ad, qa]
 have e2 : m / 10 ^ (k + 1) = a / 10 := by rw [Nat.pow_succ, ← Nat.div_div_eq_div_mul, ha]
 refine ⟨a / 10, by omega, k + 1, by omega, .inr ?_, e2.symm, by simp only [zs, Nat.reduceEqDiff, e2], by simp only [zs, Nat.reduceEqDiff, digs_cons, ha], hl, by simp only [Heap.new_nx]; omega⟩
 rw [Nat.add_sub_cancel]
 rcases Nat.lt_or_ge m (10 ^ k) with r | r
 ·rw [Nat.div_eq_of_lt r] at ha; omega
 ·exact r
end
end
section
open Go Go.VE Classical
theorem bt_ok : ∀ x : Fin 100, tabS[2 * x.val + 1]? = some (dg x.val) ∧ tabS[2 * x.val]? = some (dg (x.val / 10)) ∧ (tabS.drop (x.val * 2)).take (x.val * 2 + 2 - x.val * 2) = digs 2 x.val := by decide +kernel
def tab36 : List UInt8 := [48, 49, 50, 51, 52, 53, 54, 55, 56, 57, 97, 98, 99, 100, 101, 102, 103, 104, 105, 106, 107, 108, 109, 110, 111, 112, 113, 114, 115, 116, 117, 118, 119, 120, 121, 122]
theorem t36_ok : ∀ x : Fin 10, (tab36.drop x.val).take (x.val + 1 - x.val) = digs 1 x.val := by decide +kernel
theorem log_ok : ∀ x : Fin 65, 1 ≤ x.val → (x.val * 78913 / 262144 = 0 ∨ 10 ^ (x.val * 78913 / 262144 - 1) ≤ 2 ^ (x.val - 1)) ∧ 2 ^ x.val ≤ 10 ^ (x.val * 78913 / 262144 + 1) := by decide +kernel
theorem pur_slc {l : List UInt8} {a b : Nat} {h : Heap} (h1 : a ≤ b) (h2 : b ≤ l.length) : r_pur (.slcs true true) [.str l, .int .i64 (a : Int), .int .i64 (b : Int)] h = some (.str ((l.drop a).take (b - a)), h) := by
 have e1 : Nat.ble b l.length = true := by rw [ble_dec]; simp [h2]
 have e2 : Nat.ble a b = true := by rw [ble_dec]; simp [h1]
 show (pureV _ _).map _ = _
 simp only [pureV, bound, cond_true, asNatN, e1, e2, Option.map_some]
def powT : List V := [(.int .u64 1), (.int .u64 10), (.int .u64 100), (.int .u64 1000), (.int .u64 10000), (.int .u64 100000), (.int .u64 1000000), (.int .u64 10000000), (.int .u64 100000000), (.int .u64 1000000000), (.int .u64 10000000000), (.int .u64 100000000000), (.int .u64 1000000000000), (.int .u64 10000000000000), (.int .u64 100000000000000), (.int .u64 1000000000000000), (.int .u64 10000000000000000), (.int .u64 100000000000000000), (.int .u64 1000000000000000000), (.int .u64 10000000000000000000)]
theorem pow_at : ∀ (t : Nat), t < 20 → ∃ r, List.drop t powT = .int .u64 ((10 ^ t : Nat) : Int) :: r
 | 0, _ => ⟨_, rfl⟩
 | 1, _ => ⟨_, rfl⟩
 | 2, _ => ⟨_, rfl⟩
 | 3, _ => ⟨_, rfl⟩
 | 4, _ => ⟨_, rfl⟩
 | 5, _ => ⟨_, rfl⟩
 | 6, _ => ⟨_, rfl⟩
 | 7, _ => ⟨_, rfl⟩
 | 8, _ => ⟨_, rfl⟩
 | 9, _ => ⟨_, rfl⟩
 | 10, _ => ⟨_, rfl⟩
 | 11, _ => ⟨_, rfl⟩
 | 12, _ => ⟨_, rfl⟩
 | 13, _ => ⟨_, rfl⟩
 | 14, _ => ⟨_, rfl⟩
 | 15, _ => ⟨_, rfl⟩
 | 16, _ => ⟨_, rfl⟩
 | 17, _ => ⟨_, rfl⟩
 | 18, _ => ⟨_, rfl⟩
 | 19, _ => ⟨_, rfl⟩
 | n + 20, h => by omega
theorem bi_shr18 {a : Nat} : VE.binOp .shr (.int .i64 (a : Int)) (.int .u64 18) = some (.int .i64 ((a / 262144 : Nat) : Int)) := by
 show some (V.int .i64 (Int.ofNat (a / 2 ^ Nat.min 18 (IntKind.i64).bits))) = _
 rfl
theorem bi_muln {a b c : Nat} (hc : a * b = c) (h : c < 9223372036854775808) : VE.binOp .mul (.int .i64 (a : Int)) (.int .i64 (b : Int)) = some (.int .i64 (c : Int)) := by
 have e : (a : Int) * (b : Int) = (c : Int) := by rw [← hc]; push_cast; rfl
 simp only [VE.binOp, kEq_refl, cond_true, binInt, e]
 rw [wr_i64 (by omega) (by omega)]
section
variable {vp : Nat → Option VFn}
theorem small_spec {f : Nat} (hf : vp f = some B_internal_strconv_small) (n : Nat) (hn : n < 100) (h : Heap) : ∃ j, IsLen n j ∧ callRes vp f [.int .i64 (n : Int)] h = some (.str (digs j n), h) := by
 by_cases q : n < 10
 ·refine ⟨1, ⟨by omega, by simpa using q, .inl rfl⟩, res_pure hf rfl rfl (fun g hg => ?_)⟩
  unfold B_internal_strconv_small
  have q' : (n : Int) < 10 := by omega
  have ws := wr_succ (k := n) (by omega)
  have e : ∀ h, r_pur (.slcs true true) [.str tab36, .int .i64 (n : Int), .int .i64 ((n + 1 : Nat) : Int)] h = some (.str (digs 1 n), h) := fun h => by
   rw [pur_slc (by omega) (by show n + 1 ≤ 36; omega), t36_ok ⟨n, q⟩]
  unfold tab36 at e
  simp only [↓zp, zz, zy, zq, seval, reduceIte, reduceCtorEq, q', ws, e, frzS]
 ·refine ⟨2, ⟨by omega, by simpa using hn, .inr (by simpa using q)⟩, res_pure hf rfl rfl (fun g hg => ?_)⟩
  unfold B_internal_strconv_small
  have q' : ¬ (n : Int) < 10 := by omega
  have m2 : VE.binOp .mul (.int .i64 (n : Int)) (.int .i64 2) = some (.int .i64 ((n * 2 : Nat) : Int)) := bi_muln (b := 2) rfl (by omega)
  have w2 : wr .i64 (((n * 2 : Nat) : Int) + 2) = ((n * 2 + 2 : Nat) : Int) := by rw [wr_i64 (by omega) (by omega)]; omega
  have e : ∀ h, r_pur (.slcs true true) [.str tabS, .int .i64 ((n * 2 : Nat) : Int), .int .i64 ((n * 2 + 2 : Nat) : Int)] h = some (.str (digs 2 n), h) := fun h => by
   rw [pur_slc (by omega) (by show n * 2 + 2 ≤ 200; omega), (bt_ok ⟨n, hn⟩).2.2]
  simp only [↓zp, zz, zy, zq, seval, reduceIte, reduceCtorEq, q', m2, w2, e, frzS]
theorem log_spec {f : Nat} (hf : vp f = some B_internal_strconv_log10Pow2) (n : Nat) (hn : n < 65) (h : Heap) : callRes vp f [.int .i64 (n : Int)] h = some (.int .i64 ((n * 78913 / 262144 : Nat) : Int), h) := by
 refine res_pure hf rfl rfl (fun g hg => ?_)
 unfold B_internal_strconv_log10Pow2
 have m2 : VE.binOp .mul (.int .i64 (n : Int)) (.int .i64 78913) = some (.int .i64 ((n * 78913 : Nat) : Int)) := bi_muln (b := 78913) rfl (by omega)
 have sh := bi_shr18 (a := n * 78913)
 simp only [↓zp, zz, zy, zq, seval, reduceIte, reduceCtorEq, m2, sh, frzI]
theorem b2i_spec {f : Nat} (hf : vp f = some B_internal_strconv_bool2_int) (b : Bool) (h : Heap) : callRes vp f [.bool b] h = some (.int .i64 (if b = true then 1 else 0), h) := by
 refine res_pure hf rfl rfl (fun g hg => ?_)
 unfold B_internal_strconv_bool2_int
 cases b <;> simp only [↓zp, zz, zy, zq, seval, reduceIte, reduceCtorEq, Bool.false_eq_true, frzI]
theorem nd_spec {f c1 c2 c3 : Nat} (hf : vp f = some (B_internal_strconv_numDigits_v2 c1 c2 c3)) (h1 : vp c1 = some B_math_bits_Len64) (h2 : vp c2 = some B_internal_strconv_log10Pow2) (h3 : vp c3 = some B_internal_strconv_bool2_int) (n : Nat) (h0 : 0 < n) (hn : n < 4294967296) (h : Heap) : ∃ j, IsLen n j ∧ callRes vp f [.int .u64 (n : Int)] h = some (.int .i64 (j : Int), h) := by
 have m1 : modeOf vp c1 = some 1 := mo h1 rfl rfl
 have m2 : modeOf vp c2 = some 1 := mo h2 rfl rfl
 have m3 : modeOf vp c3 = some 1 := mo h3 rfl rfl
 suffices q : ∃ r, callRes vp f [.int .u64 (n : Int)] h = some (r, h) ∧ ∃ j, IsLen n j ∧ r = .int .i64 (j : Int) by
  obtain ⟨r, e, j, k, rfl⟩ := q
  exact ⟨j, k, e⟩
 refine res_pure_ex hf rfl rfl (fun g hg => ?_)
 obtain ⟨L, l1, l2, l3, l4, e1⟩ := len64_spec h1 n h0 hn g
 have e2 := fun h => log_spec h2 L (by omega) h
 obtain ⟨k1, k2⟩ := log_ok ⟨L, by omega⟩ l1
 simp only at k1 k2
 obtain ⟨t, ht⟩ : ∃ t, L * 78913 / 262144 = t := ⟨_, rfl⟩
 rw [ht] at k1 k2 e2
 have ht9 : t < 20 := by omega
 obtain ⟨r, dt⟩ := pow_at t ht9
 have e3 := fun b h => b2i_spec h3 b h
 unfold powT at dt
 unfold B_internal_strconv_numDigits_v2
 by_cases q : 10 ^ t ≤ n
 ·have q' : ((10 ^ t : Nat) : Int) ≤ (n : Int) := by omega
  have ws := wr_succ (k := t) (by omega)
  simp only [↓zp, zz, zy, zq, seval, reduceIte, reduceCtorEq, Nat.mul_one, m1, e1, m2, e2, ht9, dt, q', m3, e3, ws, frzI]
  exact ⟨t + 1, ⟨by omega, by omega, .inr (by rw [Nat.add_sub_cancel]; exact q)⟩, rfl⟩
 ·have q' : ¬ ((10 ^ t : Nat) : Int) ≤ (n : Int) := by omega
  have w0 : wr .i64 (t : Int) = (t : Int) := wr_i64 (by omega) (by omega)
  have t1 : 1 ≤ t := by
   rcases Nat.eq_zero_or_pos t with r | r
   ·subst r; simp at q; omega
   ·exact r
  simp only [↓zp, zz, zy, zq, seval, reduceIte, reduceCtorEq, Nat.mul_one, m1, e1, m2, e2, ht9, dt, q', m3, e3, Bool.false_eq_true, Int.add_zero, w0, frzI]
  refine ⟨t, ⟨t1, by omega, .inr ?_⟩, rfl⟩
  rcases k1 with k1 | k1
  ·omega
  ·omega
end
end
section
open Go Go.VE Classical
def dv (m : Nat) : V := .int .u8 ((48 + m % 10 : Nat) : Int)
structure FB (n j i u : Nat) (C0 C : List V) : Prop where
 len : C.length = 24
 ij : i ≤ j
 u : u = n / 10 ^ (j - i)
 at_ : ∀ p, i ≤ p → p < j → C[p]? = some (dv (n / 10 ^ (j - 1 - p)))
 rest : ∀ p, j ≤ p → C[p]? = C0[p]?
theorem FB.step {n j i u : Nat} {C0 C : List V} (f : FB n j i u C0 C) (h : 1 ≤ i) (hj : j ≤ 24) : FB n j (i - 1) (u / 10) C0 (C.set (i - 1) (dv u)) := by
 obtain ⟨f1, f2, f3, f4, f5⟩ := f
 refine ⟨by rw [List.length_set, f1], by omega, ?_, fun p h1 h2 => ?_, fun p h1 => ?_⟩
 ·rw [f3, Nat.div_div_eq_div_mul, ← Nat.pow_succ]
  congr 2
  omega
 ·rw [List.getElem?_set]
  by_cases q : i - 1 = p
  ·rw [if_pos q, if_pos (by omega), f3]
   have e : j - i = j - 1 - p := by omega
   rw [e]
  ·rw [if_neg q]
   exact f4 p (by omega) h2
 ·rw [List.getElem?_set, if_neg (by omega)]
  exact f5 p h1
theorem over_set {v : V} (hv : oneCell v = true) : ∀ {q : Nat} {C : List V}, q < C.length → over q C [v] = some (C.set q v)
 | 0, x :: C, _ => by
  cases C <;> simp only [over, hv, cond_true, List.set_cons_zero]
 | q + 1, x :: C, h => by
  have ih := over_set hv (q := q) (C := C) (by simpa using h)
  simp only [over, ih, List.set_cons_succ]
 | 0, [], h => by simp at h
 | q + 1, [], h => by simp at h
theorem ua_quo {a b : Nat} (hb : 0 < b) (h : a < 4294967296) : VE.binOp .quo (.int .u32 (a : Int)) (.int .u32 (b : Int)) = some (.int .u32 ((a / b : Nat) : Int)) := by
 have h1 : eqI (b : Int) 0 = false := by rw [eqI_dec]; simp; omega
 have h2 : Int.tdiv (a : Int) (b : Int) = ((a / b : Nat) : Int) := rfl
 have h3 : a / b ≤ a := Nat.div_le_self _ _
 simp only [VE.binOp, kEq_refl, cond_true, binInt, h1, cond_false, h2, wr_u32]
 rw [Nat.mod_eq_of_lt (by omega)]
theorem ua_rem {a b : Nat} (hb : 0 < b) : VE.binOp .rem (.int .u32 (a : Int)) (.int .u32 (b : Int)) = some (.int .u32 ((a % b : Nat) : Int)) := by
 have h1 : eqI (b : Int) 0 = false := by rw [eqI_dec]; simp; omega
 have h2 : Int.tmod (a : Int) (b : Int) = ((a % b : Nat) : Int) := rfl
 simp only [VE.binOp, kEq_refl, cond_true, binInt, h1, cond_false, h2]
theorem ua_mul2 {a : Nat} (h : a < 1000000) : VE.binOp .mul (.int .u32 (a : Int)) (.int .u32 2) = some (.int .u32 ((2 * a : Nat) : Int)) := by
 have e : (a : Int) * 2 = ((2 * a : Nat) : Int) := by omega
 simp only [VE.binOp, kEq_refl, cond_true, binInt, e, wr_u32]
 rw [Nat.mod_eq_of_lt (by omega)]
theorem tab_at {x : Nat} (hx : x < 100) (h : Heap) : r_ixs (.str tabS) (.int .u32 ((2 * x + 1 : Nat) : Int)) h = some (dv x, h) ∧ r_ixs (.str tabS) (.int .u32 ((2 * x : Nat) : Int)) h = some (dv (x / 10), h) := by
 obtain ⟨e1, e2, _⟩ := bt_ok ⟨x, hx⟩
 have a := r_ixs_n (k := .u32) (h := h) e1
 have b := r_ixs_n (k := .u32) (h := h) e2
 rw [dg_nat] at a b
 exact ⟨a, b⟩
section
variable {vp : Nat → Option VFn}
structure At (H : Heap) (b T1 : Nat) (C : List V) (h : Heap) : Prop where
 get : h.get b = .cells C (.ct T1)
 ne : ∀ c, c ≠ b → h.get c = H.get c
 nx : h.nx = H.nx
 lo : h.lo = H.lo
theorem At.set {H h : Heap} {b T1 : Nat} {C D : List V} (a : At H b T1 C h) : At H b T1 D (h.set b (.cells D (.ct T1))) :=
 ⟨by rw [Heap.get_set, if_pos rfl], fun c hc => by rw [Heap.get_set, if_neg hc, a.ne c hc], a.nx, a.lo⟩
def invFm (n j b T1 : Nat) (C0 : List V) (H : Heap) (m : Nat) (s : Slots) (h : Heap) : Prop :=
 ∃ i u C, m = i ∧ FB n j i u C0 C ∧ s.at 0 = .sl b 0 j 24 1 ∧ s.at 1 = .int .u64 (u : Int) ∧ s.at 4 = .int .i64 (i : Int) ∧ At H b T1 C h
theorem fm_spec {f : Nat} (hf : vp f = some B_internal_strconv_formatBase10_v2) (n j b T1 : Nat) (C0 : List V) (h : Heap) (hn : n < 18446744073709551616) (hj : IsLen n j) (j20 : j ≤ 20) (hb : h.get b = .cells C0 (.ct T1)) (hC : C0.length = 24) (hlo : ¬ b < h.lo) :
  ∃ v h', callRes vp f [.sl b 0 j 24 1, .int .u64 (n : Int)] h = some (v, h') ∧ ∃ C, At h b T1 C h' ∧ FB n j 0 0 C0 C := by
 refine res_raw hf rfl rfl ?_
 unfold B_internal_strconv_formatBase10_v2
 have rl : ∀ h, r_len (.sl b 0 j 24 1) h = some (.int .i64 (j : Int), h) := fun h => rfl
 simp only [↓zp, zz, zy, zq, seval, reduceIte, reduceCtorEq, rl]
 generalize hS : Tr.set _ 4 _ = S
 have b0 : Slots.at S 0 = .sl b 0 j 24 1 := by rw [← hS]; simp only [zs, Nat.reduceEqDiff]
 have b1 : Slots.at S 1 = .int .u64 (n : Int) := by rw [← hS]; simp only [zs, Nat.reduceEqDiff]
 have b4 : Slots.at S 4 = .int .i64 (j : Int) := by rw [← hS]; simp only [zs, Nat.reduceEqDiff]
 clear hS
 have f0 : FB n j j n C0 C0 := ⟨hC, Nat.le_refl _, by rw [Nat.sub_self, Nat.pow_zero, Nat.div_one], fun p h1 h2 => by omega, fun p _ => rfl⟩
 refine loop_ind (fun m s h' => invFm n j b T1 C0 h m s h') ?_ j ⟨j, n, C0, rfl, f0, b0, b1, b4, hb, fun _ _ => rfl, rfl, rfl⟩
 clear b0 b1 b4 f0
 rintro m s h' ⟨i, u, C, rfl, fb, c0, c1, c4, ht⟩
 have hlo' : ¬ b < h'.lo := by rw [ht.lo]; exact hlo
 have gb := ht.get
 have cl := fb.len
 have ij := fb.ij
 have hu : u < 18446744073709551616 := by rw [fb.u]; have := Nat.div_le_self n (10 ^ (j - m)); omega
 have ia : ∀ (q : Nat) (h : Heap), q < j → r_ia 1 (.sl b 0 j 24 1) (.int .i64 (q : Int)) h = some (.ptr b q, h) := fun q h hq => by
  simp only [r_ia, asNatN, blt_dec, hq, decide_true, cond_true, Nat.mul_one, Nat.zero_add]
 by_cases q8 : 8 ≤ m
 case pos =>
  have q8' : (8 : Int) ≤ (m : Int) := by omega
  have sb : ∀ k : Nat, k ≤ m → k ≤ 8 → wr .i64 ((m : Int) - (k : Int)) = ((m - k : Nat) : Int) := fun k hk _ => by rw [wr_i64 (by omega) (by omega)]; omega
  have s1 : wr .i64 ((m : Int) - 1) = ((m - 1 : Nat) : Int) := sb 1 (by omega) (by omega)
  have s2 : wr .i64 ((m : Int) - 2) = ((m - 2 : Nat) : Int) := sb 2 (by omega) (by omega)
  have s3 : wr .i64 ((m : Int) - 3) = ((m - 3 : Nat) : Int) := sb 3 (by omega) (by omega)
  have s4 : wr .i64 ((m : Int) - 4) = ((m - 4 : Nat) : Int) := sb 4 (by omega) (by omega)
  have s5 : wr .i64 ((m : Int) - 5) = ((m - 5 : Nat) : Int) := sb 5 (by omega) (by omega)
  have s6 : wr .i64 ((m : Int) - 6) = ((m - 6 : Nat) : Int) := sb 6 (by omega) (by omega)
  have s7 : wr .i64 ((m : Int) - 7) = ((m - 7 : Nat) : Int) := sb 7 (by omega) (by omega)
  have s8 : wr .i64 ((m : Int) - 8) = ((m - 8 : Nat) : Int) := sb 8 (by omega) (by omega)
  have i1 := fun h => ia (m - 1) h (by omega)
  have i2 := fun h => ia (m - 2) h (by omega)
  have i3 := fun h => ia (m - 3) h (by omega)
  have i4 := fun h => ia (m - 4) h (by omega)
  have i5 := fun h => ia (m - 5) h (by omega)
  have i6 := fun h => ia (m - 6) h (by omega)
  have i7 := fun h => ia (m - 7) h (by omega)
  have i8 := fun h => ia (m - 8) h (by omega)
  obtain ⟨a, ha⟩ : ∃ a, u % 100000000 = a := ⟨_, rfl⟩
  obtain ⟨v, hv⟩ : ∃ v, a / 10000 = v := ⟨_, rfl⟩
  obtain ⟨w, hw⟩ : ∃ w, a % 10000 = w := ⟨_, rfl⟩
  obtain ⟨x8, h8⟩ : ∃ x, w / 100 = x := ⟨_, rfl⟩
  obtain ⟨x9, h9⟩ : ∃ x, w % 100 = x := ⟨_, rfl⟩
  obtain ⟨x10, h10⟩ : ∃ x, v / 100 = x := ⟨_, rfl⟩
  obtain ⟨x11, h11⟩ : ∃ x, v % 100 = x := ⟨_, rfl⟩
  have o1 : VE.binOp .rem (.int .u64 (u : Int)) (.int .u64 100000000) = some (.int .u64 (a : Int)) := by rw [← ha]; exact bn_rem (b := 100000000) (by decide)
  have o2 : wr .u32 (a : Int) = (a : Int) := by rw [wr_u32, Nat.mod_eq_of_lt (by omega)]
  have o3 : VE.binOp .quo (.int .u64 (u : Int)) (.int .u64 100000000) = some (.int .u64 ((u / 100000000 : Nat) : Int)) := bn_quo (b := 100000000) (by decide) hu
  have o4 : VE.binOp .quo (.int .u32 (a : Int)) (.int .u32 10000) = some (.int .u32 (v : Int)) := by rw [← hv]; exact ua_quo (b := 10000) (by decide) (by omega)
  have o5 : VE.binOp .rem (.int .u32 (a : Int)) (.int .u32 10000) = some (.int .u32 (w : Int)) := by rw [← hw]; exact ua_rem (b := 10000) (by decide)
  have o6 : VE.binOp .quo (.int .u32 (w : Int)) (.int .u32 100) = some (.int .u32 (x8 : Int)) := by rw [← h8]; exact ua_quo (b := 100) (by decide) (by omega)
  have o7 : VE.binOp .rem (.int .u32 (w : Int)) (.int .u32 100) = some (.int .u32 (x9 : Int)) := by rw [← h9]; exact ua_rem (b := 100) (by decide)
  have o8 : VE.binOp .quo (.int .u32 (v : Int)) (.int .u32 100) = some (.int .u32 (x10 : Int)) := by rw [← h10]; exact ua_quo (b := 100) (by decide) (by omega)
  have o9 : VE.binOp .rem (.int .u32 (v : Int)) (.int .u32 100) = some (.int .u32 (x11 : Int)) := by rw [← h11]; exact ua_rem (b := 100) (by decide)
  have p8 := ua_mul2 (a := x8) (by omega)
  have p9 := ua_mul2 (a := x9) (by omega)
  have p10 := ua_mul2 (a := x10) (by omega)
  have p11 := ua_mul2 (a := x11) (by omega)
  have ad : ∀ x : Nat, x < 100 → wr .u32 (((2 * x : Nat) : Int) + 1) = ((2 * x + 1 : Nat) : Int) := fun x hx => by
   have e : (((2 * x : Nat) : Int) + 1) = ((2 * x + 1 : Nat) : Int) := by omega
   rw [e, wr_u32, Nat.mod_eq_of_lt (by omega)]
  have r8 := ad x8 (by omega)
  have r9 := ad x9 (by omega)
  have r10 := ad x10 (by omega)
  have r11 := ad x11 (by omega)
  have t8 := fun h => (tab_at (x := x8) (by omega) h).1
  have t8' := fun h => (tab_at (x := x8) (by omega) h).2
  have t9 := fun h => (tab_at (x := x9) (by omega) h).1
  have t9' := fun h => (tab_at (x := x9) (by omega) h).2
  have t10 := fun h => (tab_at (x := x10) (by omega) h).1
  have t10' := fun h => (tab_at (x := x10) (by omega) h).2
  have t11 := fun h => (tab_at (x := x11) (by omega) h).1
  have t11' := fun h => (tab_at (x := x11) (by omega) h).2
  have dd : ∀ x y : Nat, x % 10 = y % 10 → dv x = dv y := fun x y e => by unfold dv; rw [e]
  rw [dd x9 u (by omega)] at t9
  rw [dd (x9 / 10) (u / 10) (by omega)] at t9'
  rw [dd x8 (u / 10 / 10) (by omega)] at t8
  rw [dd (x8 / 10) (u / 10 / 10 / 10) (by omega)] at t8'
  rw [dd x11 (u / 10 / 10 / 10 / 10) (by omega)] at t11
  rw [dd (x11 / 10) (u / 10 / 10 / 10 / 10 / 10) (by omega)] at t11'
  rw [dd x10 (u / 10 / 10 / 10 / 10 / 10 / 10) (by omega)] at t10
  rw [dd (x10 / 10) (u / 10 / 10 / 10 / 10 / 10 / 10 / 10) (by omega)] at t10'
  have cd : ∀ x, cellsO (dv x) = some [dv x] := fun x => rfl
  have od : ∀ x, oneCell (dv x) = true := fun x => rfl
  have g1 : m - 1 < 24 := by omega
  have g2 : m - 2 < 24 := by omega
  have g3 : m - 3 < 24 := by omega
  have g4 : m - 4 < 24 := by omega
  have g5 : m - 5 < 24 := by omega
  have g6 : m - 6 < 24 := by omega
  have g7 : m - 7 < 24 := by omega
  have g8 : m - 8 < 24 := by omega
  have fb' := (((((((fb.step (by omega) (by omega)).step (by omega) (by omega)).step (by omega) (by omega)).step (by omega) (by omega)).step (by omega) (by omega)).step (by omega) (by omega)).step (by omega) (by omega)).step (by omega) (by omega)
  simp only [Nat.sub_sub, Nat.reduceAdd] at fb'
  have eu : u / 10 / 10 / 10 / 10 / 10 / 10 / 10 / 10 = u / 100000000 := by omega
  rw [eu] at fb'
  simp only [↓zp, zz, zy, zq, seval, reduceIte, reduceCtorEq, c0, c1, c4, q8', o1, o2, o3, o4, o5, o6, o7, o8, o9, p8, p9, p10, p11, r8, r9, r10, r11, t8, t8', t9, t9', t10, t10', t11, t11', s1, s2, s3, s4, s5, s6, s7, s8, i1, i2, i3, i4, i5, i6, i7, i8, cd, od, gb, hlo', cl, over_set, List.length_set, g1, g2, g3, g4, g5, g6, g7, g8]
  exact ⟨m - 8, by omega, m - 8, u / 100000000, _, rfl, fb', by simp only [zs, Nat.reduceEqDiff, c0], by simp only [zs, Nat.reduceEqDiff], by simp only [zs, Nat.reduceEqDiff], At.set (At.set (At.set (At.set (At.set (At.set (At.set (At.set ht)))))))⟩
 have q8' : ¬ (8 : Int) ≤ (m : Int) := by omega
 have um : u < 10 ^ m := by
  have e : 10 ^ j = 10 ^ (j - m) * 10 ^ m := by rw [← Nat.pow_add]; congr 1; omega
  have := hj.2.1
  rw [e] at this
  rw [fb.u]
  exact Nat.div_lt_of_lt_mul this
 have um8 : u < 100000000 := Nat.lt_of_lt_of_le um (Nat.pow_le_pow_right (n := 10) (by decide) (by omega : m ≤ 8))
 have o0 : wr .u32 (u : Int) = (u : Int) := by rw [wr_u32, Nat.mod_eq_of_lt (by omega)]
 have dd : ∀ x y : Nat, x % 10 = y % 10 → dv x = dv y := fun x y e => by unfold dv; rw [e]
 have ad : ∀ x : Nat, x < 100 → wr .u32 (((2 * x : Nat) : Int) + 1) = ((2 * x + 1 : Nat) : Int) := fun x hx => by
  have e : (((2 * x : Nat) : Int) + 1) = ((2 * x + 1 : Nat) : Int) := by omega
  rw [e, wr_u32, Nat.mod_eq_of_lt (by omega)]
 have cd : ∀ x, cellsO (dv x) = some [dv x] := fun x => rfl
 have od : ∀ x, oneCell (dv x) = true := fun x => rfl
 have mm : m = 0 ∨ m = 1 ∨ m = 2 ∨ m = 3 ∨ m = 4 ∨ m = 5 ∨ m = 6 ∨ m = 7 := by omega
 rcases mm with rfl | rfl | rfl | rfl | rfl | rfl | rfl | rfl
 ·have c4 : Slots.at s 4 = .int .i64 0 := c4
  have u0 : u = 0 := by omega
  subst u0
  simp only [↓zp, zz, zy, zq, seval, reduceIte, reduceCtorEq, Int.reduceSub, c0, c1, c4, o0, cd, od, gb, hlo', cl, over_set, List.length_set]
  exact ⟨_, ht, fb⟩
 ·have c4 : Slots.at s 4 = .int .i64 1 := c4
  have i0 : ∀ h, r_ia 1 (.sl b 0 j 24 1) (.int .i64 0) h = some (.ptr b 0, h) := fun h => ia 0 h (by omega)
  have s0 : wr .i64 0 = 0 := rfl
  have l10 : u < 10 := by omega
  have w1 : wr .u32 (48 + (u : Int)) = ((48 + u : Nat) : Int) := by
   have e : (48 + (u : Int)) = ((48 + u : Nat) : Int) := by omega
   rw [e, wr_u32, Nat.mod_eq_of_lt (by omega)]
  have w2 : wr .u8 ((48 + u : Nat) : Int) = ((48 + u : Nat) : Int) := wr_u8 (by omega)
  have w3 : V.int .u8 ((48 + u : Nat) : Int) = dv (u) := by
   unfold dv
   have e : u = (u) % 10 := by omega
   rw [← e]
  have fb' := (fb.step (by omega) (by omega))
  have eu : u / 10 = 0 := by omega
  rw [eu] at fb'
  simp only [Nat.reduceSub] at fb'
  simp only [↓zp, zz, zy, zq, seval, reduceIte, reduceCtorEq, Int.reduceSub, c0, c1, c4, o0, cd, od, gb, hlo', cl, over_set, List.length_set, i0, s0, w1, w2, w3]
  exact ⟨_, At.set (ht), fb'⟩
 ·have c4 : Slots.at s 4 = .int .i64 2 := c4
  have i0 : ∀ h, r_ia 1 (.sl b 0 j 24 1) (.int .i64 0) h = some (.ptr b 0, h) := fun h => ia 0 h (by omega)
  have s0 : wr .i64 0 = 0 := rfl
  have i1 : ∀ h, r_ia 1 (.sl b 0 j 24 1) (.int .i64 1) h = some (.ptr b 1, h) := fun h => ia 1 h (by omega)
  have s1 : wr .i64 1 = 1 := rfl
  obtain ⟨z, hz⟩ : ∃ z, u % 100 = z := ⟨_, rfl⟩
  obtain ⟨l2, hl2⟩ : ∃ z, u / 100 = z := ⟨_, rfl⟩
  have o5 : VE.binOp .rem (.int .u32 (u : Int)) (.int .u32 100) = some (.int .u32 (z : Int)) := by rw [← hz]; exact ua_rem (b := 100) (by decide)
  have o6 : VE.binOp .quo (.int .u32 (u : Int)) (.int .u32 100) = some (.int .u32 (l2 : Int)) := by rw [← hl2]; exact ua_quo (b := 100) (by decide) (by omega)
  have p3 := ua_mul2 (a := z) (by omega)
  have r3 := ad z (by omega)
  have t5 := fun h => (tab_at (x := z) (by omega) h).1
  rw [dd z (u) (by omega)] at t5
  have t6 := fun h => (tab_at (x := z) (by omega) h).2
  rw [dd (z / 10) (u / 10) (by omega)] at t6
  have fb' := ((fb.step (by omega) (by omega)).step (by omega) (by omega))
  have eu : u / 10 / 10 = 0 := by omega
  rw [eu] at fb'
  simp only [Nat.reduceSub] at fb'
  simp only [↓zp, zz, zy, zq, seval, reduceIte, reduceCtorEq, Int.reduceSub, c0, c1, c4, o0, cd, od, gb, hlo', cl, over_set, List.length_set, i0, s0, i1, s1, o5, o6, p3, r3, t5, t6]
  exact ⟨_, At.set (At.set (ht)), fb'⟩
 ·have c4 : Slots.at s 4 = .int .i64 3 := c4
  have i0 : ∀ h, r_ia 1 (.sl b 0 j 24 1) (.int .i64 0) h = some (.ptr b 0, h) := fun h => ia 0 h (by omega)
  have s0 : wr .i64 0 = 0 := rfl
  have i1 : ∀ h, r_ia 1 (.sl b 0 j 24 1) (.int .i64 1) h = some (.ptr b 1, h) := fun h => ia 1 h (by omega)
  have s1 : wr .i64 1 = 1 := rfl
  have i2 : ∀ h, r_ia 1 (.sl b 0 j 24 1) (.int .i64 2) h = some (.ptr b 2, h) := fun h => ia 2 h (by omega)
  have s2 : wr .i64 2 = 2 := rfl
  obtain ⟨z, hz⟩ : ∃ z, u % 100 = z := ⟨_, rfl⟩
  obtain ⟨l2, hl2⟩ : ∃ z, u / 100 = z := ⟨_, rfl⟩
  have o5 : VE.binOp .rem (.int .u32 (u : Int)) (.int .u32 100) = some (.int .u32 (z : Int)) := by rw [← hz]; exact ua_rem (b := 100) (by decide)
  have o6 : VE.binOp .quo (.int .u32 (u : Int)) (.int .u32 100) = some (.int .u32 (l2 : Int)) := by rw [← hl2]; exact ua_quo (b := 100) (by decide) (by omega)
  have p3 := ua_mul2 (a := z) (by omega)
  have r3 := ad z (by omega)
  have t5 := fun h => (tab_at (x := z) (by omega) h).1
  rw [dd z (u) (by omega)] at t5
  have t6 := fun h => (tab_at (x := z) (by omega) h).2
  rw [dd (z / 10) (u / 10) (by omega)] at t6
  have l10 : l2 < 10 := by omega
  have w1 : wr .u32 (48 + (l2 : Int)) = ((48 + l2 : Nat) : Int) := by
   have e : (48 + (l2 : Int)) = ((48 + l2 : Nat) : Int) := by omega
   rw [e, wr_u32, Nat.mod_eq_of_lt (by omega)]
  have w2 : wr .u8 ((48 + l2 : Nat) : Int) = ((48 + l2 : Nat) : Int) := wr_u8 (by omega)
  have w3 : V.int .u8 ((48 + l2 : Nat) : Int) = dv (u / 10 / 10) := by
   unfold dv
   have e : l2 = (u / 10 / 10) % 10 := by omega
   rw [← e]
  have fb' := (((fb.step (by omega) (by omega)).step (by omega) (by omega)).step (by omega) (by omega))
  have eu : u / 10 / 10 / 10 = 0 := by omega
  rw [eu] at fb'
  simp only [Nat.reduceSub] at fb'
  simp only [↓zp, zz, zy, zq, seval, reduceIte, reduceCtorEq, Int.reduceSub, c0, c1, c4, o0, cd, od, gb, hlo', cl, over_set, List.length_set, i0, s0, i1, s1, i2, s2, o5, o6, p3, r3, t5, t6, w1, w2, w3]
  exact ⟨_, At.set (At.set (At.set (ht))), fb'⟩
 ·have c4 : Slots.at s 4 = .int .i64 4 := c4
  have i0 : ∀ h, r_ia 1 (.sl b 0 j 24 1) (.int .i64 0) h = some (.ptr b 0, h) := fun h => ia 0 h (by omega)
  have s0 : wr .i64 0 = 0 := rfl
  have i1 : ∀ h, r_ia 1 (.sl b 0 j 24 1) (.int .i64 1) h = some (.ptr b 1, h) := fun h => ia 1 h (by omega)
  have s1 : wr .i64 1 = 1 := rfl
  have i2 : ∀ h, r_ia 1 (.sl b 0 j 24 1) (.int .i64 2) h = some (.ptr b 2, h) := fun h => ia 2 h (by omega)
  have s2 : wr .i64 2 = 2 := rfl
  have i3 : ∀ h, r_ia 1 (.sl b 0 j 24 1) (.int .i64 3) h = some (.ptr b 3, h) := fun h => ia 3 h (by omega)
  have s3 : wr .i64 3 = 3 := rfl
  obtain ⟨a, ha⟩ : ∃ a, u % 10000 = a := ⟨_, rfl⟩
  obtain ⟨l1, hl1⟩ : ∃ a, u / 10000 = a := ⟨_, rfl⟩
  obtain ⟨x, hx⟩ : ∃ x, a / 100 = x := ⟨_, rfl⟩
  obtain ⟨y, hy⟩ : ∃ y, a % 100 = y := ⟨_, rfl⟩
  have o1 : VE.binOp .rem (.int .u32 (u : Int)) (.int .u32 10000) = some (.int .u32 (a : Int)) := by rw [← ha]; exact ua_rem (b := 10000) (by decide)
  have o2 : VE.binOp .quo (.int .u32 (u : Int)) (.int .u32 10000) = some (.int .u32 (l1 : Int)) := by rw [← hl1]; exact ua_quo (b := 10000) (by decide) (by omega)
  have o3 : VE.binOp .quo (.int .u32 (a : Int)) (.int .u32 100) = some (.int .u32 (x : Int)) := by rw [← hx]; exact ua_quo (b := 100) (by decide) (by omega)
  have o4 : VE.binOp .rem (.int .u32 (a : Int)) (.int .u32 100) = some (.int .u32 (y : Int)) := by rw [← hy]; exact ua_rem (b := 100) (by decide)
  have p1 := ua_mul2 (a := x) (by omega)
  have p2 := ua_mul2 (a := y) (by omega)
  have r1 := ad x (by omega)
  have r2 := ad y (by omega)
  have t1 := fun h => (tab_at (x := y) (by omega) h).1
  rw [dd y (u) (by omega)] at t1
  have t2 := fun h => (tab_at (x := y) (by omega) h).2
  rw [dd (y / 10) (u / 10) (by omega)] at t2
  have t3 := fun h => (tab_at (x := x) (by omega) h).1
  rw [dd x (u / 10 / 10) (by omega)] at t3
  have t4 := fun h => (tab_at (x := x) (by omega) h).2
  rw [dd (x / 10) (u / 10 / 10 / 10) (by omega)] at t4
  have fb' := ((((fb.step (by omega) (by omega)).step (by omega) (by omega)).step (by omega) (by omega)).step (by omega) (by omega))
  have eu : u / 10 / 10 / 10 / 10 = 0 := by omega
  rw [eu] at fb'
  simp only [Nat.reduceSub] at fb'
  simp only [↓zp, zz, zy, zq, seval, reduceIte, reduceCtorEq, Int.reduceSub, c0, c1, c4, o0, cd, od, gb, hlo', cl, over_set, List.length_set, i0, s0, i1, s1, i2, s2, i3, s3, o1, o2, o3, o4, p1, p2, r1, r2, t1, t2, t3, t4]
  exact ⟨_, At.set (At.set (At.set (At.set (ht)))), fb'⟩
 ·have c4 : Slots.at s 4 = .int .i64 5 := c4
  have i0 : ∀ h, r_ia 1 (.sl b 0 j 24 1) (.int .i64 0) h = some (.ptr b 0, h) := fun h => ia 0 h (by omega)
  have s0 : wr .i64 0 = 0 := rfl
  have i1 : ∀ h, r_ia 1 (.sl b 0 j 24 1) (.int .i64 1) h = some (.ptr b 1, h) := fun h => ia 1 h (by omega)
  have s1 : wr .i64 1 = 1 := rfl
  have i2 : ∀ h, r_ia 1 (.sl b 0 j 24 1) (.int .i64 2) h = some (.ptr b 2, h) := fun h => ia 2 h (by omega)
  have s2 : wr .i64 2 = 2 := rfl
  have i3 : ∀ h, r_ia 1 (.sl b 0 j 24 1) (.int .i64 3) h = some (.ptr b 3, h) := fun h => ia 3 h (by omega)
  have s3 : wr .i64 3 = 3 := rfl
  have i4 : ∀ h, r_ia 1 (.sl b 0 j 24 1) (.int .i64 4) h = some (.ptr b 4, h) := fun h => ia 4 h (by omega)
  have s4 : wr .i64 4 = 4 := rfl
  obtain ⟨a, ha⟩ : ∃ a, u % 10000 = a := ⟨_, rfl⟩
  obtain ⟨l1, hl1⟩ : ∃ a, u / 10000 = a := ⟨_, rfl⟩
  obtain ⟨x, hx⟩ : ∃ x, a / 100 = x := ⟨_, rfl⟩
  obtain ⟨y, hy⟩ : ∃ y, a % 100 = y := ⟨_, rfl⟩
  have o1 : VE.binOp .rem (.int .u32 (u : Int)) (.int .u32 10000) = some (.int .u32 (a : Int)) := by rw [← ha]; exact ua_rem (b := 10000) (by decide)
  have o2 : VE.binOp .quo (.int .u32 (u : Int)) (.int .u32 10000) = some (.int .u32 (l1 : Int)) := by rw [← hl1]; exact ua_quo (b := 10000) (by decide) (by omega)
  have o3 : VE.binOp .quo (.int .u32 (a : Int)) (.int .u32 100) = some (.int .u32 (x : Int)) := by rw [← hx]; exact ua_quo (b := 100) (by decide) (by omega)
  have o4 : VE.binOp .rem (.int .u32 (a : Int)) (.int .u32 100) = some (.int .u32 (y : Int)) := by rw [← hy]; exact ua_rem (b := 100) (by decide)
  have p1 := ua_mul2 (a := x) (by omega)
  have p2 := ua_mul2 (a := y) (by omega)
  have r1 := ad x (by omega)
  have r2 := ad y (by omega)
  have t1 := fun h => (tab_at (x := y) (by omega) h).1
  rw [dd y (u) (by omega)] at t1
  have t2 := fun h => (tab_at (x := y) (by omega) h).2
  rw [dd (y / 10) (u / 10) (by omega)] at t2
  have t3 := fun h => (tab_at (x := x) (by omega) h).1
  rw [dd x (u / 10 / 10) (by omega)] at t3
  have t4 := fun h => (tab_at (x := x) (by omega) h).2
  rw [dd (x / 10) (u / 10 / 10 / 10) (by omega)] at t4
  have l10 : l1 < 10 := by omega
  have w1 : wr .u32 (48 + (l1 : Int)) = ((48 + l1 : Nat) : Int) := by
   have e : (48 + (l1 : Int)) = ((48 + l1 : Nat) : Int) := by omega
   rw [e, wr_u32, Nat.mod_eq_of_lt (by omega)]
  have w2 : wr .u8 ((48 + l1 : Nat) : Int) = ((48 + l1 : Nat) : Int) := wr_u8 (by omega)
  have w3 : V.int .u8 ((48 + l1 : Nat) : Int) = dv (u / 10 / 10 / 10 / 10) := by
   unfold dv
   have e : l1 = (u / 10 / 10 / 10 / 10) % 10 := by omega
   rw [← e]
  have fb' := (((((fb.step (by omega) (by omega)).step (by omega) (by omega)).step (by omega) (by omega)).step (by omega) (by omega)).step (by omega) (by omega))
  have eu : u / 10 / 10 / 10 / 10 / 10 = 0 := by omega
  rw [eu] at fb'
  simp only [Nat.reduceSub] at fb'
  simp only [↓zp, zz, zy, zq, seval, reduceIte, reduceCtorEq, Int.reduceSub, c0, c1, c4, o0, cd, od, gb, hlo', cl, over_set, List.length_set, i0, s0, i1, s1, i2, s2, i3, s3, i4, s4, o1, o2, o3, o4, p1, p2, r1, r2, t1, t2, t3, t4, w1, w2, w3]
  exact ⟨_, At.set (At.set (At.set (At.set (At.set (ht))))), fb'⟩
 ·have c4 : Slots.at s 4 = .int .i64 6 := c4
  have i0 : ∀ h, r_ia 1 (.sl b 0 j 24 1) (.int .i64 0) h = some (.ptr b 0, h) := fun h => ia 0 h (by omega)
  have s0 : wr .i64 0 = 0 := rfl
  have i1 : ∀ h, r_ia 1 (.sl b 0 j 24 1) (.int .i64 1) h = some (.ptr b 1, h) := fun h => ia 1 h (by omega)
  have s1 : wr .i64 1 = 1 := rfl
  have i2 : ∀ h, r_ia 1 (.sl b 0 j 24 1) (.int .i64 2) h = some (.ptr b 2, h) := fun h => ia 2 h (by omega)
  have s2 : wr .i64 2 = 2 := rfl
  have i3 : ∀ h, r_ia 1 (.sl b 0 j 24 1) (.int .i64 3) h = some (.ptr b 3, h) := fun h => ia 3 h (by omega)
  have s3 : wr .i64 3 = 3 := rfl
  have i4 : ∀ h, r_ia 1 (.sl b 0 j 24 1) (.int .i64 4) h = some (.ptr b 4, h) := fun h => ia 4 h (by omega)
  have s4 : wr .i64 4 = 4 := rfl
  have i5 : ∀ h, r_ia 1 (.sl b 0 j 24 1) (.int .i64 5) h = some (.ptr b 5, h) := fun h => ia 5 h (by omega)
  have s5 : wr .i64 5 = 5 := rfl
  obtain ⟨a, ha⟩ : ∃ a, u % 10000 = a := ⟨_, rfl⟩
  obtain ⟨l1, hl1⟩ : ∃ a, u / 10000 = a := ⟨_, rfl⟩
  obtain ⟨x, hx⟩ : ∃ x, a / 100 = x := ⟨_, rfl⟩
  obtain ⟨y, hy⟩ : ∃ y, a % 100 = y := ⟨_, rfl⟩
  have o1 : VE.binOp .rem (.int .u32 (u : Int)) (.int .u32 10000) = some (.int .u32 (a : Int)) := by rw [← ha]; exact ua_rem (b := 10000) (by decide)
  have o2 : VE.binOp .quo (.int .u32 (u : Int)) (.int .u32 10000) = some (.int .u32 (l1 : Int)) := by rw [← hl1]; exact ua_quo (b := 10000) (by decide) (by omega)
  have o3 : VE.binOp .quo (.int .u32 (a : Int)) (.int .u32 100) = some (.int .u32 (x : Int)) := by rw [← hx]; exact ua_quo (b := 100) (by decide) (by omega)
  have o4 : VE.binOp .rem (.int .u32 (a : Int)) (.int .u32 100) = some (.int .u32 (y : Int)) := by rw [← hy]; exact ua_rem (b := 100) (by decide)
  have p1 := ua_mul2 (a := x) (by omega)
  have p2 := ua_mul2 (a := y) (by omega)
  have r1 := ad x (by omega)
  have r2 := ad y (by omega)
  have t1 := fun h => (tab_at (x := y) (by omega) h).1
  rw [dd y (u) (by omega)] at t1
  have t2 := fun h => (tab_at (x := y) (by omega) h).2
  rw [dd (y / 10) (u / 10) (by omega)] at t2
  have t3 := fun h => (tab_at (x := x) (by omega) h).1
  rw [dd x (u / 10 / 10) (by omega)] at t3
  have t4 := fun h => (tab_at (x := x) (by omega) h).2
  rw [dd (x / 10) (u / 10 / 10 / 10) (by omega)] at t4
  obtain ⟨z, hz⟩ : ∃ z, l1 % 100 = z := ⟨_, rfl⟩
  obtain ⟨l2, hl2⟩ : ∃ z, l1 / 100 = z := ⟨_, rfl⟩
  have o5 : VE.binOp .rem (.int .u32 (l1 : Int)) (.int .u32 100) = some (.int .u32 (z : Int)) := by rw [← hz]; exact ua_rem (b := 100) (by decide)
  have o6 : VE.binOp .quo (.int .u32 (l1 : Int)) (.int .u32 100) = some (.int .u32 (l2 : Int)) := by rw [← hl2]; exact ua_quo (b := 100) (by decide) (by omega)
  have p3 := ua_mul2 (a := z) (by omega)
  have r3 := ad z (by omega)
  have t5 := fun h => (tab_at (x := z) (by omega) h).1
  rw [dd z (u / 10 / 10 / 10 / 10) (by omega)] at t5
  have t6 := fun h => (tab_at (x := z) (by omega) h).2
  rw [dd (z / 10) (u / 10 / 10 / 10 / 10 / 10) (by omega)] at t6
  have fb' := ((((((fb.step (by omega) (by omega)).step (by omega) (by omega)).step (by omega) (by omega)).step (by omega) (by omega)).step (by omega) (by omega)).step (by omega) (by omega))
  have eu : u / 10 / 10 / 10 / 10 / 10 / 10 = 0 := by omega
  rw [eu] at fb'
  simp only [Nat.reduceSub] at fb'
  simp only [↓zp, zz, zy, zq, seval, reduceIte, reduceCtorEq, Int.reduceSub, c0, c1, c4, o0, cd, od, gb, hlo', cl, over_set, List.length_set, i0, s0, i1, s1, i2, s2, i3, s3, i4, s4, i5, s5, o1, o2, o3, o4, p1, p2, r1, r2, t1, t2, t3, t4, o5, o6, p3, r3, t5, t6]
  exact ⟨_, At.set (At.set (At.set (At.set (At.set (At.set (ht)))))), fb'⟩
 ·have c4 : Slots.at s 4 = .int .i64 7 := c4
  have i0 : ∀ h, r_ia 1 (.sl b 0 j 24 1) (.int .i64 0) h = some (.ptr b 0, h) := fun h => ia 0 h (by omega)
  have s0 : wr .i64 0 = 0 := rfl
  have i1 : ∀ h, r_ia 1 (.sl b 0 j 24 1) (.int .i64 1) h = some (.ptr b 1, h) := fun h => ia 1 h (by omega)
  have s1 : wr .i64 1 = 1 := rfl
  have i2 : ∀ h, r_ia 1 (.sl b 0 j 24 1) (.int .i64 2) h = some (.ptr b 2, h) := fun h => ia 2 h (by omega)
  have s2 : wr .i64 2 = 2 := rfl
  have i3 : ∀ h, r_ia 1 (.sl b 0 j 24 1) (.int .i64 3) h = some (.ptr b 3, h) := fun h => ia 3 h (by omega)
  have s3 : wr .i64 3 = 3 := rfl
  have i4 : ∀ h, r_ia 1 (.sl b 0 j 24 1) (.int .i64 4) h = some (.ptr b 4, h) := fun h => ia 4 h (by omega)
  have s4 : wr .i64 4 = 4 := rfl
  have i5 : ∀ h, r_ia 1 (.sl b 0 j 24 1) (.int .i64 5) h = some (.ptr b 5, h) := fun h => ia 5 h (by omega)
  have s5 : wr .i64 5 = 5 := rfl
  have i6 : ∀ h, r_ia 1 (.sl b 0 j 24 1) (.int .i64 6) h = some (.ptr b 6, h) := fun h => ia 6 h (by omega)
  have s6 : wr .i64 6 = 6 := rfl
  obtain ⟨a, ha⟩ : ∃ a, u % 10000 = a := ⟨_, rfl⟩
  obtain ⟨l1, hl1⟩ : ∃ a, u / 10000 = a := ⟨_, rfl⟩
  obtain ⟨x, hx⟩ : ∃ x, a / 100 = x := ⟨_, rfl⟩
  obtain ⟨y, hy⟩ : ∃ y, a % 100 = y := ⟨_, rfl⟩
  have o1 : VE.binOp .rem (.int .u32 (u : Int)) (.int .u32 10000) = some (.int .u32 (a : Int)) := by rw [← ha]; exact ua_rem (b := 10000) (by decide)
  have o2 : VE.binOp .quo (.int .u32 (u : Int)) (.int .u32 10000) = some (.int .u32 (l1 : Int)) := by rw [← hl1]; exact ua_quo (b := 10000) (by decide) (by omega)
  have o3 : VE.binOp .quo (.int .u32 (a : Int)) (.int .u32 100) = some (.int .u32 (x : Int)) := by rw [← hx]; exact ua_quo (b := 100) (by decide) (by omega)
  have o4 : VE.binOp .rem (.int .u32 (a : Int)) (.int .u32 100) = some (.int .u32 (y : Int)) := by rw [← hy]; exact ua_rem (b := 100) (by decide)
  have p1 := ua_mul2 (a := x) (by omega)
  have p2 := ua_mul2 (a := y) (by omega)
  have r1 := ad x (by omega)
  have r2 := ad y (by omega)
  have t1 := fun h => (tab_at (x := y) (by omega) h).1
  rw [dd y (u) (by omega)] at t1
  have t2 := fun h => (tab_at (x := y) (by omega) h).2
  rw [dd (y / 10) (u / 10) (by omega)] at t2
  have t3 := fun h => (tab_at (x := x) (by omega) h).1
  rw [dd x (u / 10 / 10) (by omega)] at t3
  have t4 := fun h => (tab_at (x := x) (by omega) h).2
  rw [dd (x / 10) (u / 10 / 10 / 10) (by omega)] at t4
  obtain ⟨z, hz⟩ : ∃ z, l1 % 100 = z := ⟨_, rfl⟩
  obtain ⟨l2, hl2⟩ : ∃ z, l1 / 100 = z := ⟨_, rfl⟩
  have o5 : VE.binOp .rem (.int .u32 (l1 : Int)) (.int .u32 100) = some (.int .u32 (z : Int)) := by rw [← hz]; exact ua_rem (b := 100) (by decide)
  have o6 : VE.binOp .quo (.int .u32 (l1 : Int)) (.int .u32 100) = some (.int .u32 (l2 : Int)) := by rw [← hl2]; exact ua_quo (b := 100) (by decide) (by omega)
  have p3 := ua_mul2 (a := z) (by omega)
  have r3 := ad z (by omega)
  have t5 := fun h => (tab_at (x := z) (by omega) h).1
  rw [dd z (u / 10 / 10 / 10 / 10) (by omega)] at t5
  have t6 := fun h => (tab_at (x := z) (by omega) h).2
  rw [dd (z / 10) (u / 10 / 10 / 10 / 10 / 10) (by omega)] at t6
  have l10 : l2 < 10 := by omega
  have w1 : wr .u32 (48 + (l2 : Int)) = ((48 + l2 : Nat) : Int) := by
   have e : (48 + (l2 : Int)) = ((48 + l2 : Nat) : Int) := by omega
   rw [e, wr_u32, Nat.mod_eq_of_lt (by omega)]
  have w2 : wr .u8 ((48 + l2 : Nat) : Int) = ((48 + l2 : Nat) : Int) := wr_u8 (by omega)
  have w3 : V.int .u8 ((48 + l2 : Nat) : Int) = dv (u / 10 / 10 / 10 / 10 / 10 / 10) := by
   unfold dv
   have e : l2 = (u / 10 / 10 / 10 / 10 / 10 / 10) % 10 := by omega
   rw [← e]
  have fb' := (((((((fb.step (by omega) (by omega)).step (by omega) (by omega)).step (by omega) (by omega)).step (by omega) (by omega)).step (by omega) (by omega)).step (by omega) (by omega)).step (by omega) (by omega))
  have eu : u / 10 / 10 / 10 / 10 / 10 / 10 / 10 = 0 := by omega
  rw [eu] at fb'
  simp only [Nat.reduceSub] at fb'
  simp only [↓zp, zz, zy, zq, seval, reduceIte, reduceCtorEq, Int.reduceSub, c0, c1, c4, o0, cd, od, gb, hlo', cl, over_set, List.length_set, i0, s0, i1, s1, i2, s2, i3, s3, i4, s4, i5, s5, i6, s6, o1, o2, o3, o4, p1, p2, r1, r2, t1, t2, t3, t4, o5, o6, p3, r3, t5, t6, w1, w2, w3]
  exact ⟨_, At.set (At.set (At.set (At.set (At.set (At.set (At.set (ht))))))), fb'⟩
end
end
section
open Go Go.VE Classical
theorem slca_at {b j T : Nat} {C : List V} {h : Heap} (hb : h.get b = .cells C (.ct T)) (hC : C.length = 24) (hj : j ≤ 24) : r_slca 24 1 (.ptr b 0) none (some (.int .i64 (j : Int))) none h = some (.sl b 0 j 24 1, h) := by
 have e1 : Nat.ble j 24 = true := by rw [ble_dec]; simp [hj]
 have e2 : Nat.ble 0 j = true := by rw [ble_dec]; simp
 simp only [r_slca, bound, asNatN, e1, cond_true, hb, Tag.opn, Bool.false_and, cond_false, hC]
 rfl
theorem FB.eq {n j : Nat} {C0 C : List V} (f : FB n j 0 0 C0 C) (hj : j ≤ 24) : C = bs (digs j n) ++ C.drop j := by
 apply List.ext_getElem?
 intro p
 rcases Nat.lt_or_ge p j with r | r
 ·rw [f.at_ p (by omega) r, List.getElem?_append_left (by rw [bs_len, digs_len]; exact r)]
  simp only [bs, List.getElem?_map, digs_at j n p r, Option.map_some, dg_nat]
  rfl
 ·rw [List.getElem?_append_right (by rw [bs_len, digs_len]; exact r), bs_len, digs_len, List.getElem?_drop]
  congr 1
  omega
section
variable {vp : Nat → Option VFn}
theorem ifmt_spec {f c1 c2 c3 c4 d1 d2 d3 t1 : Nat} (hf : vp f = some (B_internal_strconv_FormatUint_v2 c1 c2 c3 c4 t1)) (h1 : vp c1 = some B_internal_strconv_small) (h2 : vp c2 = some (B_internal_strconv_numDigits_v2 d1 d2 d3)) (h3 : vp c3 = some B_internal_strconv_formatBase10_v2) (g1 : vp d1 = some B_math_bits_Len64) (g2 : vp d2 = some B_internal_strconv_log10Pow2) (g3 : vp d3 = some B_internal_strconv_bool2_int)
  (n : Nat) (hn : n < 4294967296) (h : Heap) : ∃ j, IsLen n j ∧ callRes vp f [.int .u64 (n : Int), .int .i64 10] h = some (.str (digs j n), h) := by
 have m1 : modeOf vp c1 = some 1 := mo h1 rfl rfl
 have m2 : modeOf vp c2 = some 1 := mo h2 rfl rfl
 suffices q : ∃ r, callRes vp f [.int .u64 (n : Int), .int .i64 10] h = some (r, h) ∧ ∃ j, IsLen n j ∧ r = .str (digs j n) by
  obtain ⟨r, e, j, k, rfl⟩ := q
  exact ⟨j, k, e⟩
 refine res_pure_ex hf rfl rfl (fun g hg => ?_)
 have hlo := hlo hg
 unfold B_internal_strconv_FormatUint_v2
 by_cases q : n < 100
 ·have q' : (n : Int) < 100 := by omega
  have w : wr .i64 (n : Int) = (n : Int) := wr_i64 (by omega) (by omega)
  obtain ⟨j, hj, e⟩ := small_spec h1 n q g
  simp only [↓zp, zz, zy, zq, seval, reduceIte, reduceCtorEq, q', w, m1, e, frzS]
  exact ⟨j, hj, rfl⟩
 have q' : ¬ (n : Int) < 100 := by omega
 obtain ⟨G, hG⟩ : ∃ G, g.new (.cells (rep 24 [.int .u8 0]) (.ct t1)) = G := ⟨_, rfl⟩
 have gb : G.get g.nx = .cells (rep 24 [.int .u8 0]) (.ct t1) := by rw [← hG, Heap.get_new, if_pos rfl]
 have gl : ¬ g.nx < G.lo := by rw [← hG]; show ¬ g.nx < g.lo; omega
 have rl : (rep 24 [V.int .u8 0]).length = 24 := rfl
 obtain ⟨j, hj, e1⟩ := nd_spec h2 g1 g2 g3 n (by omega) hn G
 have j20 := IsLen.le20 (by omega : n < 18446744073709551616) hj.2.2
 obtain ⟨v, h', e2, C, at', fb⟩ := fm_spec h3 n j g.nx t1 (rep 24 [.int .u8 0]) G (by omega) hj j20 gb rl gl
 have s1 := slca_at gb rl (by omega : j ≤ 24)
 have s2 := slca_at at'.get fb.len (by omega : j ≤ 24)
 have e3 := eff_b2s (h := h') (b := g.nx) (n := j) (c := 24) (l := digs j n) (r := C.drop j) (tag := .ct t1) (by rw [← fb.eq (by omega)]; exact at'.get) (by rw [digs_len])
 simp only [↓zp, zz, zy, zq, seval, reduceIte, reduceCtorEq, q', hG, m2, e1, s1, e2, s2, e3, frzS]
 exact ⟨j, hj, rfl⟩
theorem fmt_spec {f c1 : Nat} (hf : vp f = some (B_strconv_FormatUint c1)) (m1 : modeOf vp c1 = some 1)
  (fm : ∀ n : Nat, n < 4294967296 → ∀ h : Heap, ∃ j, IsLen n j ∧ callRes vp c1 [.int .u64 (n : Int), .int .i64 10] h = some (.str (digs j n), h))
  (n : Nat) (hn : n < 4294967296) (h : Heap) : ∃ j, IsLen n j ∧ callRes vp f [.int .u64 (n : Int), .int .i64 10] h = some (.str (digs j n), h) := by
 suffices q : ∃ r, callRes vp f [.int .u64 (n : Int), .int .i64 10] h = some (r, h) ∧ ∃ j, IsLen n j ∧ r = .str (digs j n) by
  obtain ⟨r, e, j, k, rfl⟩ := q
  exact ⟨j, k, e⟩
 refine res_pure_ex hf rfl rfl (fun g hg => ?_)
 unfold B_strconv_FormatUint
 obtain ⟨j, hj, e⟩ := fm n hn g
 simp only [↓zp, zz, zy, zq, seval, reduceIte, reduceCtorEq, m1, e, frzS]
 exact ⟨j, hj, rfl⟩
end
structure Bl (bb : Nat) (s : List UInt8) (h : Heap) : Prop where
 nx : bb < h.nx
 lo : h.lo ≤ bb
 st : ∃ a v, h.get bb = .cells [a, v] (.ct 84) ∧ ((a = .nilp ∧ v = .nils ∧ s = []) ∨ (a = .ptr bb 0 ∧ ((v = .nils ∧ s = []) ∨ ∃ b, v = .sl b 0 s.length s.length 1 ∧ h.get b = .cells (bs s) (.ot 5) ∧ b ≠ bb ∧ h.lo ≤ b ∧ b < h.nx ∧ 0 < s.length)))
structure Kb (bb : Nat) (h h' : Heap) : Prop where
 lo : h'.lo = h.lo
 nx : h.nx ≤ h'.nx
 get : ∀ c, c < h.nx → c ≠ bb → (c < h.lo ∨ ∀ cs, h.get c ≠ .cells cs (.ot 5)) → h'.get c = h.get c
theorem bs_app (a b : List UInt8) : bs (a ++ b) = bs a ++ bs b := by simp [bs]
theorem bs_one : ∀ l : List UInt8, (bs l).all oneCell = true
 | [] => rfl
 | x :: l => by
  have := bs_one l
  simp only [bs] at this
  simp only [bs, List.map_cons, List.all_cons, this, Bool.and_true]
  rfl
section
variable {vp : Nat → Option VFn}
theorem cc_spec {f : Nat} (hf : vp f = some B_strings_Builder_copyCheck_v2) (bb : Nat) (s : List UInt8) (h : Heap) (hb : Bl bb s h) : ∃ v h', callRes vp f [.ptr bb 0] h = some (v, h') ∧ Bl bb s h' ∧ (∃ v, h'.get bb = .cells [.ptr bb 0, v] (.ct 84)) ∧ Kb bb h h' ∧ h'.nx = h.nx := by
 obtain ⟨nx, lo, a, v, hg, hs⟩ := hb
 refine res_raw hf rfl rfl ?_
 unfold B_strings_Builder_copyCheck_v2
 have hlo : ¬ bb < h.lo := by omega
 rcases hs with ⟨rfl, rfl, rfl⟩ | ⟨rfl, hs⟩
 ·have e1 : ∀ h, r_eqn false 0 .nilp .nilp h = some (.bool true, h) := fun _ => rfl
  have e2 : r_eff .up [.ptr bb 0] h = some (.ptr bb 0, h) := by
   show effV .up _ h = _
   simp only [effV, hg]
   rfl
  have e3 : ∀ h, r_pur .same [.ptr bb 0] h = some (.ptr bb 0, h) := fun _ => rfl
  have e4 : r_eff (.down 84 2) [.ptr bb 0] h = some (.ptr bb 0, h) := by
   show effV (.down 84 2) _ h = _
   simp only [effV, hg]
   rfl
  simp only [↓zp, zz, zy, zq, seval, reduceIte, reduceCtorEq, hg, e1, e2, e3, e4, hlo]
  refine ⟨⟨nx, lo, _, _, by rw [Heap.get_set, if_pos rfl], .inr ⟨rfl, .inl ⟨rfl, rfl⟩⟩⟩, ⟨_, rfl⟩, ⟨rfl, Nat.le_refl _, fun c hc hne _ => by rw [Heap.get_set, if_neg hne]⟩⟩
 ·have e1 : ∀ h, r_eqn false 0 (.ptr bb 0) .nilp h = some (.bool false, h) := fun _ => rfl
  have e2 : ∀ h, r_pur (.eqp true) [.ptr bb 0, .ptr bb 0] h = some (.bool false, h) := fun h => by
   have : Nat.beq bb bb = true := by rw [beq_dec]; simp
   show (pureV (.eqp true) _).map _ = _
   simp only [pureV, eqP, this, cond_true, Option.map_some]
   rfl
  simp only [↓zp, zz, zy, zq, seval, reduceIte, reduceCtorEq, hg, e1, e2]
  exact ⟨⟨nx, lo, _, _, hg, .inr ⟨rfl, hs⟩⟩, ⟨_, rfl⟩, ⟨rfl, Nat.le_refl _, fun c hc hne _ => rfl⟩⟩
theorem apps_nil {h : Heap} {x : List UInt8} (hx : 0 < x.length) (hn : x.length ≤ 1000000) : r_apps 5 1 .nils (.str x) h = some (.sl h.nx 0 x.length x.length 1, h.new (.cells (bs x) (.ot 5))) := by
 obtain ⟨n, e⟩ : ∃ n, x.length = n + 1 := ⟨x.length - 1, by omega⟩
 have h1 : Nat.blt 140737488355328 ((n + 1) * 1) = false := by rw [blt_dec]; simp; omega
 show appendV h (some 5) 1 1 .nils x.length (bs x) = _
 rw [e]
 simp only [appendV, h1, cond_false, tagN]
theorem apps_sl {h : Heap} {x s : List UInt8} {b : Nat} (hx : 0 < x.length) (hn : s.length + x.length ≤ 1000000) (hb : h.get b = .cells (bs s) (.ot 5)) (hlo : ¬ b < h.lo) :
  r_apps 5 1 (.sl b 0 s.length s.length 1) (.str x) h = some (.sl h.nx 0 (s.length + x.length) (s.length + x.length) 1, (h.set b .dead).new (.cells (bs s ++ bs x) (.ot 5))) := by
 obtain ⟨n, e⟩ : ∃ n, x.length = n + 1 := ⟨x.length - 1, by omega⟩
 have h1 : Nat.blt 140737488355328 (s.length + (n + 1)) = false := by rw [blt_dec]; exact decide_eq_false (by omega)
 have h2 : Nat.ble (s.length + (n + 1)) s.length = false := by rw [ble_dec]; simp
 have h3 : takeN s.length (bs s) = some (bs s) := by
  rw [← bs_len]
  exact takeN_self
 have h4 : Nat.beq (0 + s.length * 1) (bs s).length = true := by rw [beq_dec, bs_len]; simp
 have h5 : Nat.blt b h.lo = false := by rw [blt_dec]; simp; omega
 show appendV h (some 5) 1 1 (.sl b 0 s.length s.length 1) x.length (bs x) = _
 rw [e]
 have h6 : (bs x).all oneCell = true := bs_one x
 simp only [appendV, beq_dec, decide_true, cond_true, hb, h2, cond_false, h1, List.drop_zero, h3, Tag.opn, Bool.true_and, bs_len, Nat.zero_add, Nat.mul_one, h5, h6, Bool.not_true, Bool.or_self, tagM, Tag.ty]
theorem ws_spec {f c1 : Nat} (hf : vp f = some (B_strings_Builder_WriteString_v2 c1)) (h1 : vp c1 = some B_strings_Builder_copyCheck_v2) (bb : Nat) (s x : List UInt8) (hn : s.length + x.length ≤ 1000000) (h : Heap) (hb : Bl bb s h) : ∃ v h', callRes vp f [.ptr bb 0, .str x] h = some (v, h') ∧ Bl bb (s ++ x) h' ∧ Kb bb h h' := by
 obtain ⟨v1, H, e1, b1, ⟨w, gw⟩, k1, n1⟩ := cc_spec h1 bb s h hb
 refine res_raw hf rfl rfl ?_
 unfold B_strings_Builder_WriteString_v2
 obtain ⟨nx, lo, a, v, hg, hs⟩ := b1
 have hlo : ¬ bb < H.lo := by omega
 rw [gw] at hg
 injection hg with hg _
 injection hg with q1 q2
 injection q2 with q2 _
 subst q1
 subst q2
 have hs' : (w = .nils ∧ s = []) ∨ ∃ b, w = .sl b 0 s.length s.length 1 ∧ H.get b = .cells (bs s) (.ot 5) ∧ b ≠ bb ∧ H.lo ≤ b ∧ b < H.nx ∧ 0 < s.length := by
  rcases hs with ⟨q, _⟩ | ⟨_, hs⟩
  ·cases q
  ·exact hs
 clear hs
 have rl : ∀ h, r_lens (.str x) h = some (.int .i64 (x.length : Int), h) := fun _ => rfl
 by_cases hx : 0 < x.length
 case neg =>
  have hx0 : x = [] := List.length_eq_zero_iff.1 (by omega)
  subst hx0
  have ea : ∀ h, r_apps 5 1 w (.str []) h = some (w, h) := fun h => by
   rcases hs' with ⟨rfl, _⟩ | ⟨b, rfl, _⟩ <;> rfl
  have oc : oneCell w = true ∧ cellsO w = some [w] := by
   rcases hs' with ⟨rfl, _⟩ | ⟨b, rfl, _⟩ <;> exact ⟨rfl, rfl⟩
  simp only [↓zp, zz, zy, zq, seval, reduceIte, reduceCtorEq, e1, gw, ea, oc.1, oc.2, hlo, rl, List.append_nil]
  refine ⟨⟨nx, lo, _, _, by rw [Heap.get_set, if_pos rfl], .inr ⟨rfl, ?_⟩⟩, ⟨k1.lo, k1.nx, fun c hc hne hq => by rw [Heap.get_set, if_neg hne, k1.get c hc hne hq]⟩⟩
  rcases hs' with hs | ⟨b, e, g1, g2, g3, g4, g5⟩
  ·exact .inl hs
  ·exact .inr ⟨b, e, by rw [Heap.get_set, if_neg g2, g1], g2, g3, g4, g5⟩
 rcases hs' with ⟨rfl, rfl⟩ | ⟨b, rfl, g1, g2, g3, g4, g5⟩
 ·simp only [List.length_nil, Nat.zero_add] at hn
  have ea := apps_nil (h := H) hx hn
  have ne : ¬ bb = H.nx := by omega
  simp only [↓zp, zz, zy, zq, seval, reduceIte, reduceCtorEq, e1, gw, ea, ne, hlo, rl]
  refine ⟨⟨by simp only [Heap.set_nx, Heap.new_nx]; omega, lo, _, _, by rw [Heap.get_set, if_pos rfl], .inr ⟨rfl, .inr ⟨H.nx, rfl, by rw [Heap.get_set, if_neg (by omega), Heap.get_new, if_pos rfl], by omega, by show H.lo ≤ H.nx; omega, by simp only [Heap.set_nx, Heap.new_nx]; omega, hx⟩⟩⟩, ⟨k1.lo, by simp only [Heap.set_nx, Heap.new_nx]; have := k1.nx; omega, fun c hc hne hq => ?_⟩⟩
  rw [Heap.get_set, if_neg hne, Heap.get_new, if_neg (by have := k1.nx; omega), k1.get c hc hne hq]
 ·have ea := apps_sl (h := H) hx hn g1 (by omega)
  have ne : ¬ bb = H.nx := by omega
  have ne2 : ¬ bb = b := fun e => g2 e.symm
  simp only [↓zp, zz, zy, zq, seval, reduceIte, reduceCtorEq, e1, gw, ea, ne, ne2, hlo, rl]
  refine ⟨⟨by simp only [Heap.set_nx, Heap.new_nx]; omega, lo, _, _, by rw [Heap.get_set, if_pos rfl], .inr ⟨rfl, .inr ⟨H.nx, by rw [List.length_append], by rw [Heap.get_set, if_neg (by omega), Heap.get_new, if_pos (by rfl), bs_app], by omega, by show H.lo ≤ H.nx; omega, by simp only [Heap.set_nx, Heap.new_nx]; omega, by rw [List.length_append]; omega⟩⟩⟩, ⟨k1.lo, by simp only [Heap.set_nx, Heap.new_nx]; have := k1.nx; omega, fun c hc hne hq => ?_⟩⟩
  have k := k1.get c hc hne hq
  have cb : ¬ c = b := fun e => by
   subst e
   rw [g1] at k
   rcases hq with hq | hq
   ·have := k1.lo; omega
   ·exact hq _ k.symm
  rw [Heap.get_set, if_neg hne, Heap.get_new, if_neg (by show ¬ c = H.nx; have := k1.nx; omega), Heap.get_set, if_neg cb, k]
theorem str_spec {f : Nat} (hf : vp f = some B_strings_Builder_String_v2) (bb : Nat) (s : List UInt8) (hn : s.length ≤ 1000000) (h : Heap) (hb : Bl bb s h) : ∃ h', callRes vp f [.ptr bb 0] h = some (.str s, h') ∧ Kb bb h h' := by
 suffices q : ∃ v h', callRes vp f [.ptr bb 0] h = some (v, h') ∧ v = .str s ∧ Kb bb h h' by
  obtain ⟨v, h', e, rfl, k⟩ := q
  exact ⟨h', e, k⟩
 refine res_raw hf rfl rfl ?_
 unfold B_strings_Builder_String_v2
 obtain ⟨nx, lo, a, v, hg, hs⟩ := hb
 have hs' : (v = .nils ∧ s = []) ∨ ∃ b, v = .sl b 0 s.length s.length 1 ∧ h.get b = .cells (bs s) (.ot 5) ∧ b ≠ bb ∧ h.lo ≤ b ∧ b < h.nx ∧ 0 < s.length := by
  rcases hs with ⟨_, q⟩ | ⟨_, hs⟩
  ·exact .inl q
  ·exact hs
 clear hs
 rcases hs' with ⟨rfl, rfl⟩ | ⟨b, rfl, g1, g2, g3, g4, g5⟩
 ·have e1 : ∀ h, r_pur .usd [.nils] h = some (.nilp, h) := fun _ => rfl
  have e2 : ∀ h, r_len .nils h = some (.int .i64 0, h) := fun _ => rfl
  have e3 : ∀ h, r_eff (.ustr 5) [.nilp, .int .i64 0] h = some (.str [], h) := fun _ => rfl
  simp only [↓zp, zz, zy, zq, seval, reduceIte, reduceCtorEq, hg, e1, e2, e3]
  exact ⟨rfl, Nat.le_refl _, fun _ _ _ _ => rfl⟩
 ·obtain ⟨n, en⟩ : ∃ n, s.length = n + 1 := ⟨s.length - 1, by omega⟩
  have e1 : ∀ h, r_pur .usd [.sl b 0 s.length s.length 1] h = some (.ptr b 0, h) := fun h => by
   have : Nat.beq s.length 0 = false := by rw [beq_dec]; exact decide_eq_false (by omega)
   show (pureV .usd _).map _ = _
   simp only [pureV, this, cond_false, Option.map_some]
  have e2 : ∀ h, r_len (.sl b 0 s.length s.length 1) h = some (.int .i64 (s.length : Int), h) := fun _ => rfl
  have e3 : r_eff (.ustr 5) [.ptr b 0, .int .i64 (s.length : Int)] h = some (.str s, h.set b .dead) := by
   have h1 : Nat.blt b h.lo = false := by rw [blt_dec]; simpa using g3
   have h2 : Nat.blt n 9223372036854775807 = true := by rw [blt_dec]; simp; omega
   have h3 : takeN (n + 1) (bs s) = some (bs s) := by rw [← en, ← bs_len]; exact takeN_self
   rw [en]
   show effV (.ustr 5) [.ptr b 0, .int .i64 (.ofNat (n + 1))] h = _
   simp only [effV, g1, Tag.ty, beq_dec, decide_true, h1, h2, Bool.not_false, Bool.and_self, cond_true, h3, bytesS_bs, Option.map_some]
  simp only [↓zp, zz, zy, zq, seval, reduceIte, reduceCtorEq, hg, e1, e2, e3]
  refine ⟨rfl, Nat.le_refl _, fun c hc hne hq => by rw [Heap.get_set, if_neg (fun e => by
   subst e
   rcases hq with hq | hq
   ·omega
   ·exact hq _ g1)]⟩
end
end
end Go.VE.LB
