/- What the functions of the law ModelAdmits compute, on typed arguments (part 16). -/
import Derived.Test.YtnmneadmlcpaoaaModelAdmitsA15
set_option linter.all false
namespace Go.VE.LB
open Go Go.VE
set_option maxRecDepth 100000
set_option linter.all false
set_option maxHeartbeats 1000000
def mkB (l : Limit) (lv pt t : Int) : Bucket := ⟨l, if lv < 9223372036854775808 then lv else 0, pt, t, by split <;> omega⟩
theorem mkB_lv {l : Limit} {lv pt t : Int} (h : lv < 9223372036854775808) : (mkB l lv pt t).lv = lv := if_pos h
theorem encB_mk {l : Limit} {lv pt t : Int} (h : lv < 9223372036854775808) : encB (mkB l lv pt t) = [.int .i64 l.b, .int .i64 l.r, .int .i64 l.p, .int .i64 lv, .int .i64 pt, .int .u64 t] := by
  unfold encB
  rw [mkB_lv h]
  rfl
/-- a valid bucket, refilled -/
def fillB (b : Bucket) (t : Int) : Bucket :=
  if t ≤ b.t then b
  else if (b.l.b - b.lv).toNat ≤ ((t - b.t).toNat * b.l.r.toNat + b.pt.toNat) / b.l.p.toNat then mkB b.l b.l.b 0 t
  else mkB b.l (b.lv + (((t - b.t).toNat * b.l.r.toNat + b.pt.toNat) / b.l.p.toNat : Nat)) (((t - b.t).toNat * b.l.r.toNat + b.pt.toNat) % b.l.p.toNat : Nat) t
/-- a number of 64 bits without sign -/
def u64 (t : Int) : Prop := 0 ≤ t ∧ t < 18446744073709551616
theorem bk_nat {b : Bucket} (hb : bkBad b = false) : ∃ B R P L T : Nat, b.l.b = B ∧ b.l.r = R ∧ b.l.p = P ∧ b.lv = L ∧ b.pt = T ∧ 1 ≤ B ∧ B ≤ 1000000000 ∧ R ≤ 1000000000 ∧ 1 ≤ P ∧ P ≤ 1000000000 ∧ L ≤ B ∧ T < P ∧ (L = B → T = 0) := by
  simp only [bkBad, limBad, Bool.or_eq_false_iff, Bool.and_eq_false_iff, decide_eq_false_iff_not, Bool.not_eq_false', decide_eq_true_eq] at hb
  obtain ⟨⟨a1, a2, a3, a4, a5, a6⟩, a7, a8, a9, a10, a11⟩ := hb
  refine ⟨b.l.b.toNat, b.l.r.toNat, b.l.p.toNat, b.lv.toNat, b.pt.toNat, by omega, by omega, by omega, by omega, by omega, by omega, by omega, by omega, by omega, by omega, by omega, by omega, fun h => ?_⟩
  rcases a11 with q | q
  · exact absurd (by omega) q
  · omega
theorem frzB6 {h : Heap} {b : Nat} {a1 a2 a3 a4 a5 a6 : Int} : frz frzFuel h b false (.agg [.int .i64 a1, .int .i64 a2, .int .i64 a3, .int .i64 a4, .int .i64 a5, .int .u64 a6]) = some (.agg [.int .i64 a1, .int .i64 a2, .int .i64 a3, .int .i64 a4, .int .i64 a5, .int .u64 a6]) := rfl
theorem frzTB6 {h : Heap} {b : Nat} {a1 a2 a3 a4 a5 a6 e : Int} : frz frzFuel h b false (.tup [.agg [.int .i64 a1, .int .i64 a2, .int .i64 a3, .int .i64 a4, .int .i64 a5, .int .u64 a6], .int .i64 e]) = some (.tup [.agg [.int .i64 a1, .int .i64 a2, .int .i64 a3, .int .i64 a4, .int .i64 a5, .int .u64 a6], .int .i64 e]) := rfl
section
variable {vp : Nat → Option VFn}
/-- what a call of wide numbers is -/
structure WOk (vp : Nat → Option VFn) (cm co ca cd cs : Nat) : Prop where
  m : ∃ c1 t1, vp cm = some (B_wide_Mul c1 t1) ∧ vp c1 = some B_math_bits_Mul64
  o : ∃ t1, vp co = some (B_wide_Of t1)
  a : ∃ t1, vp ca = some (B_wide_Add t1)
  d : ∃ c1 c2 c3 t1, vp cd = some (B_wide_Div c1 t1) ∧ vp c1 = some (B_math_bits_Div64 c2) ∧ vp c2 = some (B_math_bits_LeadingZeros64 c3) ∧ vp c3 = some B_math_bits_Len64
  s : vp cs = some B_wide_Small
theorem mul_lt (D R : Nat) (hD : D < 18446744073709551616) (hR : R ≤ 1000000000) : D * R + 1000000000 < 85070591730234615865843651857942052864 := by
  have : D * R ≤ 18446744073709551616 * 1000000000 := Nat.mul_le_mul (by omega) hR
  omega
theorem bfill_spec {f cm co ca cd cs t1 t2 : Nat} (hf : vp f = some (B_bucket_fill cm co ca cd cs t1 t2)) (w : WOk vp cm co ca cd cs) (b : Bucket) (t : Int) (hb : bkBad b = false) (hbt : u64 b.t) (ht : u64 t) (h : Heap) :
    callRes vp f [.agg (encB b), .int .u64 t] h = some (.agg (encB (fillB b t)), h) := by
  obtain ⟨⟨m1, m2, hm1, hm2⟩, ⟨o1, ho1⟩, ⟨a1, ha1⟩, ⟨d1, d2, d3, d4, hd1, hd2, hd3, hd4⟩, hs⟩ := w
  have mm : modeOf vp cm = some 1 := by simp [modeOf, hm1, B_wide_Mul]
  have mo : modeOf vp co = some 1 := by simp [modeOf, ho1, B_wide_Of]
  have ma : modeOf vp ca = some 1 := by simp [modeOf, ha1, B_wide_Add]
  have md : modeOf vp cd = some 1 := by simp [modeOf, hd1, B_wide_Div]
  have ms : modeOf vp cs = some 1 := by simp [modeOf, hs, B_wide_Small]
  obtain ⟨B, R, P, L, T, eB, eR, eP, eL, eT, v1, v2, v3, v4, v5, v6, v7, v8⟩ := bk_nat hb
  obtain ⟨N, eN⟩ := Int.eq_ofNat_of_zero_le hbt.1
  obtain ⟨U, eU⟩ := Int.eq_ofNat_of_zero_le ht.1
  have hN := hbt.2
  have hU := ht.2
  refine res_pure hf rfl rfl (fun g hg => ?_)
  have hl := hlo hg
  have l0 : ¬ (g.nx < g.lo) := by omega
  have l1 : ¬ (g.nx + 1 < g.lo) := by omega
  have l2 : ¬ (g.nx + 2 < g.lo) := by omega
  have l3 : ¬ (g.nx + 3 < g.lo) := by omega
  unfold B_bucket_fill
  by_cases q : t ≤ b.t
  · rw [fillB, if_pos q]
    unfold encB
    simp only [↓zp, zz, true_and, and_true, chkOk, Nat.reduceEqDiff, Nat.reduceAdd, Nat.reduceSub, Nat.reduceMul, Nat.reduceLT, Nat.reduceLeDiff, Int.reduceLT, Int.reduceLE, Int.reduceEq, Int.reduceAdd, Int.reduceNeg, if_false, if_true, reduceIte, ags, LB.agz, agd, r_mv, r_pick, r_box, r_alloc, r_un, r_eqb, r_ext, r_mkf, r_cnv, r_st, r_nck, r_ix, r_iaa, takeN, agc, agn, VE.store, over, cellsAt, VE.part, agm, agb, blkX, gEval, cond_true, cond_false, r_build, r_bsl, fill, VE.unOp, r_bin, adz, ads, resOf, resVs, resV, alc, aln, reduceCtorEq, or_true, true_or, false_or, or_false, eq_self, exists_eq_left', Option.some.injEq, l1, q, frzB6]
  rw [fillB, if_neg q]
  rw [eB, eR, eP, eL, eT, show (t - b.t) = ((U - N : Nat) : Int) by omega, show ((B : Int) - (L : Int)) = ((B - L : Nat) : Int) by omega]
  simp only [Int.toNat_natCast]
  have s1 : wr .u64 (t - b.t) = ((U - N : Nat) : Int) := by rw [eU, eN]; exact nu_sub (by omega) (by omega)
  have w1 : ∀ n : Nat, n ≤ 1000000000 → wr .u64 (n : Int) = (n : Int) := fun n hn => wr_ul (by omega)
  have bnd := mul_lt (U - N) R (by omega) v3
  have km := fun h => wmul_spec hm1 hm2 (U - N) R (by omega) (by omega) h
  have ko := fun h => of_spec ho1 T (by omega) h
  have ka := fun h => wadd_spec ha1 ((U - N) * R) T (by omega) h
  have kd := fun h => wdiv_spec hd1 hd2 hd3 hd4 ((U - N) * R + T) P (by omega) (by omega) (by omega) h
  have ks := fun h => small_spec hs (((U - N) * R + T) / P) h
  have hr : ((U - N) * R + T) % P < P := Nat.mod_lt _ (by omega)
  generalize hX : (U - N) * R + T = X at *
  generalize hr' : X % P = rr at *
  generalize hq : X / P = qq at *
  have s2 : wr .i64 ((B : Int) - (L : Int)) = ((B - L : Nat) : Int) := by rw [wr_i64 (by omega) (by omega)]; omega
  unfold wc at *
  by_cases qs : qq < 18446744073709551616
  · have ks2 : ∀ h, callRes vp cs [.agg [.int .u64 ((qq / 18446744073709551616 : Nat) : Int), .int .u64 ((qq % 18446744073709551616 : Nat) : Int)]] h = some (.tup [.int .u64 (qq : Int), .int .i64 0], h) := fun h => by rw [ks, if_pos qs]
    by_cases qc : B - L ≤ qq
    · rw [if_pos qc]
      rw [encB_mk (show (B : Int) < 9223372036854775808 by omega)]
      unfold encB
      rw [eB, eR, eP, eL, eT]
      simp only [↓zp, zz, true_and, and_true, chkOk, Nat.reduceEqDiff, Nat.reduceAdd, Nat.reduceSub, Nat.reduceMul, Nat.reduceLT, Nat.reduceLeDiff, Int.reduceLT, Int.reduceLE, Int.reduceEq, Int.reduceAdd, Int.reduceNeg, if_false, if_true, reduceIte, ags, LB.agz, agd, r_mv, r_pick, r_box, r_alloc, r_un, r_eqb, r_ext, r_mkf, r_cnv, r_st, r_nck, r_ix, r_iaa, takeN, agc, agn, VE.store, over, cellsAt, VE.part, agm, agb, blkX, gEval, cond_true, cond_false, r_build, r_bsl, fill, VE.unOp, r_bin, adz, ads, resOf, resVs, resV, alc, aln, reduceCtorEq, or_true, true_or, false_or, or_false, eq_self, exists_eq_left', Option.some.injEq, l0, l1, l2, l3, q, eB, eR, eP, eL, eT, s1, w1 R (by omega), w1 T (by omega), w1 P (by omega), mm, mo, ma, md, ms, km, ko, ka, kd, ks2, s2, w1 (B - L) (by omega), bn_le, qc, frzB6]
    · rw [if_neg qc]
      rw [encB_mk (show (L : Int) + (qq : Int) < 9223372036854775808 by omega)]
      unfold encB
      rw [eB, eR, eP, eL, eT]
      have w3 : wr .i64 (qq : Int) = (qq : Int) := wr_i64 (by omega) (by omega)
      have w4 : wr .i64 (rr : Int) = (rr : Int) := wr_i64 (by omega) (by omega)
      have w5 : wr .i64 ((L : Int) + (qq : Int)) = (L : Int) + (qq : Int) := wr_i64 (by omega) (by omega)
      simp only [↓zp, zz, true_and, and_true, chkOk, Nat.reduceEqDiff, Nat.reduceAdd, Nat.reduceSub, Nat.reduceMul, Nat.reduceLT, Nat.reduceLeDiff, Int.reduceLT, Int.reduceLE, Int.reduceEq, Int.reduceAdd, Int.reduceNeg, if_false, if_true, reduceIte, ags, LB.agz, agd, r_mv, r_pick, r_box, r_alloc, r_un, r_eqb, r_ext, r_mkf, r_cnv, r_st, r_nck, r_ix, r_iaa, takeN, agc, agn, VE.store, over, cellsAt, VE.part, agm, agb, blkX, gEval, cond_true, cond_false, r_build, r_bsl, fill, VE.unOp, r_bin, adz, ads, resOf, resVs, resV, alc, aln, reduceCtorEq, or_true, true_or, false_or, or_false, eq_self, exists_eq_left', Option.some.injEq, l0, l1, l2, l3, q, eB, eR, eP, eL, eT, s1, w1 R (by omega), w1 T (by omega), w1 P (by omega), mm, mo, ma, md, ms, km, ko, ka, kd, ks2, s2, w1 (B - L) (by omega), bn_le, qc, w3, w4, w5, frzB6]
  · have ks2 : ∀ h, callRes vp cs [.agg [.int .u64 ((qq / 18446744073709551616 : Nat) : Int), .int .u64 ((qq % 18446744073709551616 : Nat) : Int)]] h = some (.tup [.int .u64 0, .int .i64 16], h) := fun h => by rw [ks, if_neg qs]
    have qc : B - L ≤ qq := by omega
    rw [if_pos qc]
    rw [encB_mk (show (B : Int) < 9223372036854775808 by omega)]
    unfold encB
    rw [eB, eR, eP, eL, eT]
    simp only [↓zp, zz, true_and, and_true, chkOk, Nat.reduceEqDiff, Nat.reduceAdd, Nat.reduceSub, Nat.reduceMul, Nat.reduceLT, Nat.reduceLeDiff, Int.reduceLT, Int.reduceLE, Int.reduceEq, Int.reduceAdd, Int.reduceNeg, if_false, if_true, reduceIte, ags, LB.agz, agd, r_mv, r_pick, r_box, r_alloc, r_un, r_eqb, r_ext, r_mkf, r_cnv, r_st, r_nck, r_ix, r_iaa, takeN, agc, agn, VE.store, over, cellsAt, VE.part, agm, agb, blkX, gEval, cond_true, cond_false, r_build, r_bsl, fill, VE.unOp, r_bin, adz, ads, resOf, resVs, resV, alc, aln, reduceCtorEq, or_true, true_or, false_or, or_false, eq_self, exists_eq_left', Option.some.injEq, l0, l1, l2, l3, q, eB, eR, eP, eL, eT, s1, w1 R (by omega), w1 T (by omega), w1 P (by omega), mm, mo, ma, md, ms, km, ko, ka, kd, ks2, s2, frzB6]
end
end Go.VE.LB
