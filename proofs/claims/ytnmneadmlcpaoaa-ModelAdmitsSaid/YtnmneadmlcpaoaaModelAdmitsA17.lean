/- What the functions of the law ModelAdmits compute, on typed arguments (part 17). -/
import Derived.Test.YtnmneadmlcpaoaaModelAdmitsA16
set_option linter.all false
namespace Go.VE.LB
open Go Go.VE
set_option maxRecDepth 100000
set_option linter.all false
set_option maxHeartbeats 1000000
theorem chkB_ok {b : Bucket} (hb : bkBad b = false) : chkB b = 0 := by simp [chkB, hb]
theorem chkLim_ok {l : Limit} (hb : limBad l = false) : chkLim l = 0 := by simp [chkLim, hb]
/-- a full bucket -/
def fullB (l : Limit) (t : Int) : Bucket := mkB l l.b 0 t
theorem lim_b {l : Limit} (hl : limBad l = false) : l.b < 9223372036854775808 := by
  simp only [limBad, Bool.or_eq_false_iff, decide_eq_false_iff_not] at hl
  omega
theorem fullB_lv {l : Limit} {t : Int} (hl : limBad l = false) : (fullB l t).lv = l.b := mkB_lv (lim_b hl)
section
variable {vp : Nat → Option VFn}
theorem refill_spec {f c1 c2 cm co ca cd cs t1 t2 t3 cl : Nat} (hf : vp f = some (B_bucket_Refill c1 c2 t3)) (h1 : vp c1 = some (B_bucket_Check cl)) (hcl : vp cl = some B_bucket_CheckLimit) (h2 : vp c2 = some (B_bucket_fill cm co ca cd cs t1 t2)) (w : WOk vp cm co ca cd cs)
    (b : Bucket) (t : Int) (hb : bkBad b = false) (hbt : u64 b.t) (ht : u64 t) (h : Heap) :
    callRes vp f [.agg (encB b), .int .u64 t] h = some (.tup [.agg (encB (fillB b t)), .int .i64 0], h) := by
  have m1 : modeOf vp c1 = some 1 := by simp [modeOf, h1, B_bucket_Check]
  have m2 : modeOf vp c2 = some 1 := by simp [modeOf, h2, B_bucket_fill]
  have k1 : ∀ h, callRes vp c1 [.agg (encB b)] h = some (.int .i64 0, h) := fun h => by rw [bk_spec h1 hcl, chkB_ok hb]
  have k2 := fun h => bfill_spec h2 w b t hb hbt ht h
  refine res_pure hf rfl rfl (fun g hg => ?_)
  have hl := hlo hg
  have l1 : ¬ (g.nx + 1 < g.lo) := by omega
  unfold B_bucket_Refill
  generalize fillB b t = b' at *
  unfold encB at *
  simp only [↓zp, zz, true_and, and_true, chkOk, Nat.reduceEqDiff, Nat.reduceAdd, Nat.reduceSub, Nat.reduceMul, Nat.reduceLT, Nat.reduceLeDiff, Int.reduceLT, Int.reduceLE, Int.reduceEq, Int.reduceAdd, Int.reduceNeg, if_false, if_true, reduceIte, ags, LB.agz, agd, r_mv, r_pick, r_box, r_alloc, r_un, r_eqb, r_ext, r_mkf, r_cnv, r_st, r_nck, r_ix, r_iaa, takeN, agc, agn, VE.store, over, cellsAt, VE.part, agm, agb, blkX, gEval, cond_true, cond_false, r_build, r_bsl, fill, VE.unOp, r_bin, adz, ads, resOf, resVs, resV, alc, aln, reduceCtorEq, or_true, true_or, false_or, or_false, eq_self, exists_eq_left', Option.some.injEq, l1, m1, m2, k1, k2, frzTB6]
theorem filled_spec {f cm ca cd cc t1 t2 t3 t4 t5 c1 c2 t6 : Nat} (hf : vp f = some (B_spigotref03_Filled cm ca cd cc t1 t2)) (hm : vp cm = some (B_spigotref01_Mul t3)) (ha : vp ca = some (B_spigotref01_Add t4)) (hd : vp cd = some (B_spigotref01_Div c1 c2 t5)) (hc : vp cc = some B_spigotref01_Cmp) (h1 : vp c1 = some B_spigotref01_Cmp) (h2 : vp c2 = some (B_spigotref01_Less t6))
    (b : Bucket) (t : Int) (hb : bkBad b = false) (hbt : u64 b.t) (ht : u64 t) (h : Heap) :
    callRes vp f [.agg (encB b), .int .u64 t] h = some (.agg (encB (fillB b t)), h) := by
  have mm : modeOf vp cm = some 1 := by simp [modeOf, hm, B_spigotref01_Mul]
  have ma : modeOf vp ca = some 1 := by simp [modeOf, ha, B_spigotref01_Add]
  have md : modeOf vp cd = some 1 := by simp [modeOf, hd, B_spigotref01_Div]
  have mc : modeOf vp cc = some 1 := by simp [modeOf, hc, B_spigotref01_Cmp]
  obtain ⟨B, R, P, L, T, eB, eR, eP, eL, eT, v1, v2, v3, v4, v5, v6, v7, v8⟩ := bk_nat hb
  obtain ⟨N, eN⟩ := Int.eq_ofNat_of_zero_le hbt.1
  obtain ⟨U, eU⟩ := Int.eq_ofNat_of_zero_le ht.1
  have hN := hbt.2
  have hU := ht.2
  refine res_pure hf rfl rfl (fun g hg => ?_)
  have hl := hlo hg
  have l0 : ¬ (g.nx < g.lo) := by omega
  have l1 : ¬ (g.nx + 1 < g.lo) := by omega
  have l2 : ¬ (g.nx + 2 < g.lo) := by omega
  have l3 : ¬ (g.nx + 3 < g.lo) := by omega
  unfold B_spigotref03_Filled
  by_cases q0 : t < b.t
  · have q : t ≤ b.t := by omega
    rw [fillB, if_pos q]
    unfold encB
    simp only [↓zp, zz, true_and, and_true, chkOk, Nat.reduceEqDiff, Nat.reduceAdd, Nat.reduceSub, Nat.reduceMul, Nat.reduceLT, Nat.reduceLeDiff, Int.reduceLT, Int.reduceLE, Int.reduceEq, Int.reduceAdd, Int.reduceNeg, if_false, if_true, reduceIte, ags, LB.agz, agd, r_mv, r_pick, r_box, r_alloc, r_un, r_eqb, r_ext, r_mkf, r_cnv, r_st, r_nck, r_ix, r_iaa, takeN, agc, agn, VE.store, over, cellsAt, VE.part, agm, agb, blkX, gEval, cond_true, cond_false, r_build, r_bsl, fill, VE.unOp, r_bin, adz, ads, resOf, resVs, resV, alc, aln, reduceCtorEq, or_true, true_or, false_or, or_false, eq_self, exists_eq_left', Option.some.injEq, l1, q0, frzB6]
  have s1 : wr .u64 (t - b.t) = ((U - N : Nat) : Int) := by rw [eU, eN]; exact nu_sub (by omega) (by omega)
  have w1 : ∀ n : Nat, n ≤ 1000000000 → wr .u64 (n : Int) = (n : Int) := fun n hn => wr_ul (by omega)
  have bnd := mul_lt (U - N) R (by omega) v3
  have km := fun h => rmul_spec hm (U - N) R (by omega) (by omega) h
  have ka : ∀ h, callRes vp ca [.agg (wc ((U - N) * R)), .agg [.int .u64 0, .int .u64 (T : Int)]] h = some (.tup [.agg (wc ((U - N) * R + T)), .int .i64 0], h) := fun h => by
    have := radd_spec ha ((U - N) * R) T (by omega) h
    rw [wc_small (show T < 18446744073709551616 by omega)] at this
    exact this
  have kd := fun h => rdiv_spec hd h1 h2 ((U - N) * R + T) P (by omega) (by omega) (by omega) h
  have kc : ∀ h, callRes vp cc [.agg (wc (((U - N) * R + T) / P)), .agg [.int .u64 0, .int .u64 ((B - L : Nat) : Int)]] h = some (.int .i64 (cmpN (((U - N) * R + T) / P) (B - L)), h) := fun h => by
    have := cmp_spec hc (((U - N) * R + T) / P) (B - L) h
    rw [wc_small (show B - L < 18446744073709551616 by omega)] at this
    exact this
  have hr : ((U - N) * R + T) % P < P := Nat.mod_lt _ (by omega)
  have s2 : wr .i64 ((B : Int) - (L : Int)) = ((B - L : Nat) : Int) := by rw [wr_i64 (by omega) (by omega)]; omega
  generalize hX : (U - N) * R + T = X at *
  generalize hr' : X % P = rr at *
  generalize hq : X / P = qq at *
  have hfin : encB (fillB b t) = if B - L ≤ qq then [.int .i64 (B : Int), .int .i64 (R : Int), .int .i64 (P : Int), .int .i64 (B : Int), .int .i64 0, .int .u64 t] else [.int .i64 (B : Int), .int .i64 (R : Int), .int .i64 (P : Int), .int .i64 ((L : Int) + (qq : Int)), .int .i64 (rr : Int), .int .u64 t] := by
    by_cases q : t ≤ b.t
    · have e0 : t = b.t := by omega
      have hUN : U - N = 0 := by omega
      rw [hUN, Nat.zero_mul, Nat.zero_add] at hX
      rw [← hX, Nat.div_eq_of_lt v7] at hq
      rw [← hX, Nat.mod_eq_of_lt v7] at hr'
      rw [fillB, if_pos q, ← hq, ← hr', e0]
      unfold encB
      rw [eB, eR, eP, eL, eT]
      by_cases qc : B - L ≤ 0
      · have f1 : L = B := by omega
        rw [if_pos qc, v8 f1, f1]
        rfl
      · rw [if_neg qc]
        simp
    · rw [fillB, if_neg q]
      rw [eB, eR, eP, eL, eT, show (t - b.t) = ((U - N : Nat) : Int) by omega, show ((B : Int) - (L : Int)) = ((B - L : Nat) : Int) by omega]
      simp only [Int.toNat_natCast]
      rw [hX, hq, hr']
      by_cases qc : B - L ≤ qq
      · rw [if_pos qc, if_pos qc, encB_mk (show (B : Int) < 9223372036854775808 by omega), eB, eR, eP]
      · rw [if_neg qc, if_neg qc, encB_mk (show (L : Int) + (qq : Int) < 9223372036854775808 by omega), eB, eR, eP]
  rw [hfin]
  unfold wc at *
  by_cases qc : B - L ≤ qq
  · rw [if_pos qc]
    unfold encB
    rw [eB, eR, eP, eL, eT]
    simp only [↓zp, zz, true_and, and_true, chkOk, Nat.reduceEqDiff, Nat.reduceAdd, Nat.reduceSub, Nat.reduceMul, Nat.reduceLT, Nat.reduceLeDiff, Int.reduceLT, Int.reduceLE, Int.reduceEq, Int.reduceAdd, Int.reduceNeg, if_false, if_true, reduceIte, ags, LB.agz, agd, r_mv, r_pick, r_box, r_alloc, r_un, r_eqb, r_ext, r_mkf, r_cnv, r_st, r_nck, r_ix, r_iaa, takeN, agc, agn, VE.store, over, cellsAt, VE.part, agm, agb, blkX, gEval, cond_true, cond_false, r_build, r_bsl, fill, VE.unOp, r_bin, adz, ads, resOf, resVs, resV, alc, aln, reduceCtorEq, or_true, true_or, false_or, or_false, eq_self, exists_eq_left', Option.some.injEq, l0, l1, l2, l3, q0, eB, eR, eP, eL, eT, s1, w1 R (by omega), w1 T (by omega), w1 P (by omega), w1 (B - L) (by omega), mm, ma, md, mc, km, ka, kd, kc, s2, cmp_ge, qc, frzB6]
  · rw [if_neg qc]
    unfold encB
    rw [eB, eR, eP, eL, eT]
    have h3 : qq % 18446744073709551616 = qq := Nat.mod_eq_of_lt (by omega)
    have w3 : wr .i64 ((qq % 18446744073709551616 : Nat) : Int) = (qq : Int) := by rw [h3]; exact wr_i64 (by omega) (by omega)
    have w4 : wr .i64 (rr : Int) = (rr : Int) := wr_i64 (by omega) (by omega)
    have w5 : wr .i64 ((L : Int) + (qq : Int)) = (L : Int) + (qq : Int) := wr_i64 (by omega) (by omega)
    simp only [↓zp, zz, true_and, and_true, chkOk, Nat.reduceEqDiff, Nat.reduceAdd, Nat.reduceSub, Nat.reduceMul, Nat.reduceLT, Nat.reduceLeDiff, Int.reduceLT, Int.reduceLE, Int.reduceEq, Int.reduceAdd, Int.reduceNeg, if_false, if_true, reduceIte, ags, LB.agz, agd, r_mv, r_pick, r_box, r_alloc, r_un, r_eqb, r_ext, r_mkf, r_cnv, r_st, r_nck, r_ix, r_iaa, takeN, agc, agn, VE.store, over, cellsAt, VE.part, agm, agb, blkX, gEval, cond_true, cond_false, r_build, r_bsl, fill, VE.unOp, r_bin, adz, ads, resOf, resVs, resV, alc, aln, reduceCtorEq, or_true, true_or, false_or, or_false, eq_self, exists_eq_left', Option.some.injEq, l0, l1, l2, l3, q0, eB, eR, eP, eL, eT, s1, w1 R (by omega), w1 T (by omega), w1 P (by omega), w1 (B - L) (by omega), mm, ma, md, mc, km, ka, kd, kc, s2, cmp_ge, qc, w3, w4, w5, frzB6]
theorem full_spec {f c1 t1 : Nat} (hf : vp f = some (B_bucket_Full c1 t1)) (h1 : vp c1 = some B_bucket_CheckLimit) (l : Limit) (t : Int) (hl : limBad l = false) (h : Heap) :
    callRes vp f [.agg (encL l), .int .u64 t] h = some (.tup [.agg (encB (fullB l t)), .int .i64 0], h) := by
  have m1 : modeOf vp c1 = some 1 := by simp [modeOf, h1, B_bucket_CheckLimit]
  have k1 : ∀ h, callRes vp c1 [.agg [.int .i64 l.b, .int .i64 l.r, .int .i64 l.p]] h = some (.int .i64 0, h) := fun h => by rw [lim_spec h1, chkLim_ok hl]
  refine res_pure hf rfl rfl (fun g hg => ?_)
  have hl' := hlo hg
  have l1 : ¬ (g.nx + 1 < g.lo) := by omega
  rw [fullB, encB_mk (lim_b hl)]
  unfold B_bucket_Full encL
  simp only [↓zp, zz, true_and, and_true, chkOk, Nat.reduceEqDiff, Nat.reduceAdd, Nat.reduceSub, Nat.reduceMul, Nat.reduceLT, Nat.reduceLeDiff, Int.reduceLT, Int.reduceLE, Int.reduceEq, Int.reduceAdd, Int.reduceNeg, if_false, if_true, reduceIte, ags, LB.agz, agd, r_mv, r_pick, r_box, r_alloc, r_un, r_eqb, r_ext, r_mkf, r_cnv, r_st, r_nck, r_ix, r_iaa, takeN, agc, agn, VE.store, over, cellsAt, VE.part, agm, agb, blkX, gEval, cond_true, cond_false, r_build, r_bsl, fill, VE.unOp, r_bin, adz, ads, resOf, resVs, resV, alc, aln, reduceCtorEq, or_true, true_or, false_or, or_false, eq_self, exists_eq_left', Option.some.injEq, l1, m1, k1, frzTB6]
theorem full_spec2 {f c1 t1 : Nat} (hf : vp f = some (B_spigotref03_Full c1 t1)) (h1 : vp c1 = some B_spigotref03_CheckLimit) (l : Limit) (t : Int) (hl : limBad l = false) (h : Heap) :
    callRes vp f [.agg (encL l), .int .u64 t] h = some (.tup [.agg (encB (fullB l t)), .int .i64 0], h) := by
  have m1 : modeOf vp c1 = some 1 := by simp [modeOf, h1, B_spigotref03_CheckLimit]
  have k1 : ∀ h, callRes vp c1 [.agg [.int .i64 l.b, .int .i64 l.r, .int .i64 l.p]] h = some (.int .i64 0, h) := fun h => by rw [lim_spec2 h1, chkLim_ok hl]
  refine res_pure hf rfl rfl (fun g hg => ?_)
  have hl' := hlo hg
  have l1 : ¬ (g.nx + 1 < g.lo) := by omega
  rw [fullB, encB_mk (lim_b hl)]
  unfold B_spigotref03_Full encL
  simp only [↓zp, zz, true_and, and_true, chkOk, Nat.reduceEqDiff, Nat.reduceAdd, Nat.reduceSub, Nat.reduceMul, Nat.reduceLT, Nat.reduceLeDiff, Int.reduceLT, Int.reduceLE, Int.reduceEq, Int.reduceAdd, Int.reduceNeg, if_false, if_true, reduceIte, ags, LB.agz, agd, r_mv, r_pick, r_box, r_alloc, r_un, r_eqb, r_ext, r_mkf, r_cnv, r_st, r_nck, r_ix, r_iaa, takeN, agc, agn, VE.store, over, cellsAt, VE.part, agm, agb, blkX, gEval, cond_true, cond_false, r_build, r_bsl, fill, VE.unOp, r_bin, adz, ads, resOf, resVs, resV, alc, aln, reduceCtorEq, or_true, true_or, false_or, or_false, eq_self, exists_eq_left', Option.some.injEq, l1, m1, k1, frzTB6]
/-- the wait for a cost -/
def waitB (b : Bucket) (c : Int) : Int :=
  if c ≤ b.lv then 0
  else if b.l.b < c then 18446744073709551615
  else if b.l.r = 0 then 18446744073709551615
  else
    let m := (c - b.lv).toNat * b.l.p.toNat - b.pt.toNat
    let n := if m % b.l.r.toNat = 0 then m / b.l.r.toNat else m / b.l.r.toNat + 1
    if (18446744073709551615 - b.t).toNat < n then 18446744073709551615 else (n : Int)
theorem bwait_spec {f cc cl cm co cs cu ck t1 m1 t2 t3 t4 t5 d1 d2 d3 t6 o1 a1 : Nat} (hf : vp f = some (B_bucket_Wait cc cm co cs cu ck t1)) (hcc : vp cc = some (B_bucket_Check cl)) (hcl : vp cl = some B_bucket_CheckLimit)
    (hm1 : vp cm = some (B_wide_Mul m1 t2)) (hm2 : vp m1 = some B_math_bits_Mul64) (ho : vp co = some (B_wide_Of t3)) (hs : vp cs = some (B_wide_Sub t4))
    (hu : vp cu = some (B_wide_Up d1 o1 a1 t5)) (hd1 : vp d1 = some (B_wide_Div d2 t6)) (ho1 : ∃ t, vp o1 = some (B_wide_Of t)) (ha1 : ∃ t, vp a1 = some (B_wide_Add t)) (hd2 : vp d2 = some (B_math_bits_Div64 d3)) (hd3 : ∃ d4, vp d3 = some (B_math_bits_LeadingZeros64 d4) ∧ vp d4 = some B_math_bits_Len64)
    (hk : vp ck = some B_wide_Small) (b : Bucket) (c : Int) (hb : bkBad b = false) (hbt : u64 b.t) (hc0 : 0 ≤ c) (h : Heap) :
    callRes vp f [.agg (encB b), .int .i64 c] h = some (.tup [.int .u64 (waitB b c), .int .i64 0], h) := by
  obtain ⟨t7, ho1⟩ := ho1
  obtain ⟨t8, ha1⟩ := ha1
  obtain ⟨d4, hd3, hd4⟩ := hd3
  have mc : modeOf vp cc = some 1 := by simp [modeOf, hcc, B_bucket_Check]
  have mm : modeOf vp cm = some 1 := by simp [modeOf, hm1, B_wide_Mul]
  have mo : modeOf vp co = some 1 := by simp [modeOf, ho, B_wide_Of]
  have ms : modeOf vp cs = some 1 := by simp [modeOf, hs, B_wide_Sub]
  have mu : modeOf vp cu = some 1 := by simp [modeOf, hu, B_wide_Up]
  have mk : modeOf vp ck = some 1 := by simp [modeOf, hk, B_wide_Small]
  have kc : ∀ h, callRes vp cc [.agg (encB b)] h = some (.int .i64 0, h) := fun h => by rw [bk_spec hcc hcl, chkB_ok hb]
  obtain ⟨B, R, P, L, T, eB, eR, eP, eL, eT, v1, v2, v3, v4, v5, v6, v7, v8⟩ := bk_nat hb
  obtain ⟨N, eN⟩ := Int.eq_ofNat_of_zero_le hbt.1
  obtain ⟨C, eC⟩ := Int.eq_ofNat_of_zero_le hc0
  have hN := hbt.2
  refine res_pure hf rfl rfl (fun g hg => ?_)
  have hl := hlo hg
  have l1 : ¬ (g.nx + 1 < g.lo) := by omega
  have l2 : ¬ (g.nx + 2 < g.lo) := by omega
  have c0 : ¬ c < 0 := by omega
  unfold B_bucket_Wait
  by_cases q1 : c ≤ b.lv
  · rw [waitB, if_pos q1]
    unfold encB at *
    simp only [↓zp, zz, true_and, and_true, chkOk, Nat.reduceEqDiff, Nat.reduceAdd, Nat.reduceSub, Nat.reduceMul, Nat.reduceLT, Nat.reduceLeDiff, Int.reduceLT, Int.reduceLE, Int.reduceEq, Int.reduceAdd, Int.reduceNeg, if_false, if_true, reduceIte, ags, LB.agz, agd, r_mv, r_pick, r_box, r_alloc, r_un, r_eqb, r_ext, r_mkf, r_cnv, r_st, r_nck, r_ix, r_iaa, takeN, agc, agn, VE.store, over, cellsAt, VE.part, agm, agb, blkX, gEval, cond_true, cond_false, r_build, r_bsl, fill, VE.unOp, r_bin, adz, ads, resOf, resVs, resV, alc, aln, reduceCtorEq, or_true, true_or, false_or, or_false, eq_self, exists_eq_left', Option.some.injEq, mc, kc, c0, q1, frzT2]
  rw [waitB, if_neg q1]
  by_cases q2 : b.l.b < c
  · rw [if_pos q2]
    unfold encB at *
    simp only [↓zp, zz, true_and, and_true, chkOk, Nat.reduceEqDiff, Nat.reduceAdd, Nat.reduceSub, Nat.reduceMul, Nat.reduceLT, Nat.reduceLeDiff, Int.reduceLT, Int.reduceLE, Int.reduceEq, Int.reduceAdd, Int.reduceNeg, if_false, if_true, reduceIte, ags, LB.agz, agd, r_mv, r_pick, r_box, r_alloc, r_un, r_eqb, r_ext, r_mkf, r_cnv, r_st, r_nck, r_ix, r_iaa, takeN, agc, agn, VE.store, over, cellsAt, VE.part, agm, agb, blkX, gEval, cond_true, cond_false, r_build, r_bsl, fill, VE.unOp, r_bin, adz, ads, resOf, resVs, resV, alc, aln, reduceCtorEq, or_true, true_or, false_or, or_false, eq_self, exists_eq_left', Option.some.injEq, mc, kc, c0, q1, q2, frzT2]
  rw [if_neg q2]
  by_cases q3 : b.l.r = 0
  · rw [if_pos q3]
    have q3' := eq_true q3
    unfold encB at *
    simp only [↓zp, zz, true_and, and_true, chkOk, Nat.reduceEqDiff, Nat.reduceAdd, Nat.reduceSub, Nat.reduceMul, Nat.reduceLT, Nat.reduceLeDiff, Int.reduceLT, Int.reduceLE, Int.reduceEq, Int.reduceAdd, Int.reduceNeg, if_false, if_true, reduceIte, ags, LB.agz, agd, r_mv, r_pick, r_box, r_alloc, r_un, r_eqb, r_ext, r_mkf, r_cnv, r_st, r_nck, r_ix, r_iaa, takeN, agc, agn, VE.store, over, cellsAt, VE.part, agm, agb, blkX, gEval, cond_true, cond_false, r_build, r_bsl, fill, VE.unOp, r_bin, adz, ads, resOf, resVs, resV, alc, aln, reduceCtorEq, or_true, true_or, false_or, or_false, eq_self, exists_eq_left', Option.some.injEq, mc, kc, c0, q1, q2, q3', frzT2]
  rw [if_neg q3]
  subst eC
  have eb : encB b = [.int .i64 (B : Int), .int .i64 (R : Int), .int .i64 (P : Int), .int .i64 (L : Int), .int .i64 (T : Int), .int .u64 (N : Int)] := by
    unfold encB
    rw [eB, eR, eP, eL, eT, eN]
  rw [eb] at kc ⊢
  rw [eL] at q1 ⊢
  rw [eB] at q2
  rw [eR] at q3 ⊢
  rw [eP, eT]
  have eN : b.t = (N : Int) := eN
  rw [eN] at hN ⊢
  have hCL : L < C := by omega
  rw [show ((C : Int) - (L : Int)) = ((C - L : Nat) : Int) by omega, show (18446744073709551615 - (N : Int)) = ((18446744073709551615 - N : Nat) : Int) by omega]
  simp only [Int.toNat_natCast]
  have s1 : wr .i64 ((C : Int) - (L : Int)) = ((C - L : Nat) : Int) := by rw [wr_i64 (by omega) (by omega)]; omega
  have w1 : ∀ n : Nat, n ≤ 1000000000 → wr .u64 (n : Int) = (n : Int) := fun n hn => wr_ul (by omega)
  have s2 : wr .u64 (18446744073709551615 - (N : Int)) = ((18446744073709551615 - N : Nat) : Int) := nu_sub (a := 18446744073709551615) (by omega) (by decide)
  have hM : (C - L) * P ≤ 1000000000 * 1000000000 := Nat.mul_le_mul (by omega) v5
  have hM2 : 1 * P ≤ (C - L) * P := Nat.mul_le_mul_right _ (by omega)
  have km := fun h => wmul_spec hm1 hm2 (C - L) P (by omega) (by omega) h
  have ko := fun h => of_spec ho T (by omega) h
  have ksb := fun h => wsub_spec hs ((C - L) * P) T (by omega) (by omega) h
  have ku := fun h => wup_spec hu hd1 ho1 ha1 hd2 hd3 hd4 ((C - L) * P - T) R (by omega) (by omega) (by omega) h
  have hXb : (C - L) * P - T ≤ 1000000000000000000 := by omega
  generalize (C - L) * P - T = X at *
  have hn : (if X % R = 0 then X / R else X / R + 1) < 18446744073709551616 := by
    have : X / R ≤ X := Nat.div_le_self _ _
    split <;> omega
  generalize (if X % R = 0 then X / R else X / R + 1) = n at *
  have kk : ∀ h, callRes vp ck [.agg (wc n)] h = some (.tup [.int .u64 (n : Int), .int .i64 0], h) := fun h => by rw [small_spec hk n, if_pos hn]
  unfold wc at *
  by_cases qn : 18446744073709551615 - N < n
  · rw [if_pos qn]
    simp only [↓zp, zz, true_and, and_true, chkOk, Nat.reduceEqDiff, Nat.reduceAdd, Nat.reduceSub, Nat.reduceMul, Nat.reduceLT, Nat.reduceLeDiff, Int.reduceLT, Int.reduceLE, Int.reduceEq, Int.reduceAdd, Int.reduceNeg, if_false, if_true, reduceIte, ags, LB.agz, agd, r_mv, r_pick, r_box, r_alloc, r_un, r_eqb, r_ext, r_mkf, r_cnv, r_st, r_nck, r_ix, r_iaa, takeN, agc, agn, VE.store, over, cellsAt, VE.part, agm, agb, blkX, gEval, cond_true, cond_false, r_build, r_bsl, fill, VE.unOp, r_bin, adz, ads, resOf, resVs, resV, alc, aln, reduceCtorEq, or_true, true_or, false_or, or_false, eq_self, exists_eq_left', Option.some.injEq, mc, kc, c0, q1, q2, q3, l1, l2, mm, mo, ms, mu, mk, s1, w1 (C - L) (by omega), w1 P (by omega), w1 T (by omega), w1 R (by omega), km, ko, ksb, ku, kk, s2, bn_lt, qn, frzT2]
  · rw [if_neg qn]
    simp only [↓zp, zz, true_and, and_true, chkOk, Nat.reduceEqDiff, Nat.reduceAdd, Nat.reduceSub, Nat.reduceMul, Nat.reduceLT, Nat.reduceLeDiff, Int.reduceLT, Int.reduceLE, Int.reduceEq, Int.reduceAdd, Int.reduceNeg, if_false, if_true, reduceIte, ags, LB.agz, agd, r_mv, r_pick, r_box, r_alloc, r_un, r_eqb, r_ext, r_mkf, r_cnv, r_st, r_nck, r_ix, r_iaa, takeN, agc, agn, VE.store, over, cellsAt, VE.part, agm, agb, blkX, gEval, cond_true, cond_false, r_build, r_bsl, fill, VE.unOp, r_bin, adz, ads, resOf, resVs, resV, alc, aln, reduceCtorEq, or_true, true_or, false_or, or_false, eq_self, exists_eq_left', Option.some.injEq, mc, kc, c0, q1, q2, q3, l1, l2, mm, mo, ms, mu, mk, s1, w1 (C - L) (by omega), w1 P (by omega), w1 T (by omega), w1 R (by omega), km, ko, ksb, ku, kk, s2, bn_lt, qn, frzT2]
end
end Go.VE.LB
