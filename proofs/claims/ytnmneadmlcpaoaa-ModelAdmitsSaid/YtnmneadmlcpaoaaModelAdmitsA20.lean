/- What the functions of the law ModelAdmits compute, on typed arguments (part 20). -/
import Derived.Test.YtnmneadmlcpaoaaModelAdmitsA19
set_option linter.all false
namespace Go.VE.LB
open Go Go.VE
set_option maxRecDepth 100000
set_option linter.all false
set_option maxHeartbeats 2000000
section
variable {vp : Nat → Option VFn}
/-- what a pure function's heap keeps of a caller's blocks -/
theorem hg_keep {h g : Heap} {args : List V} (hg : (g = h0 ∧ isoArgs 1 args = some args) ∨ (g.nx = h.nx ∧ g.lo = h.nx ∧ ∀ b, g.get b = h.get b)) (hn : isoArgs 1 args = none) : g.nx = h.nx ∧ g.lo = h.nx ∧ ∀ b, g.get b = h.get b := by
  rcases hg with ⟨_, q⟩ | q
  · rw [hn] at q; cases q
  · exact q
theorem hold1_spec {f : Nat} (hf : vp f = some B_levels_holds_fn1) (x : Bucket) (c : Int) (b : Nat) (tag : Tag) (h : Heap) (hb : h.get b = .cells [.int .i64 c] tag) (hlt : b < h.nx) : callRes vp f [.agg (encB x), .ptr b 0] h = some (.bool (decide (x.lv < c)), h) := by
  refine res_pure hf rfl rfl (fun g hg => ?_)
  obtain ⟨g1, g2, g3⟩ := hg_keep hg (by rfl)
  have hb' : g.get b = .cells [.int .i64 c] tag := by rw [g3, hb]
  have hne : ¬ b = g.nx := by omega
  unfold B_levels_holds_fn1 encB
  simp only [↓zp, zz, true_and, and_true, chkOk, Nat.reduceEqDiff, Nat.reduceAdd, Nat.reduceSub, Nat.reduceMul, Nat.reduceLT, Nat.reduceLeDiff, Int.reduceLT, Int.reduceLE, Int.reduceEq, Int.reduceAdd, Int.reduceNeg, if_false, if_true, reduceIte, ags, LB.agz, agd, r_mv, r_pick, r_box, r_alloc, r_un, r_eqb, r_ext, r_mkf, r_cnv, r_st, r_nck, r_ix, r_iaa, takeN, agc, agn, VE.store, over, cellsAt, VE.part, agm, agb, blkX, gEval, cond_true, cond_false, r_build, r_bsl, fill, VE.unOp, r_bin, adz, ads, resOf, resVs, resV, alc, aln, reduceCtorEq, or_true, true_or, false_or, or_false, eq_self, exists_eq_left', Option.some.injEq, hb', hne, frzB]
theorem idxB_spec {f c1 : Nat} (hf : vp f = some B_slices_IndexFunc_api_Bucket) (h1 : vp c1 = some B_levels_holds_fn1) (x y z : Bucket) (c : Int) (v : V) (b : Nat) (tag : Tag) (h : Heap) (hv : Rd encB 6 h v [x, y, z]) (hb : h.get b = .cells [.int .i64 c] tag) (hlt : b < h.nx) :
    callRes vp f [v, .fn c1 [.ptr b 0]] h = some (.int .i64 (if x.lv < c then 0 else if y.lv < c then 1 else if z.lv < c then 2 else -1), h) := by
  refine res_pure hf rfl rfl (fun g hg => ?_)
  have hn : isoArgs 1 [v, .fn c1 [.ptr b 0]] = none := by
    rcases hv with ⟨c, rfl, _⟩ | ⟨_, _, _, _, _, _, _, rfl, _⟩
    · cases c <;> rfl
    · rfl
  have hv' : Rd encB 6 g v [x, y, z] := hv.enter (A := fun v => [v, .fn c1 [.ptr b 0]]) hg (fun _ _ _ _ => rfl)
  obtain ⟨g1, g2, g3⟩ := hg_keep hg hn
  have hb' : g.get b = .cells [.int .i64 c] tag := by rw [g3, hb]
  have kc : ∀ x, callVRes vp (.fn c1 [.ptr b 0]) [.agg (encB x)] g = some (.bool (decide (x.lv < c)), g) := fun x => callVRes_fn (hold1_spec h1 x c b tag g hb' (by omega))
  have kx := kc x
  have ky := kc y
  have kz := kc z
  have ln : ∀ h, r_len v h = some (.int .i64 3, h) := hv'.len
  obtain ⟨a0, i0, e0⟩ := hv'.ia encB_len (by decide) (k := 0) (by simp)
  obtain ⟨a1, i1, e1⟩ := hv'.ia encB_len (by decide) (k := 1) (by simp)
  obtain ⟨a2, i2, e2⟩ := hv'.ia encB_len (by decide) (k := 2) (by simp)
  have l0 := e0.ld (.refl g) (n := 6) rfl
  have l1 := e1.ld (.refl g) (n := 6) rfl
  have l2 := e2.ld (.refl g) (n := 6) rfl
  have i0 : ∀ h, r_ia 6 v (.int .i64 0) h = some (a0, h) := i0
  have i1 : ∀ h, r_ia 6 v (.int .i64 1) h = some (a1, h) := i1
  have i2 : ∀ h, r_ia 6 v (.int .i64 2) h = some (a2, h) := i2
  have l0 : r_ld (some 6) a0 g = some (.agg (encB x), g) := l0
  have l1 : r_ld (some 6) a1 g = some (.agg (encB y), g) := l1
  have l2 : r_ld (some 6) a2 g = some (.agg (encB z), g) := l2
  unfold B_slices_IndexFunc_api_Bucket
  simp only [↓zp, zz, true_and, and_true, chkOk, Nat.reduceEqDiff, Nat.reduceAdd, Nat.reduceSub, Nat.reduceMul, Nat.reduceLT, Nat.reduceLeDiff, Int.reduceLT, Int.reduceLE, Int.reduceEq, Int.reduceAdd, Int.reduceNeg, if_false, if_true, reduceIte, ags, LB.agz, agd, r_mv, r_pick, r_box, r_alloc, r_un, r_eqb, r_ext, r_mkf, r_cnv, r_st, r_nck, r_ix, r_iaa, takeN, agc, agn, VE.store, over, cellsAt, VE.part, agm, agb, blkX, gEval, cond_true, cond_false, r_build, r_bsl, fill, VE.unOp, r_bin, adz, ads, resOf, resVs, resV, alc, aln, reduceCtorEq, or_true, true_or, false_or, or_false, eq_self, exists_eq_left', Option.some.injEq, ln]
  refine w_loop1 ?_
  rcases ch1 (x.lv < c) with q1 | q1
  · simp only [↓zp, zz, true_and, and_true, chkOk, Nat.reduceEqDiff, Nat.reduceAdd, Nat.reduceSub, Nat.reduceMul, Nat.reduceLT, Nat.reduceLeDiff, Int.reduceLT, Int.reduceLE, Int.reduceEq, Int.reduceAdd, Int.reduceNeg, if_false, if_true, reduceIte, ags, LB.agz, agd, r_mv, r_pick, r_box, r_alloc, r_un, r_eqb, r_ext, r_mkf, r_cnv, r_st, r_nck, r_ix, r_iaa, takeN, agc, agn, VE.store, over, cellsAt, VE.part, agm, agb, blkX, gEval, cond_true, cond_false, r_build, r_bsl, fill, VE.unOp, r_bin, adz, ads, resOf, resVs, resV, alc, aln, reduceCtorEq, or_true, true_or, false_or, or_false, eq_self, exists_eq_left', Option.some.injEq, i0, l0, kx, q1, frzI]
  simp only [↓zp, zz, true_and, and_true, chkOk, Nat.reduceEqDiff, Nat.reduceAdd, Nat.reduceSub, Nat.reduceMul, Nat.reduceLT, Nat.reduceLeDiff, Int.reduceLT, Int.reduceLE, Int.reduceEq, Int.reduceAdd, Int.reduceNeg, if_false, if_true, reduceIte, ags, LB.agz, agd, r_mv, r_pick, r_box, r_alloc, r_un, r_eqb, r_ext, r_mkf, r_cnv, r_st, r_nck, r_ix, r_iaa, takeN, agc, agn, VE.store, over, cellsAt, VE.part, agm, agb, blkX, gEval, cond_true, cond_false, r_build, r_bsl, fill, VE.unOp, r_bin, adz, ads, resOf, resVs, resV, alc, aln, reduceCtorEq, or_true, true_or, false_or, or_false, eq_self, exists_eq_left', Option.some.injEq, i0, l0, kx, q1]
  refine w_loop1 ?_
  rcases ch1 (y.lv < c) with q2 | q2
  · simp only [↓zp, zz, true_and, and_true, chkOk, Nat.reduceEqDiff, Nat.reduceAdd, Nat.reduceSub, Nat.reduceMul, Nat.reduceLT, Nat.reduceLeDiff, Int.reduceLT, Int.reduceLE, Int.reduceEq, Int.reduceAdd, Int.reduceNeg, if_false, if_true, reduceIte, ags, LB.agz, agd, r_mv, r_pick, r_box, r_alloc, r_un, r_eqb, r_ext, r_mkf, r_cnv, r_st, r_nck, r_ix, r_iaa, takeN, agc, agn, VE.store, over, cellsAt, VE.part, agm, agb, blkX, gEval, cond_true, cond_false, r_build, r_bsl, fill, VE.unOp, r_bin, adz, ads, resOf, resVs, resV, alc, aln, reduceCtorEq, or_true, true_or, false_or, or_false, eq_self, exists_eq_left', Option.some.injEq, i1, l1, ky, q2, frzI]
  simp only [↓zp, zz, true_and, and_true, chkOk, Nat.reduceEqDiff, Nat.reduceAdd, Nat.reduceSub, Nat.reduceMul, Nat.reduceLT, Nat.reduceLeDiff, Int.reduceLT, Int.reduceLE, Int.reduceEq, Int.reduceAdd, Int.reduceNeg, if_false, if_true, reduceIte, ags, LB.agz, agd, r_mv, r_pick, r_box, r_alloc, r_un, r_eqb, r_ext, r_mkf, r_cnv, r_st, r_nck, r_ix, r_iaa, takeN, agc, agn, VE.store, over, cellsAt, VE.part, agm, agb, blkX, gEval, cond_true, cond_false, r_build, r_bsl, fill, VE.unOp, r_bin, adz, ads, resOf, resVs, resV, alc, aln, reduceCtorEq, or_true, true_or, false_or, or_false, eq_self, exists_eq_left', Option.some.injEq, i1, l1, ky, q2]
  refine w_loop1 ?_
  rcases ch1 (z.lv < c) with q3 | q3
  · simp only [↓zp, zz, true_and, and_true, chkOk, Nat.reduceEqDiff, Nat.reduceAdd, Nat.reduceSub, Nat.reduceMul, Nat.reduceLT, Nat.reduceLeDiff, Int.reduceLT, Int.reduceLE, Int.reduceEq, Int.reduceAdd, Int.reduceNeg, if_false, if_true, reduceIte, ags, LB.agz, agd, r_mv, r_pick, r_box, r_alloc, r_un, r_eqb, r_ext, r_mkf, r_cnv, r_st, r_nck, r_ix, r_iaa, takeN, agc, agn, VE.store, over, cellsAt, VE.part, agm, agb, blkX, gEval, cond_true, cond_false, r_build, r_bsl, fill, VE.unOp, r_bin, adz, ads, resOf, resVs, resV, alc, aln, reduceCtorEq, or_true, true_or, false_or, or_false, eq_self, exists_eq_left', Option.some.injEq, i2, l2, kz, q3, frzI]
  simp only [↓zp, zz, true_and, and_true, chkOk, Nat.reduceEqDiff, Nat.reduceAdd, Nat.reduceSub, Nat.reduceMul, Nat.reduceLT, Nat.reduceLeDiff, Int.reduceLT, Int.reduceLE, Int.reduceEq, Int.reduceAdd, Int.reduceNeg, if_false, if_true, reduceIte, ags, LB.agz, agd, r_mv, r_pick, r_box, r_alloc, r_un, r_eqb, r_ext, r_mkf, r_cnv, r_st, r_nck, r_ix, r_iaa, takeN, agc, agn, VE.store, over, cellsAt, VE.part, agm, agb, blkX, gEval, cond_true, cond_false, r_build, r_bsl, fill, VE.unOp, r_bin, adz, ads, resOf, resVs, resV, alc, aln, reduceCtorEq, or_true, true_or, false_or, or_false, eq_self, exists_eq_left', Option.some.injEq, i2, l2, kz, q3]
  refine w_loop1 ?_
  simp only [↓zp, zz, true_and, and_true, chkOk, Nat.reduceEqDiff, Nat.reduceAdd, Nat.reduceSub, Nat.reduceMul, Nat.reduceLT, Nat.reduceLeDiff, Int.reduceLT, Int.reduceLE, Int.reduceEq, Int.reduceAdd, Int.reduceNeg, if_false, if_true, reduceIte, ags, LB.agz, agd, r_mv, r_pick, r_box, r_alloc, r_un, r_eqb, r_ext, r_mkf, r_cnv, r_st, r_nck, r_ix, r_iaa, takeN, agc, agn, VE.store, over, cellsAt, VE.part, agm, agb, blkX, gEval, cond_true, cond_false, r_build, r_bsl, fill, VE.unOp, r_bin, adz, ads, resOf, resVs, resV, alc, aln, reduceCtorEq, or_true, true_or, false_or, or_false, eq_self, exists_eq_left', Option.some.injEq, frzI]
/-- all three hold a cost -/
def holds3 (x y z : Bucket) (c : Int) : Bool := decide (c ≤ x.lv) && (decide (c ≤ y.lv) && decide (c ≤ z.lv))
theorem lholds_spec {f c1 c2 c3 : Nat} (hf : vp f = some (B_levels_holds c1 c2)) (h1 : vp c1 = some B_levels_holds_fn1) (h2 : vp c2 = some (B_slices_ContainsFunc_api_Bucket c3)) (h3 : vp c3 = some B_slices_IndexFunc_api_Bucket) (x y z : Bucket) (c : Int) (v : V) (h : Heap) (hv : Rd encB 6 h v [x, y, z]) (hnw : isoArgs 1 [v, .int .i64 c] = none) :
    callRes vp f [v, .int .i64 c] h = some (.bool (holds3 x y z c), h) := by
  have m2 : modeOf vp c2 = some 1 := by simp [modeOf, h2, B_slices_ContainsFunc_api_Bucket]
  have m3 : modeOf vp c3 = some 1 := by simp [modeOf, h3, B_slices_IndexFunc_api_Bucket]
  have cs : ∀ (h : Heap) (b : Nat) (tag : Tag), Rd encB 6 h v [x, y, z] → h.get b = .cells [.int .i64 c] tag → b < h.nx → callRes vp c2 [v, .fn c1 [.ptr b 0]] h = some (.bool (!holds3 x y z c), h) := by
    intro h b tag hv hb hlt
    refine res_pure h2 rfl rfl (fun g hg => ?_)
    have hn : isoArgs 1 [v, .fn c1 [.ptr b 0]] = none := by
      rcases hv with ⟨c, rfl, _⟩ | ⟨_, _, _, _, _, _, _, rfl, _⟩
      · cases c <;> rfl
      · rfl
    have hv' : Rd encB 6 g v [x, y, z] := hv.enter (A := fun v => [v, .fn c1 [.ptr b 0]]) hg (fun _ _ _ _ => rfl)
    obtain ⟨g1, g2, g3⟩ := hg_keep hg hn
    have k1 := idxB_spec h3 h1 x y z c v b tag g hv' (by rw [g3, hb]) (by omega)
    have e : (decide ((0 : Int) ≤ (if x.lv < c then 0 else if y.lv < c then 1 else if z.lv < c then 2 else -1))) = !holds3 x y z c := by
      unfold holds3
      by_cases q1 : x.lv < c
      · have : ¬ c ≤ x.lv := by omega
        simp [q1, this]
      · have p1 : c ≤ x.lv := by omega
        by_cases q2 : y.lv < c
        · have : ¬ c ≤ y.lv := by omega
          simp [q1, q2, p1, this]
        · have p2 : c ≤ y.lv := by omega
          by_cases q3 : z.lv < c
          · have : ¬ c ≤ z.lv := by omega
            simp [q1, q2, q3, p1, p2, this]
          · have p3 : c ≤ z.lv := by omega
            simp [q1, q2, q3, p1, p2, p3]
    unfold B_slices_ContainsFunc_api_Bucket
    simp only [↓zp, zz, true_and, and_true, chkOk, Nat.reduceEqDiff, Nat.reduceAdd, Nat.reduceSub, Nat.reduceMul, Nat.reduceLT, Nat.reduceLeDiff, Int.reduceLT, Int.reduceLE, Int.reduceEq, Int.reduceAdd, Int.reduceNeg, if_false, if_true, reduceIte, ags, LB.agz, agd, r_mv, r_pick, r_box, r_alloc, r_un, r_eqb, r_ext, r_mkf, r_cnv, r_st, r_nck, r_ix, r_iaa, takeN, agc, agn, VE.store, over, cellsAt, VE.part, agm, agb, blkX, gEval, cond_true, cond_false, r_build, r_bsl, fill, VE.unOp, r_bin, adz, ads, resOf, resVs, resV, alc, aln, reduceCtorEq, or_true, true_or, false_or, or_false, eq_self, exists_eq_left', Option.some.injEq, m3, k1, frzB, e]
  refine res_pure hf rfl rfl (fun g hg => ?_)
  obtain ⟨g1, g2, g3⟩ := hg_keep hg hnw
  have hv' : Rd encB 6 g v [x, y, z] := hv.enter (A := fun v => [v, .int .i64 c]) hg (fun _ _ _ _ => rfl)
  have k := cs (g.new (.cells [.int .i64 c] .cl)) g.nx .cl (hv'.keep ((Kp.refl g).new _)) (by rw [Heap.get_new, if_pos rfl]) (by simp [Heap.new])
  unfold B_levels_holds
  simp only [↓zp, zz, true_and, and_true, chkOk, Nat.reduceEqDiff, Nat.reduceAdd, Nat.reduceSub, Nat.reduceMul, Nat.reduceLT, Nat.reduceLeDiff, Int.reduceLT, Int.reduceLE, Int.reduceEq, Int.reduceAdd, Int.reduceNeg, if_false, if_true, reduceIte, ags, LB.agz, agd, r_mv, r_pick, r_box, r_alloc, r_un, r_eqb, r_ext, r_mkf, r_cnv, r_st, r_nck, r_ix, r_iaa, takeN, agc, agn, VE.store, over, cellsAt, VE.part, agm, agb, blkX, gEval, cond_true, cond_false, r_build, r_bsl, fill, VE.unOp, r_bin, adz, ads, resOf, resVs, resV, alc, aln, reduceCtorEq, or_true, true_or, false_or, or_false, eq_self, exists_eq_left', Option.some.injEq, m2, k, frzB, Bool.not_not]
theorem app_own3 {x y z : Bucket} {b0 b : Nat} {tag : Tag} {h : Heap} (h0 : h.get b0 = .cells [] .cl) (hb : h.get b = .cells (enc3 x y z) tag) : r_app 6 48 (.sl b0 0 0 0 6) (.sl b 0 3 3 6) h = some (.sl h.nx 0 3 3 6, h.new (.cells (enc3 x y z) .op)) := by
  have hr : rowOf h 6 (.sl b 0 3 3 6) = some (enc3 x y z) := by
    simp only [rowOf, hb, List.drop_zero]
    rfl
  unfold r_app
  rw [hr]
  simp only [lenOf, appendV, h0]
  rfl
theorem cloneB_spec {f : Nat} (hf : vp f = some B_slices_Clone_api_Bucket) (x y z : Bucket) (b : Nat) (tag : Tag) (h : Heap) (hb : h.get b = .cells (enc3 x y z) tag) (hlt : b < h.nx) (hlo : h.lo ≤ h.nx) :
    ∃ h', callRes vp f [.sl b 0 3 3 6] h = some (.sl (h.nx + 1) 0 3 3 6, h') ∧ h'.get (h.nx + 1) = .cells (enc3 x y z) .op ∧ h'.nx = h.nx + 2 ∧ Kp h h' := by
  have k := res_own (vp := vp) (args := [.sl b 0 3 3 6]) (h := h) (P := fun v h' => v = .sl (h.nx + 1) 0 3 3 6 ∧ h'.get (h.nx + 1) = .cells (enc3 x y z) .op ∧ h'.nx = h.nx + 2 ∧ Kp h h') hf rfl rfl (by
    have ap := app_own3 (x := x) (y := y) (z := z) (b0 := h.nx) (b := b) (tag := tag) (h := Heap.new { h with lo := h.nx } (.cells [] .cl)) (by rw [Heap.get_new]; exact if_pos rfl) (by rw [Heap.get_new, if_neg (by show ¬ b = h.nx; omega)]; exact hb)
    unfold B_slices_Clone_api_Bucket
    simp only [↓zp, zz, true_and, and_true, chkOk, Nat.reduceEqDiff, Nat.reduceAdd, Nat.reduceSub, Nat.reduceMul, Nat.reduceLT, Nat.reduceLeDiff, Int.reduceLT, Int.reduceLE, Int.reduceEq, Int.reduceAdd, Int.reduceNeg, if_false, if_true, reduceIte, ags, LB.agz, agd, r_mv, r_pick, r_box, r_alloc, r_un, r_eqb, r_ext, r_mkf, r_cnv, r_st, r_nck, r_ix, r_iaa, takeN, agc, agn, VE.store, over, cellsAt, VE.part, agm, agb, blkX, gEval, cond_true, cond_false, r_build, r_bsl, fill, VE.unOp, r_bin, adz, ads, resOf, resVs, resV, alc, aln, reduceCtorEq, or_true, true_or, false_or, or_false, eq_self, exists_eq_left', Option.some.injEq, eqn_sl, ap]
    refine ⟨?_, rfl, by simp, fun c hc => ?_⟩
    · show ((Heap.new (Heap.new { h with lo := h.nx } _) _).get _) = _
      rw [Heap.get_new]
      exact if_pos rfl
    · show ((Heap.new (Heap.new { h with lo := h.nx } _) _).get _) = _
      rw [Heap.get_new, if_neg (by show ¬ c = h.nx + 1; omega), Heap.get_new, if_neg (by show ¬ c = h.nx; omega)]
      rfl)
  obtain ⟨v, h', e, rfl, k1, k2, k3⟩ := k
  exact ⟨h', e, k1, k2, k3⟩
/-- what filling a row needs -/
structure FOk (vp : Nat → Option VFn) (c1 c2 : Nat) : Prop where
  c : vp c1 = some B_slices_Clone_api_Bucket
  r : ∃ k1 k2 kl t1 t2 t3 cm co ca cd cs, vp c2 = some (B_bucket_Refill k1 k2 t3) ∧ vp k1 = some (B_bucket_Check kl) ∧ vp kl = some B_bucket_CheckLimit ∧ vp k2 = some (B_bucket_fill cm co ca cd cs t1 t2) ∧ WOk vp cm co ca cd cs
theorem lfill_spec {f c1 c2 : Nat} (hf : vp f = some (B_levels_fill c1 c2)) (w : FOk vp c1 c2) (x y z : Bucket) (hx : bkBad x = false) (hy : bkBad y = false) (hz : bkBad z = false) (tx : u64 x.t) (ty : u64 y.t) (tz : u64 z.t) (t : Int) (ht : u64 t) (b : Nat) (tag : Tag) (h : Heap) (hb : h.get b = .cells (enc3 x y z) tag) (hlt : b < h.nx) (hlo : h.lo ≤ h.nx) :
    ∃ h', callRes vp f [.sl b 0 3 3 6, .int .u64 t] h = some (.sl (h.nx + 1) 0 3 3 6, h') ∧ h'.get (h.nx + 1) = .cells (enc3 (fillB x t) (fillB y t) (fillB z t)) .op ∧ h'.nx = h.nx + 2 ∧ Kp h h' := by
  obtain ⟨hc, k1, k2, kl, t1, t2, t3, cm, co, ca, cd, cs, hr1, hr2, hr3, hr4, hw⟩ := w
  have m1 : modeOf vp c1 = some 2 := by simp [modeOf, hc, B_slices_Clone_api_Bucket]
  have m2 : modeOf vp c2 = some 1 := by simp [modeOf, hr1, B_bucket_Refill]
  have rf := fun x hx tx h => refill_spec hr1 hr2 hr3 hr4 hw x t hx tx ht h
  have rx := rf x hx tx
  have ry := rf y hy ty
  have rz := rf z hz tz
  obtain ⟨g, hcl, g1, g2, g3⟩ := cloneB_spec hc x y z b tag h hb hlt hlo
  have k := res_raw (vp := vp) (args := [.sl b 0 3 3 6, .int .u64 t]) (h := h) (P := fun v h' => v = .sl (h.nx + 1) 0 3 3 6 ∧ h'.get (h.nx + 1) = .cells (enc3 (fillB x t) (fillB y t) (fillB z t)) .op ∧ h'.nx = h.nx + 2 ∧ Kp h h') hf rfl rfl (by
    have ln : ∀ h' : Heap, r_len (.sl (h.nx + 1) 0 3 3 6) h' = some (.int .i64 3, h') := fun h => rfl
    have i0 : ∀ h' : Heap, r_ia 6 (.sl (h.nx + 1) 0 3 3 6) (.int .i64 0) h' = some (.ptr (h.nx + 1) 0, h') := fun h => rfl
    have i1 : ∀ h' : Heap, r_ia 6 (.sl (h.nx + 1) 0 3 3 6) (.int .i64 1) h' = some (.ptr (h.nx + 1) 6, h') := fun h => rfl
    have i2 : ∀ h' : Heap, r_ia 6 (.sl (h.nx + 1) 0 3 3 6) (.int .i64 2) h' = some (.ptr (h.nx + 1) 12, h') := fun h => rfl
    have gl : ¬ (h.nx + 1 < g.lo) := by rw [g3.lo]; omega
    generalize fillB x t = x' at *
    generalize fillB y t = y' at *
    generalize fillB z t = z' at *
    unfold encB at rx ry rz
    unfold enc3 at g1 ⊢
    unfold B_levels_fill
    simp only [↓zp, zz, true_and, and_true, chkOk, Nat.reduceEqDiff, Nat.reduceAdd, Nat.reduceSub, Nat.reduceMul, Nat.reduceLT, Nat.reduceLeDiff, Int.reduceLT, Int.reduceLE, Int.reduceEq, Int.reduceAdd, Int.reduceNeg, if_false, if_true, reduceIte, ags, LB.agz, agd, r_mv, r_pick, r_box, r_alloc, r_un, r_eqb, r_ext, r_mkf, r_cnv, r_st, r_nck, r_ix, r_iaa, takeN, agc, agn, VE.store, over, cellsAt, VE.part, agm, agb, blkX, gEval, cond_true, cond_false, r_build, r_bsl, fill, VE.unOp, r_bin, adz, ads, resOf, resVs, resV, alc, aln, reduceCtorEq, or_true, true_or, false_or, or_false, eq_self, exists_eq_left', Option.some.injEq, m1, hcl, ln]
    refine w_loop1 ?_
    simp only [↓zp, zz, true_and, and_true, chkOk, Nat.reduceEqDiff, Nat.reduceAdd, Nat.reduceSub, Nat.reduceMul, Nat.reduceLT, Nat.reduceLeDiff, Int.reduceLT, Int.reduceLE, Int.reduceEq, Int.reduceAdd, Int.reduceNeg, if_false, if_true, reduceIte, ags, LB.agz, agd, r_mv, r_pick, r_box, r_alloc, r_un, r_eqb, r_ext, r_mkf, r_cnv, r_st, r_nck, r_ix, r_iaa, takeN, agc, agn, VE.store, over, cellsAt, VE.part, agm, agb, blkX, gEval, cond_true, cond_false, r_build, r_bsl, fill, VE.unOp, r_bin, adz, ads, resOf, resVs, resV, alc, aln, reduceCtorEq, or_true, true_or, false_or, or_false, eq_self, exists_eq_left', Option.some.injEq, i0, g1, gl, m2, rx]
    refine w_loop1 ?_
    simp only [↓zp, zz, true_and, and_true, chkOk, Nat.reduceEqDiff, Nat.reduceAdd, Nat.reduceSub, Nat.reduceMul, Nat.reduceLT, Nat.reduceLeDiff, Int.reduceLT, Int.reduceLE, Int.reduceEq, Int.reduceAdd, Int.reduceNeg, if_false, if_true, reduceIte, ags, LB.agz, agd, r_mv, r_pick, r_box, r_alloc, r_un, r_eqb, r_ext, r_mkf, r_cnv, r_st, r_nck, r_ix, r_iaa, takeN, agc, agn, VE.store, over, cellsAt, VE.part, agm, agb, blkX, gEval, cond_true, cond_false, r_build, r_bsl, fill, VE.unOp, r_bin, adz, ads, resOf, resVs, resV, alc, aln, reduceCtorEq, or_true, true_or, false_or, or_false, eq_self, exists_eq_left', Option.some.injEq, i1, g1, gl, m2, ry]
    refine w_loop1 ?_
    simp only [↓zp, zz, true_and, and_true, chkOk, Nat.reduceEqDiff, Nat.reduceAdd, Nat.reduceSub, Nat.reduceMul, Nat.reduceLT, Nat.reduceLeDiff, Int.reduceLT, Int.reduceLE, Int.reduceEq, Int.reduceAdd, Int.reduceNeg, if_false, if_true, reduceIte, ags, LB.agz, agd, r_mv, r_pick, r_box, r_alloc, r_un, r_eqb, r_ext, r_mkf, r_cnv, r_st, r_nck, r_ix, r_iaa, takeN, agc, agn, VE.store, over, cellsAt, VE.part, agm, agb, blkX, gEval, cond_true, cond_false, r_build, r_bsl, fill, VE.unOp, r_bin, adz, ads, resOf, resVs, resV, alc, aln, reduceCtorEq, or_true, true_or, false_or, or_false, eq_self, exists_eq_left', Option.some.injEq, i2, g1, gl, m2, rz]
    refine w_loop1 ?_
    simp only [↓zp, zz, true_and, and_true, chkOk, Nat.reduceEqDiff, Nat.reduceAdd, Nat.reduceSub, Nat.reduceMul, Nat.reduceLT, Nat.reduceLeDiff, Int.reduceLT, Int.reduceLE, Int.reduceEq, Int.reduceAdd, Int.reduceNeg, if_false, if_true, reduceIte, ags, LB.agz, agd, r_mv, r_pick, r_box, r_alloc, r_un, r_eqb, r_ext, r_mkf, r_cnv, r_st, r_nck, r_ix, r_iaa, takeN, agc, agn, VE.store, over, cellsAt, VE.part, agm, agb, blkX, gEval, cond_true, cond_false, r_build, r_bsl, fill, VE.unOp, r_bin, adz, ads, resOf, resVs, resV, alc, aln, reduceCtorEq, or_true, true_or, false_or, or_false, eq_self, exists_eq_left', Option.some.injEq, g2]
    exact ((g3.set _ (by omega)).set _ (by omega)).set _ (by omega))
  obtain ⟨v, h', e, rfl, k1, k2, k3⟩ := k
  exact ⟨h', e, k1, k2, k3⟩
end
end Go.VE.LB
