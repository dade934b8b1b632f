/- What the functions of the law ModelAdmits compute, on typed arguments (part 19). -/
import Derived.Test.YtnmneadmlcpaoaaModelAdmitsA18
set_option linter.all false
namespace Go.VE.LB
open Go Go.VE
set_option maxRecDepth 100000
set_option linter.all false
set_option maxHeartbeats 2000000
theorem encB_len (x : Bucket) : (encB x).length = 6 := rfl
theorem encB_scal (x : Bucket) : (encB x).all VE.scal = true := rfl
/-- the cells of an account whose slices, bucket and tally are told -/
def encS (a : Acct) (u e r : V) (own : Bucket) (n0 n1 n2 : Int) : List V := [.int .u32 a.t, .int .i64 a.l0.b, .int .i64 a.l0.r, .int .i64 a.l0.p, .int .i64 a.l1.b, .int .i64 a.l1.r, .int .i64 a.l1.p, .int .i64 a.l2.b, .int .i64 a.l2.r, .int .i64 a.l2.p, .int .i64 a.c0, .int .i64 a.c1,
  .int .i64 own.l.b, .int .i64 own.l.r, .int .i64 own.l.p, .int .i64 own.lv, .int .i64 own.pt, .int .u64 own.t, u, e, r, .int .u64 n0, .int .u64 n1, .int .u64 n2]
/-- the cells of three buckets -/
def enc3 (x y z : Bucket) : List V := [.int .i64 x.l.b, .int .i64 x.l.r, .int .i64 x.l.p, .int .i64 x.lv, .int .i64 x.pt, .int .u64 x.t, .int .i64 y.l.b, .int .i64 y.l.r, .int .i64 y.l.p, .int .i64 y.lv, .int .i64 y.pt, .int .u64 y.t, .int .i64 z.l.b, .int .i64 z.l.r, .int .i64 z.l.p, .int .i64 z.lv, .int .i64 z.pt, .int .u64 z.t]
theorem enc3_flat (x y z : Bucket) : [x, y, z].flatMap encB = enc3 x y z := rfl
theorem rd3 {x y z : Bucket} {b : Nat} {tag : Tag} {h : Heap} {c : Nat} (hb : h.get b = .cells (enc3 x y z) tag) (hl : b < h.nx) : Rd encB 6 h (.sl b 0 3 c 6) [x, y, z] := .inr ⟨b, 0, 3, c, tag, _, [], rfl, rfl, hb, by rw [enc3_flat, List.append_nil]; rfl, hl⟩
section
variable {vp : Nat → Option VFn}
theorem callVRes_fn0 {f : Nat} {args : List V} {h : Heap} {r : V × Heap} (e : callRes vp f args h = some r) : callVRes vp (.fn f []) args h = some r := callVRes_fn (by rw [List.append_nil]; exact e)
theorem count_spec {f c1 : Nat} (hf : vp f = some (B_model_count c1)) (h1 : vp c1 = some B_model_count_fn1) (a : Acct) (u e r : V) (own : Bucket) (n0 n1 n2 c : Int) (ad : Bool) (b : Nat) (tag : Tag) (h : Heap)
    (ou : oneCell u = true) (oe : oneCell e = true) (or' : oneCell r = true)
    (hb : h.get b = .cells (encS a u e r own n0 n1 n2) tag) (hlo : ¬ b < h.lo) :
    ∃ h', callRes vp f [.ptr b 21, .bool ad, .int .u64 c] h = some (.tup [], h') ∧ h'.get b = .cells (encS a u e r own (if ad then upT n0 1 else n0) (if ad then n1 else upT n1 1) (if ad then upT n2 c else n2)) tag ∧ (∀ x, x ≠ b → h'.get x = h.get x) ∧ h'.lo = h.lo ∧ h'.nx = h.nx := by
  have k := res_raw (vp := vp) (args := [.ptr b 21, .bool ad, .int .u64 c]) (h := h) (P := fun v h' => v = .tup [] ∧ h'.get b = .cells (encS a u e r own (if ad then upT n0 1 else n0) (if ad then n1 else upT n1 1) (if ad then upT n2 c else n2)) tag ∧ (∀ x, x ≠ b → h'.get x = h.get x) ∧ h'.lo = h.lo ∧ h'.nx = h.nx) hf rfl rfl (by
    unfold B_model_count
    cases ad with
    | true =>
      have s1 := count1_spec h1 b 21 n0 1 _ (encS a u e r own (upT n0 1) n1 n2) tag h hb hlo ⟨_, rfl⟩ (by simp only [encS, over, oneCell, cond_true, ou, oe, or'])
      have s2 := count1_spec h1 b 23 n2 c _ (encS a u e r own (upT n0 1) n1 (upT n2 c)) tag (h.set b (.cells (encS a u e r own (upT n0 1) n1 n2) tag)) (by rw [Heap.get_set, if_pos rfl]) hlo ⟨_, rfl⟩ (by simp only [encS, over, oneCell, cond_true, ou, oe, or'])
      have s1' := callVRes_fn0 s1
      have s2' := callVRes_fn0 s2
      simp only [↓zp, zz, true_and, and_true, chkOk, Nat.reduceEqDiff, Nat.reduceAdd, Nat.reduceSub, Nat.reduceMul, Nat.reduceLT, Nat.reduceLeDiff, Int.reduceLT, Int.reduceLE, Int.reduceEq, Int.reduceAdd, Int.reduceNeg, if_false, if_true, reduceIte, ags, LB.agz, agd, r_mv, r_pick, r_box, r_alloc, r_un, r_eqb, r_ext, r_mkf, r_cnv, r_st, r_nck, r_ix, r_iaa, takeN, agc, agn, VE.store, over, cellsAt, VE.part, agm, agb, blkX, gEval, cond_true, cond_false, r_build, r_bsl, fill, VE.unOp, r_bin, adz, ads, resOf, resVs, resV, alc, aln, reduceCtorEq, or_true, true_or, false_or, or_false, eq_self, exists_eq_left', Option.some.injEq, s1', s2']
      intro x hx
      rw [if_neg hx, if_neg hx]
    | false =>
      have s1 := count1_spec h1 b 22 n1 1 _ (encS a u e r own n0 (upT n1 1) n2) tag h hb hlo ⟨_, rfl⟩ (by simp only [encS, over, oneCell, cond_true, ou, oe, or'])
      have s1' := callVRes_fn0 s1
      simp only [↓zp, zz, true_and, and_true, chkOk, Nat.reduceEqDiff, Nat.reduceAdd, Nat.reduceSub, Nat.reduceMul, Nat.reduceLT, Nat.reduceLeDiff, Int.reduceLT, Int.reduceLE, Int.reduceEq, Int.reduceAdd, Int.reduceNeg, if_false, if_true, reduceIte, ags, LB.agz, agd, r_mv, r_pick, r_box, r_alloc, r_un, r_eqb, r_ext, r_mkf, r_cnv, r_st, r_nck, r_ix, r_iaa, takeN, agc, agn, VE.store, over, cellsAt, VE.part, agm, agb, blkX, gEval, cond_true, cond_false, r_build, r_bsl, fill, VE.unOp, r_bin, adz, ads, resOf, resVs, resV, alc, aln, reduceCtorEq, or_true, true_or, false_or, or_false, eq_self, exists_eq_left', Option.some.injEq, s1']
      intro x hx
      rw [if_neg hx])
  obtain ⟨v, h', e, rfl, k1, k2, k3, k4⟩ := k
  exact ⟨h', e, k1, k2, k3, k4⟩
theorem chk1_spec {f : Nat} (hf : vp f = some B_levels_check_fn1) (c : Int) (h : Heap) : callRes vp f [.int .i64 c] h = some (.bool (decide (c < 0)), h) := by
  refine res_pure hf rfl rfl (fun g hg => ?_)
  unfold B_levels_check_fn1
  simp only [↓zp, zz, true_and, and_true, chkOk, Nat.reduceEqDiff, Nat.reduceAdd, Nat.reduceSub, Nat.reduceMul, Nat.reduceLT, Nat.reduceLeDiff, Int.reduceLT, Int.reduceLE, Int.reduceEq, Int.reduceAdd, Int.reduceNeg, if_false, if_true, reduceIte, ags, LB.agz, agd, r_mv, r_pick, r_box, r_alloc, r_un, r_eqb, r_ext, r_mkf, r_cnv, r_st, r_nck, r_ix, r_iaa, takeN, agc, agn, VE.store, over, cellsAt, VE.part, agm, agb, blkX, gEval, cond_true, cond_false, r_build, r_bsl, fill, VE.unOp, r_bin, adz, ads, resOf, resVs, resV, alc, aln, reduceCtorEq, or_true, true_or, false_or, or_false, eq_self, exists_eq_left', Option.some.injEq, frzB]
theorem idx64_spec {f c1 : Nat} (hf : vp f = some B_slices_IndexFunc_int64) (h1 : vp c1 = some B_levels_check_fn1) (c : Int) (hc : 0 ≤ c) (b : Nat) (tag : Tag) (h : Heap) (hb : h.get b = .cells [.int .i64 c] tag) : callRes vp f [.sl b 0 1 1 1, .fn c1 []] h = some (.int .i64 (-1), h) := by
  refine res_pure hf rfl rfl (fun g hg => ?_)
  have hb' : g.get b = .cells [.int .i64 c] tag := by
    rcases hg with ⟨_, q⟩ | ⟨_, _, q⟩
    · exact absurd q (by intro q; cases q)
    · rw [q, hb]
  have c0 : ¬ c < 0 := by omega
  have k1 : ∀ h, callVRes vp (.fn c1 []) [.int .i64 c] h = some (.bool false, h) := fun h => callVRes_fn (caps := []) (by
    have := chk1_spec h1 c h
    rw [decide_eq_false c0] at this
    exact this)
  have ia : ∀ h, r_ia 1 (.sl b 0 1 1 1) (.int .i64 0) h = some (.ptr b 0, h) := fun h => rfl
  have ln : ∀ h, r_len (.sl b 0 1 1 1) h = some (.int .i64 1, h) := fun h => rfl
  unfold B_slices_IndexFunc_int64
  simp only [↓zp, zz, true_and, and_true, chkOk, Nat.reduceEqDiff, Nat.reduceAdd, Nat.reduceSub, Nat.reduceMul, Nat.reduceLT, Nat.reduceLeDiff, Int.reduceLT, Int.reduceLE, Int.reduceEq, Int.reduceAdd, Int.reduceNeg, if_false, if_true, reduceIte, ags, LB.agz, agd, r_mv, r_pick, r_box, r_alloc, r_un, r_eqb, r_ext, r_mkf, r_cnv, r_st, r_nck, r_ix, r_iaa, takeN, agc, agn, VE.store, over, cellsAt, VE.part, agm, agb, blkX, gEval, cond_true, cond_false, r_build, r_bsl, fill, VE.unOp, r_bin, adz, ads, resOf, resVs, resV, alc, aln, reduceCtorEq, or_true, true_or, false_or, or_false, eq_self, exists_eq_left', Option.some.injEq, ln]
  refine w_loop1 ?_
  simp only [↓zp, zz, true_and, and_true, chkOk, Nat.reduceEqDiff, Nat.reduceAdd, Nat.reduceSub, Nat.reduceMul, Nat.reduceLT, Nat.reduceLeDiff, Int.reduceLT, Int.reduceLE, Int.reduceEq, Int.reduceAdd, Int.reduceNeg, if_false, if_true, reduceIte, ags, LB.agz, agd, r_mv, r_pick, r_box, r_alloc, r_un, r_eqb, r_ext, r_mkf, r_cnv, r_st, r_nck, r_ix, r_iaa, takeN, agc, agn, VE.store, over, cellsAt, VE.part, agm, agb, blkX, gEval, cond_true, cond_false, r_build, r_bsl, fill, VE.unOp, r_bin, adz, ads, resOf, resVs, resV, alc, aln, reduceCtorEq, or_true, true_or, false_or, or_false, eq_self, exists_eq_left', Option.some.injEq, ia, hb', k1]
  refine w_loop1 ?_
  simp only [↓zp, zz, true_and, and_true, chkOk, Nat.reduceEqDiff, Nat.reduceAdd, Nat.reduceSub, Nat.reduceMul, Nat.reduceLT, Nat.reduceLeDiff, Int.reduceLT, Int.reduceLE, Int.reduceEq, Int.reduceAdd, Int.reduceNeg, if_false, if_true, reduceIte, ags, LB.agz, agd, r_mv, r_pick, r_box, r_alloc, r_un, r_eqb, r_ext, r_mkf, r_cnv, r_st, r_nck, r_ix, r_iaa, takeN, agc, agn, VE.store, over, cellsAt, VE.part, agm, agb, blkX, gEval, cond_true, cond_false, r_build, r_bsl, fill, VE.unOp, r_bin, adz, ads, resOf, resVs, resV, alc, aln, reduceCtorEq, or_true, true_or, false_or, or_false, eq_self, exists_eq_left', Option.some.injEq, frzI]
theorem cont64_spec {f c1 c2 : Nat} (hf : vp f = some (B_slices_ContainsFunc_int64 c1)) (h1 : vp c1 = some B_slices_IndexFunc_int64) (h2 : vp c2 = some B_levels_check_fn1) (c : Int) (hc : 0 ≤ c) (b : Nat) (tag : Tag) (h : Heap) (hb : h.get b = .cells [.int .i64 c] tag) : callRes vp f [.sl b 0 1 1 1, .fn c2 []] h = some (.bool false, h) := by
  have m1 : modeOf vp c1 = some 1 := by simp [modeOf, h1, B_slices_IndexFunc_int64]
  refine res_pure hf rfl rfl (fun g hg => ?_)
  have hb' : g.get b = .cells [.int .i64 c] tag := by
    rcases hg with ⟨_, q⟩ | ⟨_, _, q⟩
    · exact absurd q (by intro q; cases q)
    · rw [q, hb]
  have k1 := idx64_spec h1 h2 c hc b tag g hb'
  unfold B_slices_ContainsFunc_int64
  simp only [↓zp, zz, true_and, and_true, chkOk, Nat.reduceEqDiff, Nat.reduceAdd, Nat.reduceSub, Nat.reduceMul, Nat.reduceLT, Nat.reduceLeDiff, Int.reduceLT, Int.reduceLE, Int.reduceEq, Int.reduceAdd, Int.reduceNeg, if_false, if_true, reduceIte, ags, LB.agz, agd, r_mv, r_pick, r_box, r_alloc, r_un, r_eqb, r_ext, r_mkf, r_cnv, r_st, r_nck, r_ix, r_iaa, takeN, agc, agn, VE.store, over, cellsAt, VE.part, agm, agb, blkX, gEval, cond_true, cond_false, r_build, r_bsl, fill, VE.unOp, r_bin, adz, ads, resOf, resVs, resV, alc, aln, reduceCtorEq, or_true, true_or, false_or, or_false, eq_self, exists_eq_left', Option.some.injEq, m1, k1, frzB]
/-- what the functions of rows need -/
structure LOk (vp : Nat → Option VFn) (c1 c2 c3 : Nat) : Prop where
  b : ∃ cl, vp c1 = some (B_bucket_Check cl) ∧ vp cl = some B_bucket_CheckLimit
  k : ∃ ci, vp c2 = some (B_slices_ContainsFunc_int64 ci) ∧ vp ci = some B_slices_IndexFunc_int64
  f : vp c3 = some B_levels_check_fn1
theorem lcheck_spec {f c1 c2 c3 : Nat} (hf : vp f = some (B_levels_check c1 c2 c3)) (w : LOk vp c1 c2 c3) (x y z : Bucket) (hx : bkBad x = false) (hy : bkBad y = false) (hz : bkBad z = false) (c : Int) (hc : 0 ≤ c) (v : V) (b : Nat) (tag : Tag) (h : Heap) (hv : Rd encB 6 h v [x, y, z]) (hb : h.get b = .cells [.int .i64 c] tag) :
    callRes vp f [v, .sl b 0 1 1 1] h = some (.int .i64 0, h) := by
  obtain ⟨⟨cl, hb1, hb2⟩, ⟨ci, hk1, hk2⟩, hf3⟩ := w
  have m1 : modeOf vp c1 = some 1 := by simp [modeOf, hb1, B_bucket_Check]
  have m2 : modeOf vp c2 = some 1 := by simp [modeOf, hk1, B_slices_ContainsFunc_int64]
  have ck : ∀ x, bkBad x = false → ∀ h, callRes vp c1 [.agg (encB x)] h = some (.int .i64 0, h) := fun x hx h => by rw [bk_spec hb1 hb2, chkB_ok hx]
  have kx := ck x hx
  have ky := ck y hy
  have kz := ck z hz
  refine res_pure hf rfl rfl (fun g hg => ?_)
  have hn : isoArgs 1 [v, .sl b 0 1 1 1] = none := by
    rcases hv with ⟨c, rfl, _⟩ | ⟨_, _, _, _, _, _, _, rfl, _⟩
    · cases c <;> rfl
    · rfl
  have hb' : g.get b = .cells [.int .i64 c] tag := by
    rcases hg with ⟨_, q⟩ | ⟨_, _, q⟩
    · rw [hn] at q; cases q
    · rw [q, hb]
  have hv' : Rd encB 6 g v [x, y, z] := hv.enter (A := fun v => [v, .sl b 0 1 1 1]) hg (fun _ _ _ _ => rfl)
  have ln : ∀ h, r_len v h = some (.int .i64 3, h) := hv'.len
  obtain ⟨a0, i0, e0⟩ := hv'.ia encB_len (by decide) (k := 0) (by simp)
  obtain ⟨a1, i1, e1⟩ := hv'.ia encB_len (by decide) (k := 1) (by simp)
  obtain ⟨a2, i2, e2⟩ := hv'.ia encB_len (by decide) (k := 2) (by simp)
  have l0 := e0.ld (.refl g) (n := 6) rfl
  have l1 := e1.ld (.refl g) (n := 6) rfl
  have l2 := e2.ld (.refl g) (n := 6) rfl
  have i0 : ∀ h, r_ia 6 v (.int .i64 0) h = some (a0, h) := i0
  have i1 : ∀ h, r_ia 6 v (.int .i64 1) h = some (a1, h) := i1
  have i2 : ∀ h, r_ia 6 v (.int .i64 2) h = some (a2, h) := i2
  have l0 : r_ld (some 6) a0 g = some (.agg (encB x), g) := l0
  have l1 : r_ld (some 6) a1 g = some (.agg (encB y), g) := l1
  have l2 : r_ld (some 6) a2 g = some (.agg (encB z), g) := l2
  have k1 := cont64_spec hk1 hk2 hf3 c hc b tag g hb'
  unfold B_levels_check
  simp only [↓zp, zz, true_and, and_true, chkOk, Nat.reduceEqDiff, Nat.reduceAdd, Nat.reduceSub, Nat.reduceMul, Nat.reduceLT, Nat.reduceLeDiff, Int.reduceLT, Int.reduceLE, Int.reduceEq, Int.reduceAdd, Int.reduceNeg, if_false, if_true, reduceIte, ags, LB.agz, agd, r_mv, r_pick, r_box, r_alloc, r_un, r_eqb, r_ext, r_mkf, r_cnv, r_st, r_nck, r_ix, r_iaa, takeN, agc, agn, VE.store, over, cellsAt, VE.part, agm, agb, blkX, gEval, cond_true, cond_false, r_build, r_bsl, fill, VE.unOp, r_bin, adz, ads, resOf, resVs, resV, alc, aln, reduceCtorEq, or_true, true_or, false_or, or_false, eq_self, exists_eq_left', Option.some.injEq, ln]
  refine w_loop1 ?_
  simp only [↓zp, zz, true_and, and_true, chkOk, Nat.reduceEqDiff, Nat.reduceAdd, Nat.reduceSub, Nat.reduceMul, Nat.reduceLT, Nat.reduceLeDiff, Int.reduceLT, Int.reduceLE, Int.reduceEq, Int.reduceAdd, Int.reduceNeg, if_false, if_true, reduceIte, ags, LB.agz, agd, r_mv, r_pick, r_box, r_alloc, r_un, r_eqb, r_ext, r_mkf, r_cnv, r_st, r_nck, r_ix, r_iaa, takeN, agc, agn, VE.store, over, cellsAt, VE.part, agm, agb, blkX, gEval, cond_true, cond_false, r_build, r_bsl, fill, VE.unOp, r_bin, adz, ads, resOf, resVs, resV, alc, aln, reduceCtorEq, or_true, true_or, false_or, or_false, eq_self, exists_eq_left', Option.some.injEq, i0, l0, m1, kx]
  refine w_loop1 ?_
  simp only [↓zp, zz, true_and, and_true, chkOk, Nat.reduceEqDiff, Nat.reduceAdd, Nat.reduceSub, Nat.reduceMul, Nat.reduceLT, Nat.reduceLeDiff, Int.reduceLT, Int.reduceLE, Int.reduceEq, Int.reduceAdd, Int.reduceNeg, if_false, if_true, reduceIte, ags, LB.agz, agd, r_mv, r_pick, r_box, r_alloc, r_un, r_eqb, r_ext, r_mkf, r_cnv, r_st, r_nck, r_ix, r_iaa, takeN, agc, agn, VE.store, over, cellsAt, VE.part, agm, agb, blkX, gEval, cond_true, cond_false, r_build, r_bsl, fill, VE.unOp, r_bin, adz, ads, resOf, resVs, resV, alc, aln, reduceCtorEq, or_true, true_or, false_or, or_false, eq_self, exists_eq_left', Option.some.injEq, i1, l1, m1, ky]
  refine w_loop1 ?_
  simp only [↓zp, zz, true_and, and_true, chkOk, Nat.reduceEqDiff, Nat.reduceAdd, Nat.reduceSub, Nat.reduceMul, Nat.reduceLT, Nat.reduceLeDiff, Int.reduceLT, Int.reduceLE, Int.reduceEq, Int.reduceAdd, Int.reduceNeg, if_false, if_true, reduceIte, ags, LB.agz, agd, r_mv, r_pick, r_box, r_alloc, r_un, r_eqb, r_ext, r_mkf, r_cnv, r_st, r_nck, r_ix, r_iaa, takeN, agc, agn, VE.store, over, cellsAt, VE.part, agm, agb, blkX, gEval, cond_true, cond_false, r_build, r_bsl, fill, VE.unOp, r_bin, adz, ads, resOf, resVs, resV, alc, aln, reduceCtorEq, or_true, true_or, false_or, or_false, eq_self, exists_eq_left', Option.some.injEq, i2, l2, m1, kz]
  refine w_loop1 ?_
  simp only [↓zp, zz, true_and, and_true, chkOk, Nat.reduceEqDiff, Nat.reduceAdd, Nat.reduceSub, Nat.reduceMul, Nat.reduceLT, Nat.reduceLeDiff, Int.reduceLT, Int.reduceLE, Int.reduceEq, Int.reduceAdd, Int.reduceNeg, if_false, if_true, reduceIte, ags, LB.agz, agd, r_mv, r_pick, r_box, r_alloc, r_un, r_eqb, r_ext, r_mkf, r_cnv, r_st, r_nck, r_ix, r_iaa, takeN, agc, agn, VE.store, over, cellsAt, VE.part, agm, agb, blkX, gEval, cond_true, cond_false, r_build, r_bsl, fill, VE.unOp, r_bin, adz, ads, resOf, resVs, resV, alc, aln, reduceCtorEq, or_true, true_or, false_or, or_false, eq_self, exists_eq_left', Option.some.injEq, m2, k1, frzI]
end
end Go.VE.LB
