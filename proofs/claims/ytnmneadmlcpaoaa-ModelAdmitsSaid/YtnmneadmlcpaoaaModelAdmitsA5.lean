/- What the functions of the law ModelAdmits compute, on typed arguments (part 5). -/
import Derived.Test.YtnmneadmlcpaoaaModelAdmitsA4
set_option linter.all false
namespace Go.VE.LB
open Go Go.VE Classical
set_option maxRecDepth 100000
set_option linter.all false
theorem eqC {k : IntKind} {a b : Int} {ks : List Nat} {xs ys : List V} : eqCells (0 :: ks) (.int k a :: xs) (.int k b :: ys) = if a = b then eqCells ks xs ys else some false := by
  simp only [eqCells, eqK, kEq_refl, cond_true, eqI_dec]
  by_cases h : a = b
  · simp [h]
  · simp [h]
theorem limit_ext {x y : Limit} : x = y ↔ x.b = y.b ∧ x.r = y.r ∧ x.p = y.p := by
  cases x; cases y; simp
theorem eqc3 {x y : Limit} {h : Heap} {neg : Bool} : r_eqa neg [0, 0, 0] (.agg [.int .i64 x.b, .int .i64 x.r, .int .i64 x.p]) (.agg [.int .i64 y.b, .int .i64 y.r, .int .i64 y.p]) h = some (.bool (bif neg then !decide (x = y) else decide (x = y)), h) := by
  have : eqCells [0, 0, 0] [.int .i64 x.b, .int .i64 x.r, .int .i64 x.p] [.int .i64 y.b, .int .i64 y.r, .int .i64 y.p] = some (decide (x = y)) := by
    simp only [eqC, limit_ext]
    by_cases h1 : x.b = y.b <;> by_cases h2 : x.r = y.r <;> by_cases h3 : x.p = y.p <;> simp [h1, h2, h3, eqCells]
  simp only [r_eqa, this]
  rfl
def isK (key : Int) (x : Held) : Bool := decide (x.k = key)
section
variable {vp : Nat → Option VFn}
def invAt (key : Int) (c : Sl Held) (H : Heap) (m : Nat) (s : Slots) (h : Heap) : Prop :=
  ∃ k, k ≤ c.l.length ∧ m = c.l.length - k ∧ s.at 0 = c.v encH ∧ s.at 1 = .int .u32 key ∧ s.at 5 = .int .i64 (k : Int) ∧ h = H ∧ ∀ j (hj : j < c.l.length), j < k → isK key c.l[j] = false
theorem at_spec {f : Nat} (hf : vp f = some B_spigotref25_At) (c : Sl Held) (key : Int) (h : Heap) (hn : c.l.length < 4611686018427387904) : callRes vp f [c.v encH, .int .u32 key] h = some (.int .i64 (fidx (isK key) c.l), h) := by
  refine res_pure hf rfl rfl (fun g hg => ?_)
  unfold B_spigotref25_At
  simp only [↓zp, zz, true_and, and_true, chkOk, Nat.reduceEqDiff, Nat.reduceAdd, Nat.reduceSub, Nat.reduceMul, Nat.reduceLT, Nat.reduceLeDiff, Int.reduceLT, Int.reduceLE, Int.reduceEq, Int.reduceAdd, Int.reduceNeg, if_false, if_true, reduceIte, ags, LB.agz, agd, r_mv, r_pick, r_box, r_alloc, r_un, r_eqb, r_ext, r_mkf, r_cnv, r_st, r_nck, r_ix, r_iaa, takeN, agc, agn, VE.store, over, cellsAt, VE.part, agm, agb, blkX, gEval, cond_true, cond_false, r_build, r_bsl, fill, VE.unOp, r_bin, adz, ads, resOf, resVs, resV, alc, aln, reduceCtorEq, or_true, true_or, false_or, or_false, eq_self, exists_eq_left', Option.some.injEq]
  generalize hS : Tr.set _ 5 _ = S
  have b0 : Slots.at S 0 = c.v encH := by rw [← hS]; simp only [Slots.at_set, Nat.reduceEqDiff, if_false, if_true, reduceIte, argSlots_at, ags, agz, agd]
  have b1 : Slots.at S 1 = .int .u32 key := by rw [← hS]; simp only [Slots.at_set, Nat.reduceEqDiff, if_false, if_true, reduceIte, argSlots_at, ags, agz, agd]
  have b5 : Slots.at S 5 = .int .i64 ((0 : Nat) : Int) := by rw [← hS]; simp only [Slots.at_set, Nat.reduceEqDiff, if_false, if_true, reduceIte, argSlots_at, ags, agz, agd]; rfl
  clear hS
  refine loop_ind (fun m s h => invAt key c g m s h) ?_ c.l.length ⟨0, by omega, by omega, b0, b1, b5, rfl, fun j _ hj => by omega⟩
  rintro m s h ⟨k, hk, hm, c0, c1, c5, rfl, hinc⟩
  by_cases hlt : k < c.l.length
  case neg =>
    have hlt' : ¬ ((k : Int) < (c.l.length : Int)) := by omega
    have e := fidx_none (q := isK key) (l := c.l) (fun j hj => hinc j hj (by omega))
    simp only [↓zp, zz, true_and, and_true, chkOk, Nat.reduceEqDiff, Nat.reduceAdd, Nat.reduceSub, Nat.reduceMul, Nat.reduceLT, Nat.reduceLeDiff, Int.reduceLT, Int.reduceLE, Int.reduceEq, Int.reduceAdd, Int.reduceNeg, if_false, if_true, reduceIte, ags, LB.agz, agd, r_mv, r_pick, r_box, r_alloc, r_un, r_eqb, r_ext, r_mkf, r_cnv, r_st, r_nck, r_ix, r_iaa, takeN, agc, agn, VE.store, over, cellsAt, VE.part, agm, agb, blkX, gEval, cond_true, cond_false, r_build, r_bsl, fill, VE.unOp, r_bin, adz, ads, resOf, resVs, resV, alc, aln, reduceCtorEq, or_true, true_or, false_or, or_false, eq_self, exists_eq_left', Option.some.injEq, c0, c1, c5, hlt', e, frzI]
  have hlt' : (k : Int) < (c.l.length : Int) := by omega
  have ws := wr_succ (k := k) (by omega)
  have ia1 : ∀ h, r_ia 7 (c.v encH) (.int .i64 (k : Int)) h = some (.iptr (encH c.l[k] ++ (c.l.drop (k + 1)).flatMap encH), h) := fun h => r_ia_v encH_len (by decide) hlt rfl
  by_cases hqk : c.l[k].k = key
  · have e := fidx_at hlt (q := isK key) (by simp [isK, hqk]) hinc
    have hq' := eq_true hqk
    simp only [↓zp, zz, true_and, and_true, chkOk, Nat.reduceEqDiff, Nat.reduceAdd, Nat.reduceSub, Nat.reduceMul, Nat.reduceLT, Nat.reduceLeDiff, Int.reduceLT, Int.reduceLE, Int.reduceEq, Int.reduceAdd, Int.reduceNeg, if_false, if_true, reduceIte, ags, LB.agz, agd, r_mv, r_pick, r_box, r_alloc, r_un, r_eqb, r_ext, r_mkf, r_cnv, r_st, r_nck, r_ix, r_iaa, takeN, agc, agn, VE.store, over, cellsAt, VE.part, agm, agb, blkX, gEval, cond_true, cond_false, r_build, r_bsl, fill, VE.unOp, r_bin, adz, ads, resOf, resVs, resV, alc, aln, reduceCtorEq, or_true, true_or, false_or, or_false, eq_self, exists_eq_left', Option.some.injEq, c0, c1, c5, hlt', ia1, encH, hq', e, frzI]
  · simp only [↓zp, zz, true_and, and_true, chkOk, Nat.reduceEqDiff, Nat.reduceAdd, Nat.reduceSub, Nat.reduceMul, Nat.reduceLT, Nat.reduceLeDiff, Int.reduceLT, Int.reduceLE, Int.reduceEq, Int.reduceAdd, Int.reduceNeg, if_false, if_true, reduceIte, ags, LB.agz, agd, r_mv, r_pick, r_box, r_alloc, r_un, r_eqb, r_ext, r_mkf, r_cnv, r_st, r_nck, r_ix, r_iaa, takeN, agc, agn, VE.store, over, cellsAt, VE.part, agm, agb, blkX, gEval, cond_true, cond_false, r_build, r_bsl, fill, VE.unOp, r_bin, adz, ads, resOf, resVs, resV, alc, aln, reduceCtorEq, or_true, true_or, false_or, or_false, eq_self, exists_eq_left', Option.some.injEq, c0, c1, c5, hlt', ia1, encH, hqk, ws]
    refine ⟨_, by omega, k + 1, by omega, rfl, by simp only [Slots.at_set, Nat.reduceEqDiff, if_false, if_true, reduceIte, argSlots_at, ags, agz, agd, c0], by simp only [Slots.at_set, Nat.reduceEqDiff, if_false, if_true, reduceIte, argSlots_at, ags, agz, agd, c1], by simp only [Slots.at_set, Nat.reduceEqDiff, if_false, if_true, reduceIte, argSlots_at, ags, agz, agd], rfl, fun j hj hj2 => ?_⟩
    rcases Nat.lt_or_ge j k with r | r
    · exact hinc j hj r
    · have : j = k := by omega
      subst this
      simp [isK, hqk]
def invIH (F : V) (q : Held → Bool) (c : Sl Held) (H : Heap) (m : Nat) (s : Slots) (h : Heap) : Prop :=
  ∃ k, k ≤ c.l.length ∧ m = c.l.length - k ∧ s.at 0 = c.v encH ∧ s.at 1 = F ∧ s.at 7 = .int .i64 (c.l.length : Int) ∧ s.at 8 = .int .i64 (k : Int) ∧ h = H ∧ ∀ j (hj : j < c.l.length), j < k → q c.l[j] = false
theorem take7 (x : Held) (r : List V) : takeN 7 (encH x ++ r) = some (encH x) := rfl
theorem idxH_spec {f : Nat} (hf : vp f = some B_slices_IndexFunc_api_Held) (F : V) (q : Held → Bool) (c : Sl Held) (h : Heap) (hn : c.l.length < 4611686018427387904)
    (hq : ∀ g, hgOk h [c.v encH, F] g → ∀ x ∈ c.l, callVRes vp F [.agg (encH x)] g = some (.bool (q x), g)) : callRes vp f [c.v encH, F] h = some (.int .i64 (fidx q c.l), h) := by
  refine res_pure hf rfl rfl (fun g hg => ?_)
  have hq := hq g hg
  unfold B_slices_IndexFunc_api_Held
  simp only [↓zp, zz, true_and, and_true, chkOk, Nat.reduceEqDiff, Nat.reduceAdd, Nat.reduceSub, Nat.reduceMul, Nat.reduceLT, Nat.reduceLeDiff, Int.reduceLT, Int.reduceLE, Int.reduceEq, Int.reduceAdd, Int.reduceNeg, if_false, if_true, reduceIte, ags, LB.agz, agd, r_mv, r_pick, r_box, r_alloc, r_un, r_eqb, r_ext, r_mkf, r_cnv, r_st, r_nck, r_ix, r_iaa, takeN, agc, agn, VE.store, over, cellsAt, VE.part, agm, agb, blkX, gEval, cond_true, cond_false, r_build, r_bsl, fill, VE.unOp, r_bin, adz, ads, resOf, resVs, resV, alc, aln, reduceCtorEq, or_true, true_or, false_or, or_false, eq_self, exists_eq_left', Option.some.injEq]
  generalize hS : Tr.set _ 8 _ = S
  have b0 : Slots.at S 0 = c.v encH := by rw [← hS]; simp only [Slots.at_set, Nat.reduceEqDiff, if_false, if_true, reduceIte, argSlots_at, ags, agz, agd]
  have b1 : Slots.at S 1 = F := by rw [← hS]; simp only [Slots.at_set, Nat.reduceEqDiff, if_false, if_true, reduceIte, argSlots_at, ags, agz, agd]
  have b7 : Slots.at S 7 = .int .i64 (c.l.length : Int) := by rw [← hS]; simp only [Slots.at_set, Nat.reduceEqDiff, if_false, if_true, reduceIte, argSlots_at, ags, agz, agd]
  have b8 : Slots.at S 8 = .int .i64 ((0 : Nat) : Int) := by rw [← hS]; simp only [Slots.at_set, Nat.reduceEqDiff, if_false, if_true, reduceIte, argSlots_at, ags, agz, agd]; rfl
  clear hS
  refine loop_ind (fun m s h => invIH F q c g m s h) ?_ c.l.length ⟨0, by omega, by omega, b0, b1, b7, b8, rfl, fun j _ hj => by omega⟩
  rintro m s h ⟨k, hk, hm, c0, c1, c7, c8, rfl, hinc⟩
  by_cases hlt : k < c.l.length
  case neg =>
    have hlt' : ¬ ((k : Int) < (c.l.length : Int)) := by omega
    have e := fidx_none (q := q) (l := c.l) (fun j hj => hinc j hj (by omega))
    simp only [↓zp, zz, true_and, and_true, chkOk, Nat.reduceEqDiff, Nat.reduceAdd, Nat.reduceSub, Nat.reduceMul, Nat.reduceLT, Nat.reduceLeDiff, Int.reduceLT, Int.reduceLE, Int.reduceEq, Int.reduceAdd, Int.reduceNeg, if_false, if_true, reduceIte, ags, LB.agz, agd, r_mv, r_pick, r_box, r_alloc, r_un, r_eqb, r_ext, r_mkf, r_cnv, r_st, r_nck, r_ix, r_iaa, takeN, agc, agn, VE.store, over, cellsAt, VE.part, agm, agb, blkX, gEval, cond_true, cond_false, r_build, r_bsl, fill, VE.unOp, r_bin, adz, ads, resOf, resVs, resV, alc, aln, reduceCtorEq, or_true, true_or, false_or, or_false, eq_self, exists_eq_left', Option.some.injEq, c0, c1, c7, c8, hlt', e, frzI]
  have hlt' : (k : Int) < (c.l.length : Int) := by omega
  have ws := wr_succ (k := k) (by omega)
  have ia1 : ∀ h, r_ia 7 (c.v encH) (.int .i64 (k : Int)) h = some (.iptr (encH c.l[k] ++ (c.l.drop (k + 1)).flatMap encH), h) := fun h => r_ia_v encH_len (by decide) hlt rfl
  have hc := hq c.l[k] (List.getElem_mem hlt)
  cases hqk : q c.l[k] with
  | true =>
    rw [hqk] at hc
    have e := fidx_at hlt hqk hinc
    simp only [↓zp, zz, true_and, and_true, chkOk, Nat.reduceEqDiff, Nat.reduceAdd, Nat.reduceSub, Nat.reduceMul, Nat.reduceLT, Nat.reduceLeDiff, Int.reduceLT, Int.reduceLE, Int.reduceEq, Int.reduceAdd, Int.reduceNeg, if_false, if_true, reduceIte, ags, LB.agz, agd, r_mv, r_pick, r_box, r_alloc, r_un, r_eqb, r_ext, r_mkf, r_cnv, r_st, r_nck, r_ix, r_iaa, takeN, agc, agn, VE.store, over, cellsAt, VE.part, agm, agb, blkX, gEval, cond_true, cond_false, r_build, r_bsl, fill, VE.unOp, r_bin, adz, ads, resOf, resVs, resV, alc, aln, reduceCtorEq, or_true, true_or, false_or, or_false, eq_self, exists_eq_left', Option.some.injEq, c0, c1, c7, c8, hlt', ia1, take7, hc, e, frzI]
  | false =>
    rw [hqk] at hc
    simp only [↓zp, zz, true_and, and_true, chkOk, Nat.reduceEqDiff, Nat.reduceAdd, Nat.reduceSub, Nat.reduceMul, Nat.reduceLT, Nat.reduceLeDiff, Int.reduceLT, Int.reduceLE, Int.reduceEq, Int.reduceAdd, Int.reduceNeg, if_false, if_true, reduceIte, ags, LB.agz, agd, r_mv, r_pick, r_box, r_alloc, r_un, r_eqb, r_ext, r_mkf, r_cnv, r_st, r_nck, r_ix, r_iaa, takeN, agc, agn, VE.store, over, cellsAt, VE.part, agm, agb, blkX, gEval, cond_true, cond_false, r_build, r_bsl, fill, VE.unOp, r_bin, adz, ads, resOf, resVs, resV, alc, aln, reduceCtorEq, or_true, true_or, false_or, or_false, eq_self, exists_eq_left', Option.some.injEq, c0, c1, c7, c8, hlt', ia1, take7, hc, ws]
    refine ⟨_, by omega, k + 1, by omega, rfl, by simp only [Slots.at_set, Nat.reduceEqDiff, if_false, if_true, reduceIte, argSlots_at, ags, agz, agd, c0], by simp only [Slots.at_set, Nat.reduceEqDiff, if_false, if_true, reduceIte, argSlots_at, ags, agz, agd, c1], by simp only [Slots.at_set, Nat.reduceEqDiff, if_false, if_true, reduceIte, argSlots_at, ags, agz, agd, c7], by simp only [Slots.at_set, Nat.reduceEqDiff, if_false, if_true, reduceIte, argSlots_at, ags, agz, agd], rfl, fun j hj hj2 => ?_⟩
    rcases Nat.lt_or_ge j k with r | r
    · exact hinc j hj r
    · have : j = k := by omega
      subst this
      exact hqk
theorem atfn_spec {f : Nat} (hf : vp f = some B_model_at_fn1) (x : Held) (key : Int) (b : Nat) (tag : Tag) (h : Heap) (hb : h.get b = .cells [.int .u32 key] tag) (hlt : b < h.nx) : callRes vp f [.agg (encH x), .ptr b 0] h = some (.bool (isK key x), h) := by
  refine res_pure hf rfl rfl (fun g hg => ?_)
  have hb' : g.get b = .cells [.int .u32 key] tag := by
    rcases hg with ⟨_, q⟩ | ⟨_, _, q⟩
    · exact absurd q (by intro q; cases q)
    · rw [q, hb]
  have hne : ¬ b = g.nx := by
    rcases hg with ⟨_, q⟩ | ⟨q, _, _⟩
    · exact absurd q (by intro q; cases q)
    · omega
  unfold B_model_at_fn1 encH isK
  simp only [↓zp, zz, true_and, and_true, chkOk, Nat.reduceEqDiff, Nat.reduceAdd, Nat.reduceSub, Nat.reduceMul, Nat.reduceLT, Nat.reduceLeDiff, Int.reduceLT, Int.reduceLE, Int.reduceEq, Int.reduceAdd, Int.reduceNeg, if_false, if_true, reduceIte, ags, LB.agz, agd, r_mv, r_pick, r_box, r_alloc, r_un, r_eqb, r_ext, r_mkf, r_cnv, r_st, r_nck, r_ix, r_iaa, takeN, agc, agn, VE.store, over, cellsAt, VE.part, agm, agb, blkX, gEval, cond_true, cond_false, r_build, r_bsl, fill, VE.unOp, r_bin, adz, ads, resOf, resVs, resV, alc, aln, reduceCtorEq, or_true, true_or, false_or, or_false, eq_self, exists_eq_left', Option.some.injEq, hb', hne, frzB]
theorem mat_spec {f c1 c2 : Nat} (hf : vp f = some (B_model_at c1 c2)) (h1 : vp c1 = some B_model_at_fn1) (h2 : vp c2 = some B_slices_IndexFunc_api_Held) (c : Sl Held) (key : Int) (h : Heap) (hn : c.l.length < 4611686018427387904) : callRes vp f [c.v encH, .int .u32 key] h = some (.int .i64 (fidx (isK key) c.l), h) := by
  have m2 : modeOf vp c2 = some 1 := by simp [modeOf, h2, B_slices_IndexFunc_api_Held]
  refine res_pure hf rfl rfl (fun g hg => ?_)
  unfold B_model_at
  have e : ∀ h, h.get g.nx = .cells [.int .u32 key] .cl → g.nx < h.nx → callRes vp c2 [c.v encH, .fn c1 [.ptr g.nx 0]] h = some (.int .i64 (fidx (isK key) c.l), h) := fun h hb hl => idxH_spec h2 _ (isK key) c h hn (fun g' hg' x _ => callVRes_fn (atfn_spec h1 x key g.nx .cl g' (by rw [hg_get hg', hb]) (by
    rcases hg' with ⟨_, q⟩ | ⟨q, _, _⟩
    · rw [iso_none] at q; cases q
    · omega)))
  have e := e (g.new (.cells [.int .u32 key] .cl)) (by rw [Heap.get_new, if_pos rfl]) (by simp [Heap.new])
  simp only [↓zp, zz, true_and, and_true, chkOk, Nat.reduceEqDiff, Nat.reduceAdd, Nat.reduceSub, Nat.reduceMul, Nat.reduceLT, Nat.reduceLeDiff, Int.reduceLT, Int.reduceLE, Int.reduceEq, Int.reduceAdd, Int.reduceNeg, if_false, if_true, reduceIte, ags, LB.agz, agd, r_mv, r_pick, r_box, r_alloc, r_un, r_eqb, r_ext, r_mkf, r_cnv, r_st, r_nck, r_ix, r_iaa, takeN, agc, agn, VE.store, over, cellsAt, VE.part, agm, agb, blkX, gEval, cond_true, cond_false, r_build, r_bsl, fill, VE.unOp, r_bin, adz, ads, resOf, resVs, resV, alc, aln, reduceCtorEq, or_true, true_or, false_or, or_false, eq_self, exists_eq_left', Option.some.injEq, m2, e, frzI]
end
end Go.VE.LB
