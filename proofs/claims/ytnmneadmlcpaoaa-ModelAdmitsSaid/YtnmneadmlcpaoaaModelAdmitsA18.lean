/- What the functions of the law ModelAdmits compute, on typed arguments (part 18). -/
import Derived.Test.YtnmneadmlcpaoaaModelAdmitsA17
import Derived.Test.YtnmneadmlcpaoaaModelAdmitsA8
set_option linter.all false
namespace Go.VE.LB
open Go Go.VE
set_option maxRecDepth 100000
set_option linter.all false
set_option maxHeartbeats 1000000
section
variable {vp : Nat → Option VFn}
/-- An own function: what its body comes to. -/
theorem res_own {f : Nat} {fn : VFn} {args : List V} {h : Heap} {P : V → Heap → Prop} (hf : vp f = some fn) (hp : fn.prim = none) (hm : fn.mode = 2)
    (w : wp vp fn.body (argSlots args) { h with lo := h.nx } fun x s' h' => (x = .norm ∨ x = .ret) ∧ ∃ v, resOf s' h' fn.res = some v ∧ P v { h' with lo := h.lo }) : ∃ v h', callRes vp f args h = some (v, h') ∧ P v h' := by
  obtain ⟨n, x, s', h', e, hx, v, hv, k⟩ := wp_sound w
  refine ⟨v, { h' with lo := h.lo }, callRes_of (n := n + 1) ?_, k⟩
  have hi : isoArgs 2 args = none := rfl
  rcases hx with rfl | rfl
  · simp only [callF, hf, hp, hm, hi, enterH, e, hv, finish]
  · simp only [callF, hf, hp, hm, hi, enterH, e, hv, finish]
end
/-- a slice whose block lies between two places, and reads as a list -/
def Own {α : Type} (enc : α → List V) (sz : Nat) (h : Heap) (v : V) (l : List α) (lo hi : Nat) : Prop :=
  (v = .nils ∧ l = []) ∨ ∃ b tag, v = .sl b 0 l.length l.length sz ∧ lo ≤ b ∧ b < hi ∧ h.get b = .cells (l.flatMap enc) tag
theorem Own.keep {α : Type} {enc : α → List V} {sz : Nat} {h h' : Heap} {v : V} {l : List α} {lo hi : Nat} (o : Own enc sz h v l lo hi) (k : ∀ b, lo ≤ b → b < hi → h'.get b = h.get b) : Own enc sz h' v l lo hi := by
  rcases o with o | ⟨b, tag, e, h1, h2, h3⟩
  · exact .inl o
  · exact .inr ⟨b, tag, e, h1, h2, by rw [k b h1 h2, h3]⟩
section
variable {α : Type} {enc : α → List V} {sz bytes : Nat}
theorem app_own (he : ∀ x, (enc x).length = sz) {b : Nat} {h : Heap} {l : List α} {cap : Option Nat} (hb : h.get b = .cells [] .cl) (hn : l.length * bytes ≤ 140737488355328) (hne : l ≠ []) :
    r_app sz bytes (.sl b 0 0 0 sz) (.isl (l.flatMap enc) l.length cap) h = some (.sl h.nx 0 l.length l.length sz, h.new (.cells (l.flatMap enc) .op)) := by
  have hr : rowOf h sz (.isl (l.flatMap enc) l.length cap) = some (l.flatMap enc) := by
    simp only [rowOf, flat_len2 he, beq_dec, decide_true, cond_true]
  have h0 : 0 < l.length := List.length_pos_iff.2 hne
  obtain ⟨n, hn'⟩ : ∃ n, l.length = n + 1 := ⟨l.length - 1, by omega⟩
  have h1 : Nat.ble (n + 1) 0 = false := by rw [ble_dec]; simp
  have h2 : Nat.blt 140737488355328 ((n + 1) * bytes) = false := by rw [blt_dec]; simp; rw [← hn']; omega
  have e1 : lenOf (.isl (l.flatMap enc) l.length cap) = some (n + 1) := by simp only [lenOf, hn']
  unfold r_app
  rw [e1, hr, hn']
  simp only [appendV, beq_dec, decide_true, cond_true, hb, h1, cond_false, h2, Nat.zero_mul, takeN, Tag.opn, Bool.false_and, List.nil_append, Nat.zero_add, tagN, h1, h2, cond_false]
theorem app_own0 {b : Nat} {h : Heap} {cap : Option Nat} : r_app sz bytes (.sl b 0 0 0 sz) (.isl [] 0 cap) h = some (.sl b 0 0 0 sz, h) := by
  simp only [r_app, lenOf, rowOf, Nat.zero_mul, List.length_nil, beq_dec, decide_true, cond_true, appendV]
theorem eqn_nils {h : Heap} : r_eqn false 1 .nils .nils h = some (.bool true, h) := rfl
theorem eqn_isl {l : List V} {n : Nat} {c : Option Nat} {h : Heap} : r_eqn false 1 (.isl l n c) .nils h = some (.bool false, h) := rfl
theorem eqn_sl {b o n c z : Nat} {h : Heap} : r_eqn false 1 (.sl b o n c z) .nils h = some (.bool false, h) := rfl
end
section
variable {vp : Nat → Option VFn}
theorem cloneH_spec {f : Nat} (hf : vp f = some B_slices_Clone_api_Held_v2) (c : Sl Held) (h : Heap) (hn : c.l.length ≤ 100000) (hlo : h.lo ≤ h.nx) :
    ∃ v h', callRes vp f [c.v encH] h = some (v, h') ∧ Own encH 7 h' v c.l h.nx h'.nx ∧ Kp h h' := by
  refine res_own hf rfl rfl ?_
  unfold B_slices_Clone_api_Held_v2
  cases c with
  | nil =>
    simp only [↓zp, zz, true_and, and_true, chkOk, Nat.reduceEqDiff, Nat.reduceAdd, Nat.reduceSub, Nat.reduceMul, Nat.reduceLT, Nat.reduceLeDiff, Int.reduceLT, Int.reduceLE, Int.reduceEq, Int.reduceAdd, Int.reduceNeg, if_false, if_true, reduceIte, ags, LB.agz, agd, r_mv, r_pick, r_box, r_alloc, r_un, r_eqb, r_ext, r_mkf, r_cnv, r_st, r_nck, r_ix, r_iaa, takeN, agc, agn, VE.store, over, cellsAt, VE.part, agm, agb, blkX, gEval, cond_true, cond_false, r_build, r_bsl, fill, VE.unOp, r_bin, adz, ads, resOf, resVs, resV, alc, aln, reduceCtorEq, or_true, true_or, false_or, or_false, eq_self, exists_eq_left', Option.some.injEq, Sl.v, eqn_nils, exists_eq_left']
    exact ⟨.inl ⟨rfl, rfl⟩, .refl h⟩
  | mk l cap =>
    by_cases hl : l = []
    · subst hl
      simp only [↓zp, zz, true_and, and_true, chkOk, Nat.reduceEqDiff, Nat.reduceAdd, Nat.reduceSub, Nat.reduceMul, Nat.reduceLT, Nat.reduceLeDiff, Int.reduceLT, Int.reduceLE, Int.reduceEq, Int.reduceAdd, Int.reduceNeg, if_false, if_true, reduceIte, ags, LB.agz, agd, r_mv, r_pick, r_box, r_alloc, r_un, r_eqb, r_ext, r_mkf, r_cnv, r_st, r_nck, r_ix, r_iaa, takeN, agc, agn, VE.store, over, cellsAt, VE.part, agm, agb, blkX, gEval, cond_true, cond_false, r_build, r_bsl, fill, VE.unOp, r_bin, adz, ads, resOf, resVs, resV, alc, aln, reduceCtorEq, or_true, true_or, false_or, or_false, eq_self, exists_eq_left', Option.some.injEq, Sl.v, eqn_isl, app_own0, List.flatMap_nil]
      refine ⟨.inr ⟨h.nx, .cl, rfl, by omega, by simp [Heap.new], ?_⟩, rfl, by simp [Heap.new], fun b hb => ?_⟩
      · show ((Heap.new { h with lo := h.nx } _).get _) = _
        rw [Heap.get_new]
        exact if_pos rfl
      · show ((Heap.new { h with lo := h.nx } _).get _) = _
        rw [Heap.get_new, if_neg (by show ¬ b = h.nx; omega)]
        rfl
    · have hn : l.length ≤ 100000 := hn
      have ap : ∀ h : Heap, ∀ b, h.get b = .cells [] .cl → _ := fun h b hb => app_own (bytes := 56) encH_len (b := b) (h := h) (l := l) (cap := cap) hb (by omega) hl
      have ap2 := ap (Heap.new { h with lo := h.nx } (.cells [] .cl)) h.nx (by rw [Heap.get_new, if_pos rfl])
      simp only [↓zp, zz, true_and, and_true, chkOk, Nat.reduceEqDiff, Nat.reduceAdd, Nat.reduceSub, Nat.reduceMul, Nat.reduceLT, Nat.reduceLeDiff, Int.reduceLT, Int.reduceLE, Int.reduceEq, Int.reduceAdd, Int.reduceNeg, if_false, if_true, reduceIte, ags, LB.agz, agd, r_mv, r_pick, r_box, r_alloc, r_un, r_eqb, r_ext, r_mkf, r_cnv, r_st, r_nck, r_ix, r_iaa, takeN, agc, agn, VE.store, over, cellsAt, VE.part, agm, agb, blkX, gEval, cond_true, cond_false, r_build, r_bsl, fill, VE.unOp, r_bin, adz, ads, resOf, resVs, resV, alc, aln, reduceCtorEq, or_true, true_or, false_or, or_false, eq_self, exists_eq_left', Option.some.injEq, Sl.v, eqn_isl, ap2]
      refine ⟨.inr ⟨h.nx + 1, .op, rfl, by omega, by simp [Heap.new], ?_⟩, rfl, by simp [Heap.new], fun b hb => ?_⟩
      · show ((Heap.new (Heap.new { h with lo := h.nx } _) _).get _) = _
        rw [Heap.get_new]
        exact if_pos rfl
      · show ((Heap.new (Heap.new { h with lo := h.nx } _) _).get _) = _
        rw [Heap.get_new, if_neg (by show ¬ b = h.nx + 1; omega), Heap.get_new, if_neg (by show ¬ b = h.nx; omega)]
        rfl
theorem cloneU_spec {f : Nat} (hf : vp f = some B_slices_Clone_uint32_v2) (c : Sl Int) (h : Heap) (hn : c.l.length ≤ 100000) (hlo : h.lo ≤ h.nx) :
    ∃ v h', callRes vp f [c.v e32] h = some (v, h') ∧ Own e32 1 h' v c.l h.nx h'.nx ∧ Kp h h' := by
  refine res_own hf rfl rfl ?_
  unfold B_slices_Clone_uint32_v2
  cases c with
  | nil =>
    simp only [↓zp, zz, true_and, and_true, chkOk, Nat.reduceEqDiff, Nat.reduceAdd, Nat.reduceSub, Nat.reduceMul, Nat.reduceLT, Nat.reduceLeDiff, Int.reduceLT, Int.reduceLE, Int.reduceEq, Int.reduceAdd, Int.reduceNeg, if_false, if_true, reduceIte, ags, LB.agz, agd, r_mv, r_pick, r_box, r_alloc, r_un, r_eqb, r_ext, r_mkf, r_cnv, r_st, r_nck, r_ix, r_iaa, takeN, agc, agn, VE.store, over, cellsAt, VE.part, agm, agb, blkX, gEval, cond_true, cond_false, r_build, r_bsl, fill, VE.unOp, r_bin, adz, ads, resOf, resVs, resV, alc, aln, reduceCtorEq, or_true, true_or, false_or, or_false, eq_self, exists_eq_left', Option.some.injEq, Sl.v, eqn_nils, exists_eq_left']
    exact ⟨.inl ⟨rfl, rfl⟩, .refl h⟩
  | mk l cap =>
    by_cases hl : l = []
    · subst hl
      simp only [↓zp, zz, true_and, and_true, chkOk, Nat.reduceEqDiff, Nat.reduceAdd, Nat.reduceSub, Nat.reduceMul, Nat.reduceLT, Nat.reduceLeDiff, Int.reduceLT, Int.reduceLE, Int.reduceEq, Int.reduceAdd, Int.reduceNeg, if_false, if_true, reduceIte, ags, LB.agz, agd, r_mv, r_pick, r_box, r_alloc, r_un, r_eqb, r_ext, r_mkf, r_cnv, r_st, r_nck, r_ix, r_iaa, takeN, agc, agn, VE.store, over, cellsAt, VE.part, agm, agb, blkX, gEval, cond_true, cond_false, r_build, r_bsl, fill, VE.unOp, r_bin, adz, ads, resOf, resVs, resV, alc, aln, reduceCtorEq, or_true, true_or, false_or, or_false, eq_self, exists_eq_left', Option.some.injEq, Sl.v, eqn_isl, app_own0, List.flatMap_nil]
      refine ⟨.inr ⟨h.nx, .cl, rfl, by omega, by simp [Heap.new], ?_⟩, rfl, by simp [Heap.new], fun b hb => ?_⟩
      · show ((Heap.new { h with lo := h.nx } _).get _) = _
        rw [Heap.get_new]
        exact if_pos rfl
      · show ((Heap.new { h with lo := h.nx } _).get _) = _
        rw [Heap.get_new, if_neg (by show ¬ b = h.nx; omega)]
        rfl
    · have hn : l.length ≤ 100000 := hn
      have ap : ∀ h : Heap, ∀ b, h.get b = .cells [] .cl → _ := fun h b hb => app_own (bytes := 4) e32_len (b := b) (h := h) (l := l) (cap := cap) hb (by omega) hl
      have ap2 := ap (Heap.new { h with lo := h.nx } (.cells [] .cl)) h.nx (by rw [Heap.get_new, if_pos rfl])
      simp only [↓zp, zz, true_and, and_true, chkOk, Nat.reduceEqDiff, Nat.reduceAdd, Nat.reduceSub, Nat.reduceMul, Nat.reduceLT, Nat.reduceLeDiff, Int.reduceLT, Int.reduceLE, Int.reduceEq, Int.reduceAdd, Int.reduceNeg, if_false, if_true, reduceIte, ags, LB.agz, agd, r_mv, r_pick, r_box, r_alloc, r_un, r_eqb, r_ext, r_mkf, r_cnv, r_st, r_nck, r_ix, r_iaa, takeN, agc, agn, VE.store, over, cellsAt, VE.part, agm, agb, blkX, gEval, cond_true, cond_false, r_build, r_bsl, fill, VE.unOp, r_bin, adz, ads, resOf, resVs, resV, alc, aln, reduceCtorEq, or_true, true_or, false_or, or_false, eq_self, exists_eq_left', Option.some.injEq, Sl.v, eqn_isl, ap2]
      refine ⟨.inr ⟨h.nx + 1, .op, rfl, by omega, by simp [Heap.new], ?_⟩, rfl, by simp [Heap.new], fun b hb => ?_⟩
      · show ((Heap.new (Heap.new { h with lo := h.nx } _) _).get _) = _
        rw [Heap.get_new]
        exact if_pos rfl
      · show ((Heap.new (Heap.new { h with lo := h.nx } _) _).get _) = _
        rw [Heap.get_new, if_neg (by show ¬ b = h.nx + 1; omega), Heap.get_new, if_neg (by show ¬ b = h.nx; omega)]
        rfl
def isU (key : Int) (x : Int) : Bool := decide (x = key)
def invIx (key : Int) (c : Sl Int) (H : Heap) (m : Nat) (s : Slots) (h : Heap) : Prop :=
  ∃ k, k ≤ c.l.length ∧ m = c.l.length - k ∧ s.at 0 = c.v e32 ∧ s.at 1 = .int .u32 key ∧ s.at 7 = .int .i64 (c.l.length : Int) ∧ s.at 8 = .int .i64 (k : Int) ∧ h = H ∧ ∀ j (hj : j < c.l.length), j < k → isU key c.l[j] = false
theorem ixU_spec {f : Nat} (hf : vp f = some B_slices_Index_uint32) (c : Sl Int) (key : Int) (h : Heap) (hn : c.l.length < 4611686018427387904) : callRes vp f [c.v e32, .int .u32 key] h = some (.int .i64 (fidx (isU key) c.l), h) := by
  refine res_pure hf rfl rfl (fun g hg => ?_)
  unfold B_slices_Index_uint32
  simp only [↓zp, zz, true_and, and_true, chkOk, Nat.reduceEqDiff, Nat.reduceAdd, Nat.reduceSub, Nat.reduceMul, Nat.reduceLT, Nat.reduceLeDiff, Int.reduceLT, Int.reduceLE, Int.reduceEq, Int.reduceAdd, Int.reduceNeg, if_false, if_true, reduceIte, ags, LB.agz, agd, r_mv, r_pick, r_box, r_alloc, r_un, r_eqb, r_ext, r_mkf, r_cnv, r_st, r_nck, r_ix, r_iaa, takeN, agc, agn, VE.store, over, cellsAt, VE.part, agm, agb, blkX, gEval, cond_true, cond_false, r_build, r_bsl, fill, VE.unOp, r_bin, adz, ads, resOf, resVs, resV, alc, aln, reduceCtorEq, or_true, true_or, false_or, or_false, eq_self, exists_eq_left', Option.some.injEq]
  generalize hS : Tr.set _ 8 _ = S
  have b0 : Slots.at S 0 = c.v e32 := by rw [← hS]; simp only [Slots.at_set, Nat.reduceEqDiff, if_false, if_true, reduceIte, argSlots_at, ags, agz, agd]
  have b1 : Slots.at S 1 = .int .u32 key := by rw [← hS]; simp only [Slots.at_set, Nat.reduceEqDiff, if_false, if_true, reduceIte, argSlots_at, ags, agz, agd]
  have b7 : Slots.at S 7 = .int .i64 (c.l.length : Int) := by rw [← hS]; simp only [Slots.at_set, Nat.reduceEqDiff, if_false, if_true, reduceIte, argSlots_at, ags, agz, agd]
  have b8 : Slots.at S 8 = .int .i64 ((0 : Nat) : Int) := by rw [← hS]; simp only [Slots.at_set, Nat.reduceEqDiff, if_false, if_true, reduceIte, argSlots_at, ags, agz, agd]; rfl
  clear hS
  refine loop_ind (fun m s h => invIx key c g m s h) ?_ c.l.length ⟨0, by omega, by omega, b0, b1, b7, b8, rfl, fun j _ hj => by omega⟩
  rintro m s h ⟨k, hk, hm, c0, c1, c7, c8, rfl, hinc⟩
  by_cases hlt : k < c.l.length
  case neg =>
    have hlt' : ¬ ((k : Int) < (c.l.length : Int)) := by omega
    have e := fidx_none (q := isU key) (l := c.l) (fun j hj => hinc j hj (by omega))
    simp only [↓zp, zz, true_and, and_true, chkOk, Nat.reduceEqDiff, Nat.reduceAdd, Nat.reduceSub, Nat.reduceMul, Nat.reduceLT, Nat.reduceLeDiff, Int.reduceLT, Int.reduceLE, Int.reduceEq, Int.reduceAdd, Int.reduceNeg, if_false, if_true, reduceIte, ags, LB.agz, agd, r_mv, r_pick, r_box, r_alloc, r_un, r_eqb, r_ext, r_mkf, r_cnv, r_st, r_nck, r_ix, r_iaa, takeN, agc, agn, VE.store, over, cellsAt, VE.part, agm, agb, blkX, gEval, cond_true, cond_false, r_build, r_bsl, fill, VE.unOp, r_bin, adz, ads, resOf, resVs, resV, alc, aln, reduceCtorEq, or_true, true_or, false_or, or_false, eq_self, exists_eq_left', Option.some.injEq, c0, c1, c7, c8, hlt', e, frzI]
  have hlt' : (k : Int) < (c.l.length : Int) := by omega
  have ws := wr_succ (k := k) (by omega)
  have ia1 : ∀ h, r_ia 1 (c.v e32) (.int .i64 (k : Int)) h = some (.iptr (e32 c.l[k] ++ (c.l.drop (k + 1)).flatMap e32), h) := fun h => r_ia_v e32_len (by decide) hlt rfl
  by_cases hqk : c.l[k] = key
  · have e := fidx_at hlt (q := isU key) (by simp [isU, hqk]) hinc
    have hq' : (key = c.l[k]) = True := by simp [hqk]
    simp only [↓zp, zz, true_and, and_true, chkOk, Nat.reduceEqDiff, Nat.reduceAdd, Nat.reduceSub, Nat.reduceMul, Nat.reduceLT, Nat.reduceLeDiff, Int.reduceLT, Int.reduceLE, Int.reduceEq, Int.reduceAdd, Int.reduceNeg, if_false, if_true, reduceIte, ags, LB.agz, agd, r_mv, r_pick, r_box, r_alloc, r_un, r_eqb, r_ext, r_mkf, r_cnv, r_st, r_nck, r_ix, r_iaa, takeN, agc, agn, VE.store, over, cellsAt, VE.part, agm, agb, blkX, gEval, cond_true, cond_false, r_build, r_bsl, fill, VE.unOp, r_bin, adz, ads, resOf, resVs, resV, alc, aln, reduceCtorEq, or_true, true_or, false_or, or_false, eq_self, exists_eq_left', Option.some.injEq, c0, c1, c7, c8, hlt', ia1, e32, hq', e, frzI]
  · have hq' : (key = c.l[k]) = False := by simp; exact fun e => hqk e.symm
    simp only [↓zp, zz, true_and, and_true, chkOk, Nat.reduceEqDiff, Nat.reduceAdd, Nat.reduceSub, Nat.reduceMul, Nat.reduceLT, Nat.reduceLeDiff, Int.reduceLT, Int.reduceLE, Int.reduceEq, Int.reduceAdd, Int.reduceNeg, if_false, if_true, reduceIte, ags, LB.agz, agd, r_mv, r_pick, r_box, r_alloc, r_un, r_eqb, r_ext, r_mkf, r_cnv, r_st, r_nck, r_ix, r_iaa, takeN, agc, agn, VE.store, over, cellsAt, VE.part, agm, agb, blkX, gEval, cond_true, cond_false, r_build, r_bsl, fill, VE.unOp, r_bin, adz, ads, resOf, resVs, resV, alc, aln, reduceCtorEq, or_true, true_or, false_or, or_false, eq_self, exists_eq_left', Option.some.injEq, c0, c1, c7, c8, hlt', ia1, e32, hq', ws]
    refine ⟨_, by omega, k + 1, by omega, rfl, by simp only [Slots.at_set, Nat.reduceEqDiff, if_false, if_true, reduceIte, argSlots_at, ags, agz, agd, c0], by simp only [Slots.at_set, Nat.reduceEqDiff, if_false, if_true, reduceIte, argSlots_at, ags, agz, agd, c1], by simp only [Slots.at_set, Nat.reduceEqDiff, if_false, if_true, reduceIte, argSlots_at, ags, agz, agd, c7], by simp only [Slots.at_set, Nat.reduceEqDiff, if_false, if_true, reduceIte, argSlots_at, ags, agz, agd], rfl, fun j hj hj2 => ?_⟩
    rcases Nat.lt_or_ge j k with r | r
    · exact hinc j hj r
    · have : j = k := by omega
      subst this
      simp [isU, hqk]
theorem contU_spec {f c1 : Nat} (hf : vp f = some (B_slices_Contains_uint32 c1)) (h1 : vp c1 = some B_slices_Index_uint32) (c : Sl Int) (key : Int) (h : Heap) (hn : c.l.length < 4611686018427387904) : callRes vp f [c.v e32, .int .u32 key] h = some (.bool (c.l.any (isU key)), h) := by
  have m1 : modeOf vp c1 = some 1 := by simp [modeOf, h1, B_slices_Index_uint32]
  have k1 := fun h => ixU_spec h1 c key h hn
  refine res_pure hf rfl rfl (fun g hg => ?_)
  unfold B_slices_Contains_uint32
  simp only [↓zp, zz, true_and, and_true, chkOk, Nat.reduceEqDiff, Nat.reduceAdd, Nat.reduceSub, Nat.reduceMul, Nat.reduceLT, Nat.reduceLeDiff, Int.reduceLT, Int.reduceLE, Int.reduceEq, Int.reduceAdd, Int.reduceNeg, if_false, if_true, reduceIte, ags, LB.agz, agd, r_mv, r_pick, r_box, r_alloc, r_un, r_eqb, r_ext, r_mkf, r_cnv, r_st, r_nck, r_ix, r_iaa, takeN, agc, agn, VE.store, over, cellsAt, VE.part, agm, agb, blkX, gEval, cond_true, cond_false, r_build, r_bsl, fill, VE.unOp, r_bin, adz, ads, resOf, resVs, resV, alc, aln, reduceCtorEq, or_true, true_or, false_or, or_false, eq_self, exists_eq_left', Option.some.injEq, m1, k1, frzB, fidx_any]
def invRv (key : Int) (a : Acct) (H : Heap) (m : Nat) (s : Slots) (h : Heap) : Prop :=
  ∃ k, k ≤ a.rev.l.length ∧ m = a.rev.l.length - k ∧ s.at 1 = .int .u32 key ∧ s.at 2 = .ptr H.nx 0 ∧ s.at 5 = .int .i64 (k : Int) ∧ h = H.new (.cells (encA a) .cl) ∧ ∀ j (hj : j < a.rev.l.length), j < k → isU key a.rev.l[j] = false
theorem anyU {key : Int} {l : List Int} (h : ∀ j (hj : j < l.length), isU key l[j] = false) : l.any (isU key) = false := by
  rw [List.any_eq_false]
  intro x hx
  obtain ⟨j, hj, rfl⟩ := List.mem_iff_getElem.1 hx
  simp [h j hj]
theorem isRev_spec {f : Nat} (hf : vp f = some B_spigotref25_IsRevoked) (a : Acct) (key : Int) (h : Heap) (hn : a.rev.l.length < 4611686018427387904) : callRes vp f [.agg (encA a), .int .u32 key] h = some (.bool (a.rev.l.any (isU key)), h) := by
  refine res_pure hf rfl rfl (fun g hg => ?_)
  unfold B_spigotref25_IsRevoked
  unfold encA
  simp only [↓zp, zz, true_and, and_true, chkOk, Nat.reduceEqDiff, Nat.reduceAdd, Nat.reduceSub, Nat.reduceMul, Nat.reduceLT, Nat.reduceLeDiff, Int.reduceLT, Int.reduceLE, Int.reduceEq, Int.reduceAdd, Int.reduceNeg, if_false, if_true, reduceIte, ags, LB.agz, agd, r_mv, r_pick, r_box, r_alloc, r_un, r_eqb, r_ext, r_mkf, r_cnv, r_st, r_nck, r_ix, r_iaa, takeN, agc, agn, VE.store, over, cellsAt, VE.part, agm, agb, blkX, gEval, cond_true, cond_false, r_build, r_bsl, fill, VE.unOp, r_bin, adz, ads, resOf, resVs, resV, alc, aln, reduceCtorEq, or_true, true_or, false_or, or_false, eq_self, exists_eq_left', Option.some.injEq]
  generalize hS : Tr.set _ 5 _ = S
  have b1 : Slots.at S 1 = .int .u32 key := by rw [← hS]; simp only [Slots.at_set, Nat.reduceEqDiff, if_false, if_true, reduceIte, argSlots_at, ags, agz, agd]
  have b2 : Slots.at S 2 = .ptr g.nx 0 := by rw [← hS]; simp only [Slots.at_set, Nat.reduceEqDiff, if_false, if_true, reduceIte, argSlots_at, ags, agz, agd]
  have b5 : Slots.at S 5 = .int .i64 ((0 : Nat) : Int) := by rw [← hS]; simp only [Slots.at_set, Nat.reduceEqDiff, if_false, if_true, reduceIte, argSlots_at, ags, agz, agd]; rfl
  clear hS
  refine loop_ind (fun m s h => invRv key a g m s h) ?_ a.rev.l.length ⟨0, by omega, by omega, b1, b2, b5, rfl, fun j _ hj => by omega⟩
  rintro m s h ⟨k, hk, hm, c1, c2, c5, rfl, hinc⟩
  unfold encA
  by_cases hlt : k < a.rev.l.length
  case neg =>
    have hlt' : ¬ ((k : Int) < (a.rev.l.length : Int)) := by omega
    have e := anyU (key := key) (l := a.rev.l) (fun j hj => hinc j hj (by omega))
    simp only [↓zp, zz, true_and, and_true, chkOk, Nat.reduceEqDiff, Nat.reduceAdd, Nat.reduceSub, Nat.reduceMul, Nat.reduceLT, Nat.reduceLeDiff, Int.reduceLT, Int.reduceLE, Int.reduceEq, Int.reduceAdd, Int.reduceNeg, if_false, if_true, reduceIte, ags, LB.agz, agd, r_mv, r_pick, r_box, r_alloc, r_un, r_eqb, r_ext, r_mkf, r_cnv, r_st, r_nck, r_ix, r_iaa, takeN, agc, agn, VE.store, over, cellsAt, VE.part, agm, agb, blkX, gEval, cond_true, cond_false, r_build, r_bsl, fill, VE.unOp, r_bin, adz, ads, resOf, resVs, resV, alc, aln, reduceCtorEq, or_true, true_or, false_or, or_false, eq_self, exists_eq_left', Option.some.injEq, c1, c2, c5, hlt', e, frzB]
  have hlt' : (k : Int) < (a.rev.l.length : Int) := by omega
  have ws := wr_succ (k := k) (by omega)
  have ia1 : ∀ h, r_ia 1 (a.rev.v e32) (.int .i64 (k : Int)) h = some (.iptr (e32 a.rev.l[k] ++ (a.rev.l.drop (k + 1)).flatMap e32), h) := fun h => r_ia_v e32_len (by decide) hlt rfl
  by_cases hqk : a.rev.l[k] = key
  · have e : a.rev.l.any (isU key) = true := List.any_eq_true.2 ⟨a.rev.l[k], List.getElem_mem hlt, by simp [isU, hqk]⟩
    have hq' := eq_true hqk
    simp only [↓zp, zz, true_and, and_true, chkOk, Nat.reduceEqDiff, Nat.reduceAdd, Nat.reduceSub, Nat.reduceMul, Nat.reduceLT, Nat.reduceLeDiff, Int.reduceLT, Int.reduceLE, Int.reduceEq, Int.reduceAdd, Int.reduceNeg, if_false, if_true, reduceIte, ags, LB.agz, agd, r_mv, r_pick, r_box, r_alloc, r_un, r_eqb, r_ext, r_mkf, r_cnv, r_st, r_nck, r_ix, r_iaa, takeN, agc, agn, VE.store, over, cellsAt, VE.part, agm, agb, blkX, gEval, cond_true, cond_false, r_build, r_bsl, fill, VE.unOp, r_bin, adz, ads, resOf, resVs, resV, alc, aln, reduceCtorEq, or_true, true_or, false_or, or_false, eq_self, exists_eq_left', Option.some.injEq, c1, c2, c5, hlt', ia1, e32, hq', e, frzB]
  · simp only [↓zp, zz, true_and, and_true, chkOk, Nat.reduceEqDiff, Nat.reduceAdd, Nat.reduceSub, Nat.reduceMul, Nat.reduceLT, Nat.reduceLeDiff, Int.reduceLT, Int.reduceLE, Int.reduceEq, Int.reduceAdd, Int.reduceNeg, if_false, if_true, reduceIte, ags, LB.agz, agd, r_mv, r_pick, r_box, r_alloc, r_un, r_eqb, r_ext, r_mkf, r_cnv, r_st, r_nck, r_ix, r_iaa, takeN, agc, agn, VE.store, over, cellsAt, VE.part, agm, agb, blkX, gEval, cond_true, cond_false, r_build, r_bsl, fill, VE.unOp, r_bin, adz, ads, resOf, resVs, resV, alc, aln, reduceCtorEq, or_true, true_or, false_or, or_false, eq_self, exists_eq_left', Option.some.injEq, c1, c2, c5, hlt', ia1, e32, hqk, ws]
    refine ⟨_, by omega, k + 1, by omega, rfl, by simp only [Slots.at_set, Nat.reduceEqDiff, if_false, if_true, reduceIte, argSlots_at, ags, agz, agd, c1], by simp only [Slots.at_set, Nat.reduceEqDiff, if_false, if_true, reduceIte, argSlots_at, ags, agz, agd, c2], by simp only [Slots.at_set, Nat.reduceEqDiff, if_false, if_true, reduceIte, argSlots_at, ags, agz, agd], rfl, fun j hj hj2 => ?_⟩
    rcases Nat.lt_or_ge j k with r | r
    · exact hinc j hj r
    · have : j = k := by omega
      subst this
      simp [isU, hqk]
/-- a number that grows as far as it may -/
def xorM (n : Int) : Int := wr .u64 (.ofNat (low .u64 (IntKind.max .u64) ^^^ low .u64 n))
def upT (n b : Int) : Int := wr .u64 (n + (bif ltI (xorM n) b then xorM n else b))
theorem un_xor {n : Int} {h : Heap} : r_un .xor (.int .u64 n) h = some (.int .u64 (xorM n), h) := rfl
theorem mini2 {a b : Int} {h : Heap} : r_mini [.int .u64 a, .int .u64 b] h = some (.int .u64 (bif ltI b a then b else a), h) := rfl
theorem count1_spec {f : Nat} (hf : vp f = some B_model_count_fn1) (b o : Nat) (n by' : Int) (cs cs' : List V) (tag : Tag) (h : Heap) (hb : h.get b = .cells cs tag) (hlo : ¬ b < h.lo) (hd : ∃ r, cs.drop o = .int .u64 n :: r) (ho : over o cs [.int .u64 (upT n by')] = some cs') :
    callRes vp f [.ptr b o, .int .u64 by'] h = some (.tup [], h.set b (.cells cs' tag)) := by
  obtain ⟨r, hd⟩ := hd
  have k := res_raw (vp := vp) (args := [.ptr b o, .int .u64 by']) (h := h) (P := fun v h' => v = .tup [] ∧ h' = h.set b (.cells cs' tag)) hf rfl rfl (by
    unfold B_model_count_fn1
    have c1 : cellsAt h (.ptr b o) = some (.int .u64 n :: r) := by simp only [cellsAt, hb, hd]
    have ld : r_ld none (.ptr b o) h = some (.int .u64 n, h) := by simp only [r_ld, c1, VE.part, Option.map_some]
    have st : r_st 1 (.ptr b o) (.int .u64 (upT n by')) h = some (.tup [], h.set b (.cells cs' tag)) := by
      simp only [r_st, co_int, List.length_cons, List.length_nil, beq_dec, decide_true, cond_true, VE.store, blt_dec, hlo, decide_false, cond_false, hb, ho, Option.map_some]
    unfold upT at st
    simp only [↓zp, zz, true_and, and_true, chkOk, Nat.reduceEqDiff, if_false, if_true, reduceIte, List.getElem?_cons_succ, List.getElem?_cons_zero, Option.getD_some, r_mv, r_nck, r_bin, Option.map_some, ld, un_xor, mini2, st, resOf, resVs, exists_eq_left', Option.some.injEq, or_true, true_or, reduceCtorEq, eq_self])
  obtain ⟨v, h', e, rfl, rfl⟩ := k
  exact e
end
end Go.VE.LB
