/- What the functions of the law ConfigOrders compute, on typed arguments (part 11). -/
import Derived.Test.YtlomleifnbpghaaConfigOrdersA10
set_option linter.all false
namespace Go.VE.CO
open Go Go.VE
set_option maxRecDepth 100000
set_option linter.all false
theorem slnilS : (Sl.nil : Sl Setting).v encS = .nils := rfl
theorem frzV2 {h : Heap} {b : Nat} {o : Sl Command} {k : IntKind} {n : Int} : frz frzFuel h b false (.tup [o.v encC, .int k n]) = some (.tup [o.v encC, .int k n]) := by cases o <;> rfl
theorem chk_nil : chk [] = 0 := by
  unfold chk
  rw [if_neg (by simp), if_neg (by simp), if_pos (show Sorted [] from fun k h => by simp at h)]
theorem change_nil (b : List Setting) (ex : Int) : change [] b ex = b.flatMap fun x => crt x ex := by
  unfold change dels stepL
  simp
section
variable {vp : Nat → Option VFn}
theorem commands5 (h5 : vp 5 = some v5) (h7 : vp 7 = some v7) (c : Sl Setting) (ex : Int) (h : Heap)
    (hc : ∀ h, ∃ r, callRes vp 7 [(Sl.nil : Sl Setting).v encS, c.v encS, .int .u64 ex] h = some (r, h) ∧ ∃ o : Sl Command, r = .tup [o.v encC, .int .i64 (if chk (Sl.nil : Sl Setting).l = 0 then chk c.l else chk (Sl.nil : Sl Setting).l)] ∧ o.l = if chk (Sl.nil : Sl Setting).l = 0 ∧ chk c.l = 0 then change (Sl.nil : Sl Setting).l c.l ex else []) :
    ∃ r, callRes vp 5 [c.v encS, .int .u64 ex] h = some (r, h) ∧ ∃ o : Sl Command, r = .tup [o.v encC, .int .i64 (chk c.l)] ∧ o.l = if chk c.l = 0 then c.l.flatMap fun x => crt x ex else [] := by
  have m7 : modeOf vp 7 = some 1 := by simp [modeOf, h7, v7]
  refine res_pure_ex h5 rfl rfl (fun g hg => ?_)
  obtain ⟨r, e1, o, rfl, e2⟩ := hc g
  have en : (Sl.nil : Sl Setting).l = [] := rfl
  rw [en, chk_nil] at e1 e2
  simp only [if_true, true_and, change_nil, slnilS] at e1 e2
  unfold v5
  simp only [↓w_seq, ↓w_reg, ↓w_block, ↓w_skip, ↓w_exit, ↓w_ret, ↓w_scope, ↓w_true, ↓w_false, ↓wo_nil, ↓g_t, ↓g_f, ↓p_call, ↓n_call, ↓p_callp, ↓p_callo, ↓p_callv, ↓p_mv, ↓p_pick, ↓p_alloc, ↓p_box, ↓p_build, ↓p_bsl, ↓p_ld, ↓p_st, ↓n_st, ↓p_nck, ↓p_bin, ↓p_eqb, ↓p_eqn, ↓p_eqa, ↓p_un, ↓p_cnv, ↓p_mkf, ↓p_mks, ↓p_slc, ↓p_slca, ↓p_fa, ↓p_fld, ↓p_ia, ↓p_iaa, ↓p_ix, ↓p_ixs, ↓p_ext, ↓p_len, ↓p_lens, ↓p_lenc, ↓p_app, ↓p_apps, ↓p_app0, ↓p_cpy, ↓n_cpy, ↓p_cpys, ↓n_cpys, ↓p_mini, ↓p_maxi, ↓p_mkif, ↓p_carry, ↓p_clr, ↓n_clr, ↓p_mkmap, ↓p_look, ↓p_mupd, ↓n_mupd, ↓p_mdel, ↓n_mdel, ↓p_lenm, ↓p_pur, ↓p_eff, ↓n_eff, ↓p_mnz, vOf_some, hOf_some, okR_some, true_and, and_true, chkOk, Slots.at_set, Nat.reduceEqDiff, Nat.add_assoc, Nat.add_left_cancel_iff, Nat.add_eq_left, Nat.left_eq_add, Nat.zero_add, Nat.add_zero, Nat.reduceAdd, Nat.reduceSub, Nat.reduceMul, Nat.reduceLT, Nat.reduceLeDiff, Int.reduceLT, Int.reduceLE, Int.reduceEq, Int.reduceAdd, Int.reduceNeg, if_false, if_true, reduceIte, ev_t, ev_k, evs_nil, evs_cons, evo_none, evo_some, evp_nil, evp_cons, argSlots_at, List.getElem?_cons_succ, List.getElem?_cons_zero, Option.getD_some, r_mv, r_pick, r_fa, r_ld, r_box, r_alloc, r_un, r_eqb, r_ext, r_mkf, r_cnv, r_st, r_nck, r_ix, r_iaa, asNat0, asNat1, asNat2, asNatN, wr1, wr2, wr3, takeN, List.cons_append, List.nil_append, VE.store, over, oneCell_v, one_int, one_bool, one_str, one_ptr, one_sl, one_isl, one_nils, one_nilp, one_fn, one_ifc, one_nili, one_iptr, co_int, co_bool, co_str, co_agg, co_ptr, co_sl, co_isl, co_nils, co_nilp, co_fn, co_iptr, cellsO_v, r_len_v, cellsAt, VE.part, Heap.get_new, Heap.get_set, Heap.new_nx, Heap.new_lo, Heap.set_nx, Heap.set_lo, Option.map_some, Option.bind_some, blkX, gEval, cond_true, cond_false, decide_true, decide_false, Bool.not_true, Bool.not_false, Bool.and_true, Bool.true_and, Bool.and_self, Bool.or_false, Bool.false_or, Bool.or_self, Bool.and_false, Bool.false_and, r_build, r_bsl, fill, r_eqa, eqc9, VE.unOp, r_bin, bi_lss, bi_leq, bi_gtr, bi_geq, bi_eql, bi_neq, bi_add, bi_sub, List.drop_zero, List.drop_succ_cons, resOf, resVs, resV, beq_dec, blt_dec, ble_dec, List.length_cons, List.length_nil, reduceCtorEq, or_true, true_or, false_or, or_false, eq_self, exists_eq_left', Option.some.injEq, m7, e1]
  exact ⟨_, frzV2, o, rfl, e2⟩

def inv9 (a b : Sl Command) (H : Heap) (m : Nat) (s : Slots) (h : Heap) : Prop :=
  ∃ k, k ≤ a.l.length ∧ m = a.l.length - k ∧ s.at 0 = a.v encC ∧ s.at 1 = b.v encC ∧ s.at 5 = .int .i64 (k : Int) ∧ h = H
theorem eqc47 {c : Command} : eqCells [0, 0, 0, 0, 0, 0, 0, 0, 0, 0, 0, 0, 0, 0, 0, 0, 0, 0, 0, 0, 0, 0, 0, 0, 0, 0, 0, 0, 0, 0, 0, 0, 0, 0, 0, 0, 0, 0, 0, 0, 0, 0, 0, 0, 0, 0, 0] (encC c) (encC c) = some true := by
  unfold encC
  simp only [eqCells_cons, if_true]
  rfl
theorem take47 (x : Command) (r : List V) : takeN 47 (encC x ++ r) = some (encC x) := rfl
theorem same9 (h9 : vp 9 = some v9) (a b : Sl Command) (h : Heap) (hab : a.l = b.l) (hn : a.l.length < 4611686018427387904) : callRes vp 9 [a.v encC, b.v encC] h = some (.bool true, h) := by
  refine res_pure h9 rfl rfl (fun g hg => ?_)
  unfold v9
  have hl : (a.l.length : Int) = (b.l.length : Int) := by rw [hab]
  simp only [↓w_seq, ↓w_reg, ↓w_block, ↓w_skip, ↓w_exit, ↓w_ret, ↓w_scope, ↓w_true, ↓w_false, ↓wo_nil, ↓g_t, ↓g_f, ↓p_call, ↓n_call, ↓p_callp, ↓p_callo, ↓p_callv, ↓p_mv, ↓p_pick, ↓p_alloc, ↓p_box, ↓p_build, ↓p_bsl, ↓p_ld, ↓p_st, ↓n_st, ↓p_nck, ↓p_bin, ↓p_eqb, ↓p_eqn, ↓p_eqa, ↓p_un, ↓p_cnv, ↓p_mkf, ↓p_mks, ↓p_slc, ↓p_slca, ↓p_fa, ↓p_fld, ↓p_ia, ↓p_iaa, ↓p_ix, ↓p_ixs, ↓p_ext, ↓p_len, ↓p_lens, ↓p_lenc, ↓p_app, ↓p_apps, ↓p_app0, ↓p_cpy, ↓n_cpy, ↓p_cpys, ↓n_cpys, ↓p_mini, ↓p_maxi, ↓p_mkif, ↓p_carry, ↓p_clr, ↓n_clr, ↓p_mkmap, ↓p_look, ↓p_mupd, ↓n_mupd, ↓p_mdel, ↓n_mdel, ↓p_lenm, ↓p_pur, ↓p_eff, ↓n_eff, ↓p_mnz, vOf_some, hOf_some, okR_some, true_and, and_true, chkOk, Slots.at_set, Nat.reduceEqDiff, Nat.add_assoc, Nat.add_left_cancel_iff, Nat.add_eq_left, Nat.left_eq_add, Nat.zero_add, Nat.add_zero, Nat.reduceAdd, Nat.reduceSub, Nat.reduceMul, Nat.reduceLT, Nat.reduceLeDiff, Int.reduceLT, Int.reduceLE, Int.reduceEq, Int.reduceAdd, Int.reduceNeg, if_false, if_true, reduceIte, ev_t, ev_k, evs_nil, evs_cons, evo_none, evo_some, evp_nil, evp_cons, argSlots_at, List.getElem?_cons_succ, List.getElem?_cons_zero, Option.getD_some, r_mv, r_pick, r_fa, r_ld, r_box, r_alloc, r_un, r_eqb, r_ext, r_mkf, r_cnv, r_st, r_nck, r_ix, r_iaa, asNat0, asNat1, asNat2, asNatN, wr1, wr2, wr3, takeN, List.cons_append, List.nil_append, VE.store, over, oneCell_v, one_int, one_bool, one_str, one_ptr, one_sl, one_isl, one_nils, one_nilp, one_fn, one_ifc, one_nili, one_iptr, co_int, co_bool, co_str, co_agg, co_ptr, co_sl, co_isl, co_nils, co_nilp, co_fn, co_iptr, cellsO_v, r_len_v, cellsAt, VE.part, Heap.get_new, Heap.get_set, Heap.new_nx, Heap.new_lo, Heap.set_nx, Heap.set_lo, Option.map_some, Option.bind_some, blkX, gEval, cond_true, cond_false, decide_true, decide_false, Bool.not_true, Bool.not_false, Bool.and_true, Bool.true_and, Bool.and_self, Bool.or_false, Bool.false_or, Bool.or_self, Bool.and_false, Bool.false_and, r_build, r_bsl, fill, r_eqa, eqc9, VE.unOp, r_bin, bi_lss, bi_leq, bi_gtr, bi_geq, bi_eql, bi_neq, bi_add, bi_sub, List.drop_zero, List.drop_succ_cons, resOf, resVs, resV, beq_dec, blt_dec, ble_dec, List.length_cons, List.length_nil, reduceCtorEq, or_true, true_or, false_or, or_false, eq_self, exists_eq_left', Option.some.injEq, hl]
  generalize hS : Tr.set _ 5 _ = S
  have b0 : Slots.at S 0 = a.v encC := by rw [← hS]; simp only [Slots.at_set, Nat.reduceEqDiff, if_false, if_true, reduceIte, argSlots_at, List.getElem?_cons_succ, List.getElem?_cons_zero, Option.getD_some]
  have b1 : Slots.at S 1 = b.v encC := by rw [← hS]; simp only [Slots.at_set, Nat.reduceEqDiff, if_false, if_true, reduceIte, argSlots_at, List.getElem?_cons_succ, List.getElem?_cons_zero, Option.getD_some]
  have b5 : Slots.at S 5 = .int .i64 ((0 : Nat) : Int) := by rw [← hS]; simp only [Slots.at_set, Nat.reduceEqDiff, if_false, if_true, reduceIte, argSlots_at, List.getElem?_cons_succ, List.getElem?_cons_zero, Option.getD_some]; rfl
  clear hS
  refine loop_ind (fun m s h => inv9 a b g m s h) ?_ a.l.length ⟨0, by omega, by omega, b0, b1, b5, rfl⟩
  rintro m s h ⟨k, hk, hm, c0, c1, c5, rfl⟩
  by_cases hlt : k < a.l.length
  case neg =>
    have hlt' : ¬ ((k : Int) < (a.l.length : Int)) := by omega
    simp only [↓w_seq, ↓w_reg, ↓w_block, ↓w_skip, ↓w_exit, ↓w_ret, ↓w_scope, ↓w_true, ↓w_false, ↓wo_nil, ↓g_t, ↓g_f, ↓p_call, ↓n_call, ↓p_callp, ↓p_callo, ↓p_callv, ↓p_mv, ↓p_pick, ↓p_alloc, ↓p_box, ↓p_build, ↓p_bsl, ↓p_ld, ↓p_st, ↓n_st, ↓p_nck, ↓p_bin, ↓p_eqb, ↓p_eqn, ↓p_eqa, ↓p_un, ↓p_cnv, ↓p_mkf, ↓p_mks, ↓p_slc, ↓p_slca, ↓p_fa, ↓p_fld, ↓p_ia, ↓p_iaa, ↓p_ix, ↓p_ixs, ↓p_ext, ↓p_len, ↓p_lens, ↓p_lenc, ↓p_app, ↓p_apps, ↓p_app0, ↓p_cpy, ↓n_cpy, ↓p_cpys, ↓n_cpys, ↓p_mini, ↓p_maxi, ↓p_mkif, ↓p_carry, ↓p_clr, ↓n_clr, ↓p_mkmap, ↓p_look, ↓p_mupd, ↓n_mupd, ↓p_mdel, ↓n_mdel, ↓p_lenm, ↓p_pur, ↓p_eff, ↓n_eff, ↓p_mnz, vOf_some, hOf_some, okR_some, true_and, and_true, chkOk, Slots.at_set, Nat.reduceEqDiff, Nat.add_assoc, Nat.add_left_cancel_iff, Nat.add_eq_left, Nat.left_eq_add, Nat.zero_add, Nat.add_zero, Nat.reduceAdd, Nat.reduceSub, Nat.reduceMul, Nat.reduceLT, Nat.reduceLeDiff, Int.reduceLT, Int.reduceLE, Int.reduceEq, Int.reduceAdd, Int.reduceNeg, if_false, if_true, reduceIte, ev_t, ev_k, evs_nil, evs_cons, evo_none, evo_some, evp_nil, evp_cons, argSlots_at, List.getElem?_cons_succ, List.getElem?_cons_zero, Option.getD_some, r_mv, r_pick, r_fa, r_ld, r_box, r_alloc, r_un, r_eqb, r_ext, r_mkf, r_cnv, r_st, r_nck, r_ix, r_iaa, asNat0, asNat1, asNat2, asNatN, wr1, wr2, wr3, takeN, List.cons_append, List.nil_append, VE.store, over, oneCell_v, one_int, one_bool, one_str, one_ptr, one_sl, one_isl, one_nils, one_nilp, one_fn, one_ifc, one_nili, one_iptr, co_int, co_bool, co_str, co_agg, co_ptr, co_sl, co_isl, co_nils, co_nilp, co_fn, co_iptr, cellsO_v, r_len_v, cellsAt, VE.part, Heap.get_new, Heap.get_set, Heap.new_nx, Heap.new_lo, Heap.set_nx, Heap.set_lo, Option.map_some, Option.bind_some, blkX, gEval, cond_true, cond_false, decide_true, decide_false, Bool.not_true, Bool.not_false, Bool.and_true, Bool.true_and, Bool.and_self, Bool.or_false, Bool.false_or, Bool.or_self, Bool.and_false, Bool.false_and, r_build, r_bsl, fill, r_eqa, eqc9, VE.unOp, r_bin, bi_lss, bi_leq, bi_gtr, bi_geq, bi_eql, bi_neq, bi_add, bi_sub, List.drop_zero, List.drop_succ_cons, resOf, resVs, resV, beq_dec, blt_dec, ble_dec, List.length_cons, List.length_nil, reduceCtorEq, or_true, true_or, false_or, or_false, eq_self, exists_eq_left', Option.some.injEq, c0, c1, c5, hlt', frzB]
  have hlt' : (k : Int) < (a.l.length : Int) := by omega
  have hltb : k < b.l.length := by rw [← hab]; exact hlt
  have ws := wr_succ (k := k) (by omega)
  have ia1 : ∀ h, r_ia 47 (a.v encC) (.int .i64 (k : Int)) h = some (.iptr (encC a.l[k] ++ (a.l.drop (k + 1)).flatMap encC), h) := fun h => r_ia_v encC_len (by decide) hlt rfl
  have ia2 : ∀ h, r_ia 47 (b.v encC) (.int .i64 (k : Int)) h = some (.iptr (encC b.l[k] ++ (b.l.drop (k + 1)).flatMap encC), h) := fun h => r_ia_v encC_len (by decide) hltb rfl
  have he : a.l[k] = b.l[k] := by simp only [hab]
  rw [he] at ia1
  have eqa : ∀ h, r_eqa true [0, 0, 0, 0, 0, 0, 0, 0, 0, 0, 0, 0, 0, 0, 0, 0, 0, 0, 0, 0, 0, 0, 0, 0, 0, 0, 0, 0, 0, 0, 0, 0, 0, 0, 0, 0, 0, 0, 0, 0, 0, 0, 0, 0, 0, 0, 0] (.agg (encC b.l[k])) (.agg (encC b.l[k])) h = some (.bool false, h) := fun h => by
    simp only [r_eqa, eqc47, encC_len, List.length_cons, List.length_nil, beq_dec, Nat.reduceAdd, decide_true, Bool.and_self, cond_true, Bool.not_true]
  simp only [↓w_seq, ↓w_reg, ↓w_block, ↓w_skip, ↓w_exit, ↓w_ret, ↓w_scope, ↓w_true, ↓w_false, ↓wo_nil, ↓g_t, ↓g_f, ↓p_call, ↓n_call, ↓p_callp, ↓p_callo, ↓p_callv, ↓p_mv, ↓p_pick, ↓p_alloc, ↓p_box, ↓p_build, ↓p_bsl, ↓p_ld, ↓p_st, ↓n_st, ↓p_nck, ↓p_bin, ↓p_eqb, ↓p_eqn, ↓p_eqa, ↓p_un, ↓p_cnv, ↓p_mkf, ↓p_mks, ↓p_slc, ↓p_slca, ↓p_fa, ↓p_fld, ↓p_ia, ↓p_iaa, ↓p_ix, ↓p_ixs, ↓p_ext, ↓p_len, ↓p_lens, ↓p_lenc, ↓p_app, ↓p_apps, ↓p_app0, ↓p_cpy, ↓n_cpy, ↓p_cpys, ↓n_cpys, ↓p_mini, ↓p_maxi, ↓p_mkif, ↓p_carry, ↓p_clr, ↓n_clr, ↓p_mkmap, ↓p_look, ↓p_mupd, ↓n_mupd, ↓p_mdel, ↓n_mdel, ↓p_lenm, ↓p_pur, ↓p_eff, ↓n_eff, ↓p_mnz, vOf_some, hOf_some, okR_some, true_and, and_true, chkOk, Slots.at_set, Nat.reduceEqDiff, Nat.add_assoc, Nat.add_left_cancel_iff, Nat.add_eq_left, Nat.left_eq_add, Nat.zero_add, Nat.add_zero, Nat.reduceAdd, Nat.reduceSub, Nat.reduceMul, Nat.reduceLT, Nat.reduceLeDiff, Int.reduceLT, Int.reduceLE, Int.reduceEq, Int.reduceAdd, Int.reduceNeg, if_false, if_true, reduceIte, ev_t, ev_k, evs_nil, evs_cons, evo_none, evo_some, evp_nil, evp_cons, argSlots_at, List.getElem?_cons_succ, List.getElem?_cons_zero, Option.getD_some, r_mv, r_pick, r_fa, r_ld, r_box, r_alloc, r_un, r_eqb, r_ext, r_mkf, r_cnv, r_st, r_nck, r_ix, r_iaa, asNat0, asNat1, asNat2, asNatN, wr1, wr2, wr3, takeN, List.cons_append, List.nil_append, VE.store, over, oneCell_v, one_int, one_bool, one_str, one_ptr, one_sl, one_isl, one_nils, one_nilp, one_fn, one_ifc, one_nili, one_iptr, co_int, co_bool, co_str, co_agg, co_ptr, co_sl, co_isl, co_nils, co_nilp, co_fn, co_iptr, cellsO_v, r_len_v, cellsAt, VE.part, Heap.get_new, Heap.get_set, Heap.new_nx, Heap.new_lo, Heap.set_nx, Heap.set_lo, Option.map_some, Option.bind_some, blkX, gEval, cond_true, cond_false, decide_true, decide_false, Bool.not_true, Bool.not_false, Bool.and_true, Bool.true_and, Bool.and_self, Bool.or_false, Bool.false_or, Bool.or_self, Bool.and_false, Bool.false_and, r_build, r_bsl, fill, VE.unOp, r_bin, bi_lss, bi_leq, bi_gtr, bi_geq, bi_eql, bi_neq, bi_add, bi_sub, List.drop_zero, List.drop_succ_cons, resOf, resVs, resV, beq_dec, blt_dec, ble_dec, List.length_cons, List.length_nil, reduceCtorEq, or_true, true_or, false_or, or_false, eq_self, exists_eq_left', Option.some.injEq, c0, c1, c5, hlt', ia1, ia2, take47, eqa, ws]
  exact ⟨_, by omega, k + 1, by omega, rfl, by simp only [Slots.at_set, Nat.reduceEqDiff, if_false, if_true, reduceIte, argSlots_at, List.getElem?_cons_succ, List.getElem?_cons_zero, Option.getD_some, c0], by simp only [Slots.at_set, Nat.reduceEqDiff, if_false, if_true, reduceIte, argSlots_at, List.getElem?_cons_succ, List.getElem?_cons_zero, Option.getD_some, c1], by simp only [Slots.at_set, Nat.reduceEqDiff, if_false, if_true, reduceIte, argSlots_at, List.getElem?_cons_succ, List.getElem?_cons_zero, Option.getD_some], rfl⟩

def great (c : List Setting) : Bool := c.any (fun x => decide (30 < x.rev.l.length)) || decide (20 < c.length)
def inv4 (c : Sl Setting) (H : Heap) (m : Nat) (s : Slots) (h : Heap) : Prop :=
  ∃ k, k ≤ c.l.length ∧ m = c.l.length - k ∧ s.at 0 = c.v encS ∧ s.at 3 = .int .i64 (k : Int) ∧ h = H ∧ ∀ j (hj : j < c.l.length), j < k → ¬ 30 < c.l[j].rev.l.length
theorem great4 (h4 : vp 4 = some v4) (c : Sl Setting) (h : Heap) (hn : c.l.length ≤ 9223372036854775807) : callRes vp 4 [c.v encS] h = some (.bool (great c.l), h) := by
  refine res_pure h4 rfl rfl (fun g hg => ?_)
  unfold v4
  simp only [↓w_seq, ↓w_reg, ↓w_block, ↓w_skip, ↓w_exit, ↓w_ret, ↓w_scope, ↓w_true, ↓w_false, ↓wo_nil, ↓g_t, ↓g_f, ↓p_call, ↓n_call, ↓p_callp, ↓p_callo, ↓p_callv, ↓p_mv, ↓p_pick, ↓p_alloc, ↓p_box, ↓p_build, ↓p_bsl, ↓p_ld, ↓p_st, ↓n_st, ↓p_nck, ↓p_bin, ↓p_eqb, ↓p_eqn, ↓p_eqa, ↓p_un, ↓p_cnv, ↓p_mkf, ↓p_mks, ↓p_slc, ↓p_slca, ↓p_fa, ↓p_fld, ↓p_ia, ↓p_iaa, ↓p_ix, ↓p_ixs, ↓p_ext, ↓p_len, ↓p_lens, ↓p_lenc, ↓p_app, ↓p_apps, ↓p_app0, ↓p_cpy, ↓n_cpy, ↓p_cpys, ↓n_cpys, ↓p_mini, ↓p_maxi, ↓p_mkif, ↓p_carry, ↓p_clr, ↓n_clr, ↓p_mkmap, ↓p_look, ↓p_mupd, ↓n_mupd, ↓p_mdel, ↓n_mdel, ↓p_lenm, ↓p_pur, ↓p_eff, ↓n_eff, ↓p_mnz, vOf_some, hOf_some, okR_some, true_and, and_true, chkOk, Slots.at_set, Nat.reduceEqDiff, Nat.add_assoc, Nat.add_left_cancel_iff, Nat.add_eq_left, Nat.left_eq_add, Nat.zero_add, Nat.add_zero, Nat.reduceAdd, Nat.reduceSub, Nat.reduceMul, Nat.reduceLT, Nat.reduceLeDiff, Int.reduceLT, Int.reduceLE, Int.reduceEq, Int.reduceAdd, Int.reduceNeg, if_false, if_true, reduceIte, ev_t, ev_k, evs_nil, evs_cons, evo_none, evo_some, evp_nil, evp_cons, argSlots_at, List.getElem?_cons_succ, List.getElem?_cons_zero, Option.getD_some, r_mv, r_pick, r_fa, r_ld, r_box, r_alloc, r_un, r_eqb, r_ext, r_mkf, r_cnv, r_st, r_nck, r_ix, r_iaa, asNat0, asNat1, asNat2, asNatN, wr1, wr2, wr3, takeN, List.cons_append, List.nil_append, VE.store, over, oneCell_v, one_int, one_bool, one_str, one_ptr, one_sl, one_isl, one_nils, one_nilp, one_fn, one_ifc, one_nili, one_iptr, co_int, co_bool, co_str, co_agg, co_ptr, co_sl, co_isl, co_nils, co_nilp, co_fn, co_iptr, cellsO_v, r_len_v, cellsAt, VE.part, Heap.get_new, Heap.get_set, Heap.new_nx, Heap.new_lo, Heap.set_nx, Heap.set_lo, Option.map_some, Option.bind_some, blkX, gEval, cond_true, cond_false, decide_true, decide_false, Bool.not_true, Bool.not_false, Bool.and_true, Bool.true_and, Bool.and_self, Bool.or_false, Bool.false_or, Bool.or_self, Bool.and_false, Bool.false_and, r_build, r_bsl, fill, r_eqa, eqc9, VE.unOp, r_bin, bi_lss, bi_leq, bi_gtr, bi_geq, bi_eql, bi_neq, bi_add, bi_sub, List.drop_zero, List.drop_succ_cons, resOf, resVs, resV, beq_dec, blt_dec, ble_dec, List.length_cons, List.length_nil, reduceCtorEq, or_true, true_or, false_or, or_false, eq_self, exists_eq_left', Option.some.injEq]
  generalize hS : Tr.set _ 3 _ = S
  have b0 : Slots.at S 0 = c.v encS := by rw [← hS]; simp only [Slots.at_set, Nat.reduceEqDiff, if_false, if_true, reduceIte, argSlots_at, List.getElem?_cons_succ, List.getElem?_cons_zero, Option.getD_some]
  have b3 : Slots.at S 3 = .int .i64 ((0 : Nat) : Int) := by rw [← hS]; simp only [Slots.at_set, Nat.reduceEqDiff, if_false, if_true, reduceIte, argSlots_at, List.getElem?_cons_succ, List.getElem?_cons_zero, Option.getD_some]; rfl
  clear hS
  refine loop_ind (fun m s h => inv4 c g m s h) ?_ c.l.length ⟨0, by omega, by omega, b0, b3, rfl, fun j _ hj => by omega⟩
  rintro m s h ⟨k, hk, hm, c0, c3, rfl, hinc⟩
  by_cases hlt : k < c.l.length
  case neg =>
    have hlt' : ¬ ((k : Int) < (c.l.length : Int)) := by omega
    have e : c.l.any (fun x => decide (30 < x.rev.l.length)) = false := by
      rw [List.any_eq_false]
      intro x hx
      obtain ⟨j, hj, rfl⟩ := List.mem_iff_getElem.1 hx
      simpa using hinc j hj (by omega)
    by_cases h20 : 20 < c.l.length
    · have h20' : (20 : Int) < (c.l.length : Int) := by omega
      have e2 : great c.l = true := by simp [great, h20]
      simp only [↓w_seq, ↓w_reg, ↓w_block, ↓w_skip, ↓w_exit, ↓w_ret, ↓w_scope, ↓w_true, ↓w_false, ↓wo_nil, ↓g_t, ↓g_f, ↓p_call, ↓n_call, ↓p_callp, ↓p_callo, ↓p_callv, ↓p_mv, ↓p_pick, ↓p_alloc, ↓p_box, ↓p_build, ↓p_bsl, ↓p_ld, ↓p_st, ↓n_st, ↓p_nck, ↓p_bin, ↓p_eqb, ↓p_eqn, ↓p_eqa, ↓p_un, ↓p_cnv, ↓p_mkf, ↓p_mks, ↓p_slc, ↓p_slca, ↓p_fa, ↓p_fld, ↓p_ia, ↓p_iaa, ↓p_ix, ↓p_ixs, ↓p_ext, ↓p_len, ↓p_lens, ↓p_lenc, ↓p_app, ↓p_apps, ↓p_app0, ↓p_cpy, ↓n_cpy, ↓p_cpys, ↓n_cpys, ↓p_mini, ↓p_maxi, ↓p_mkif, ↓p_carry, ↓p_clr, ↓n_clr, ↓p_mkmap, ↓p_look, ↓p_mupd, ↓n_mupd, ↓p_mdel, ↓n_mdel, ↓p_lenm, ↓p_pur, ↓p_eff, ↓n_eff, ↓p_mnz, vOf_some, hOf_some, okR_some, true_and, and_true, chkOk, Slots.at_set, Nat.reduceEqDiff, Nat.add_assoc, Nat.add_left_cancel_iff, Nat.add_eq_left, Nat.left_eq_add, Nat.zero_add, Nat.add_zero, Nat.reduceAdd, Nat.reduceSub, Nat.reduceMul, Nat.reduceLT, Nat.reduceLeDiff, Int.reduceLT, Int.reduceLE, Int.reduceEq, Int.reduceAdd, Int.reduceNeg, if_false, if_true, reduceIte, ev_t, ev_k, evs_nil, evs_cons, evo_none, evo_some, evp_nil, evp_cons, argSlots_at, List.getElem?_cons_succ, List.getElem?_cons_zero, Option.getD_some, r_mv, r_pick, r_fa, r_ld, r_box, r_alloc, r_un, r_eqb, r_ext, r_mkf, r_cnv, r_st, r_nck, r_ix, r_iaa, asNat0, asNat1, asNat2, asNatN, wr1, wr2, wr3, takeN, List.cons_append, List.nil_append, VE.store, over, oneCell_v, one_int, one_bool, one_str, one_ptr, one_sl, one_isl, one_nils, one_nilp, one_fn, one_ifc, one_nili, one_iptr, co_int, co_bool, co_str, co_agg, co_ptr, co_sl, co_isl, co_nils, co_nilp, co_fn, co_iptr, cellsO_v, r_len_v, cellsAt, VE.part, Heap.get_new, Heap.get_set, Heap.new_nx, Heap.new_lo, Heap.set_nx, Heap.set_lo, Option.map_some, Option.bind_some, blkX, gEval, cond_true, cond_false, decide_true, decide_false, Bool.not_true, Bool.not_false, Bool.and_true, Bool.true_and, Bool.and_self, Bool.or_false, Bool.false_or, Bool.or_self, Bool.and_false, Bool.false_and, r_build, r_bsl, fill, r_eqa, eqc9, VE.unOp, r_bin, bi_lss, bi_leq, bi_gtr, bi_geq, bi_eql, bi_neq, bi_add, bi_sub, List.drop_zero, List.drop_succ_cons, resOf, resVs, resV, beq_dec, blt_dec, ble_dec, List.length_cons, List.length_nil, reduceCtorEq, or_true, true_or, false_or, or_false, eq_self, exists_eq_left', Option.some.injEq, c0, c3, hlt', h20', e2, frzB]
    · have h20' : ¬ ((20 : Int) < (c.l.length : Int)) := by omega
      have e2 : great c.l = false := by simp only [great, e, h20, decide_false, Bool.or_self]
      simp only [↓w_seq, ↓w_reg, ↓w_block, ↓w_skip, ↓w_exit, ↓w_ret, ↓w_scope, ↓w_true, ↓w_false, ↓wo_nil, ↓g_t, ↓g_f, ↓p_call, ↓n_call, ↓p_callp, ↓p_callo, ↓p_callv, ↓p_mv, ↓p_pick, ↓p_alloc, ↓p_box, ↓p_build, ↓p_bsl, ↓p_ld, ↓p_st, ↓n_st, ↓p_nck, ↓p_bin, ↓p_eqb, ↓p_eqn, ↓p_eqa, ↓p_un, ↓p_cnv, ↓p_mkf, ↓p_mks, ↓p_slc, ↓p_slca, ↓p_fa, ↓p_fld, ↓p_ia, ↓p_iaa, ↓p_ix, ↓p_ixs, ↓p_ext, ↓p_len, ↓p_lens, ↓p_lenc, ↓p_app, ↓p_apps, ↓p_app0, ↓p_cpy, ↓n_cpy, ↓p_cpys, ↓n_cpys, ↓p_mini, ↓p_maxi, ↓p_mkif, ↓p_carry, ↓p_clr, ↓n_clr, ↓p_mkmap, ↓p_look, ↓p_mupd, ↓n_mupd, ↓p_mdel, ↓n_mdel, ↓p_lenm, ↓p_pur, ↓p_eff, ↓n_eff, ↓p_mnz, vOf_some, hOf_some, okR_some, true_and, and_true, chkOk, Slots.at_set, Nat.reduceEqDiff, Nat.add_assoc, Nat.add_left_cancel_iff, Nat.add_eq_left, Nat.left_eq_add, Nat.zero_add, Nat.add_zero, Nat.reduceAdd, Nat.reduceSub, Nat.reduceMul, Nat.reduceLT, Nat.reduceLeDiff, Int.reduceLT, Int.reduceLE, Int.reduceEq, Int.reduceAdd, Int.reduceNeg, if_false, if_true, reduceIte, ev_t, ev_k, evs_nil, evs_cons, evo_none, evo_some, evp_nil, evp_cons, argSlots_at, List.getElem?_cons_succ, List.getElem?_cons_zero, Option.getD_some, r_mv, r_pick, r_fa, r_ld, r_box, r_alloc, r_un, r_eqb, r_ext, r_mkf, r_cnv, r_st, r_nck, r_ix, r_iaa, asNat0, asNat1, asNat2, asNatN, wr1, wr2, wr3, takeN, List.cons_append, List.nil_append, VE.store, over, oneCell_v, one_int, one_bool, one_str, one_ptr, one_sl, one_isl, one_nils, one_nilp, one_fn, one_ifc, one_nili, one_iptr, co_int, co_bool, co_str, co_agg, co_ptr, co_sl, co_isl, co_nils, co_nilp, co_fn, co_iptr, cellsO_v, r_len_v, cellsAt, VE.part, Heap.get_new, Heap.get_set, Heap.new_nx, Heap.new_lo, Heap.set_nx, Heap.set_lo, Option.map_some, Option.bind_some, blkX, gEval, cond_true, cond_false, decide_true, decide_false, Bool.not_true, Bool.not_false, Bool.and_true, Bool.true_and, Bool.and_self, Bool.or_false, Bool.false_or, Bool.or_self, Bool.and_false, Bool.false_and, r_build, r_bsl, fill, r_eqa, eqc9, VE.unOp, r_bin, bi_lss, bi_leq, bi_gtr, bi_geq, bi_eql, bi_neq, bi_add, bi_sub, List.drop_zero, List.drop_succ_cons, resOf, resVs, resV, beq_dec, blt_dec, ble_dec, List.length_cons, List.length_nil, reduceCtorEq, or_true, true_or, false_or, or_false, eq_self, exists_eq_left', Option.some.injEq, c0, c3, hlt', h20', e2, frzB]
  have hlt' : (k : Int) < (c.l.length : Int) := by omega
  have ws := wr_succ (k := k) (by omega)
  have ia1 : ∀ h, r_ia 13 (c.v encS) (.int .i64 (k : Int)) h = some (.iptr (encS c.l[k] ++ (c.l.drop (k + 1)).flatMap encS), h) := fun h => r_ia_v encS_len (by decide) hlt rfl
  by_cases h30 : 30 < c.l[k].rev.l.length
  · have h30' : (30 : Int) < (c.l[k].rev.l.length : Int) := by omega
    have e2 : great c.l = true := by
      have : c.l.any (fun x => decide (30 < x.rev.l.length)) = true := List.any_eq_true.2 ⟨c.l[k], List.getElem_mem hlt, by simpa using h30⟩
      simp only [great, this, Bool.true_or]
    simp only [↓w_seq, ↓w_reg, ↓w_block, ↓w_skip, ↓w_exit, ↓w_ret, ↓w_scope, ↓w_true, ↓w_false, ↓wo_nil, ↓g_t, ↓g_f, ↓p_call, ↓n_call, ↓p_callp, ↓p_callo, ↓p_callv, ↓p_mv, ↓p_pick, ↓p_alloc, ↓p_box, ↓p_build, ↓p_bsl, ↓p_ld, ↓p_st, ↓n_st, ↓p_nck, ↓p_bin, ↓p_eqb, ↓p_eqn, ↓p_eqa, ↓p_un, ↓p_cnv, ↓p_mkf, ↓p_mks, ↓p_slc, ↓p_slca, ↓p_fa, ↓p_fld, ↓p_ia, ↓p_iaa, ↓p_ix, ↓p_ixs, ↓p_ext, ↓p_len, ↓p_lens, ↓p_lenc, ↓p_app, ↓p_apps, ↓p_app0, ↓p_cpy, ↓n_cpy, ↓p_cpys, ↓n_cpys, ↓p_mini, ↓p_maxi, ↓p_mkif, ↓p_carry, ↓p_clr, ↓n_clr, ↓p_mkmap, ↓p_look, ↓p_mupd, ↓n_mupd, ↓p_mdel, ↓n_mdel, ↓p_lenm, ↓p_pur, ↓p_eff, ↓n_eff, ↓p_mnz, vOf_some, hOf_some, okR_some, true_and, and_true, chkOk, Slots.at_set, Nat.reduceEqDiff, Nat.add_assoc, Nat.add_left_cancel_iff, Nat.add_eq_left, Nat.left_eq_add, Nat.zero_add, Nat.add_zero, Nat.reduceAdd, Nat.reduceSub, Nat.reduceMul, Nat.reduceLT, Nat.reduceLeDiff, Int.reduceLT, Int.reduceLE, Int.reduceEq, Int.reduceAdd, Int.reduceNeg, if_false, if_true, reduceIte, ev_t, ev_k, evs_nil, evs_cons, evo_none, evo_some, evp_nil, evp_cons, argSlots_at, List.getElem?_cons_succ, List.getElem?_cons_zero, Option.getD_some, r_mv, r_pick, r_fa, r_ld, r_box, r_alloc, r_un, r_eqb, r_ext, r_mkf, r_cnv, r_st, r_nck, r_ix, r_iaa, asNat0, asNat1, asNat2, asNatN, wr1, wr2, wr3, takeN, List.cons_append, List.nil_append, VE.store, over, oneCell_v, one_int, one_bool, one_str, one_ptr, one_sl, one_isl, one_nils, one_nilp, one_fn, one_ifc, one_nili, one_iptr, co_int, co_bool, co_str, co_agg, co_ptr, co_sl, co_isl, co_nils, co_nilp, co_fn, co_iptr, cellsO_v, r_len_v, cellsAt, VE.part, Heap.get_new, Heap.get_set, Heap.new_nx, Heap.new_lo, Heap.set_nx, Heap.set_lo, Option.map_some, Option.bind_some, blkX, gEval, cond_true, cond_false, decide_true, decide_false, Bool.not_true, Bool.not_false, Bool.and_true, Bool.true_and, Bool.and_self, Bool.or_false, Bool.false_or, Bool.or_self, Bool.and_false, Bool.false_and, r_build, r_bsl, fill, r_eqa, eqc9, VE.unOp, r_bin, bi_lss, bi_leq, bi_gtr, bi_geq, bi_eql, bi_neq, bi_add, bi_sub, List.drop_zero, List.drop_succ_cons, resOf, resVs, resV, beq_dec, blt_dec, ble_dec, List.length_cons, List.length_nil, reduceCtorEq, or_true, true_or, false_or, or_false, eq_self, exists_eq_left', Option.some.injEq, c0, c3, hlt', ia1, encS, h30', e2, frzB]
  · have h30' : ¬ ((30 : Int) < (c.l[k].rev.l.length : Int)) := by omega
    simp only [↓w_seq, ↓w_reg, ↓w_block, ↓w_skip, ↓w_exit, ↓w_ret, ↓w_scope, ↓w_true, ↓w_false, ↓wo_nil, ↓g_t, ↓g_f, ↓p_call, ↓n_call, ↓p_callp, ↓p_callo, ↓p_callv, ↓p_mv, ↓p_pick, ↓p_alloc, ↓p_box, ↓p_build, ↓p_bsl, ↓p_ld, ↓p_st, ↓n_st, ↓p_nck, ↓p_bin, ↓p_eqb, ↓p_eqn, ↓p_eqa, ↓p_un, ↓p_cnv, ↓p_mkf, ↓p_mks, ↓p_slc, ↓p_slca, ↓p_fa, ↓p_fld, ↓p_ia, ↓p_iaa, ↓p_ix, ↓p_ixs, ↓p_ext, ↓p_len, ↓p_lens, ↓p_lenc, ↓p_app, ↓p_apps, ↓p_app0, ↓p_cpy, ↓n_cpy, ↓p_cpys, ↓n_cpys, ↓p_mini, ↓p_maxi, ↓p_mkif, ↓p_carry, ↓p_clr, ↓n_clr, ↓p_mkmap, ↓p_look, ↓p_mupd, ↓n_mupd, ↓p_mdel, ↓n_mdel, ↓p_lenm, ↓p_pur, ↓p_eff, ↓n_eff, ↓p_mnz, vOf_some, hOf_some, okR_some, true_and, and_true, chkOk, Slots.at_set, Nat.reduceEqDiff, Nat.add_assoc, Nat.add_left_cancel_iff, Nat.add_eq_left, Nat.left_eq_add, Nat.zero_add, Nat.add_zero, Nat.reduceAdd, Nat.reduceSub, Nat.reduceMul, Nat.reduceLT, Nat.reduceLeDiff, Int.reduceLT, Int.reduceLE, Int.reduceEq, Int.reduceAdd, Int.reduceNeg, if_false, if_true, reduceIte, ev_t, ev_k, evs_nil, evs_cons, evo_none, evo_some, evp_nil, evp_cons, argSlots_at, List.getElem?_cons_succ, List.getElem?_cons_zero, Option.getD_some, r_mv, r_pick, r_fa, r_ld, r_box, r_alloc, r_un, r_eqb, r_ext, r_mkf, r_cnv, r_st, r_nck, r_ix, r_iaa, asNat0, asNat1, asNat2, asNatN, wr1, wr2, wr3, takeN, List.cons_append, List.nil_append, VE.store, over, oneCell_v, one_int, one_bool, one_str, one_ptr, one_sl, one_isl, one_nils, one_nilp, one_fn, one_ifc, one_nili, one_iptr, co_int, co_bool, co_str, co_agg, co_ptr, co_sl, co_isl, co_nils, co_nilp, co_fn, co_iptr, cellsO_v, r_len_v, cellsAt, VE.part, Heap.get_new, Heap.get_set, Heap.new_nx, Heap.new_lo, Heap.set_nx, Heap.set_lo, Option.map_some, Option.bind_some, blkX, gEval, cond_true, cond_false, decide_true, decide_false, Bool.not_true, Bool.not_false, Bool.and_true, Bool.true_and, Bool.and_self, Bool.or_false, Bool.false_or, Bool.or_self, Bool.and_false, Bool.false_and, r_build, r_bsl, fill, r_eqa, eqc9, VE.unOp, r_bin, bi_lss, bi_leq, bi_gtr, bi_geq, bi_eql, bi_neq, bi_add, bi_sub, List.drop_zero, List.drop_succ_cons, resOf, resVs, resV, beq_dec, blt_dec, ble_dec, List.length_cons, List.length_nil, reduceCtorEq, or_true, true_or, false_or, or_false, eq_self, exists_eq_left', Option.some.injEq, c0, c3, hlt', ia1, encS, h30', ws]
    refine ⟨_, by omega, k + 1, by omega, rfl, by simp only [Slots.at_set, Nat.reduceEqDiff, if_false, if_true, reduceIte, argSlots_at, List.getElem?_cons_succ, List.getElem?_cons_zero, Option.getD_some, c0], by simp only [Slots.at_set, Nat.reduceEqDiff, if_false, if_true, reduceIte, argSlots_at, List.getElem?_cons_succ, List.getElem?_cons_zero, Option.getD_some], rfl, fun j hj hj2 => ?_⟩
    rcases Nat.lt_or_ge j k with r | r
    · exact hinc j hj r
    · have : j = k := by omega
      subst this
      exact h30
theorem dels_le (a b : List Setting) (ex : Int) : (dels a b ex).length ≤ a.length := dels_len a b ex
theorem change_len {a b : List Setting} {ex : Int} (ha : chk a = 0) (hb : chk b = 0) : (change a b ex).length ≤ 88 := by
  obtain ⟨h1, h2⟩ := chk_ok ha
  obtain ⟨h3, h4⟩ := chk_ok hb
  have h5 := dels_len a b ex
  have := flat_len_le (f := stepL a ex) (n := 10) (l := b) (fun x hx => by
    have h1 := step_len a ex x
    have h2 := (h4 x hx).rl
    omega)
  unfold change
  rw [List.length_append]
  omega
theorem cmds_len {b : List Setting} {ex : Int} (hb : chk b = 0) : (b.flatMap fun x => crt x ex).length ≤ 72 := by
  obtain ⟨h3, h4⟩ := chk_ok hb
  have := flat_len_le (f := fun x => crt x ex) (n := 9) (l := b) (fun x hx => by
    have h1 := crt_len x ex
    have h2 := (h4 x hx).rl
    omega)
  omega

/-- the table -/
structure Tab (vp : Nat → Option VFn) : Prop where
  t3 : vp 3 = some v3
  t4 : vp 4 = some v4
  t5 : vp 5 = some v5
  t6 : vp 6 = some v6
  t7 : vp 7 = some v7
  t8 : vp 8 = some v8
  t9 : vp 9 = some v9
  t10 : vp 10 = some v10
  t11 : vp 11 = some v11
  t12 : vp 12 = some v12
  t13 : vp 13 = some v13
  t14 : vp 14 = some v14
  t15 : vp 15 = some v15
  t16 : vp 16 = some v16
  t17 : vp 17 = some v17
  t18 : vp 18 = some v18
  t19 : vp 19 = some v19
  t20 : vp 20 = some v20
  t21 : vp 21 = some v21
  t22 : vp 22 = some v22
  t23 : vp 23 = some v23
  t24 : vp 24 = some v24
  t25 : vp 25 = some v25
  t26 : vp 26 = some v26
  t27 : vp 27 = some v27
  t28 : vp 28 = some v28
  t29 : vp 29 = some v29
  t30 : vp 30 = some v30
  t31 : vp 31 = some v31
  t32 : vp 32 = some v32

theorem law3 (t : Tab vp) (a b : Sl Setting) (ex : Int) (h : Heap) (hna : a.l.length ≤ 9223372036854775807) (hnb : b.l.length ≤ 9223372036854775807) : callRes vp 3 [a.v encS, b.v encS, .int .u64 ex] h = some (.bool true, h) := by
  have m4 : modeOf vp 4 = some 1 := by simp [modeOf, t.t4, v4]
  have m5 : modeOf vp 5 = some 1 := by simp [modeOf, t.t5, v5]
  have m6 : modeOf vp 6 = some 1 := by simp [modeOf, t.t6, v6]
  have m7 : modeOf vp 7 = some 1 := by simp [modeOf, t.t7, v7]
  have m8 : modeOf vp 8 = some 1 := by simp [modeOf, t.t8, v8]
  have m9 : modeOf vp 9 = some 1 := by simp [modeOf, t.t9, v9]
  have ga := fun h => great4 t.t4 a h hna
  have gb := fun h => great4 t.t4 b h hnb
  refine res_pure t.t3 rfl rfl (fun g hg => ?_)
  unfold v3
  cases hga : great a.l with
  | true => simp only [↓w_seq, ↓w_reg, ↓w_block, ↓w_skip, ↓w_exit, ↓w_ret, ↓w_scope, ↓w_true, ↓w_false, ↓wo_nil, ↓g_t, ↓g_f, ↓p_call, ↓n_call, ↓p_callp, ↓p_callo, ↓p_callv, ↓p_mv, ↓p_pick, ↓p_alloc, ↓p_box, ↓p_build, ↓p_bsl, ↓p_ld, ↓p_st, ↓n_st, ↓p_nck, ↓p_bin, ↓p_eqb, ↓p_eqn, ↓p_eqa, ↓p_un, ↓p_cnv, ↓p_mkf, ↓p_mks, ↓p_slc, ↓p_slca, ↓p_fa, ↓p_fld, ↓p_ia, ↓p_iaa, ↓p_ix, ↓p_ixs, ↓p_ext, ↓p_len, ↓p_lens, ↓p_lenc, ↓p_app, ↓p_apps, ↓p_app0, ↓p_cpy, ↓n_cpy, ↓p_cpys, ↓n_cpys, ↓p_mini, ↓p_maxi, ↓p_mkif, ↓p_carry, ↓p_clr, ↓n_clr, ↓p_mkmap, ↓p_look, ↓p_mupd, ↓n_mupd, ↓p_mdel, ↓n_mdel, ↓p_lenm, ↓p_pur, ↓p_eff, ↓n_eff, ↓p_mnz, vOf_some, hOf_some, okR_some, true_and, and_true, chkOk, Slots.at_set, Nat.reduceEqDiff, Nat.add_assoc, Nat.add_left_cancel_iff, Nat.add_eq_left, Nat.left_eq_add, Nat.zero_add, Nat.add_zero, Nat.reduceAdd, Nat.reduceSub, Nat.reduceMul, Nat.reduceLT, Nat.reduceLeDiff, Int.reduceLT, Int.reduceLE, Int.reduceEq, Int.reduceAdd, Int.reduceNeg, if_false, if_true, reduceIte, ev_t, ev_k, evs_nil, evs_cons, evo_none, evo_some, evp_nil, evp_cons, argSlots_at, List.getElem?_cons_succ, List.getElem?_cons_zero, Option.getD_some, r_mv, r_pick, r_fa, r_ld, r_box, r_alloc, r_un, r_eqb, r_ext, r_mkf, r_cnv, r_st, r_nck, r_ix, r_iaa, asNat0, asNat1, asNat2, asNatN, wr1, wr2, wr3, takeN, List.cons_append, List.nil_append, VE.store, over, oneCell_v, one_int, one_bool, one_str, one_ptr, one_sl, one_isl, one_nils, one_nilp, one_fn, one_ifc, one_nili, one_iptr, co_int, co_bool, co_str, co_agg, co_ptr, co_sl, co_isl, co_nils, co_nilp, co_fn, co_iptr, cellsO_v, r_len_v, cellsAt, VE.part, Heap.get_new, Heap.get_set, Heap.new_nx, Heap.new_lo, Heap.set_nx, Heap.set_lo, Option.map_some, Option.bind_some, blkX, gEval, cond_true, cond_false, decide_true, decide_false, Bool.not_true, Bool.not_false, Bool.and_true, Bool.true_and, Bool.and_self, Bool.or_false, Bool.false_or, Bool.or_self, Bool.and_false, Bool.false_and, r_build, r_bsl, fill, r_eqa, eqc9, VE.unOp, r_bin, bi_lss, bi_leq, bi_gtr, bi_geq, bi_eql, bi_neq, bi_add, bi_sub, List.drop_zero, List.drop_succ_cons, resOf, resVs, resV, beq_dec, blt_dec, ble_dec, List.length_cons, List.length_nil, reduceCtorEq, or_true, true_or, false_or, or_false, eq_self, exists_eq_left', Option.some.injEq, m4, ga, hga, frzB]
  | false =>
    cases hgb : great b.l with
    | true => simp only [↓w_seq, ↓w_reg, ↓w_block, ↓w_skip, ↓w_exit, ↓w_ret, ↓w_scope, ↓w_true, ↓w_false, ↓wo_nil, ↓g_t, ↓g_f, ↓p_call, ↓n_call, ↓p_callp, ↓p_callo, ↓p_callv, ↓p_mv, ↓p_pick, ↓p_alloc, ↓p_box, ↓p_build, ↓p_bsl, ↓p_ld, ↓p_st, ↓n_st, ↓p_nck, ↓p_bin, ↓p_eqb, ↓p_eqn, ↓p_eqa, ↓p_un, ↓p_cnv, ↓p_mkf, ↓p_mks, ↓p_slc, ↓p_slca, ↓p_fa, ↓p_fld, ↓p_ia, ↓p_iaa, ↓p_ix, ↓p_ixs, ↓p_ext, ↓p_len, ↓p_lens, ↓p_lenc, ↓p_app, ↓p_apps, ↓p_app0, ↓p_cpy, ↓n_cpy, ↓p_cpys, ↓n_cpys, ↓p_mini, ↓p_maxi, ↓p_mkif, ↓p_carry, ↓p_clr, ↓n_clr, ↓p_mkmap, ↓p_look, ↓p_mupd, ↓n_mupd, ↓p_mdel, ↓n_mdel, ↓p_lenm, ↓p_pur, ↓p_eff, ↓n_eff, ↓p_mnz, vOf_some, hOf_some, okR_some, true_and, and_true, chkOk, Slots.at_set, Nat.reduceEqDiff, Nat.add_assoc, Nat.add_left_cancel_iff, Nat.add_eq_left, Nat.left_eq_add, Nat.zero_add, Nat.add_zero, Nat.reduceAdd, Nat.reduceSub, Nat.reduceMul, Nat.reduceLT, Nat.reduceLeDiff, Int.reduceLT, Int.reduceLE, Int.reduceEq, Int.reduceAdd, Int.reduceNeg, if_false, if_true, reduceIte, ev_t, ev_k, evs_nil, evs_cons, evo_none, evo_some, evp_nil, evp_cons, argSlots_at, List.getElem?_cons_succ, List.getElem?_cons_zero, Option.getD_some, r_mv, r_pick, r_fa, r_ld, r_box, r_alloc, r_un, r_eqb, r_ext, r_mkf, r_cnv, r_st, r_nck, r_ix, r_iaa, asNat0, asNat1, asNat2, asNatN, wr1, wr2, wr3, takeN, List.cons_append, List.nil_append, VE.store, over, oneCell_v, one_int, one_bool, one_str, one_ptr, one_sl, one_isl, one_nils, one_nilp, one_fn, one_ifc, one_nili, one_iptr, co_int, co_bool, co_str, co_agg, co_ptr, co_sl, co_isl, co_nils, co_nilp, co_fn, co_iptr, cellsO_v, r_len_v, cellsAt, VE.part, Heap.get_new, Heap.get_set, Heap.new_nx, Heap.new_lo, Heap.set_nx, Heap.set_lo, Option.map_some, Option.bind_some, blkX, gEval, cond_true, cond_false, decide_true, decide_false, Bool.not_true, Bool.not_false, Bool.and_true, Bool.true_and, Bool.and_self, Bool.or_false, Bool.false_or, Bool.or_self, Bool.and_false, Bool.false_and, r_build, r_bsl, fill, r_eqa, eqc9, VE.unOp, r_bin, bi_lss, bi_leq, bi_gtr, bi_geq, bi_eql, bi_neq, bi_add, bi_sub, List.drop_zero, List.drop_succ_cons, resOf, resVs, resV, beq_dec, blt_dec, ble_dec, List.length_cons, List.length_nil, reduceCtorEq, or_true, true_or, false_or, or_false, eq_self, exists_eq_left', Option.some.injEq, m4, ga, gb, hga, hgb, frzB]
    | false =>
      have la : a.l.length ≤ 20 := by
        unfold great at hga
        simp only [Bool.or_eq_false_iff, decide_eq_false_iff_not] at hga
        omega
      have lb : b.l.length ≤ 20 := by
        unfold great at hgb
        simp only [Bool.or_eq_false_iff, decide_eq_false_iff_not] at hgb
        omega
      have c7 := fun (x y : Sl Setting) (hx : x.l.length ≤ 20) (hy : y.l.length ≤ 20) h => change7 t.t7 t.t12 t.t13 t.t14 t.t15 t.t16 t.t17 t.t18 t.t19 t.t24 t.t25 t.t26 t.t27 t.t28 t.t29 t.t30 t.t32 x y ex h (by omega) (by omega)
      obtain ⟨r5, e5, o5, rfl, l5⟩ := commands5 t.t5 t.t7 a ex g (fun h => c7 .nil a (by simp [Sl.l]) la h)
      obtain ⟨r6, e6, o6, rfl, l6⟩ := commands6 t.t6 t.t10 t.t11 t.t21 t.t22 t.t23 t.t31 a ex g
      obtain ⟨r7, e7, o7, rfl, l7⟩ := c7 a b la lb g
      obtain ⟨r8, e8, o8, rfl, l8⟩ := change8 t.t8 t.t10 t.t11 t.t20 t.t21 t.t22 t.t23 t.t31 a b ex g
      have s1 := same9 t.t9 o5 o6 g (by rw [l5, l6]) (by
        rw [l5]
        split
        · have := cmds_len (ex := ex) (b := a.l) (by assumption); omega
        · simp)
      have s2 := same9 t.t9 o7 o8 g (by rw [l7, l8]) (by
        rw [l7]
        split
        · rename_i q; have := change_len (ex := ex) q.1 q.2; omega
        · simp)
      simp only [↓w_seq, ↓w_reg, ↓w_block, ↓w_skip, ↓w_exit, ↓w_ret, ↓w_scope, ↓w_true, ↓w_false, ↓wo_nil, ↓g_t, ↓g_f, ↓p_call, ↓n_call, ↓p_callp, ↓p_callo, ↓p_callv, ↓p_mv, ↓p_pick, ↓p_alloc, ↓p_box, ↓p_build, ↓p_bsl, ↓p_ld, ↓p_st, ↓n_st, ↓p_nck, ↓p_bin, ↓p_eqb, ↓p_eqn, ↓p_eqa, ↓p_un, ↓p_cnv, ↓p_mkf, ↓p_mks, ↓p_slc, ↓p_slca, ↓p_fa, ↓p_fld, ↓p_ia, ↓p_iaa, ↓p_ix, ↓p_ixs, ↓p_ext, ↓p_len, ↓p_lens, ↓p_lenc, ↓p_app, ↓p_apps, ↓p_app0, ↓p_cpy, ↓n_cpy, ↓p_cpys, ↓n_cpys, ↓p_mini, ↓p_maxi, ↓p_mkif, ↓p_carry, ↓p_clr, ↓n_clr, ↓p_mkmap, ↓p_look, ↓p_mupd, ↓n_mupd, ↓p_mdel, ↓n_mdel, ↓p_lenm, ↓p_pur, ↓p_eff, ↓n_eff, ↓p_mnz, vOf_some, hOf_some, okR_some, true_and, and_true, chkOk, Slots.at_set, Nat.reduceEqDiff, Nat.add_assoc, Nat.add_left_cancel_iff, Nat.add_eq_left, Nat.left_eq_add, Nat.zero_add, Nat.add_zero, Nat.reduceAdd, Nat.reduceSub, Nat.reduceMul, Nat.reduceLT, Nat.reduceLeDiff, Int.reduceLT, Int.reduceLE, Int.reduceEq, Int.reduceAdd, Int.reduceNeg, if_false, if_true, reduceIte, ev_t, ev_k, evs_nil, evs_cons, evo_none, evo_some, evp_nil, evp_cons, argSlots_at, List.getElem?_cons_succ, List.getElem?_cons_zero, Option.getD_some, r_mv, r_pick, r_fa, r_ld, r_box, r_alloc, r_un, r_eqb, r_ext, r_mkf, r_cnv, r_st, r_nck, r_ix, r_iaa, asNat0, asNat1, asNat2, asNatN, wr1, wr2, wr3, takeN, List.cons_append, List.nil_append, VE.store, over, oneCell_v, one_int, one_bool, one_str, one_ptr, one_sl, one_isl, one_nils, one_nilp, one_fn, one_ifc, one_nili, one_iptr, co_int, co_bool, co_str, co_agg, co_ptr, co_sl, co_isl, co_nils, co_nilp, co_fn, co_iptr, cellsO_v, r_len_v, cellsAt, VE.part, Heap.get_new, Heap.get_set, Heap.new_nx, Heap.new_lo, Heap.set_nx, Heap.set_lo, Option.map_some, Option.bind_some, blkX, gEval, cond_true, cond_false, decide_true, decide_false, Bool.not_true, Bool.not_false, Bool.and_true, Bool.true_and, Bool.and_self, Bool.or_false, Bool.false_or, Bool.or_self, Bool.and_false, Bool.false_and, r_build, r_bsl, fill, r_eqa, eqc9, VE.unOp, r_bin, bi_lss, bi_leq, bi_gtr, bi_geq, bi_eql, bi_neq, bi_add, bi_sub, List.drop_zero, List.drop_succ_cons, resOf, resVs, resV, beq_dec, blt_dec, ble_dec, List.length_cons, List.length_nil, reduceCtorEq, or_true, true_or, false_or, or_false, eq_self, exists_eq_left', Option.some.injEq, m4, m5, m6, m7, m8, m9, ga, gb, hga, hgb, e5, e6, e7, e8, s1, s2, frzB]
end
end Go.VE.CO
