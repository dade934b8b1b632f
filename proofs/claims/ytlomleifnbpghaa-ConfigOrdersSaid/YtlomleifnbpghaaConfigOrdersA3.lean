/- What the functions of the law ConfigOrders compute, on typed arguments (part 3). -/
import Derived.Test.YtlomleifnbpghaaConfigOrdersA2
set_option linter.all false
namespace Go.VE.CO
open Go Go.VE
set_option maxRecDepth 100000
set_option linter.all false

/-- the first place where something is so, or -1 -/
def fidx {α : Type} (q : α → Bool) : List α → Int
  | [] => -1
  | x :: l => if q x = true then 0 else if fidx q l < 0 then -1 else fidx q l + 1
theorem fidx_at {α : Type} {q : α → Bool} : ∀ {l : List α} {k : Nat} (hk : k < l.length), q l[k] = true → (∀ j (hj : j < l.length), j < k → q l[j] = false) → fidx q l = k
  | [], k, hk, _, _ => by simp at hk
  | x :: l, 0, hk, h1, _ => by
    have : q x = true := h1
    simp [fidx, this]
  | x :: l, k + 1, hk, h1, h2 => by
    have e0 : q x = false := h2 0 (by simp) (by omega)
    have e1 := fidx_at (l := l) (k := k) (by simpa using hk) (by simpa using h1) (fun j hj hjk => h2 (j + 1) (by simpa using hj) (by omega))
    simp only [fidx, e0, e1]
    rw [if_neg (by simp), if_neg (by omega)]
    omega
theorem fidx_none {α : Type} {q : α → Bool} : ∀ {l : List α}, (∀ j (hj : j < l.length), q l[j] = false) → fidx q l = -1
  | [], _ => rfl
  | x :: l, h => by
    have e0 : q x = false := h 0 (by simp)
    have e1 := fidx_none (l := l) (fun j hj => h (j + 1) (by simpa using hj))
    simp [fidx, e0, e1]
theorem fidx_any {α : Type} {q : α → Bool} : ∀ {l : List α}, decide (0 ≤ fidx q l) = l.any q
  | [] => rfl
  | x :: l => by
    have ih := fidx_any (q := q) (l := l)
    cases hq : q x with
    | true => simp [fidx, hq]
    | false =>
      simp only [fidx, hq, List.any_cons, Bool.false_or, ← ih]
      by_cases q2 : fidx q l < 0
      · simp [q2]
      · simp [q2]; omega
theorem fidx_range {α : Type} {q : α → Bool} : ∀ {l : List α}, -1 ≤ fidx q l ∧ fidx q l < l.length
  | [] => by simp [fidx]
  | x :: l => by
    have ih := fidx_range (q := q) (l := l)
    simp only [fidx, List.length_cons]
    split
    · omega
    · split <;> omega

def hgOk (h : Heap) (args : List V) (g : Heap) : Prop := (g = h0 ∧ isoArgs 1 args = some args) ∨ (g.nx = h.nx ∧ g.lo = h.nx ∧ ∀ b, g.get b = h.get b)

section
variable {vp : Nat → Option VFn}
def inv27 (F : V) (q : Setting → Bool) (c : Sl Setting) (H : Heap) (m : Nat) (s : Slots) (h : Heap) : Prop :=
  ∃ k, k ≤ c.l.length ∧ m = c.l.length - k ∧ s.at 0 = c.v encS ∧ s.at 1 = F ∧ s.at 7 = .int .i64 (c.l.length : Int) ∧ s.at 8 = .int .i64 (k : Int) ∧ h = H ∧ ∀ j (hj : j < c.l.length), j < k → q c.l[j] = false
theorem take13 (x : Setting) (r : List V) : takeN 13 (encS x ++ r) = some (encS x) := rfl
theorem idx27 (h27 : vp 27 = some v27) (F : V) (q : Setting → Bool) (c : Sl Setting) (h : Heap) (hn : c.l.length < 4611686018427387904)
    (hq : ∀ g, hgOk h [c.v encS, F] g → ∀ x ∈ c.l, callVRes vp F [.agg (encS x)] g = some (.bool (q x), g)) : callRes vp 27 [c.v encS, F] h = some (.int .i64 (fidx q c.l), h) := by
  refine res_pure h27 rfl rfl (fun g hg => ?_)
  have hq := hq g hg
  unfold v27
  simp only [↓w_seq, ↓w_reg, ↓w_block, ↓w_skip, ↓w_exit, ↓w_ret, ↓w_scope, ↓w_true, ↓w_false, ↓wo_nil, ↓g_t, ↓g_f, ↓p_call, ↓n_call, ↓p_callp, ↓p_callo, ↓p_callv, ↓p_mv, ↓p_pick, ↓p_alloc, ↓p_box, ↓p_build, ↓p_bsl, ↓p_ld, ↓p_st, ↓n_st, ↓p_nck, ↓p_bin, ↓p_eqb, ↓p_eqn, ↓p_eqa, ↓p_un, ↓p_cnv, ↓p_mkf, ↓p_mks, ↓p_slc, ↓p_slca, ↓p_fa, ↓p_fld, ↓p_ia, ↓p_iaa, ↓p_ix, ↓p_ixs, ↓p_ext, ↓p_len, ↓p_lens, ↓p_lenc, ↓p_app, ↓p_apps, ↓p_app0, ↓p_cpy, ↓n_cpy, ↓p_cpys, ↓n_cpys, ↓p_mini, ↓p_maxi, ↓p_mkif, ↓p_carry, ↓p_clr, ↓n_clr, ↓p_mkmap, ↓p_look, ↓p_mupd, ↓n_mupd, ↓p_mdel, ↓n_mdel, ↓p_lenm, ↓p_pur, ↓p_eff, ↓n_eff, ↓p_mnz, vOf_some, hOf_some, okR_some, true_and, and_true, chkOk, Slots.at_set, Nat.reduceEqDiff, Nat.add_assoc, Nat.add_left_cancel_iff, Nat.add_eq_left, Nat.left_eq_add, Nat.zero_add, Nat.add_zero, Nat.reduceAdd, Nat.reduceSub, Nat.reduceMul, Nat.reduceLT, Nat.reduceLeDiff, Int.reduceLT, Int.reduceLE, Int.reduceEq, Int.reduceAdd, Int.reduceNeg, if_false, if_true, reduceIte, ev_t, ev_k, evs_nil, evs_cons, evo_none, evo_some, evp_nil, evp_cons, argSlots_at, List.getElem?_cons_succ, List.getElem?_cons_zero, Option.getD_some, r_mv, r_pick, r_fa, r_ld, r_box, r_alloc, r_un, r_eqb, r_ext, r_mkf, r_cnv, r_st, r_nck, r_ix, r_iaa, asNat0, asNat1, asNat2, asNatN, wr1, wr2, wr3, takeN, List.cons_append, List.nil_append, VE.store, over, oneCell_v, one_int, one_bool, one_str, one_ptr, one_sl, one_isl, one_nils, one_nilp, one_fn, one_ifc, one_nili, one_iptr, co_int, co_bool, co_str, co_agg, co_ptr, co_sl, co_isl, co_nils, co_nilp, co_fn, co_iptr, cellsO_v, r_len_v, cellsAt, VE.part, Heap.get_new, Heap.get_set, Heap.new_nx, Heap.new_lo, Heap.set_nx, Heap.set_lo, Option.map_some, Option.bind_some, blkX, gEval, cond_true, cond_false, decide_true, decide_false, Bool.not_true, Bool.not_false, Bool.and_true, Bool.true_and, Bool.and_self, Bool.or_false, Bool.false_or, Bool.or_self, Bool.and_false, Bool.false_and, r_build, r_bsl, fill, VE.unOp, r_bin, bi_lss, bi_leq, bi_gtr, bi_geq, bi_eql, bi_neq, bi_add, bi_sub, List.drop_zero, List.drop_succ_cons, resOf, resVs, resV, beq_dec, blt_dec, ble_dec, List.length_cons, List.length_nil, reduceCtorEq, or_true, true_or, false_or, or_false, eq_self, exists_eq_left', Option.some.injEq]
  generalize hS : Tr.set _ 8 _ = S
  have b0 : Slots.at S 0 = c.v encS := by rw [← hS]; simp only [Slots.at_set, Nat.reduceEqDiff, if_false, if_true, reduceIte, argSlots_at, List.getElem?_cons_succ, List.getElem?_cons_zero, Option.getD_some]
  have b1 : Slots.at S 1 = F := by rw [← hS]; simp only [Slots.at_set, Nat.reduceEqDiff, if_false, if_true, reduceIte, argSlots_at, List.getElem?_cons_succ, List.getElem?_cons_zero, Option.getD_some]
  have b7 : Slots.at S 7 = .int .i64 (c.l.length : Int) := by rw [← hS]; simp only [Slots.at_set, Nat.reduceEqDiff, if_false, if_true, reduceIte, argSlots_at, List.getElem?_cons_succ, List.getElem?_cons_zero, Option.getD_some]
  have b8 : Slots.at S 8 = .int .i64 ((0 : Nat) : Int) := by rw [← hS]; simp only [Slots.at_set, Nat.reduceEqDiff, if_false, if_true, reduceIte, argSlots_at, List.getElem?_cons_succ, List.getElem?_cons_zero, Option.getD_some]; rfl
  clear hS
  refine loop_ind (fun m s h => inv27 F q c g m s h) ?_ c.l.length ⟨0, by omega, by omega, b0, b1, b7, b8, rfl, fun j _ hj => by omega⟩
  rintro m s h ⟨k, hk, hm, c0, c1, c7, c8, rfl, hinc⟩
  by_cases hlt : k < c.l.length
  case neg =>
    have hlt' : ¬ ((k : Int) < (c.l.length : Int)) := by omega
    have e := fidx_none (q := q) (l := c.l) (fun j hj => hinc j hj (by omega))
    simp only [↓w_seq, ↓w_reg, ↓w_block, ↓w_skip, ↓w_exit, ↓w_ret, ↓w_scope, ↓w_true, ↓w_false, ↓wo_nil, ↓g_t, ↓g_f, ↓p_call, ↓n_call, ↓p_callp, ↓p_callo, ↓p_callv, ↓p_mv, ↓p_pick, ↓p_alloc, ↓p_box, ↓p_build, ↓p_bsl, ↓p_ld, ↓p_st, ↓n_st, ↓p_nck, ↓p_bin, ↓p_eqb, ↓p_eqn, ↓p_eqa, ↓p_un, ↓p_cnv, ↓p_mkf, ↓p_mks, ↓p_slc, ↓p_slca, ↓p_fa, ↓p_fld, ↓p_ia, ↓p_iaa, ↓p_ix, ↓p_ixs, ↓p_ext, ↓p_len, ↓p_lens, ↓p_lenc, ↓p_app, ↓p_apps, ↓p_app0, ↓p_cpy, ↓n_cpy, ↓p_cpys, ↓n_cpys, ↓p_mini, ↓p_maxi, ↓p_mkif, ↓p_carry, ↓p_clr, ↓n_clr, ↓p_mkmap, ↓p_look, ↓p_mupd, ↓n_mupd, ↓p_mdel, ↓n_mdel, ↓p_lenm, ↓p_pur, ↓p_eff, ↓n_eff, ↓p_mnz, vOf_some, hOf_some, okR_some, true_and, and_true, chkOk, Slots.at_set, Nat.reduceEqDiff, Nat.add_assoc, Nat.add_left_cancel_iff, Nat.add_eq_left, Nat.left_eq_add, Nat.zero_add, Nat.add_zero, Nat.reduceAdd, Nat.reduceSub, Nat.reduceMul, Nat.reduceLT, Nat.reduceLeDiff, Int.reduceLT, Int.reduceLE, Int.reduceEq, Int.reduceAdd, Int.reduceNeg, if_false, if_true, reduceIte, ev_t, ev_k, evs_nil, evs_cons, evo_none, evo_some, evp_nil, evp_cons, argSlots_at, List.getElem?_cons_succ, List.getElem?_cons_zero, Option.getD_some, r_mv, r_pick, r_fa, r_ld, r_box, r_alloc, r_un, r_eqb, r_ext, r_mkf, r_cnv, r_st, r_nck, r_ix, r_iaa, asNat0, asNat1, asNat2, asNatN, wr1, wr2, wr3, takeN, List.cons_append, List.nil_append, VE.store, over, oneCell_v, one_int, one_bool, one_str, one_ptr, one_sl, one_isl, one_nils, one_nilp, one_fn, one_ifc, one_nili, one_iptr, co_int, co_bool, co_str, co_agg, co_ptr, co_sl, co_isl, co_nils, co_nilp, co_fn, co_iptr, cellsO_v, r_len_v, cellsAt, VE.part, Heap.get_new, Heap.get_set, Heap.new_nx, Heap.new_lo, Heap.set_nx, Heap.set_lo, Option.map_some, Option.bind_some, blkX, gEval, cond_true, cond_false, decide_true, decide_false, Bool.not_true, Bool.not_false, Bool.and_true, Bool.true_and, Bool.and_self, Bool.or_false, Bool.false_or, Bool.or_self, Bool.and_false, Bool.false_and, r_build, r_bsl, fill, VE.unOp, r_bin, bi_lss, bi_leq, bi_gtr, bi_geq, bi_eql, bi_neq, bi_add, bi_sub, List.drop_zero, List.drop_succ_cons, resOf, resVs, resV, beq_dec, blt_dec, ble_dec, List.length_cons, List.length_nil, reduceCtorEq, or_true, true_or, false_or, or_false, eq_self, exists_eq_left', Option.some.injEq, c0, c1, c7, c8, hlt', e, frzI]
  have hlt' : (k : Int) < (c.l.length : Int) := by omega
  have ws := wr_succ (k := k) (by omega)
  have ia1 : ∀ h, r_ia 13 (c.v encS) (.int .i64 (k : Int)) h = some (.iptr (encS c.l[k] ++ (c.l.drop (k + 1)).flatMap encS), h) := fun h => r_ia_v encS_len (by decide) hlt rfl
  have hc := hq c.l[k] (List.getElem_mem hlt)
  cases hqk : q c.l[k] with
  | true =>
    rw [hqk] at hc
    have e := fidx_at hlt hqk hinc
    simp only [↓w_seq, ↓w_reg, ↓w_block, ↓w_skip, ↓w_exit, ↓w_ret, ↓w_scope, ↓w_true, ↓w_false, ↓wo_nil, ↓g_t, ↓g_f, ↓p_call, ↓n_call, ↓p_callp, ↓p_callo, ↓p_callv, ↓p_mv, ↓p_pick, ↓p_alloc, ↓p_box, ↓p_build, ↓p_bsl, ↓p_ld, ↓p_st, ↓n_st, ↓p_nck, ↓p_bin, ↓p_eqb, ↓p_eqn, ↓p_eqa, ↓p_un, ↓p_cnv, ↓p_mkf, ↓p_mks, ↓p_slc, ↓p_slca, ↓p_fa, ↓p_fld, ↓p_ia, ↓p_iaa, ↓p_ix, ↓p_ixs, ↓p_ext, ↓p_len, ↓p_lens, ↓p_lenc, ↓p_app, ↓p_apps, ↓p_app0, ↓p_cpy, ↓n_cpy, ↓p_cpys, ↓n_cpys, ↓p_mini, ↓p_maxi, ↓p_mkif, ↓p_carry, ↓p_clr, ↓n_clr, ↓p_mkmap, ↓p_look, ↓p_mupd, ↓n_mupd, ↓p_mdel, ↓n_mdel, ↓p_lenm, ↓p_pur, ↓p_eff, ↓n_eff, ↓p_mnz, vOf_some, hOf_some, okR_some, true_and, and_true, chkOk, Slots.at_set, Nat.reduceEqDiff, Nat.add_assoc, Nat.add_left_cancel_iff, Nat.add_eq_left, Nat.left_eq_add, Nat.zero_add, Nat.add_zero, Nat.reduceAdd, Nat.reduceSub, Nat.reduceMul, Nat.reduceLT, Nat.reduceLeDiff, Int.reduceLT, Int.reduceLE, Int.reduceEq, Int.reduceAdd, Int.reduceNeg, if_false, if_true, reduceIte, ev_t, ev_k, evs_nil, evs_cons, evo_none, evo_some, evp_nil, evp_cons, argSlots_at, List.getElem?_cons_succ, List.getElem?_cons_zero, Option.getD_some, r_mv, r_pick, r_fa, r_ld, r_box, r_alloc, r_un, r_eqb, r_ext, r_mkf, r_cnv, r_st, r_nck, r_ix, r_iaa, asNat0, asNat1, asNat2, asNatN, wr1, wr2, wr3, takeN, List.cons_append, List.nil_append, VE.store, over, oneCell_v, one_int, one_bool, one_str, one_ptr, one_sl, one_isl, one_nils, one_nilp, one_fn, one_ifc, one_nili, one_iptr, co_int, co_bool, co_str, co_agg, co_ptr, co_sl, co_isl, co_nils, co_nilp, co_fn, co_iptr, cellsO_v, r_len_v, cellsAt, VE.part, Heap.get_new, Heap.get_set, Heap.new_nx, Heap.new_lo, Heap.set_nx, Heap.set_lo, Option.map_some, Option.bind_some, blkX, gEval, cond_true, cond_false, decide_true, decide_false, Bool.not_true, Bool.not_false, Bool.and_true, Bool.true_and, Bool.and_self, Bool.or_false, Bool.false_or, Bool.or_self, Bool.and_false, Bool.false_and, r_build, r_bsl, fill, VE.unOp, r_bin, bi_lss, bi_leq, bi_gtr, bi_geq, bi_eql, bi_neq, bi_add, bi_sub, List.drop_zero, List.drop_succ_cons, resOf, resVs, resV, beq_dec, blt_dec, ble_dec, List.length_cons, List.length_nil, reduceCtorEq, or_true, true_or, false_or, or_false, eq_self, exists_eq_left', Option.some.injEq, c0, c1, c7, c8, hlt', ia1, take13, hc, e, frzI]
  | false =>
    rw [hqk] at hc
    simp only [↓w_seq, ↓w_reg, ↓w_block, ↓w_skip, ↓w_exit, ↓w_ret, ↓w_scope, ↓w_true, ↓w_false, ↓wo_nil, ↓g_t, ↓g_f, ↓p_call, ↓n_call, ↓p_callp, ↓p_callo, ↓p_callv, ↓p_mv, ↓p_pick, ↓p_alloc, ↓p_box, ↓p_build, ↓p_bsl, ↓p_ld, ↓p_st, ↓n_st, ↓p_nck, ↓p_bin, ↓p_eqb, ↓p_eqn, ↓p_eqa, ↓p_un, ↓p_cnv, ↓p_mkf, ↓p_mks, ↓p_slc, ↓p_slca, ↓p_fa, ↓p_fld, ↓p_ia, ↓p_iaa, ↓p_ix, ↓p_ixs, ↓p_ext, ↓p_len, ↓p_lens, ↓p_lenc, ↓p_app, ↓p_apps, ↓p_app0, ↓p_cpy, ↓n_cpy, ↓p_cpys, ↓n_cpys, ↓p_mini, ↓p_maxi, ↓p_mkif, ↓p_carry, ↓p_clr, ↓n_clr, ↓p_mkmap, ↓p_look, ↓p_mupd, ↓n_mupd, ↓p_mdel, ↓n_mdel, ↓p_lenm, ↓p_pur, ↓p_eff, ↓n_eff, ↓p_mnz, vOf_some, hOf_some, okR_some, true_and, and_true, chkOk, Slots.at_set, Nat.reduceEqDiff, Nat.add_assoc, Nat.add_left_cancel_iff, Nat.add_eq_left, Nat.left_eq_add, Nat.zero_add, Nat.add_zero, Nat.reduceAdd, Nat.reduceSub, Nat.reduceMul, Nat.reduceLT, Nat.reduceLeDiff, Int.reduceLT, Int.reduceLE, Int.reduceEq, Int.reduceAdd, Int.reduceNeg, if_false, if_true, reduceIte, ev_t, ev_k, evs_nil, evs_cons, evo_none, evo_some, evp_nil, evp_cons, argSlots_at, List.getElem?_cons_succ, List.getElem?_cons_zero, Option.getD_some, r_mv, r_pick, r_fa, r_ld, r_box, r_alloc, r_un, r_eqb, r_ext, r_mkf, r_cnv, r_st, r_nck, r_ix, r_iaa, asNat0, asNat1, asNat2, asNatN, wr1, wr2, wr3, takeN, List.cons_append, List.nil_append, VE.store, over, oneCell_v, one_int, one_bool, one_str, one_ptr, one_sl, one_isl, one_nils, one_nilp, one_fn, one_ifc, one_nili, one_iptr, co_int, co_bool, co_str, co_agg, co_ptr, co_sl, co_isl, co_nils, co_nilp, co_fn, co_iptr, cellsO_v, r_len_v, cellsAt, VE.part, Heap.get_new, Heap.get_set, Heap.new_nx, Heap.new_lo, Heap.set_nx, Heap.set_lo, Option.map_some, Option.bind_some, blkX, gEval, cond_true, cond_false, decide_true, decide_false, Bool.not_true, Bool.not_false, Bool.and_true, Bool.true_and, Bool.and_self, Bool.or_false, Bool.false_or, Bool.or_self, Bool.and_false, Bool.false_and, r_build, r_bsl, fill, VE.unOp, r_bin, bi_lss, bi_leq, bi_gtr, bi_geq, bi_eql, bi_neq, bi_add, bi_sub, List.drop_zero, List.drop_succ_cons, resOf, resVs, resV, beq_dec, blt_dec, ble_dec, List.length_cons, List.length_nil, reduceCtorEq, or_true, true_or, false_or, or_false, eq_self, exists_eq_left', Option.some.injEq, c0, c1, c7, c8, hlt', ia1, take13, hc, ws]
    refine ⟨_, by omega, k + 1, by omega, rfl, by simp only [Slots.at_set, Nat.reduceEqDiff, if_false, if_true, reduceIte, argSlots_at, List.getElem?_cons_succ, List.getElem?_cons_zero, Option.getD_some, c0], by simp only [Slots.at_set, Nat.reduceEqDiff, if_false, if_true, reduceIte, argSlots_at, List.getElem?_cons_succ, List.getElem?_cons_zero, Option.getD_some, c1], by simp only [Slots.at_set, Nat.reduceEqDiff, if_false, if_true, reduceIte, argSlots_at, List.getElem?_cons_succ, List.getElem?_cons_zero, Option.getD_some, c7], by simp only [Slots.at_set, Nat.reduceEqDiff, if_false, if_true, reduceIte, argSlots_at, List.getElem?_cons_succ, List.getElem?_cons_zero, Option.getD_some], rfl, fun j hj hj2 => ?_⟩
    rcases Nat.lt_or_ge j k with r | r
    · exact hinc j hj r
    · have : j = k := by omega
      subst this
      exact hqk
end
end Go.VE.CO
