/- What the functions of the law ConfigOrders compute, on typed arguments (part 8). -/
import Derived.Test.YtlomleifnbpghaaConfigOrdersA7
set_option linter.all false
namespace Go.VE.CO
open Go Go.VE
set_option maxRecDepth 100000
set_option linter.all false
deriving instance DecidableEq for Limit
def zS : Setting := ⟨0, zL, zL, zL, 0, 0, .nil⟩
def keptP (a : List Setting) (x : Setting) : Setting × Bool := match a.find? (same x) with
  | some y => (y, true)
  | none => (zS, false)
theorem find_at {α : Type} {q : α → Bool} : ∀ {l : List α} {k : Nat} (hk : k < l.length), q l[k] = true → (∀ j (hj : j < l.length), j < k → q l[j] = false) → l.find? q = some l[k]
  | [], k, hk, _, _ => by simp at hk
  | x :: l, 0, hk, h1, _ => by
    have : q x = true := h1
    simp [List.find?, this]
  | x :: l, k + 1, hk, h1, h2 => by
    have e0 : q x = false := h2 0 (by simp) (by omega)
    have e1 := find_at (l := l) (k := k) (by simpa using hk) (by simpa using h1) (fun j hj hjk => h2 (j + 1) (by simpa using hj) (by omega))
    simp only [List.find?, e0, e1, List.getElem_cons_succ]
theorem find_no {α : Type} {q : α → Bool} {l : List α} (h : ∀ j (hj : j < l.length), q l[j] = false) : l.find? q = none := by
  rw [List.find?_eq_none]
  intro x hx
  obtain ⟨j, hj, rfl⟩ := List.mem_iff_getElem.1 hx
  simp [h j hj]
theorem fidx_find {α : Type} {q : α → Bool} : ∀ (l : List α), (fidx q l < 0 ∧ l.find? q = none) ∨ ∃ (k : Nat) (hk : k < l.length), fidx q l = k ∧ l.find? q = some l[k]
  | [] => .inl ⟨by simp [fidx], rfl⟩
  | x :: l => by
    cases hq : q x with
    | true => exact .inr ⟨0, by simp, by simp [fidx, hq], by simp [List.find?, hq]⟩
    | false =>
      rcases fidx_find (q := q) l with ⟨h1, h2⟩ | ⟨k, hk, h1, h2⟩
      · exact .inl ⟨by simp [fidx, hq, h1], by simp [List.find?, hq, h2]⟩
      · refine .inr ⟨k + 1, by simpa using hk, ?_, by simp [List.find?, hq, h2]⟩
        have : ¬ (fidx q l < 0) := by omega
        simp only [fidx, hq, Bool.false_eq_true, if_false, this]
        omega
theorem frzT {h : Heap} {b : Nat} (y : Setting) (v : Bool) : frz frzFuel h b false (.tup [.agg (encS y), .bool v]) = some (.tup [.agg (encS y), .bool v]) := by
  unfold encS
  cases y.rev <;> rfl
section
variable {vp : Nat → Option VFn}
def inv20 (a : Sl Setting) (x : Setting) (nb : Nat) (H : Heap) (m : Nat) (s : Slots) (h : Heap) : Prop :=
  ∃ k, k ≤ a.l.length ∧ m = a.l.length - k ∧ s.at 0 = a.v encS ∧ s.at 3 = .ptr nb 0 ∧ s.at 4 = .ptr (nb + 1) 0 ∧ s.at 6 = .int .i64 (k : Int) ∧ h = H ∧ ∀ j (hj : j < a.l.length), j < k → same x a.l[j] = false
theorem kept20 (h20 : vp 20 = some v20) (a : Sl Setting) (x : Setting) (h : Heap) (hn : a.l.length < 4611686018427387904) : callRes vp 20 [a.v encS, .agg (encS x)] h = some (.tup [.agg (encS (keptP a.l x).1), .bool (keptP a.l x).2], h) := by
  refine res_pure h20 rfl rfl (fun g hg => ?_)
  have hlo : g.lo ≤ g.nx := by
    rcases hg with ⟨rfl, _⟩ | ⟨e1, e2, _⟩
    · exact Nat.le_refl _
    · omega
  have hlk : ∀ k, ¬ (g.nx + k < g.lo) := fun k => by omega
  unfold v20
  simp only [↓w_seq, ↓w_reg, ↓w_block, ↓w_skip, ↓w_exit, ↓w_ret, ↓w_scope, ↓w_true, ↓w_false, ↓wo_nil, ↓g_t, ↓g_f, ↓p_call, ↓n_call, ↓p_callp, ↓p_callo, ↓p_callv, ↓p_mv, ↓p_pick, ↓p_alloc, ↓p_box, ↓p_build, ↓p_bsl, ↓p_ld, ↓p_st, ↓n_st, ↓p_nck, ↓p_bin, ↓p_eqb, ↓p_eqn, ↓p_eqa, ↓p_un, ↓p_cnv, ↓p_mkf, ↓p_mks, ↓p_slc, ↓p_slca, ↓p_fa, ↓p_fld, ↓p_ia, ↓p_iaa, ↓p_ix, ↓p_ixs, ↓p_ext, ↓p_len, ↓p_lens, ↓p_lenc, ↓p_app, ↓p_apps, ↓p_app0, ↓p_cpy, ↓n_cpy, ↓p_cpys, ↓n_cpys, ↓p_mini, ↓p_maxi, ↓p_mkif, ↓p_carry, ↓p_clr, ↓n_clr, ↓p_mkmap, ↓p_look, ↓p_mupd, ↓n_mupd, ↓p_mdel, ↓n_mdel, ↓p_lenm, ↓p_pur, ↓p_eff, ↓n_eff, ↓p_mnz, vOf_some, hOf_some, okR_some, true_and, and_true, chkOk, Slots.at_set, Nat.reduceEqDiff, Nat.add_assoc, Nat.add_left_cancel_iff, Nat.add_eq_left, Nat.left_eq_add, Nat.zero_add, Nat.add_zero, Nat.reduceAdd, Nat.reduceSub, Nat.reduceMul, Nat.reduceLT, Nat.reduceLeDiff, Int.reduceLT, Int.reduceLE, Int.reduceEq, Int.reduceAdd, Int.reduceNeg, if_false, if_true, reduceIte, ev_t, ev_k, evs_nil, evs_cons, evo_none, evo_some, evp_nil, evp_cons, argSlots_at, List.getElem?_cons_succ, List.getElem?_cons_zero, Option.getD_some, r_mv, r_pick, r_fa, r_ld, r_box, r_alloc, r_un, r_eqb, r_ext, r_mkf, r_cnv, r_st, r_nck, r_ix, r_iaa, asNat0, asNat1, asNat2, asNatN, wr1, wr2, wr3, takeN, List.cons_append, List.nil_append, VE.store, over, oneCell_v, one_int, one_bool, one_str, one_ptr, one_sl, one_isl, one_nils, one_nilp, one_fn, one_ifc, one_nili, one_iptr, co_int, co_bool, co_str, co_agg, co_ptr, co_sl, co_isl, co_nils, co_nilp, co_fn, co_iptr, cellsO_v, r_len_v, cellsAt, VE.part, Heap.get_new, Heap.get_set, Heap.new_nx, Heap.new_lo, Heap.set_nx, Heap.set_lo, Option.map_some, Option.bind_some, blkX, gEval, cond_true, cond_false, decide_true, decide_false, Bool.not_true, Bool.not_false, Bool.and_true, Bool.true_and, Bool.and_self, Bool.or_false, Bool.false_or, Bool.or_self, Bool.and_false, Bool.false_and, r_build, r_bsl, fill, VE.unOp, r_bin, bi_lss, bi_leq, bi_gtr, bi_geq, bi_eql, bi_neq, bi_add, bi_sub, List.drop_zero, List.drop_succ_cons, resOf, resVs, resV, beq_dec, blt_dec, ble_dec, List.length_cons, List.length_nil, reduceCtorEq, or_true, true_or, false_or, or_false, eq_self, exists_eq_left', Option.some.injEq, encS_len]
  generalize hS : Tr.set _ 6 _ = S
  have b0 : Slots.at S 0 = a.v encS := by rw [← hS]; simp only [Slots.at_set, Nat.reduceEqDiff, if_false, if_true, reduceIte, argSlots_at, List.getElem?_cons_succ, List.getElem?_cons_zero, Option.getD_some]
  have b3 : Slots.at S 3 = .ptr g.nx 0 := by rw [← hS]; simp only [Slots.at_set, Nat.reduceEqDiff, if_false, if_true, reduceIte, argSlots_at, List.getElem?_cons_succ, List.getElem?_cons_zero, Option.getD_some]
  have b4 : Slots.at S 4 = .ptr (g.nx + 1) 0 := by rw [← hS]; simp only [Slots.at_set, Nat.reduceEqDiff, if_false, if_true, reduceIte, argSlots_at, List.getElem?_cons_succ, List.getElem?_cons_zero, Option.getD_some]
  have b6 : Slots.at S 6 = .int .i64 ((0 : Nat) : Int) := by rw [← hS]; simp only [Slots.at_set, Nat.reduceEqDiff, if_false, if_true, reduceIte, argSlots_at, List.getElem?_cons_succ, List.getElem?_cons_zero, Option.getD_some]; rfl
  clear hS
  generalize hH : Heap.new (Heap.new g _) _ = H
  have g1 : H.get g.nx = .cells (encS x) .cl := by rw [← hH, Heap.get_new, if_neg (by simp [Heap.new]), Heap.get_new, if_pos rfl]
  have g2 : H.get (g.nx + 1) = .cells (encS zS) (.ct 41) := by rw [← hH, Heap.get_new, if_pos (by simp [Heap.new])]; rfl
  have g3 : H.lo = g.lo := by rw [← hH]; rfl
  clear hH
  refine loop_ind (fun m s h => inv20 a x g.nx H m s h) ?_ a.l.length ⟨0, by omega, by omega, b0, b3, b4, b6, rfl, fun j _ hj => by omega⟩
  rintro m s h ⟨k, hk, hm, c0, c3, c4, c6, rfl, hinc⟩
  by_cases hlt : k < a.l.length
  case neg =>
    have hlt' : ¬ ((k : Int) < (a.l.length : Int)) := by omega
    have e : keptP a.l x = (zS, false) := by
      unfold keptP
      rw [find_no (fun j hj => hinc j hj (by omega))]
    have fz := fun h' => frzT (h := h') (b := g.nx) zS false
    simp only [encS, zS, zL, slnil] at g2 fz
    simp only [↓w_seq, ↓w_reg, ↓w_block, ↓w_skip, ↓w_exit, ↓w_ret, ↓w_scope, ↓w_true, ↓w_false, ↓wo_nil, ↓g_t, ↓g_f, ↓p_call, ↓n_call, ↓p_callp, ↓p_callo, ↓p_callv, ↓p_mv, ↓p_pick, ↓p_alloc, ↓p_box, ↓p_build, ↓p_bsl, ↓p_ld, ↓p_st, ↓n_st, ↓p_nck, ↓p_bin, ↓p_eqb, ↓p_eqn, ↓p_eqa, ↓p_un, ↓p_cnv, ↓p_mkf, ↓p_mks, ↓p_slc, ↓p_slca, ↓p_fa, ↓p_fld, ↓p_ia, ↓p_iaa, ↓p_ix, ↓p_ixs, ↓p_ext, ↓p_len, ↓p_lens, ↓p_lenc, ↓p_app, ↓p_apps, ↓p_app0, ↓p_cpy, ↓n_cpy, ↓p_cpys, ↓n_cpys, ↓p_mini, ↓p_maxi, ↓p_mkif, ↓p_carry, ↓p_clr, ↓n_clr, ↓p_mkmap, ↓p_look, ↓p_mupd, ↓n_mupd, ↓p_mdel, ↓n_mdel, ↓p_lenm, ↓p_pur, ↓p_eff, ↓n_eff, ↓p_mnz, vOf_some, hOf_some, okR_some, true_and, and_true, chkOk, Slots.at_set, Nat.reduceEqDiff, Nat.add_assoc, Nat.add_left_cancel_iff, Nat.add_eq_left, Nat.left_eq_add, Nat.zero_add, Nat.add_zero, Nat.reduceAdd, Nat.reduceSub, Nat.reduceMul, Nat.reduceLT, Nat.reduceLeDiff, Int.reduceLT, Int.reduceLE, Int.reduceEq, Int.reduceAdd, Int.reduceNeg, if_false, if_true, reduceIte, ev_t, ev_k, evs_nil, evs_cons, evo_none, evo_some, evp_nil, evp_cons, argSlots_at, List.getElem?_cons_succ, List.getElem?_cons_zero, Option.getD_some, r_mv, r_pick, r_fa, r_ld, r_box, r_alloc, r_un, r_eqb, r_ext, r_mkf, r_cnv, r_st, r_nck, r_ix, r_iaa, asNat0, asNat1, asNat2, asNatN, wr1, wr2, wr3, takeN, List.cons_append, List.nil_append, VE.store, over, oneCell_v, one_int, one_bool, one_str, one_ptr, one_sl, one_isl, one_nils, one_nilp, one_fn, one_ifc, one_nili, one_iptr, co_int, co_bool, co_str, co_agg, co_ptr, co_sl, co_isl, co_nils, co_nilp, co_fn, co_iptr, cellsO_v, r_len_v, cellsAt, VE.part, Heap.get_new, Heap.get_set, Heap.new_nx, Heap.new_lo, Heap.set_nx, Heap.set_lo, Option.map_some, Option.bind_some, blkX, gEval, cond_true, cond_false, decide_true, decide_false, Bool.not_true, Bool.not_false, Bool.and_true, Bool.true_and, Bool.and_self, Bool.or_false, Bool.false_or, Bool.or_self, Bool.and_false, Bool.false_and, r_build, r_bsl, fill, VE.unOp, r_bin, bi_lss, bi_leq, bi_gtr, bi_geq, bi_eql, bi_neq, bi_add, bi_sub, List.drop_zero, List.drop_succ_cons, resOf, resVs, resV, beq_dec, blt_dec, ble_dec, List.length_cons, List.length_nil, reduceCtorEq, or_true, true_or, false_or, or_false, eq_self, exists_eq_left', Option.some.injEq, c0, c3, c4, c6, hlt', g2, g3, hlk, e, zS, zL, encS, slnil, fz]
  have hlt' : (k : Int) < (a.l.length : Int) := by omega
  have ws := wr_succ (k := k) (by omega)
  have ia1 : ∀ h, r_ia 13 (a.v encS) (.int .i64 (k : Int)) h = some (.iptr (encS a.l[k] ++ (a.l.drop (k + 1)).flatMap encS), h) := fun h => r_ia_v encS_len (by decide) hlt rfl
  have next : same x a.l[k] = false → ∀ j (hj : j < a.l.length), j < k + 1 → same x a.l[j] = false := fun hs j hj hj2 => by
    rcases Nat.lt_or_ge j k with r | r
    · exact hinc j hj r
    · have : j = k := by omega
      subst this
      exact hs
  simp only [encS] at g1
  by_cases h1 : a.l[k].t = x.t
  case neg =>
    have hs : same x a.l[k] = false := by simp [same, h1]
    simp only [↓w_seq, ↓w_reg, ↓w_block, ↓w_skip, ↓w_exit, ↓w_ret, ↓w_scope, ↓w_true, ↓w_false, ↓wo_nil, ↓g_t, ↓g_f, ↓p_call, ↓n_call, ↓p_callp, ↓p_callo, ↓p_callv, ↓p_mv, ↓p_pick, ↓p_alloc, ↓p_box, ↓p_build, ↓p_bsl, ↓p_ld, ↓p_st, ↓n_st, ↓p_nck, ↓p_bin, ↓p_eqb, ↓p_eqn, ↓p_eqa, ↓p_un, ↓p_cnv, ↓p_mkf, ↓p_mks, ↓p_slc, ↓p_slca, ↓p_fa, ↓p_fld, ↓p_ia, ↓p_iaa, ↓p_ix, ↓p_ixs, ↓p_ext, ↓p_len, ↓p_lens, ↓p_lenc, ↓p_app, ↓p_apps, ↓p_app0, ↓p_cpy, ↓n_cpy, ↓p_cpys, ↓n_cpys, ↓p_mini, ↓p_maxi, ↓p_mkif, ↓p_carry, ↓p_clr, ↓n_clr, ↓p_mkmap, ↓p_look, ↓p_mupd, ↓n_mupd, ↓p_mdel, ↓n_mdel, ↓p_lenm, ↓p_pur, ↓p_eff, ↓n_eff, ↓p_mnz, vOf_some, hOf_some, okR_some, true_and, and_true, chkOk, Slots.at_set, Nat.reduceEqDiff, Nat.add_assoc, Nat.add_left_cancel_iff, Nat.add_eq_left, Nat.left_eq_add, Nat.zero_add, Nat.add_zero, Nat.reduceAdd, Nat.reduceSub, Nat.reduceMul, Nat.reduceLT, Nat.reduceLeDiff, Int.reduceLT, Int.reduceLE, Int.reduceEq, Int.reduceAdd, Int.reduceNeg, if_false, if_true, reduceIte, ev_t, ev_k, evs_nil, evs_cons, evo_none, evo_some, evp_nil, evp_cons, argSlots_at, List.getElem?_cons_succ, List.getElem?_cons_zero, Option.getD_some, r_mv, r_pick, r_fa, r_ld, r_box, r_alloc, r_un, r_eqb, r_ext, r_mkf, r_cnv, r_st, r_nck, r_ix, r_iaa, asNat0, asNat1, asNat2, asNatN, wr1, wr2, wr3, takeN, List.cons_append, List.nil_append, VE.store, over, oneCell_v, one_int, one_bool, one_str, one_ptr, one_sl, one_isl, one_nils, one_nilp, one_fn, one_ifc, one_nili, one_iptr, co_int, co_bool, co_str, co_agg, co_ptr, co_sl, co_isl, co_nils, co_nilp, co_fn, co_iptr, cellsO_v, r_len_v, cellsAt, VE.part, Heap.get_new, Heap.get_set, Heap.new_nx, Heap.new_lo, Heap.set_nx, Heap.set_lo, Option.map_some, Option.bind_some, blkX, gEval, cond_true, cond_false, decide_true, decide_false, Bool.not_true, Bool.not_false, Bool.and_true, Bool.true_and, Bool.and_self, Bool.or_false, Bool.false_or, Bool.or_self, Bool.and_false, Bool.false_and, r_build, r_bsl, fill, VE.unOp, r_bin, bi_lss, bi_leq, bi_gtr, bi_geq, bi_eql, bi_neq, bi_add, bi_sub, List.drop_zero, List.drop_succ_cons, resOf, resVs, resV, beq_dec, blt_dec, ble_dec, List.length_cons, List.length_nil, reduceCtorEq, or_true, true_or, false_or, or_false, eq_self, exists_eq_left', Option.some.injEq, c0, c3, c4, c6, hlt', ia1, encS, g1, h1, ws]
    exact ⟨_, by omega, k + 1, by omega, rfl, by simp only [Slots.at_set, Nat.reduceEqDiff, if_false, if_true, reduceIte, argSlots_at, List.getElem?_cons_succ, List.getElem?_cons_zero, Option.getD_some, c0], by simp only [Slots.at_set, Nat.reduceEqDiff, if_false, if_true, reduceIte, argSlots_at, List.getElem?_cons_succ, List.getElem?_cons_zero, Option.getD_some, c3], by simp only [Slots.at_set, Nat.reduceEqDiff, if_false, if_true, reduceIte, argSlots_at, List.getElem?_cons_succ, List.getElem?_cons_zero, Option.getD_some, c4], by simp only [Slots.at_set, Nat.reduceEqDiff, if_false, if_true, reduceIte, argSlots_at, List.getElem?_cons_succ, List.getElem?_cons_zero, Option.getD_some], rfl, next hs⟩
  by_cases h2 : a.l[k].u = x.u
  case neg =>
    have hs : same x a.l[k] = false := by simp [same, h2]
    simp only [↓w_seq, ↓w_reg, ↓w_block, ↓w_skip, ↓w_exit, ↓w_ret, ↓w_scope, ↓w_true, ↓w_false, ↓wo_nil, ↓g_t, ↓g_f, ↓p_call, ↓n_call, ↓p_callp, ↓p_callo, ↓p_callv, ↓p_mv, ↓p_pick, ↓p_alloc, ↓p_box, ↓p_build, ↓p_bsl, ↓p_ld, ↓p_st, ↓n_st, ↓p_nck, ↓p_bin, ↓p_eqb, ↓p_eqn, ↓p_eqa, ↓p_un, ↓p_cnv, ↓p_mkf, ↓p_mks, ↓p_slc, ↓p_slca, ↓p_fa, ↓p_fld, ↓p_ia, ↓p_iaa, ↓p_ix, ↓p_ixs, ↓p_ext, ↓p_len, ↓p_lens, ↓p_lenc, ↓p_app, ↓p_apps, ↓p_app0, ↓p_cpy, ↓n_cpy, ↓p_cpys, ↓n_cpys, ↓p_mini, ↓p_maxi, ↓p_mkif, ↓p_carry, ↓p_clr, ↓n_clr, ↓p_mkmap, ↓p_look, ↓p_mupd, ↓n_mupd, ↓p_mdel, ↓n_mdel, ↓p_lenm, ↓p_pur, ↓p_eff, ↓n_eff, ↓p_mnz, vOf_some, hOf_some, okR_some, true_and, and_true, chkOk, Slots.at_set, Nat.reduceEqDiff, Nat.add_assoc, Nat.add_left_cancel_iff, Nat.add_eq_left, Nat.left_eq_add, Nat.zero_add, Nat.add_zero, Nat.reduceAdd, Nat.reduceSub, Nat.reduceMul, Nat.reduceLT, Nat.reduceLeDiff, Int.reduceLT, Int.reduceLE, Int.reduceEq, Int.reduceAdd, Int.reduceNeg, if_false, if_true, reduceIte, ev_t, ev_k, evs_nil, evs_cons, evo_none, evo_some, evp_nil, evp_cons, argSlots_at, List.getElem?_cons_succ, List.getElem?_cons_zero, Option.getD_some, r_mv, r_pick, r_fa, r_ld, r_box, r_alloc, r_un, r_eqb, r_ext, r_mkf, r_cnv, r_st, r_nck, r_ix, r_iaa, asNat0, asNat1, asNat2, asNatN, wr1, wr2, wr3, takeN, List.cons_append, List.nil_append, VE.store, over, oneCell_v, one_int, one_bool, one_str, one_ptr, one_sl, one_isl, one_nils, one_nilp, one_fn, one_ifc, one_nili, one_iptr, co_int, co_bool, co_str, co_agg, co_ptr, co_sl, co_isl, co_nils, co_nilp, co_fn, co_iptr, cellsO_v, r_len_v, cellsAt, VE.part, Heap.get_new, Heap.get_set, Heap.new_nx, Heap.new_lo, Heap.set_nx, Heap.set_lo, Option.map_some, Option.bind_some, blkX, gEval, cond_true, cond_false, decide_true, decide_false, Bool.not_true, Bool.not_false, Bool.and_true, Bool.true_and, Bool.and_self, Bool.or_false, Bool.false_or, Bool.or_self, Bool.and_false, Bool.false_and, r_build, r_bsl, fill, VE.unOp, r_bin, bi_lss, bi_leq, bi_gtr, bi_geq, bi_eql, bi_neq, bi_add, bi_sub, List.drop_zero, List.drop_succ_cons, resOf, resVs, resV, beq_dec, blt_dec, ble_dec, List.length_cons, List.length_nil, reduceCtorEq, or_true, true_or, false_or, or_false, eq_self, exists_eq_left', Option.some.injEq, c0, c3, c4, c6, hlt', ia1, encS, g1, h1, h2, ws]
    exact ⟨_, by omega, k + 1, by omega, rfl, by simp only [Slots.at_set, Nat.reduceEqDiff, if_false, if_true, reduceIte, argSlots_at, List.getElem?_cons_succ, List.getElem?_cons_zero, Option.getD_some, c0], by simp only [Slots.at_set, Nat.reduceEqDiff, if_false, if_true, reduceIte, argSlots_at, List.getElem?_cons_succ, List.getElem?_cons_zero, Option.getD_some, c3], by simp only [Slots.at_set, Nat.reduceEqDiff, if_false, if_true, reduceIte, argSlots_at, List.getElem?_cons_succ, List.getElem?_cons_zero, Option.getD_some, c4], by simp only [Slots.at_set, Nat.reduceEqDiff, if_false, if_true, reduceIte, argSlots_at, List.getElem?_cons_succ, List.getElem?_cons_zero, Option.getD_some], rfl, next hs⟩
  by_cases h3 : a.l[k].e = x.e
  case neg =>
    have hs : same x a.l[k] = false := by simp [same, h3]
    simp only [↓w_seq, ↓w_reg, ↓w_block, ↓w_skip, ↓w_exit, ↓w_ret, ↓w_scope, ↓w_true, ↓w_false, ↓wo_nil, ↓g_t, ↓g_f, ↓p_call, ↓n_call, ↓p_callp, ↓p_callo, ↓p_callv, ↓p_mv, ↓p_pick, ↓p_alloc, ↓p_box, ↓p_build, ↓p_bsl, ↓p_ld, ↓p_st, ↓n_st, ↓p_nck, ↓p_bin, ↓p_eqb, ↓p_eqn, ↓p_eqa, ↓p_un, ↓p_cnv, ↓p_mkf, ↓p_mks, ↓p_slc, ↓p_slca, ↓p_fa, ↓p_fld, ↓p_ia, ↓p_iaa, ↓p_ix, ↓p_ixs, ↓p_ext, ↓p_len, ↓p_lens, ↓p_lenc, ↓p_app, ↓p_apps, ↓p_app0, ↓p_cpy, ↓n_cpy, ↓p_cpys, ↓n_cpys, ↓p_mini, ↓p_maxi, ↓p_mkif, ↓p_carry, ↓p_clr, ↓n_clr, ↓p_mkmap, ↓p_look, ↓p_mupd, ↓n_mupd, ↓p_mdel, ↓n_mdel, ↓p_lenm, ↓p_pur, ↓p_eff, ↓n_eff, ↓p_mnz, vOf_some, hOf_some, okR_some, true_and, and_true, chkOk, Slots.at_set, Nat.reduceEqDiff, Nat.add_assoc, Nat.add_left_cancel_iff, Nat.add_eq_left, Nat.left_eq_add, Nat.zero_add, Nat.add_zero, Nat.reduceAdd, Nat.reduceSub, Nat.reduceMul, Nat.reduceLT, Nat.reduceLeDiff, Int.reduceLT, Int.reduceLE, Int.reduceEq, Int.reduceAdd, Int.reduceNeg, if_false, if_true, reduceIte, ev_t, ev_k, evs_nil, evs_cons, evo_none, evo_some, evp_nil, evp_cons, argSlots_at, List.getElem?_cons_succ, List.getElem?_cons_zero, Option.getD_some, r_mv, r_pick, r_fa, r_ld, r_box, r_alloc, r_un, r_eqb, r_ext, r_mkf, r_cnv, r_st, r_nck, r_ix, r_iaa, asNat0, asNat1, asNat2, asNatN, wr1, wr2, wr3, takeN, List.cons_append, List.nil_append, VE.store, over, oneCell_v, one_int, one_bool, one_str, one_ptr, one_sl, one_isl, one_nils, one_nilp, one_fn, one_ifc, one_nili, one_iptr, co_int, co_bool, co_str, co_agg, co_ptr, co_sl, co_isl, co_nils, co_nilp, co_fn, co_iptr, cellsO_v, r_len_v, cellsAt, VE.part, Heap.get_new, Heap.get_set, Heap.new_nx, Heap.new_lo, Heap.set_nx, Heap.set_lo, Option.map_some, Option.bind_some, blkX, gEval, cond_true, cond_false, decide_true, decide_false, Bool.not_true, Bool.not_false, Bool.and_true, Bool.true_and, Bool.and_self, Bool.or_false, Bool.false_or, Bool.or_self, Bool.and_false, Bool.false_and, r_build, r_bsl, fill, VE.unOp, r_bin, bi_lss, bi_leq, bi_gtr, bi_geq, bi_eql, bi_neq, bi_add, bi_sub, List.drop_zero, List.drop_succ_cons, resOf, resVs, resV, beq_dec, blt_dec, ble_dec, List.length_cons, List.length_nil, reduceCtorEq, or_true, true_or, false_or, or_false, eq_self, exists_eq_left', Option.some.injEq, c0, c3, c4, c6, hlt', ia1, encS, g1, h1, h2, h3, ws]
    exact ⟨_, by omega, k + 1, by omega, rfl, by simp only [Slots.at_set, Nat.reduceEqDiff, if_false, if_true, reduceIte, argSlots_at, List.getElem?_cons_succ, List.getElem?_cons_zero, Option.getD_some, c0], by simp only [Slots.at_set, Nat.reduceEqDiff, if_false, if_true, reduceIte, argSlots_at, List.getElem?_cons_succ, List.getElem?_cons_zero, Option.getD_some, c3], by simp only [Slots.at_set, Nat.reduceEqDiff, if_false, if_true, reduceIte, argSlots_at, List.getElem?_cons_succ, List.getElem?_cons_zero, Option.getD_some, c4], by simp only [Slots.at_set, Nat.reduceEqDiff, if_false, if_true, reduceIte, argSlots_at, List.getElem?_cons_succ, List.getElem?_cons_zero, Option.getD_some], rfl, next hs⟩
  have hs : same x a.l[k] = true := by simp [same, h1, h2, h3]
  have e : keptP a.l x = (a.l[k], true) := by
    unfold keptP
    rw [find_at hlt hs hinc]
  have fz := fun h' => frzT (h := h') (b := g.nx) a.l[k] true
  simp only [encS, zS, zL, slnil, h1, h2, h3] at g2
  simp only [encS, h1, h2, h3] at fz
  simp only [↓w_seq, ↓w_reg, ↓w_block, ↓w_skip, ↓w_exit, ↓w_ret, ↓w_scope, ↓w_true, ↓w_false, ↓wo_nil, ↓g_t, ↓g_f, ↓p_call, ↓n_call, ↓p_callp, ↓p_callo, ↓p_callv, ↓p_mv, ↓p_pick, ↓p_alloc, ↓p_box, ↓p_build, ↓p_bsl, ↓p_ld, ↓p_st, ↓n_st, ↓p_nck, ↓p_bin, ↓p_eqb, ↓p_eqn, ↓p_eqa, ↓p_un, ↓p_cnv, ↓p_mkf, ↓p_mks, ↓p_slc, ↓p_slca, ↓p_fa, ↓p_fld, ↓p_ia, ↓p_iaa, ↓p_ix, ↓p_ixs, ↓p_ext, ↓p_len, ↓p_lens, ↓p_lenc, ↓p_app, ↓p_apps, ↓p_app0, ↓p_cpy, ↓n_cpy, ↓p_cpys, ↓n_cpys, ↓p_mini, ↓p_maxi, ↓p_mkif, ↓p_carry, ↓p_clr, ↓n_clr, ↓p_mkmap, ↓p_look, ↓p_mupd, ↓n_mupd, ↓p_mdel, ↓n_mdel, ↓p_lenm, ↓p_pur, ↓p_eff, ↓n_eff, ↓p_mnz, vOf_some, hOf_some, okR_some, true_and, and_true, chkOk, Slots.at_set, Nat.reduceEqDiff, Nat.add_assoc, Nat.add_left_cancel_iff, Nat.add_eq_left, Nat.left_eq_add, Nat.zero_add, Nat.add_zero, Nat.reduceAdd, Nat.reduceSub, Nat.reduceMul, Nat.reduceLT, Nat.reduceLeDiff, Int.reduceLT, Int.reduceLE, Int.reduceEq, Int.reduceAdd, Int.reduceNeg, if_false, if_true, reduceIte, ev_t, ev_k, evs_nil, evs_cons, evo_none, evo_some, evp_nil, evp_cons, argSlots_at, List.getElem?_cons_succ, List.getElem?_cons_zero, Option.getD_some, r_mv, r_pick, r_fa, r_ld, r_box, r_alloc, r_un, r_eqb, r_ext, r_mkf, r_cnv, r_st, r_nck, r_ix, r_iaa, asNat0, asNat1, asNat2, asNatN, wr1, wr2, wr3, takeN, List.cons_append, List.nil_append, VE.store, over, oneCell_v, one_int, one_bool, one_str, one_ptr, one_sl, one_isl, one_nils, one_nilp, one_fn, one_ifc, one_nili, one_iptr, co_int, co_bool, co_str, co_agg, co_ptr, co_sl, co_isl, co_nils, co_nilp, co_fn, co_iptr, cellsO_v, r_len_v, cellsAt, VE.part, Heap.get_new, Heap.get_set, Heap.new_nx, Heap.new_lo, Heap.set_nx, Heap.set_lo, Option.map_some, Option.bind_some, blkX, gEval, cond_true, cond_false, decide_true, decide_false, Bool.not_true, Bool.not_false, Bool.and_true, Bool.true_and, Bool.and_self, Bool.or_false, Bool.false_or, Bool.or_self, Bool.and_false, Bool.false_and, r_build, r_bsl, fill, VE.unOp, r_bin, bi_lss, bi_leq, bi_gtr, bi_geq, bi_eql, bi_neq, bi_add, bi_sub, List.drop_zero, List.drop_succ_cons, resOf, resVs, resV, beq_dec, blt_dec, ble_dec, List.length_cons, List.length_nil, reduceCtorEq, or_true, true_or, false_or, or_false, eq_self, exists_eq_left', Option.some.injEq, c0, c3, c4, c6, hlt', ia1, encS, g1, g2, g3, hlk, h1, h2, h3, e, fz]

def inv6 (c : Sl Setting) (ex : Int) (lo : Nat) (m : Nat) (s : Slots) (h : Heap) : Prop :=
  ∃ k, k ≤ c.l.length ∧ m = c.l.length - k ∧ s.at 0 = c.v encS ∧ s.at 1 = .int .u64 ex ∧ (∃ v, s.at 7 = v ∧ Acc encC 47 h v ((c.l.take k).flatMap fun x => crt x ex)) ∧ s.at 8 = .int .i64 (k : Int) ∧ h.lo = lo ∧ h.lo ≤ h.nx
theorem crt_len (x : Setting) (ex : Int) : (crt x ex).length ≤ 1 + x.rev.l.length := by
  have := revs_len x.t x.rev.l [] ex
  simp [crt]
  omega
theorem flat_len_le {α β : Type} {f : α → List β} {n : Nat} : ∀ {l : List α}, (∀ x ∈ l, (f x).length ≤ n) → (l.flatMap f).length ≤ l.length * n
  | [], _ => by simp
  | x :: l, h => by
    have h1 := h x (by simp)
    have h2 := flat_len_le (l := l) (fun y hy => h y (by simp [hy]))
    rw [List.flatMap_cons, List.length_append, List.length_cons, Nat.add_mul]
    omega
open Classical in
theorem chk_ok {l : List Setting} (h : chk l = 0) : l.length ≤ 8 ∧ ∀ x ∈ l, Valid x := by
  unfold chk at h
  split at h
  · cases h
  · split at h
    · cases h
    · rename_i h1 h2
      exact ⟨by omega, by simpa using h2⟩
theorem commands6 (h6 : vp 6 = some v6) (h10 : vp 10 = some v10) (h11 : vp 11 = some v11) (h21 : vp 21 = some v21) (h22 : vp 22 = some v22) (h23 : vp 23 = some v23) (h31 : vp 31 = some v31) (c : Sl Setting) (ex : Int) (h : Heap) :
    ∃ r, callRes vp 6 [c.v encS, .int .u64 ex] h = some (r, h) ∧ ∃ o : Sl Command, r = .tup [o.v encC, .int .i64 (chk c.l)] ∧ o.l = if chk c.l = 0 then c.l.flatMap fun x => crt x ex else [] := by
  have m10 : modeOf vp 10 = some 1 := by simp [modeOf, h10, v10]
  have ck := fun h => check10 h10 h23 h31 c h
  refine res_pure_ex h6 rfl rfl (fun g hg => ?_)
  have hlo : g.lo = g.nx := by
    rcases hg with ⟨rfl, _⟩ | ⟨e1, e2, _⟩
    · rfl
    · omega
  unfold v6
  by_cases h0 : chk c.l = 0
  case neg =>
    simp only [↓w_seq, ↓w_reg, ↓w_block, ↓w_skip, ↓w_exit, ↓w_ret, ↓w_scope, ↓w_true, ↓w_false, ↓wo_nil, ↓g_t, ↓g_f, ↓p_call, ↓n_call, ↓p_callp, ↓p_callo, ↓p_callv, ↓p_mv, ↓p_pick, ↓p_alloc, ↓p_box, ↓p_build, ↓p_bsl, ↓p_ld, ↓p_st, ↓n_st, ↓p_nck, ↓p_bin, ↓p_eqb, ↓p_eqn, ↓p_eqa, ↓p_un, ↓p_cnv, ↓p_mkf, ↓p_mks, ↓p_slc, ↓p_slca, ↓p_fa, ↓p_fld, ↓p_ia, ↓p_iaa, ↓p_ix, ↓p_ixs, ↓p_ext, ↓p_len, ↓p_lens, ↓p_lenc, ↓p_app, ↓p_apps, ↓p_app0, ↓p_cpy, ↓n_cpy, ↓p_cpys, ↓n_cpys, ↓p_mini, ↓p_maxi, ↓p_mkif, ↓p_carry, ↓p_clr, ↓n_clr, ↓p_mkmap, ↓p_look, ↓p_mupd, ↓n_mupd, ↓p_mdel, ↓n_mdel, ↓p_lenm, ↓p_pur, ↓p_eff, ↓n_eff, ↓p_mnz, vOf_some, hOf_some, okR_some, true_and, and_true, chkOk, Slots.at_set, Nat.reduceEqDiff, Nat.add_assoc, Nat.add_left_cancel_iff, Nat.add_eq_left, Nat.left_eq_add, Nat.zero_add, Nat.add_zero, Nat.reduceAdd, Nat.reduceSub, Nat.reduceMul, Nat.reduceLT, Nat.reduceLeDiff, Int.reduceLT, Int.reduceLE, Int.reduceEq, Int.reduceAdd, Int.reduceNeg, if_false, if_true, reduceIte, ev_t, ev_k, evs_nil, evs_cons, evo_none, evo_some, evp_nil, evp_cons, argSlots_at, List.getElem?_cons_succ, List.getElem?_cons_zero, Option.getD_some, r_mv, r_pick, r_fa, r_ld, r_box, r_alloc, r_un, r_eqb, r_ext, r_mkf, r_cnv, r_st, r_nck, r_ix, r_iaa, asNat0, asNat1, asNat2, asNatN, wr1, wr2, wr3, takeN, List.cons_append, List.nil_append, VE.store, over, oneCell_v, one_int, one_bool, one_str, one_ptr, one_sl, one_isl, one_nils, one_nilp, one_fn, one_ifc, one_nili, one_iptr, co_int, co_bool, co_str, co_agg, co_ptr, co_sl, co_isl, co_nils, co_nilp, co_fn, co_iptr, cellsO_v, r_len_v, cellsAt, VE.part, Heap.get_new, Heap.get_set, Heap.new_nx, Heap.new_lo, Heap.set_nx, Heap.set_lo, Option.map_some, Option.bind_some, blkX, gEval, cond_true, cond_false, decide_true, decide_false, Bool.not_true, Bool.not_false, Bool.and_true, Bool.true_and, Bool.and_self, Bool.or_false, Bool.false_or, Bool.or_self, Bool.and_false, Bool.false_and, r_build, r_bsl, fill, VE.unOp, r_bin, bi_lss, bi_leq, bi_gtr, bi_geq, bi_eql, bi_neq, bi_add, bi_sub, List.drop_zero, List.drop_succ_cons, resOf, resVs, resV, beq_dec, blt_dec, ble_dec, List.length_cons, List.length_nil, reduceCtorEq, or_true, true_or, false_or, or_false, eq_self, exists_eq_left', Option.some.injEq, m10, ck, h0]
    exact ⟨_, rfl, .nil, rfl, rfl⟩
  obtain ⟨hl8, hv⟩ := chk_ok h0
  simp only [↓w_seq, ↓w_reg, ↓w_block, ↓w_skip, ↓w_exit, ↓w_ret, ↓w_scope, ↓w_true, ↓w_false, ↓wo_nil, ↓g_t, ↓g_f, ↓p_call, ↓n_call, ↓p_callp, ↓p_callo, ↓p_callv, ↓p_mv, ↓p_pick, ↓p_alloc, ↓p_box, ↓p_build, ↓p_bsl, ↓p_ld, ↓p_st, ↓n_st, ↓p_nck, ↓p_bin, ↓p_eqb, ↓p_eqn, ↓p_eqa, ↓p_un, ↓p_cnv, ↓p_mkf, ↓p_mks, ↓p_slc, ↓p_slca, ↓p_fa, ↓p_fld, ↓p_ia, ↓p_iaa, ↓p_ix, ↓p_ixs, ↓p_ext, ↓p_len, ↓p_lens, ↓p_lenc, ↓p_app, ↓p_apps, ↓p_app0, ↓p_cpy, ↓n_cpy, ↓p_cpys, ↓n_cpys, ↓p_mini, ↓p_maxi, ↓p_mkif, ↓p_carry, ↓p_clr, ↓n_clr, ↓p_mkmap, ↓p_look, ↓p_mupd, ↓n_mupd, ↓p_mdel, ↓n_mdel, ↓p_lenm, ↓p_pur, ↓p_eff, ↓n_eff, ↓p_mnz, vOf_some, hOf_some, okR_some, true_and, and_true, chkOk, Slots.at_set, Nat.reduceEqDiff, Nat.add_assoc, Nat.add_left_cancel_iff, Nat.add_eq_left, Nat.left_eq_add, Nat.zero_add, Nat.add_zero, Nat.reduceAdd, Nat.reduceSub, Nat.reduceMul, Nat.reduceLT, Nat.reduceLeDiff, Int.reduceLT, Int.reduceLE, Int.reduceEq, Int.reduceAdd, Int.reduceNeg, if_false, if_true, reduceIte, ev_t, ev_k, evs_nil, evs_cons, evo_none, evo_some, evp_nil, evp_cons, argSlots_at, List.getElem?_cons_succ, List.getElem?_cons_zero, Option.getD_some, r_mv, r_pick, r_fa, r_ld, r_box, r_alloc, r_un, r_eqb, r_ext, r_mkf, r_cnv, r_st, r_nck, r_ix, r_iaa, asNat0, asNat1, asNat2, asNatN, wr1, wr2, wr3, takeN, List.cons_append, List.nil_append, VE.store, over, oneCell_v, one_int, one_bool, one_str, one_ptr, one_sl, one_isl, one_nils, one_nilp, one_fn, one_ifc, one_nili, one_iptr, co_int, co_bool, co_str, co_agg, co_ptr, co_sl, co_isl, co_nils, co_nilp, co_fn, co_iptr, cellsO_v, r_len_v, cellsAt, VE.part, Heap.get_new, Heap.get_set, Heap.new_nx, Heap.new_lo, Heap.set_nx, Heap.set_lo, Option.map_some, Option.bind_some, blkX, gEval, cond_true, cond_false, decide_true, decide_false, Bool.not_true, Bool.not_false, Bool.and_true, Bool.true_and, Bool.and_self, Bool.or_false, Bool.false_or, Bool.or_self, Bool.and_false, Bool.false_and, r_build, r_bsl, fill, VE.unOp, r_bin, bi_lss, bi_leq, bi_gtr, bi_geq, bi_eql, bi_neq, bi_add, bi_sub, List.drop_zero, List.drop_succ_cons, resOf, resVs, resV, beq_dec, blt_dec, ble_dec, List.length_cons, List.length_nil, reduceCtorEq, or_true, true_or, false_or, or_false, eq_self, exists_eq_left', Option.some.injEq, m10, ck, h0]
  generalize hS : Tr.set _ 8 _ = S
  have b0 : Slots.at S 0 = c.v encS := by rw [← hS]; simp only [Slots.at_set, Nat.reduceEqDiff, if_false, if_true, reduceIte, argSlots_at, List.getElem?_cons_succ, List.getElem?_cons_zero, Option.getD_some]
  have b1 : Slots.at S 1 = .int .u64 ex := by rw [← hS]; simp only [Slots.at_set, Nat.reduceEqDiff, if_false, if_true, reduceIte, argSlots_at, List.getElem?_cons_succ, List.getElem?_cons_zero, Option.getD_some]
  have b7 : Slots.at S 7 = .nils := by rw [← hS]; simp only [Slots.at_set, Nat.reduceEqDiff, if_false, if_true, reduceIte, argSlots_at, List.getElem?_cons_succ, List.getElem?_cons_zero, Option.getD_some]
  have b8 : Slots.at S 8 = .int .i64 ((0 : Nat) : Int) := by rw [← hS]; simp only [Slots.at_set, Nat.reduceEqDiff, if_false, if_true, reduceIte, argSlots_at, List.getElem?_cons_succ, List.getElem?_cons_zero, Option.getD_some]; rfl
  clear hS
  refine loop_ind (fun m s h => inv6 c ex g.lo m s h) ?_ c.l.length ⟨0, by omega, by omega, b0, b1, ⟨_, b7, by simpa using Acc.nil⟩, b8, rfl, by omega⟩
  rintro m s h ⟨k, hk, hm, c0, c1, ⟨v, c7, ha⟩, c8, hl1, hl2⟩
  have hbound : ((c.l.take k).flatMap fun x => crt x ex).length ≤ 72 := by
    have := flat_len_le (f := fun x => crt x ex) (n := 9) (l := c.l.take k) (fun x hx => by
      have h1 := crt_len x ex
      have h2 := (hv x (List.mem_of_mem_take hx)).rl
      omega)
    rw [List.length_take] at this
    omega
  by_cases hlt : k < c.l.length
  case neg =>
    have hlt' : ¬ ((k : Int) < (c.l.length : Int)) := by omega
    have : k = c.l.length := by omega
    subst this
    rw [List.take_length] at ha hbound
    obtain ⟨o, o1, o2⟩ := ha.frz2 encC_len encC_scal (base := g.nx) (by omega) (by omega) (k := .i64) (e := 0)
    simp only [↓w_seq, ↓w_reg, ↓w_block, ↓w_skip, ↓w_exit, ↓w_ret, ↓w_scope, ↓w_true, ↓w_false, ↓wo_nil, ↓g_t, ↓g_f, ↓p_call, ↓n_call, ↓p_callp, ↓p_callo, ↓p_callv, ↓p_mv, ↓p_pick, ↓p_alloc, ↓p_box, ↓p_build, ↓p_bsl, ↓p_ld, ↓p_st, ↓n_st, ↓p_nck, ↓p_bin, ↓p_eqb, ↓p_eqn, ↓p_eqa, ↓p_un, ↓p_cnv, ↓p_mkf, ↓p_mks, ↓p_slc, ↓p_slca, ↓p_fa, ↓p_fld, ↓p_ia, ↓p_iaa, ↓p_ix, ↓p_ixs, ↓p_ext, ↓p_len, ↓p_lens, ↓p_lenc, ↓p_app, ↓p_apps, ↓p_app0, ↓p_cpy, ↓n_cpy, ↓p_cpys, ↓n_cpys, ↓p_mini, ↓p_maxi, ↓p_mkif, ↓p_carry, ↓p_clr, ↓n_clr, ↓p_mkmap, ↓p_look, ↓p_mupd, ↓n_mupd, ↓p_mdel, ↓n_mdel, ↓p_lenm, ↓p_pur, ↓p_eff, ↓n_eff, ↓p_mnz, vOf_some, hOf_some, okR_some, true_and, and_true, chkOk, Slots.at_set, Nat.reduceEqDiff, Nat.add_assoc, Nat.add_left_cancel_iff, Nat.add_eq_left, Nat.left_eq_add, Nat.zero_add, Nat.add_zero, Nat.reduceAdd, Nat.reduceSub, Nat.reduceMul, Nat.reduceLT, Nat.reduceLeDiff, Int.reduceLT, Int.reduceLE, Int.reduceEq, Int.reduceAdd, Int.reduceNeg, if_false, if_true, reduceIte, ev_t, ev_k, evs_nil, evs_cons, evo_none, evo_some, evp_nil, evp_cons, argSlots_at, List.getElem?_cons_succ, List.getElem?_cons_zero, Option.getD_some, r_mv, r_pick, r_fa, r_ld, r_box, r_alloc, r_un, r_eqb, r_ext, r_mkf, r_cnv, r_st, r_nck, r_ix, r_iaa, asNat0, asNat1, asNat2, asNatN, wr1, wr2, wr3, takeN, List.cons_append, List.nil_append, VE.store, over, oneCell_v, one_int, one_bool, one_str, one_ptr, one_sl, one_isl, one_nils, one_nilp, one_fn, one_ifc, one_nili, one_iptr, co_int, co_bool, co_str, co_agg, co_ptr, co_sl, co_isl, co_nils, co_nilp, co_fn, co_iptr, cellsO_v, r_len_v, cellsAt, VE.part, Heap.get_new, Heap.get_set, Heap.new_nx, Heap.new_lo, Heap.set_nx, Heap.set_lo, Option.map_some, Option.bind_some, blkX, gEval, cond_true, cond_false, decide_true, decide_false, Bool.not_true, Bool.not_false, Bool.and_true, Bool.true_and, Bool.and_self, Bool.or_false, Bool.false_or, Bool.or_self, Bool.and_false, Bool.false_and, r_build, r_bsl, fill, VE.unOp, r_bin, bi_lss, bi_leq, bi_gtr, bi_geq, bi_eql, bi_neq, bi_add, bi_sub, List.drop_zero, List.drop_succ_cons, resOf, resVs, resV, beq_dec, blt_dec, ble_dec, List.length_cons, List.length_nil, reduceCtorEq, or_true, true_or, false_or, or_false, eq_self, exists_eq_left', Option.some.injEq, c0, c1, c7, c8, hlt']
    exact ⟨_, o2, o, rfl, o1⟩
  have hlt' : (k : Int) < (c.l.length : Int) := by omega
  have ws := wr_succ (k := k) (by omega)
  have ia1 : ∀ h, r_ia 13 (c.v encS) (.int .i64 (k : Int)) h = some (.iptr (encS c.l[k] ++ (c.l.drop (k + 1)).flatMap encS), h) := fun h => r_ia_v encS_len (by decide) hlt rfl
  have hvk := hv c.l[k] (List.getElem_mem hlt)
  have hrl := hvk.rl
  obtain ⟨v1, h1, e1, e2, e3, e4⟩ := created11 h11 h22 h21 c.l[k] ex _ v h ha hl2 (by omega)
  simp only [↓w_seq, ↓w_reg, ↓w_block, ↓w_skip, ↓w_exit, ↓w_ret, ↓w_scope, ↓w_true, ↓w_false, ↓wo_nil, ↓g_t, ↓g_f, ↓p_call, ↓n_call, ↓p_callp, ↓p_callo, ↓p_callv, ↓p_mv, ↓p_pick, ↓p_alloc, ↓p_box, ↓p_build, ↓p_bsl, ↓p_ld, ↓p_st, ↓n_st, ↓p_nck, ↓p_bin, ↓p_eqb, ↓p_eqn, ↓p_eqa, ↓p_un, ↓p_cnv, ↓p_mkf, ↓p_mks, ↓p_slc, ↓p_slca, ↓p_fa, ↓p_fld, ↓p_ia, ↓p_iaa, ↓p_ix, ↓p_ixs, ↓p_ext, ↓p_len, ↓p_lens, ↓p_lenc, ↓p_app, ↓p_apps, ↓p_app0, ↓p_cpy, ↓n_cpy, ↓p_cpys, ↓n_cpys, ↓p_mini, ↓p_maxi, ↓p_mkif, ↓p_carry, ↓p_clr, ↓n_clr, ↓p_mkmap, ↓p_look, ↓p_mupd, ↓n_mupd, ↓p_mdel, ↓n_mdel, ↓p_lenm, ↓p_pur, ↓p_eff, ↓n_eff, ↓p_mnz, vOf_some, hOf_some, okR_some, true_and, and_true, chkOk, Slots.at_set, Nat.reduceEqDiff, Nat.add_assoc, Nat.add_left_cancel_iff, Nat.add_eq_left, Nat.left_eq_add, Nat.zero_add, Nat.add_zero, Nat.reduceAdd, Nat.reduceSub, Nat.reduceMul, Nat.reduceLT, Nat.reduceLeDiff, Int.reduceLT, Int.reduceLE, Int.reduceEq, Int.reduceAdd, Int.reduceNeg, if_false, if_true, reduceIte, ev_t, ev_k, evs_nil, evs_cons, evo_none, evo_some, evp_nil, evp_cons, argSlots_at, List.getElem?_cons_succ, List.getElem?_cons_zero, Option.getD_some, r_mv, r_pick, r_fa, r_ld, r_box, r_alloc, r_un, r_eqb, r_ext, r_mkf, r_cnv, r_st, r_nck, r_ix, r_iaa, asNat0, asNat1, asNat2, asNatN, wr1, wr2, wr3, takeN, List.cons_append, List.nil_append, VE.store, over, oneCell_v, one_int, one_bool, one_str, one_ptr, one_sl, one_isl, one_nils, one_nilp, one_fn, one_ifc, one_nili, one_iptr, co_int, co_bool, co_str, co_agg, co_ptr, co_sl, co_isl, co_nils, co_nilp, co_fn, co_iptr, cellsO_v, r_len_v, cellsAt, VE.part, Heap.get_new, Heap.get_set, Heap.new_nx, Heap.new_lo, Heap.set_nx, Heap.set_lo, Option.map_some, Option.bind_some, blkX, gEval, cond_true, cond_false, decide_true, decide_false, Bool.not_true, Bool.not_false, Bool.and_true, Bool.true_and, Bool.and_self, Bool.or_false, Bool.false_or, Bool.or_self, Bool.and_false, Bool.false_and, r_build, r_bsl, fill, VE.unOp, r_bin, bi_lss, bi_leq, bi_gtr, bi_geq, bi_eql, bi_neq, bi_add, bi_sub, List.drop_zero, List.drop_succ_cons, resOf, resVs, resV, beq_dec, blt_dec, ble_dec, List.length_cons, List.length_nil, reduceCtorEq, or_true, true_or, false_or, or_false, eq_self, exists_eq_left', Option.some.injEq, c0, c1, c7, c8, hlt', ia1, take13, e1, ws]
  refine ⟨_, by omega, k + 1, by omega, rfl, by simp only [Slots.at_set, Nat.reduceEqDiff, if_false, if_true, reduceIte, argSlots_at, List.getElem?_cons_succ, List.getElem?_cons_zero, Option.getD_some, c0], by simp only [Slots.at_set, Nat.reduceEqDiff, if_false, if_true, reduceIte, argSlots_at, List.getElem?_cons_succ, List.getElem?_cons_zero, Option.getD_some, c1], ⟨v1, by simp only [Slots.at_set, Nat.reduceEqDiff, if_false, if_true, reduceIte, argSlots_at, List.getElem?_cons_succ, List.getElem?_cons_zero, Option.getD_some], ?_⟩, by simp only [Slots.at_set, Nat.reduceEqDiff, if_false, if_true, reduceIte, argSlots_at, List.getElem?_cons_succ, List.getElem?_cons_zero, Option.getD_some], by rw [e2.lo, hl1], e3⟩
  rw [List.take_succ_eq_append_getElem hlt, List.flatMap_append, List.flatMap_cons, List.flatMap_nil, List.append_nil]
  exact e4
end
end Go.VE.CO
