/- What the functions of the law ConfigOrders compute, on typed arguments (part 6). -/
import Derived.Test.YtlomleifnbpghaaConfigOrdersA5
import Derived.Test.YtlomleifnbpghaaVeLogic
set_option linter.all false
namespace Go.VE.CO
open Go Go.VE
set_option maxRecDepth 100000
set_option linter.all false
structure Command where
  op : Int
  t : Int
  user : Int
  l0 : Limit
  l1 : Limit
  l2 : Limit
  u : Int
  e : Int
  x : Int
def zL : Limit := ⟨0, 0, 0⟩
def encC (c : Command) : List V := [.int .u8 c.op, .int .u32 c.t, .int .u32 c.user, .int .i64 c.l0.b, .int .i64 c.l0.r, .int .i64 c.l0.p, .int .i64 c.l1.b, .int .i64 c.l1.r, .int .i64 c.l1.p, .int .i64 c.l2.b, .int .i64 c.l2.r, .int .i64 c.l2.p, .int .u8 c.u, .int .u8 c.e, .int .u64 c.x,
  .int .u8 0, .int .u8 0, .int .u8 0, .int .u8 0, .int .u8 0, .int .u8 0, .int .u8 0, .int .u8 0, .int .u8 0, .int .u8 0, .int .u8 0, .int .u8 0, .int .u8 0, .int .u8 0, .int .u8 0, .int .u8 0, .int .u8 0, .int .u8 0, .int .u8 0, .int .u8 0, .int .u8 0, .int .u8 0, .int .u8 0, .int .u8 0, .int .u8 0, .int .u8 0, .int .u8 0, .int .u8 0, .int .u8 0, .int .u8 0, .int .u8 0, .int .u8 0]
theorem encC_len (c : Command) : (encC c).length = 47 := rfl
theorem encC_one (c : Command) : (encC c).all oneCell = true := rfl
theorem encC_scal (c : Command) : (encC c).all scal = true := rfl

structure Ext (h h' : Heap) : Prop where
  lo : h'.lo = h.lo
  nx : h.nx ≤ h'.nx
  get : ∀ b, b < h.nx → (∀ cs, h.get b ≠ .cells cs .op) → h'.get b = h.get b
theorem Ext.refl (h : Heap) : Ext h h := ⟨rfl, Nat.le_refl _, fun _ _ _ => rfl⟩
theorem Ext.trans {a b c : Heap} (x : Ext a b) (y : Ext b c) : Ext a c :=
  ⟨y.lo.trans x.lo, Nat.le_trans x.nx y.nx, fun i hi hne => by
    have e := x.get i hi hne
    rw [y.get i (Nat.lt_of_lt_of_le hi x.nx) (by rw [e]; exact hne), e]⟩
theorem Ext.new (h : Heap) (x : Blk) : Ext h (h.new x) := ⟨rfl, by simp [Heap.new], fun b hb _ => by rw [Heap.get_new, if_neg (by omega)]⟩
theorem Acc.new {h : Heap} {v : V} {l : List Command} (a : Acc encC 47 h v l) (x : Blk) : Acc encC 47 (h.new x) v l := a.keep rfl (by simp [Heap.new]) (fun b _ hb _ => by rw [Heap.get_new, if_neg (by omega)])
theorem push {h : Heap} {v : V} {l : List Command} (a : Acc encC 47 h v l) (hlo : h.lo ≤ h.nx) (c : Command) (hb : (l.length + 1) * 136 ≤ 140737488355328) :
    ∃ v' h', r_app 47 136 v (.sl h.nx 0 1 1 47) (h.new (.cells (encC c) .cl)) = some (v', h') ∧ Ext h h' ∧ Acc encC 47 h' v' (l ++ [c]) := by
  obtain ⟨v', h', e1, e2, e3, e4, e5⟩ := (Acc.new a (.cells (encC c) .cl)).app encC_len encC_one (bx := h.nx) (y := c) (tx := .cl) (by rw [Heap.get_new, if_pos rfl]) hb
  refine ⟨v', h', e1, ⟨e2, by rw [e3]; simp [Heap.new]; omega, fun b hb hne => ?_⟩, e4 (by show h.lo ≤ h.nx + 1; omega)⟩
  have e6 : (h.new (.cells (encC c) .cl)).get b = h.get b := by rw [Heap.get_new, if_neg (by omega)]
  rw [e5 b (by show b < h.nx + 1; omega) (by rw [e6]; exact hne), e6]

/-- a revocation -/
def revC (t user ex : Int) : Command := ⟨5, t, user, zL, zL, zL, 0, 0, ex⟩
def revsL (t : Int) (users but : List Int) (ex : Int) : List Command := (users.filter fun u => !decide (u ∈ but)).map fun u => revC t u ex
theorem revs_snoc (t : Int) (users but : List Int) (ex : Int) (k : Nat) (hk : k < users.length) : revsL t (users.take (k + 1)) but ex = revsL t (users.take k) but ex ++ (if users[k] ∈ but then [] else [revC t users[k] ex]) := by
  rw [List.take_succ_eq_append_getElem hk]
  unfold revsL
  rw [List.filter_append, List.map_append]
  congr 1
  by_cases h : users[k] ∈ but <;> simp [h]
theorem revs_len (t : Int) (users but : List Int) (ex : Int) : (revsL t users but ex).length ≤ users.length := by
  unfold revsL
  rw [List.length_map]
  exact List.length_filter_le _ _
section
variable {vp : Nat → Option VFn}
def inv22 (t : Int) (users but : Sl Int) (ex : Int) (l : List Command) (H : Heap) (m : Nat) (s : Slots) (h : Heap) : Prop :=
  ∃ k, k ≤ users.l.length ∧ m = users.l.length - k ∧ (∃ v, s.at 0 = v ∧ Acc encC 47 h v (l ++ revsL t (users.l.take k) but.l ex)) ∧ s.at 1 = .int .u32 t ∧ s.at 2 = users.v e32 ∧ s.at 3 = but.v e32 ∧ s.at 4 = .int .u64 ex ∧ s.at 11 = .int .i64 (k : Int) ∧ Ext H h ∧ h.lo ≤ h.nx
theorem revokes22 (h22 : vp 22 = some v22) (h21 : vp 21 = some v21) (t : Int) (users but : Sl Int) (ex : Int) (l : List Command) (v : V) (h : Heap) (a : Acc encC 47 h v l) (hlo : h.lo ≤ h.nx) (hb : (l.length + users.l.length) * 136 ≤ 140737488355328) (hn : but.l.length < 4611686018427387904) :
    ∃ v' h', callRes vp 22 [v, .int .u32 t, users.v e32, but.v e32, .int .u64 ex] h = some (v', h') ∧ Ext h h' ∧ h'.lo ≤ h'.nx ∧ Acc encC 47 h' v' (l ++ revsL t users.l but.l ex) := by
  have m21 : modeOf vp 21 = some 1 := by simp [modeOf, h21, v21]
  have isin : ∀ (u : Int) (h : Heap), callRes vp 21 [but.v e32, .int .u32 u] h = some (.bool (decide (u ∈ but.l)), h) := fun u h => in21 h21 but u h hn
  refine res_raw (P := fun v' h' => Ext h h' ∧ h'.lo ≤ h'.nx ∧ Acc encC 47 h' v' (l ++ revsL t users.l but.l ex)) h22 rfl rfl ?_
  unfold v22
  simp only [↓w_seq, ↓w_reg, ↓w_block, ↓w_skip, ↓w_exit, ↓w_ret, ↓w_scope, ↓w_true, ↓w_false, ↓wo_nil, ↓g_t, ↓g_f, ↓p_call, ↓n_call, ↓p_callp, ↓p_callo, ↓p_callv, ↓p_mv, ↓p_pick, ↓p_alloc, ↓p_box, ↓p_build, ↓p_bsl, ↓p_ld, ↓p_st, ↓n_st, ↓p_nck, ↓p_bin, ↓p_eqb, ↓p_eqn, ↓p_eqa, ↓p_un, ↓p_cnv, ↓p_mkf, ↓p_mks, ↓p_slc, ↓p_slca, ↓p_fa, ↓p_fld, ↓p_ia, ↓p_iaa, ↓p_ix, ↓p_ixs, ↓p_ext, ↓p_len, ↓p_lens, ↓p_lenc, ↓p_app, ↓p_apps, ↓p_app0, ↓p_cpy, ↓n_cpy, ↓p_cpys, ↓n_cpys, ↓p_mini, ↓p_maxi, ↓p_mkif, ↓p_carry, ↓p_clr, ↓n_clr, ↓p_mkmap, ↓p_look, ↓p_mupd, ↓n_mupd, ↓p_mdel, ↓n_mdel, ↓p_lenm, ↓p_pur, ↓p_eff, ↓n_eff, ↓p_mnz, vOf_some, hOf_some, okR_some, true_and, and_true, chkOk, Slots.at_set, Nat.reduceEqDiff, Nat.add_assoc, Nat.add_left_cancel_iff, Nat.add_eq_left, Nat.left_eq_add, Nat.zero_add, Nat.add_zero, Nat.reduceAdd, Nat.reduceSub, Nat.reduceMul, Nat.reduceLT, Nat.reduceLeDiff, Int.reduceLT, Int.reduceLE, Int.reduceEq, Int.reduceAdd, Int.reduceNeg, if_false, if_true, reduceIte, ev_t, ev_k, evs_nil, evs_cons, evo_none, evo_some, evp_nil, evp_cons, argSlots_at, List.getElem?_cons_succ, List.getElem?_cons_zero, Option.getD_some, r_mv, r_pick, r_fa, r_ld, r_box, r_alloc, r_un, r_eqb, r_ext, r_mkf, r_cnv, r_st, r_nck, r_ix, r_iaa, asNat0, asNat1, asNat2, asNatN, wr1, wr2, wr3, takeN, List.cons_append, List.nil_append, VE.store, over, oneCell_v, one_int, one_bool, one_str, one_ptr, one_sl, one_isl, one_nils, one_nilp, one_fn, one_ifc, one_nili, one_iptr, co_int, co_bool, co_str, co_agg, co_ptr, co_sl, co_isl, co_nils, co_nilp, co_fn, co_iptr, cellsO_v, r_len_v, cellsAt, VE.part, Heap.get_new, Heap.get_set, Heap.new_nx, Heap.new_lo, Heap.set_nx, Heap.set_lo, Option.map_some, Option.bind_some, blkX, gEval, cond_true, cond_false, decide_true, decide_false, Bool.not_true, Bool.not_false, Bool.and_true, Bool.true_and, Bool.and_self, Bool.or_false, Bool.false_or, Bool.or_self, Bool.and_false, Bool.false_and, r_build, r_bsl, fill, VE.unOp, r_bin, bi_lss, bi_leq, bi_gtr, bi_geq, bi_eql, bi_neq, bi_add, bi_sub, List.drop_zero, List.drop_succ_cons, resOf, resVs, resV, beq_dec, blt_dec, ble_dec, List.length_cons, List.length_nil, reduceCtorEq, or_true, true_or, false_or, or_false, eq_self, exists_eq_left', Option.some.injEq]
  generalize hS : Tr.set _ 11 _ = S
  have b0 : Slots.at S 0 = v := by rw [← hS]; simp only [Slots.at_set, Nat.reduceEqDiff, if_false, if_true, reduceIte, argSlots_at, List.getElem?_cons_succ, List.getElem?_cons_zero, Option.getD_some]
  have b1 : Slots.at S 1 = .int .u32 t := by rw [← hS]; simp only [Slots.at_set, Nat.reduceEqDiff, if_false, if_true, reduceIte, argSlots_at, List.getElem?_cons_succ, List.getElem?_cons_zero, Option.getD_some]
  have b2 : Slots.at S 2 = users.v e32 := by rw [← hS]; simp only [Slots.at_set, Nat.reduceEqDiff, if_false, if_true, reduceIte, argSlots_at, List.getElem?_cons_succ, List.getElem?_cons_zero, Option.getD_some]
  have b3 : Slots.at S 3 = but.v e32 := by rw [← hS]; simp only [Slots.at_set, Nat.reduceEqDiff, if_false, if_true, reduceIte, argSlots_at, List.getElem?_cons_succ, List.getElem?_cons_zero, Option.getD_some]
  have b4 : Slots.at S 4 = .int .u64 ex := by rw [← hS]; simp only [Slots.at_set, Nat.reduceEqDiff, if_false, if_true, reduceIte, argSlots_at, List.getElem?_cons_succ, List.getElem?_cons_zero, Option.getD_some]
  have b11 : Slots.at S 11 = .int .i64 ((0 : Nat) : Int) := by rw [← hS]; simp only [Slots.at_set, Nat.reduceEqDiff, if_false, if_true, reduceIte, argSlots_at, List.getElem?_cons_succ, List.getElem?_cons_zero, Option.getD_some]; rfl
  clear hS
  refine loop_ind (fun m s g => inv22 t users but ex l h m s g) ?_ users.l.length ⟨0, by omega, by omega, ⟨v, b0, by simpa [revsL] using a⟩, b1, b2, b3, b4, b11, Ext.refl _, hlo⟩
  rintro m s g ⟨k, hk, hm, ⟨w, c0, ha⟩, c1, c2, c3, c4, c11, hext, hgl⟩
  by_cases hlt : k < users.l.length
  case neg =>
    have hlt' : ¬ ((k : Int) < (users.l.length : Int)) := by omega
    have : k = users.l.length := by omega
    subst this
    rw [List.take_length] at ha
    simp only [↓w_seq, ↓w_reg, ↓w_block, ↓w_skip, ↓w_exit, ↓w_ret, ↓w_scope, ↓w_true, ↓w_false, ↓wo_nil, ↓g_t, ↓g_f, ↓p_call, ↓n_call, ↓p_callp, ↓p_callo, ↓p_callv, ↓p_mv, ↓p_pick, ↓p_alloc, ↓p_box, ↓p_build, ↓p_bsl, ↓p_ld, ↓p_st, ↓n_st, ↓p_nck, ↓p_bin, ↓p_eqb, ↓p_eqn, ↓p_eqa, ↓p_un, ↓p_cnv, ↓p_mkf, ↓p_mks, ↓p_slc, ↓p_slca, ↓p_fa, ↓p_fld, ↓p_ia, ↓p_iaa, ↓p_ix, ↓p_ixs, ↓p_ext, ↓p_len, ↓p_lens, ↓p_lenc, ↓p_app, ↓p_apps, ↓p_app0, ↓p_cpy, ↓n_cpy, ↓p_cpys, ↓n_cpys, ↓p_mini, ↓p_maxi, ↓p_mkif, ↓p_carry, ↓p_clr, ↓n_clr, ↓p_mkmap, ↓p_look, ↓p_mupd, ↓n_mupd, ↓p_mdel, ↓n_mdel, ↓p_lenm, ↓p_pur, ↓p_eff, ↓n_eff, ↓p_mnz, vOf_some, hOf_some, okR_some, true_and, and_true, chkOk, Slots.at_set, Nat.reduceEqDiff, Nat.add_assoc, Nat.add_left_cancel_iff, Nat.add_eq_left, Nat.left_eq_add, Nat.zero_add, Nat.add_zero, Nat.reduceAdd, Nat.reduceSub, Nat.reduceMul, Nat.reduceLT, Nat.reduceLeDiff, Int.reduceLT, Int.reduceLE, Int.reduceEq, Int.reduceAdd, Int.reduceNeg, if_false, if_true, reduceIte, ev_t, ev_k, evs_nil, evs_cons, evo_none, evo_some, evp_nil, evp_cons, argSlots_at, List.getElem?_cons_succ, List.getElem?_cons_zero, Option.getD_some, r_mv, r_pick, r_fa, r_ld, r_box, r_alloc, r_un, r_eqb, r_ext, r_mkf, r_cnv, r_st, r_nck, r_ix, r_iaa, asNat0, asNat1, asNat2, asNatN, wr1, wr2, wr3, takeN, List.cons_append, List.nil_append, VE.store, over, oneCell_v, one_int, one_bool, one_str, one_ptr, one_sl, one_isl, one_nils, one_nilp, one_fn, one_ifc, one_nili, one_iptr, co_int, co_bool, co_str, co_agg, co_ptr, co_sl, co_isl, co_nils, co_nilp, co_fn, co_iptr, cellsO_v, r_len_v, cellsAt, VE.part, Heap.get_new, Heap.get_set, Heap.new_nx, Heap.new_lo, Heap.set_nx, Heap.set_lo, Option.map_some, Option.bind_some, blkX, gEval, cond_true, cond_false, decide_true, decide_false, Bool.not_true, Bool.not_false, Bool.and_true, Bool.true_and, Bool.and_self, Bool.or_false, Bool.false_or, Bool.or_self, Bool.and_false, Bool.false_and, r_build, r_bsl, fill, VE.unOp, r_bin, bi_lss, bi_leq, bi_gtr, bi_geq, bi_eql, bi_neq, bi_add, bi_sub, List.drop_zero, List.drop_succ_cons, resOf, resVs, resV, beq_dec, blt_dec, ble_dec, List.length_cons, List.length_nil, reduceCtorEq, or_true, true_or, false_or, or_false, eq_self, exists_eq_left', Option.some.injEq, c0, c1, c2, c11, hlt']
    exact ⟨hext, hgl, ha⟩
  have hlt' : (k : Int) < (users.l.length : Int) := by omega
  have ws := wr_succ (k := k) (by omega)
  have ia1 : ∀ h, r_ia 1 (users.v e32) (.int .i64 (k : Int)) h = some (.iptr (e32 users.l[k] ++ (users.l.drop (k + 1)).flatMap e32), h) := fun h => r_ia_v e32_len (by decide) hlt rfl
  by_cases hin : users.l[k] ∈ but.l
  · simp only [↓w_seq, ↓w_reg, ↓w_block, ↓w_skip, ↓w_exit, ↓w_ret, ↓w_scope, ↓w_true, ↓w_false, ↓wo_nil, ↓g_t, ↓g_f, ↓p_call, ↓n_call, ↓p_callp, ↓p_callo, ↓p_callv, ↓p_mv, ↓p_pick, ↓p_alloc, ↓p_box, ↓p_build, ↓p_bsl, ↓p_ld, ↓p_st, ↓n_st, ↓p_nck, ↓p_bin, ↓p_eqb, ↓p_eqn, ↓p_eqa, ↓p_un, ↓p_cnv, ↓p_mkf, ↓p_mks, ↓p_slc, ↓p_slca, ↓p_fa, ↓p_fld, ↓p_ia, ↓p_iaa, ↓p_ix, ↓p_ixs, ↓p_ext, ↓p_len, ↓p_lens, ↓p_lenc, ↓p_app, ↓p_apps, ↓p_app0, ↓p_cpy, ↓n_cpy, ↓p_cpys, ↓n_cpys, ↓p_mini, ↓p_maxi, ↓p_mkif, ↓p_carry, ↓p_clr, ↓n_clr, ↓p_mkmap, ↓p_look, ↓p_mupd, ↓n_mupd, ↓p_mdel, ↓n_mdel, ↓p_lenm, ↓p_pur, ↓p_eff, ↓n_eff, ↓p_mnz, vOf_some, hOf_some, okR_some, true_and, and_true, chkOk, Slots.at_set, Nat.reduceEqDiff, Nat.add_assoc, Nat.add_left_cancel_iff, Nat.add_eq_left, Nat.left_eq_add, Nat.zero_add, Nat.add_zero, Nat.reduceAdd, Nat.reduceSub, Nat.reduceMul, Nat.reduceLT, Nat.reduceLeDiff, Int.reduceLT, Int.reduceLE, Int.reduceEq, Int.reduceAdd, Int.reduceNeg, if_false, if_true, reduceIte, ev_t, ev_k, evs_nil, evs_cons, evo_none, evo_some, evp_nil, evp_cons, argSlots_at, List.getElem?_cons_succ, List.getElem?_cons_zero, Option.getD_some, r_mv, r_pick, r_fa, r_ld, r_box, r_alloc, r_un, r_eqb, r_ext, r_mkf, r_cnv, r_st, r_nck, r_ix, r_iaa, asNat0, asNat1, asNat2, asNatN, wr1, wr2, wr3, takeN, List.cons_append, List.nil_append, VE.store, over, oneCell_v, one_int, one_bool, one_str, one_ptr, one_sl, one_isl, one_nils, one_nilp, one_fn, one_ifc, one_nili, one_iptr, co_int, co_bool, co_str, co_agg, co_ptr, co_sl, co_isl, co_nils, co_nilp, co_fn, co_iptr, cellsO_v, r_len_v, cellsAt, VE.part, Heap.get_new, Heap.get_set, Heap.new_nx, Heap.new_lo, Heap.set_nx, Heap.set_lo, Option.map_some, Option.bind_some, blkX, gEval, cond_true, cond_false, decide_true, decide_false, Bool.not_true, Bool.not_false, Bool.and_true, Bool.true_and, Bool.and_self, Bool.or_false, Bool.false_or, Bool.or_self, Bool.and_false, Bool.false_and, r_build, r_bsl, fill, VE.unOp, r_bin, bi_lss, bi_leq, bi_gtr, bi_geq, bi_eql, bi_neq, bi_add, bi_sub, List.drop_zero, List.drop_succ_cons, resOf, resVs, resV, beq_dec, blt_dec, ble_dec, List.length_cons, List.length_nil, reduceCtorEq, or_true, true_or, false_or, or_false, eq_self, exists_eq_left', Option.some.injEq, c0, c1, c2, c3, c11, hlt', ia1, e32, m21, isin, hin, ws]
    refine ⟨_, by omega, k + 1, by omega, rfl, ⟨w, by simp only [Slots.at_set, Nat.reduceEqDiff, if_false, if_true, reduceIte, argSlots_at, List.getElem?_cons_succ, List.getElem?_cons_zero, Option.getD_some, c0], by rw [revs_snoc _ _ _ _ _ hlt, if_pos hin, List.append_nil]; exact ha⟩, by simp only [Slots.at_set, Nat.reduceEqDiff, if_false, if_true, reduceIte, argSlots_at, List.getElem?_cons_succ, List.getElem?_cons_zero, Option.getD_some, c1], by simp only [Slots.at_set, Nat.reduceEqDiff, if_false, if_true, reduceIte, argSlots_at, List.getElem?_cons_succ, List.getElem?_cons_zero, Option.getD_some, c2], by simp only [Slots.at_set, Nat.reduceEqDiff, if_false, if_true, reduceIte, argSlots_at, List.getElem?_cons_succ, List.getElem?_cons_zero, Option.getD_some, c3], by simp only [Slots.at_set, Nat.reduceEqDiff, if_false, if_true, reduceIte, argSlots_at, List.getElem?_cons_succ, List.getElem?_cons_zero, Option.getD_some, c4], by simp only [Slots.at_set, Nat.reduceEqDiff, if_false, if_true, reduceIte, argSlots_at, List.getElem?_cons_succ, List.getElem?_cons_zero, Option.getD_some], hext, hgl⟩
  · have hl : (l ++ revsL t (users.l.take k) but.l ex).length ≤ l.length + k := by
      rw [List.length_append]
      have := revs_len t (users.l.take k) but.l ex
      rw [List.length_take] at this
      omega
    obtain ⟨v', h', e1, e2, e3⟩ := push ha hgl (revC t users.l[k] ex) (by omega)
    have hgl' : h'.lo ≤ h'.nx := by have := e2.lo; have := e2.nx; omega
    simp only [encC, revC, zL] at e1
    simp only [↓w_seq, ↓w_reg, ↓w_block, ↓w_skip, ↓w_exit, ↓w_ret, ↓w_scope, ↓w_true, ↓w_false, ↓wo_nil, ↓g_t, ↓g_f, ↓p_call, ↓n_call, ↓p_callp, ↓p_callo, ↓p_callv, ↓p_mv, ↓p_pick, ↓p_alloc, ↓p_box, ↓p_build, ↓p_bsl, ↓p_ld, ↓p_st, ↓n_st, ↓p_nck, ↓p_bin, ↓p_eqb, ↓p_eqn, ↓p_eqa, ↓p_un, ↓p_cnv, ↓p_mkf, ↓p_mks, ↓p_slc, ↓p_slca, ↓p_fa, ↓p_fld, ↓p_ia, ↓p_iaa, ↓p_ix, ↓p_ixs, ↓p_ext, ↓p_len, ↓p_lens, ↓p_lenc, ↓p_app, ↓p_apps, ↓p_app0, ↓p_cpy, ↓n_cpy, ↓p_cpys, ↓n_cpys, ↓p_mini, ↓p_maxi, ↓p_mkif, ↓p_carry, ↓p_clr, ↓n_clr, ↓p_mkmap, ↓p_look, ↓p_mupd, ↓n_mupd, ↓p_mdel, ↓n_mdel, ↓p_lenm, ↓p_pur, ↓p_eff, ↓n_eff, ↓p_mnz, vOf_some, hOf_some, okR_some, true_and, and_true, chkOk, Slots.at_set, Nat.reduceEqDiff, Nat.add_assoc, Nat.add_left_cancel_iff, Nat.add_eq_left, Nat.left_eq_add, Nat.zero_add, Nat.add_zero, Nat.reduceAdd, Nat.reduceSub, Nat.reduceMul, Nat.reduceLT, Nat.reduceLeDiff, Int.reduceLT, Int.reduceLE, Int.reduceEq, Int.reduceAdd, Int.reduceNeg, if_false, if_true, reduceIte, ev_t, ev_k, evs_nil, evs_cons, evo_none, evo_some, evp_nil, evp_cons, argSlots_at, List.getElem?_cons_succ, List.getElem?_cons_zero, Option.getD_some, r_mv, r_pick, r_fa, r_ld, r_box, r_alloc, r_un, r_eqb, r_ext, r_mkf, r_cnv, r_st, r_nck, r_ix, r_iaa, asNat0, asNat1, asNat2, asNatN, wr1, wr2, wr3, takeN, List.cons_append, List.nil_append, VE.store, over, oneCell_v, one_int, one_bool, one_str, one_ptr, one_sl, one_isl, one_nils, one_nilp, one_fn, one_ifc, one_nili, one_iptr, co_int, co_bool, co_str, co_agg, co_ptr, co_sl, co_isl, co_nils, co_nilp, co_fn, co_iptr, cellsO_v, r_len_v, cellsAt, VE.part, Heap.get_new, Heap.get_set, Heap.new_nx, Heap.new_lo, Heap.set_nx, Heap.set_lo, Option.map_some, Option.bind_some, blkX, gEval, cond_true, cond_false, decide_true, decide_false, Bool.not_true, Bool.not_false, Bool.and_true, Bool.true_and, Bool.and_self, Bool.or_false, Bool.false_or, Bool.or_self, Bool.and_false, Bool.false_and, r_build, r_bsl, fill, VE.unOp, r_bin, bi_lss, bi_leq, bi_gtr, bi_geq, bi_eql, bi_neq, bi_add, bi_sub, List.drop_zero, List.drop_succ_cons, resOf, resVs, resV, beq_dec, blt_dec, ble_dec, List.length_cons, List.length_nil, reduceCtorEq, or_true, true_or, false_or, or_false, eq_self, exists_eq_left', Option.some.injEq, c0, c1, c2, c3, c4, c11, hlt', ia1, e32, m21, isin, hin, ws, r_build, r_bsl, fill, e1]
    trace_state
    refine ⟨_, by omega, k + 1, by omega, rfl, ⟨v', by simp only [Slots.at_set, Nat.reduceEqDiff, if_false, if_true, reduceIte, argSlots_at, List.getElem?_cons_succ, List.getElem?_cons_zero, Option.getD_some], by rw [revs_snoc _ _ _ _ _ hlt, if_neg hin, ← List.append_assoc]; exact e3⟩, by simp only [Slots.at_set, Nat.reduceEqDiff, if_false, if_true, reduceIte, argSlots_at, List.getElem?_cons_succ, List.getElem?_cons_zero, Option.getD_some, c1], by simp only [Slots.at_set, Nat.reduceEqDiff, if_false, if_true, reduceIte, argSlots_at, List.getElem?_cons_succ, List.getElem?_cons_zero, Option.getD_some, c2], by simp only [Slots.at_set, Nat.reduceEqDiff, if_false, if_true, reduceIte, argSlots_at, List.getElem?_cons_succ, List.getElem?_cons_zero, Option.getD_some, c3], by simp only [Slots.at_set, Nat.reduceEqDiff, if_false, if_true, reduceIte, argSlots_at, List.getElem?_cons_succ, List.getElem?_cons_zero, Option.getD_some, c4], by simp only [Slots.at_set, Nat.reduceEqDiff, if_false, if_true, reduceIte, argSlots_at, List.getElem?_cons_succ, List.getElem?_cons_zero, Option.getD_some], hext.trans e2, hgl'⟩
end
end Go.VE.CO
