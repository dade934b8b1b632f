/- What the functions of the law ConfigOrders compute, on typed arguments (part 7). -/
import Derived.Test.YtlomleifnbpghaaConfigOrdersA6
set_option linter.all false
namespace Go.VE.CO
open Go Go.VE
set_option maxRecDepth 100000
set_option linter.all false
theorem slnil : (Sl.nil : Sl Int).v e32 = .nils := rfl
theorem Acc.one {h : Heap} {v : V} {l : List Command} (a : Acc encC 47 h v l) : oneCell v = true ∧ cellsO v = some [v] := by
  rcases a with ⟨rfl, _⟩ | ⟨b, rfl, _⟩ <;> exact ⟨rfl, rfl⟩
def crt (x : Setting) (ex : Int) : List Command := ⟨1, x.t, 0, x.l0, x.l1, x.l2, x.u, x.e, ex⟩ :: revsL x.t x.rev.l [] ex
structure ExtB (bo : Nat) (h h' : Heap) : Prop where
  lo : h'.lo = h.lo
  nx : h.nx ≤ h'.nx
  get : ∀ b, b < h.nx → b ≠ bo → (∀ cs, h.get b ≠ .cells cs .op) → h'.get b = h.get b
theorem ExtB.refl (bo : Nat) (h : Heap) : ExtB bo h h := ⟨rfl, Nat.le_refl _, fun _ _ _ _ => rfl⟩
theorem ExtB.trans {bo : Nat} {a b c : Heap} (x : ExtB bo a b) (y : ExtB bo b c) : ExtB bo a c :=
  ⟨y.lo.trans x.lo, Nat.le_trans x.nx y.nx, fun i hi hb hne => by
    have e := x.get i hi hb hne
    rw [y.get i (Nat.lt_of_lt_of_le hi x.nx) hb (by rw [e]; exact hne), e]⟩
theorem Ext.toB {bo : Nat} {h h' : Heap} (x : Ext h h') : ExtB bo h h' := ⟨x.lo, x.nx, fun b hb _ hne => x.get b hb hne⟩
/-- the orders that are put together -/
def Ord (bo : Nat) (ex : Int) (h : Heap) (l : List Command) : Prop := ∃ v, h.get bo = .cells [.int .u64 ex, v] .cl ∧ Acc encC 47 h v l ∧ h.lo ≤ bo ∧ bo < h.nx
theorem Ord.new {bo : Nat} {ex : Int} {h : Heap} {l : List Command} (o : Ord bo ex h l) (x : Blk) : Ord bo ex (h.new x) l := by
  obtain ⟨v, h1, h2, h3, h4⟩ := o
  exact ⟨v, by rw [Heap.get_new, if_neg (by omega)]; exact h1, Acc.new h2 x, h3, by simp [Heap.new]; omega⟩
section
variable {vp : Nat → Option VFn}
theorem created11 (h11 : vp 11 = some v11) (h22 : vp 22 = some v22) (h21 : vp 21 = some v21) (x : Setting) (ex : Int) (l : List Command) (v : V) (h : Heap) (a : Acc encC 47 h v l) (hlo : h.lo ≤ h.nx) (hb : (l.length + 1 + x.rev.l.length) * 136 ≤ 140737488355328) :
    ∃ v' h', callRes vp 11 [v, .agg (encS x), .int .u64 ex] h = some (v', h') ∧ Ext h h' ∧ h'.lo ≤ h'.nx ∧ Acc encC 47 h' v' (l ++ crt x ex) := by
  obtain ⟨v1, h1, e1, e2, e3⟩ := push (Acc.new a (.cells (encS x) .cl)) (by show h.lo ≤ h.nx + 1; omega) ⟨1, x.t, 0, x.l0, x.l1, x.l2, x.u, x.e, ex⟩ (by omega)
  have hgl : h1.lo ≤ h1.nx := by have := e2.lo; have := e2.nx; simp only [Heap.new_nx, Heap.new_lo] at *; omega
  have hbox : h1.get h.nx = .cells (encS x) .cl := by
    have e4 : (h.new (.cells (encS x) .cl)).get h.nx = .cells (encS x) .cl := by rw [Heap.get_new, if_pos rfl]
    rw [e2.get h.nx (by rw [Heap.new_nx]; omega) (by rw [e4]; intro cs q; cases q), e4]
  obtain ⟨v2, h2, f1, f2, f3, f4⟩ := revokes22 h22 h21 x.t x.rev .nil ex _ v1 h1 e3 hgl (by rw [List.length_append]; simp only [List.length_cons, List.length_nil]; omega) (by simp [Sl.l])
  refine res_raw (P := fun v' h' => Ext h h' ∧ h'.lo ≤ h'.nx ∧ Acc encC 47 h' v' (l ++ crt x ex)) h11 rfl rfl ?_
  simp only [encC, Heap.new_nx, Nat.add_assoc, Nat.reduceAdd, encS] at e1
  simp only [encS] at hbox
  simp only [slnil] at f1
  unfold v11
  simp only [↓w_seq, ↓w_reg, ↓w_block, ↓w_skip, ↓w_exit, ↓w_ret, ↓w_scope, ↓w_true, ↓w_false, ↓wo_nil, ↓g_t, ↓g_f, ↓p_call, ↓n_call, ↓p_callp, ↓p_callo, ↓p_callv, ↓p_mv, ↓p_pick, ↓p_alloc, ↓p_box, ↓p_build, ↓p_bsl, ↓p_ld, ↓p_st, ↓n_st, ↓p_nck, ↓p_bin, ↓p_eqb, ↓p_eqn, ↓p_eqa, ↓p_un, ↓p_cnv, ↓p_mkf, ↓p_mks, ↓p_slc, ↓p_slca, ↓p_fa, ↓p_fld, ↓p_ia, ↓p_iaa, ↓p_ix, ↓p_ixs, ↓p_ext, ↓p_len, ↓p_lens, ↓p_lenc, ↓p_app, ↓p_apps, ↓p_app0, ↓p_cpy, ↓n_cpy, ↓p_cpys, ↓n_cpys, ↓p_mini, ↓p_maxi, ↓p_mkif, ↓p_carry, ↓p_clr, ↓n_clr, ↓p_mkmap, ↓p_look, ↓p_mupd, ↓n_mupd, ↓p_mdel, ↓n_mdel, ↓p_lenm, ↓p_pur, ↓p_eff, ↓n_eff, ↓p_mnz, vOf_some, hOf_some, okR_some, true_and, and_true, chkOk, Slots.at_set, Nat.reduceEqDiff, Nat.add_assoc, Nat.add_left_cancel_iff, Nat.add_eq_left, Nat.left_eq_add, Nat.zero_add, Nat.add_zero, Nat.reduceAdd, Nat.reduceSub, Nat.reduceMul, Nat.reduceLT, Nat.reduceLeDiff, Int.reduceLT, Int.reduceLE, Int.reduceEq, Int.reduceAdd, Int.reduceNeg, if_false, if_true, reduceIte, ev_t, ev_k, evs_nil, evs_cons, evo_none, evo_some, evp_nil, evp_cons, argSlots_at, List.getElem?_cons_succ, List.getElem?_cons_zero, Option.getD_some, r_mv, r_pick, r_fa, r_ld, r_box, r_alloc, r_un, r_eqb, r_ext, r_mkf, r_cnv, r_st, r_nck, r_ix, r_iaa, asNat0, asNat1, asNat2, asNatN, wr1, wr2, wr3, takeN, List.cons_append, List.nil_append, VE.store, over, oneCell_v, one_int, one_bool, one_str, one_ptr, one_sl, one_isl, one_nils, one_nilp, one_fn, one_ifc, one_nili, one_iptr, co_int, co_bool, co_str, co_agg, co_ptr, co_sl, co_isl, co_nils, co_nilp, co_fn, co_iptr, cellsO_v, r_len_v, cellsAt, VE.part, Heap.get_new, Heap.get_set, Heap.new_nx, Heap.new_lo, Heap.set_nx, Heap.set_lo, Option.map_some, Option.bind_some, blkX, gEval, cond_true, cond_false, decide_true, decide_false, Bool.not_true, Bool.not_false, Bool.and_true, Bool.true_and, Bool.and_self, Bool.or_false, Bool.false_or, Bool.or_self, Bool.and_false, Bool.false_and, r_build, r_bsl, fill, VE.unOp, r_bin, bi_lss, bi_leq, bi_gtr, bi_geq, bi_eql, bi_neq, bi_add, bi_sub, List.drop_zero, List.drop_succ_cons, resOf, resVs, resV, beq_dec, blt_dec, ble_dec, List.length_cons, List.length_nil, reduceCtorEq, or_true, true_or, false_or, or_false, eq_self, exists_eq_left', Option.some.injEq, encS, encC, e1, hbox, f1]
  refine ⟨(Ext.new h _).trans (e2.trans f2), f3, ?_⟩
  rw [List.append_assoc] at f4
  exact f4

theorem add14 (h14 : vp 14 = some v14) (c : Command) (bo : Nat) (ex : Int) (l : List Command) (h : Heap) (o : Ord bo ex h l) (hb : (l.length + 1) * 136 ≤ 140737488355328) :
    ∃ h', callRes vp 14 [.ptr bo 0, .agg (encC c)] h = some (.tup [], h') ∧ Ord bo ex h' (l ++ [{ c with x := ex }]) ∧ ExtB bo h h' := by
  obtain ⟨v, o1, o2, o3, o4⟩ := o
  have hne : ¬ (bo = h.nx) := by omega
  have hne2 : ¬ (h.nx = bo) := by omega
  have hl0 : ¬ (h.nx < h.lo) := by omega
  have hset : ∀ (x : Blk) (y : Blk), Acc encC 47 ((h.new x).set h.nx y) v l := fun x y => o2.keep rfl (by simp [Heap.new, Heap.set]) (fun b _ hb _ => by rw [Heap.get_set, if_neg (by omega), Heap.get_new, if_neg (by omega)])
  obtain ⟨v1, h1, e1, e2, e3⟩ := push (hset (.cells (encC c) .cl) (.cells (encC { c with x := ex }) .cl)) (by show h.lo ≤ h.nx + 1; omega) { c with x := ex } (by omega)
  have hbo : h1.get bo = .cells [.int .u64 ex, v] .cl := by
    have e4 : ((h.new (.cells (encC c) .cl)).set h.nx (.cells (encC { c with x := ex }) .cl)).get bo = .cells [.int .u64 ex, v] .cl := by rw [Heap.get_set, if_neg hne, Heap.get_new, if_neg hne, o1]
    rw [e2.get bo (by show bo < h.nx + 1; omega) (by rw [e4]; intro cs q; cases q), e4]
  have hlo1 : ¬ (bo < h1.lo) := by have := e2.lo; simp only [Heap.new_lo, Heap.set_lo] at this; omega
  have e3' : ∃ b1 n1, v1 = .sl b1 0 n1 n1 47 := by
    rcases e3 with ⟨_, q⟩ | ⟨b1, q, _⟩
    · simp at q
    · exact ⟨b1, _, q⟩
  have k := res_raw (vp := vp) (P := fun v' h' => v' = .tup [] ∧ h' = h1.set bo (.cells [.int .u64 ex, v1] .cl)) (args := [.ptr bo 0, .agg (encC c)]) (h := h) h14 rfl rfl (by
    simp only [encC, Heap.new_nx, Heap.set_nx, Nat.add_assoc, Nat.reduceAdd] at e1
    obtain ⟨b1, n1, rfl⟩ := e3'
    unfold v14
    simp only [↓w_seq, ↓w_reg, ↓w_block, ↓w_skip, ↓w_exit, ↓w_ret, ↓w_scope, ↓w_true, ↓w_false, ↓wo_nil, ↓g_t, ↓g_f, ↓p_call, ↓n_call, ↓p_callp, ↓p_callo, ↓p_callv, ↓p_mv, ↓p_pick, ↓p_alloc, ↓p_box, ↓p_build, ↓p_bsl, ↓p_ld, ↓p_st, ↓n_st, ↓p_nck, ↓p_bin, ↓p_eqb, ↓p_eqn, ↓p_eqa, ↓p_un, ↓p_cnv, ↓p_mkf, ↓p_mks, ↓p_slc, ↓p_slca, ↓p_fa, ↓p_fld, ↓p_ia, ↓p_iaa, ↓p_ix, ↓p_ixs, ↓p_ext, ↓p_len, ↓p_lens, ↓p_lenc, ↓p_app, ↓p_apps, ↓p_app0, ↓p_cpy, ↓n_cpy, ↓p_cpys, ↓n_cpys, ↓p_mini, ↓p_maxi, ↓p_mkif, ↓p_carry, ↓p_clr, ↓n_clr, ↓p_mkmap, ↓p_look, ↓p_mupd, ↓n_mupd, ↓p_mdel, ↓n_mdel, ↓p_lenm, ↓p_pur, ↓p_eff, ↓n_eff, ↓p_mnz, vOf_some, hOf_some, okR_some, true_and, and_true, chkOk, Slots.at_set, Nat.reduceEqDiff, Nat.add_assoc, Nat.add_left_cancel_iff, Nat.add_eq_left, Nat.left_eq_add, Nat.zero_add, Nat.add_zero, Nat.reduceAdd, Nat.reduceSub, Nat.reduceMul, Nat.reduceLT, Nat.reduceLeDiff, Int.reduceLT, Int.reduceLE, Int.reduceEq, Int.reduceAdd, Int.reduceNeg, if_false, if_true, reduceIte, ev_t, ev_k, evs_nil, evs_cons, evo_none, evo_some, evp_nil, evp_cons, argSlots_at, List.getElem?_cons_succ, List.getElem?_cons_zero, Option.getD_some, r_mv, r_pick, r_fa, r_ld, r_box, r_alloc, r_un, r_eqb, r_ext, r_mkf, r_cnv, r_st, r_nck, r_ix, r_iaa, asNat0, asNat1, asNat2, asNatN, wr1, wr2, wr3, takeN, List.cons_append, List.nil_append, VE.store, over, oneCell_v, one_int, one_bool, one_str, one_ptr, one_sl, one_isl, one_nils, one_nilp, one_fn, one_ifc, one_nili, one_iptr, co_int, co_bool, co_str, co_agg, co_ptr, co_sl, co_isl, co_nils, co_nilp, co_fn, co_iptr, cellsO_v, r_len_v, cellsAt, VE.part, Heap.get_new, Heap.get_set, Heap.new_nx, Heap.new_lo, Heap.set_nx, Heap.set_lo, Option.map_some, Option.bind_some, blkX, gEval, cond_true, cond_false, decide_true, decide_false, Bool.not_true, Bool.not_false, Bool.and_true, Bool.true_and, Bool.and_self, Bool.or_false, Bool.false_or, Bool.or_self, Bool.and_false, Bool.false_and, r_build, r_bsl, fill, VE.unOp, r_bin, bi_lss, bi_leq, bi_gtr, bi_geq, bi_eql, bi_neq, bi_add, bi_sub, List.drop_zero, List.drop_succ_cons, resOf, resVs, resV, beq_dec, blt_dec, ble_dec, List.length_cons, List.length_nil, reduceCtorEq, or_true, true_or, false_or, or_false, eq_self, exists_eq_left', Option.some.injEq, encC, o1, hne, hne2, hl0, hlo1, e1, hbo])
  obtain ⟨v', h', k1, rfl, rfl⟩ := k
  refine ⟨_, k1, ⟨v1, by rw [Heap.get_set, if_pos rfl], e3.keep rfl (by simp [Heap.set]) (fun b cs hb q => ?_), ?_, ?_⟩, ⟨?_, ?_, fun b hb hnb hq => ?_⟩⟩
  · rw [Heap.get_set, if_neg (fun e => by subst e; rw [hbo] at q; cases q)]
  · show h1.lo ≤ bo
    omega
  · show bo < h1.nx
    have := e2.nx
    simp only [Heap.new_nx, Heap.set_nx] at this
    omega
  · show h1.lo = h.lo
    exact e2.lo
  · show h.nx ≤ h1.nx
    have := e2.nx
    simp only [Heap.new_nx, Heap.set_nx] at this
    omega
  · have e4 : ((h.new (.cells (encC c) .cl)).set h.nx (.cells (encC { c with x := ex }) .cl)).get b = h.get b := by rw [Heap.get_set, if_neg (by omega), Heap.get_new, if_neg (by omega)]
    rw [Heap.get_set, if_neg hnb, e2.get b (by show b < h.nx + 1; omega) (by rw [e4]; exact hq), e4]

def inv19 (bo : Nat) (x : Setting) (but : Sl Int) (ex : Int) (l : List Command) (nb : Nat) (H : Heap) (m : Nat) (s : Slots) (h : Heap) : Prop :=
  ∃ k, k ≤ x.rev.l.length ∧ m = x.rev.l.length - k ∧ s.at 0 = .ptr bo 0 ∧ s.at 2 = but.v e32 ∧ s.at 4 = .ptr nb 0 ∧ s.at 9 = x.rev.v e32 ∧ s.at 10 = .int .i64 (x.rev.l.length : Int) ∧ s.at 11 = .int .i64 (k : Int) ∧ ExtB bo H h ∧ Ord bo ex h (l ++ revsL x.t (x.rev.l.take k) but.l ex)
theorem revoke19 (h19 : vp 19 = some v19) (h14 : vp 14 = some v14) (h18 : vp 18 = some v18) (h30 : vp 30 = some v30) (x : Setting) (but : Sl Int) (bo : Nat) (ex : Int) (l : List Command) (h : Heap) (o : Ord bo ex h l) (hb : (l.length + x.rev.l.length) * 136 ≤ 140737488355328) (hn : but.l.length < 4611686018427387904) :
    ∃ h', callRes vp 19 [.ptr bo 0, .agg (encS x), but.v e32] h = some (.tup [], h') ∧ Ord bo ex h' (l ++ revsL x.t x.rev.l but.l ex) ∧ ExtB bo h h' := by
  have m18 : modeOf vp 18 = some 1 := by simp [modeOf, h18, v18]
  have isin : ∀ (u : Int) (h : Heap), callRes vp 18 [but.v e32, .int .u32 u] h = some (.bool (decide (u ∈ but.l)), h) := fun u h => cont18 h18 h30 but u h hn
  have k := res_raw (vp := vp) (P := fun v' h' => v' = .tup [] ∧ Ord bo ex h' (l ++ revsL x.t x.rev.l but.l ex) ∧ ExtB bo h h') (args := [.ptr bo 0, .agg (encS x), but.v e32]) (h := h) h19 rfl rfl (by
    unfold v19
    simp only [↓w_seq, ↓w_reg, ↓w_block, ↓w_skip, ↓w_exit, ↓w_ret, ↓w_scope, ↓w_true, ↓w_false, ↓wo_nil, ↓g_t, ↓g_f, ↓p_call, ↓n_call, ↓p_callp, ↓p_callo, ↓p_callv, ↓p_mv, ↓p_pick, ↓p_alloc, ↓p_box, ↓p_build, ↓p_bsl, ↓p_ld, ↓p_st, ↓n_st, ↓p_nck, ↓p_bin, ↓p_eqb, ↓p_eqn, ↓p_eqa, ↓p_un, ↓p_cnv, ↓p_mkf, ↓p_mks, ↓p_slc, ↓p_slca, ↓p_fa, ↓p_fld, ↓p_ia, ↓p_iaa, ↓p_ix, ↓p_ixs, ↓p_ext, ↓p_len, ↓p_lens, ↓p_lenc, ↓p_app, ↓p_apps, ↓p_app0, ↓p_cpy, ↓n_cpy, ↓p_cpys, ↓n_cpys, ↓p_mini, ↓p_maxi, ↓p_mkif, ↓p_carry, ↓p_clr, ↓n_clr, ↓p_mkmap, ↓p_look, ↓p_mupd, ↓n_mupd, ↓p_mdel, ↓n_mdel, ↓p_lenm, ↓p_pur, ↓p_eff, ↓n_eff, ↓p_mnz, vOf_some, hOf_some, okR_some, true_and, and_true, chkOk, Slots.at_set, Nat.reduceEqDiff, Nat.add_assoc, Nat.add_left_cancel_iff, Nat.add_eq_left, Nat.left_eq_add, Nat.zero_add, Nat.add_zero, Nat.reduceAdd, Nat.reduceSub, Nat.reduceMul, Nat.reduceLT, Nat.reduceLeDiff, Int.reduceLT, Int.reduceLE, Int.reduceEq, Int.reduceAdd, Int.reduceNeg, if_false, if_true, reduceIte, ev_t, ev_k, evs_nil, evs_cons, evo_none, evo_some, evp_nil, evp_cons, argSlots_at, List.getElem?_cons_succ, List.getElem?_cons_zero, Option.getD_some, r_mv, r_pick, r_fa, r_ld, r_box, r_alloc, r_un, r_eqb, r_ext, r_mkf, r_cnv, r_st, r_nck, r_ix, r_iaa, asNat0, asNat1, asNat2, asNatN, wr1, wr2, wr3, takeN, List.cons_append, List.nil_append, VE.store, over, oneCell_v, one_int, one_bool, one_str, one_ptr, one_sl, one_isl, one_nils, one_nilp, one_fn, one_ifc, one_nili, one_iptr, co_int, co_bool, co_str, co_agg, co_ptr, co_sl, co_isl, co_nils, co_nilp, co_fn, co_iptr, cellsO_v, r_len_v, cellsAt, VE.part, Heap.get_new, Heap.get_set, Heap.new_nx, Heap.new_lo, Heap.set_nx, Heap.set_lo, Option.map_some, Option.bind_some, blkX, gEval, cond_true, cond_false, decide_true, decide_false, Bool.not_true, Bool.not_false, Bool.and_true, Bool.true_and, Bool.and_self, Bool.or_false, Bool.false_or, Bool.or_self, Bool.and_false, Bool.false_and, r_build, r_bsl, fill, VE.unOp, r_bin, bi_lss, bi_leq, bi_gtr, bi_geq, bi_eql, bi_neq, bi_add, bi_sub, List.drop_zero, List.drop_succ_cons, resOf, resVs, resV, beq_dec, blt_dec, ble_dec, List.length_cons, List.length_nil, reduceCtorEq, or_true, true_or, false_or, or_false, eq_self, exists_eq_left', Option.some.injEq, encS]
    generalize hS : Tr.set _ 11 _ = S
    have b0 : Slots.at S 0 = .ptr bo 0 := by rw [← hS]; simp only [Slots.at_set, Nat.reduceEqDiff, if_false, if_true, reduceIte, argSlots_at, List.getElem?_cons_succ, List.getElem?_cons_zero, Option.getD_some]
    have b2 : Slots.at S 2 = but.v e32 := by rw [← hS]; simp only [Slots.at_set, Nat.reduceEqDiff, if_false, if_true, reduceIte, argSlots_at, List.getElem?_cons_succ, List.getElem?_cons_zero, Option.getD_some]
    have b4 : Slots.at S 4 = .ptr h.nx 0 := by rw [← hS]; simp only [Slots.at_set, Nat.reduceEqDiff, if_false, if_true, reduceIte, argSlots_at, List.getElem?_cons_succ, List.getElem?_cons_zero, Option.getD_some]
    have b9 : Slots.at S 9 = x.rev.v e32 := by rw [← hS]; simp only [Slots.at_set, Nat.reduceEqDiff, if_false, if_true, reduceIte, argSlots_at, List.getElem?_cons_succ, List.getElem?_cons_zero, Option.getD_some]
    have b10 : Slots.at S 10 = .int .i64 (x.rev.l.length : Int) := by rw [← hS]; simp only [Slots.at_set, Nat.reduceEqDiff, if_false, if_true, reduceIte, argSlots_at, List.getElem?_cons_succ, List.getElem?_cons_zero, Option.getD_some]
    have b11 : Slots.at S 11 = .int .i64 ((0 : Nat) : Int) := by rw [← hS]; simp only [Slots.at_set, Nat.reduceEqDiff, if_false, if_true, reduceIte, argSlots_at, List.getElem?_cons_succ, List.getElem?_cons_zero, Option.getD_some]; rfl
    clear hS
    refine loop_ind (fun m s g => inv19 bo x but ex l h.nx (h.new (.cells (encS x) .cl)) m s g) ?_ x.rev.l.length ⟨0, by omega, by omega, b0, b2, b4, b9, b10, b11, ExtB.refl _ _, by simpa [revsL] using o.new _⟩
    rintro m s g ⟨k, hk, hm, c0, c2, c4, c9, c10, c11, hext, ho⟩
    by_cases hlt : k < x.rev.l.length
    case neg =>
      have hlt' : ¬ ((k : Int) < (x.rev.l.length : Int)) := by omega
      have : k = x.rev.l.length := by omega
      subst this
      rw [List.take_length] at ho
      simp only [↓w_seq, ↓w_reg, ↓w_block, ↓w_skip, ↓w_exit, ↓w_ret, ↓w_scope, ↓w_true, ↓w_false, ↓wo_nil, ↓g_t, ↓g_f, ↓p_call, ↓n_call, ↓p_callp, ↓p_callo, ↓p_callv, ↓p_mv, ↓p_pick, ↓p_alloc, ↓p_box, ↓p_build, ↓p_bsl, ↓p_ld, ↓p_st, ↓n_st, ↓p_nck, ↓p_bin, ↓p_eqb, ↓p_eqn, ↓p_eqa, ↓p_un, ↓p_cnv, ↓p_mkf, ↓p_mks, ↓p_slc, ↓p_slca, ↓p_fa, ↓p_fld, ↓p_ia, ↓p_iaa, ↓p_ix, ↓p_ixs, ↓p_ext, ↓p_len, ↓p_lens, ↓p_lenc, ↓p_app, ↓p_apps, ↓p_app0, ↓p_cpy, ↓n_cpy, ↓p_cpys, ↓n_cpys, ↓p_mini, ↓p_maxi, ↓p_mkif, ↓p_carry, ↓p_clr, ↓n_clr, ↓p_mkmap, ↓p_look, ↓p_mupd, ↓n_mupd, ↓p_mdel, ↓n_mdel, ↓p_lenm, ↓p_pur, ↓p_eff, ↓n_eff, ↓p_mnz, vOf_some, hOf_some, okR_some, true_and, and_true, chkOk, Slots.at_set, Nat.reduceEqDiff, Nat.add_assoc, Nat.add_left_cancel_iff, Nat.add_eq_left, Nat.left_eq_add, Nat.zero_add, Nat.add_zero, Nat.reduceAdd, Nat.reduceSub, Nat.reduceMul, Nat.reduceLT, Nat.reduceLeDiff, Int.reduceLT, Int.reduceLE, Int.reduceEq, Int.reduceAdd, Int.reduceNeg, if_false, if_true, reduceIte, ev_t, ev_k, evs_nil, evs_cons, evo_none, evo_some, evp_nil, evp_cons, argSlots_at, List.getElem?_cons_succ, List.getElem?_cons_zero, Option.getD_some, r_mv, r_pick, r_fa, r_ld, r_box, r_alloc, r_un, r_eqb, r_ext, r_mkf, r_cnv, r_st, r_nck, r_ix, r_iaa, asNat0, asNat1, asNat2, asNatN, wr1, wr2, wr3, takeN, List.cons_append, List.nil_append, VE.store, over, oneCell_v, one_int, one_bool, one_str, one_ptr, one_sl, one_isl, one_nils, one_nilp, one_fn, one_ifc, one_nili, one_iptr, co_int, co_bool, co_str, co_agg, co_ptr, co_sl, co_isl, co_nils, co_nilp, co_fn, co_iptr, cellsO_v, r_len_v, cellsAt, VE.part, Heap.get_new, Heap.get_set, Heap.new_nx, Heap.new_lo, Heap.set_nx, Heap.set_lo, Option.map_some, Option.bind_some, blkX, gEval, cond_true, cond_false, decide_true, decide_false, Bool.not_true, Bool.not_false, Bool.and_true, Bool.true_and, Bool.and_self, Bool.or_false, Bool.false_or, Bool.or_self, Bool.and_false, Bool.false_and, r_build, r_bsl, fill, VE.unOp, r_bin, bi_lss, bi_leq, bi_gtr, bi_geq, bi_eql, bi_neq, bi_add, bi_sub, List.drop_zero, List.drop_succ_cons, resOf, resVs, resV, beq_dec, blt_dec, ble_dec, List.length_cons, List.length_nil, reduceCtorEq, or_true, true_or, false_or, or_false, eq_self, exists_eq_left', Option.some.injEq, c0, c2, c10, c11, hlt']
      exact ⟨ho, (Ext.new h _).toB.trans hext⟩
    have hlt' : (k : Int) < (x.rev.l.length : Int) := by omega
    have ws := wr_succ (k := k) (by omega)
    have ia1 : ∀ h, r_ia 1 (x.rev.v e32) (.int .i64 (k : Int)) h = some (.iptr (e32 x.rev.l[k] ++ (x.rev.l.drop (k + 1)).flatMap e32), h) := fun h => r_ia_v e32_len (by decide) hlt rfl
    have hbox : g.get h.nx = .cells (encS x) .cl := by
      obtain ⟨_, _, _, _, _⟩ := o
      have e4 : (h.new (.cells (encS x) .cl)).get h.nx = .cells (encS x) .cl := by rw [Heap.get_new, if_pos rfl]
      rw [hext.get h.nx (by rw [Heap.new_nx]; omega) (by omega) (by rw [e4]; intro cs q; cases q), e4]
    by_cases hin : x.rev.l[k] ∈ but.l
    · simp only [↓w_seq, ↓w_reg, ↓w_block, ↓w_skip, ↓w_exit, ↓w_ret, ↓w_scope, ↓w_true, ↓w_false, ↓wo_nil, ↓g_t, ↓g_f, ↓p_call, ↓n_call, ↓p_callp, ↓p_callo, ↓p_callv, ↓p_mv, ↓p_pick, ↓p_alloc, ↓p_box, ↓p_build, ↓p_bsl, ↓p_ld, ↓p_st, ↓n_st, ↓p_nck, ↓p_bin, ↓p_eqb, ↓p_eqn, ↓p_eqa, ↓p_un, ↓p_cnv, ↓p_mkf, ↓p_mks, ↓p_slc, ↓p_slca, ↓p_fa, ↓p_fld, ↓p_ia, ↓p_iaa, ↓p_ix, ↓p_ixs, ↓p_ext, ↓p_len, ↓p_lens, ↓p_lenc, ↓p_app, ↓p_apps, ↓p_app0, ↓p_cpy, ↓n_cpy, ↓p_cpys, ↓n_cpys, ↓p_mini, ↓p_maxi, ↓p_mkif, ↓p_carry, ↓p_clr, ↓n_clr, ↓p_mkmap, ↓p_look, ↓p_mupd, ↓n_mupd, ↓p_mdel, ↓n_mdel, ↓p_lenm, ↓p_pur, ↓p_eff, ↓n_eff, ↓p_mnz, vOf_some, hOf_some, okR_some, true_and, and_true, chkOk, Slots.at_set, Nat.reduceEqDiff, Nat.add_assoc, Nat.add_left_cancel_iff, Nat.add_eq_left, Nat.left_eq_add, Nat.zero_add, Nat.add_zero, Nat.reduceAdd, Nat.reduceSub, Nat.reduceMul, Nat.reduceLT, Nat.reduceLeDiff, Int.reduceLT, Int.reduceLE, Int.reduceEq, Int.reduceAdd, Int.reduceNeg, if_false, if_true, reduceIte, ev_t, ev_k, evs_nil, evs_cons, evo_none, evo_some, evp_nil, evp_cons, argSlots_at, List.getElem?_cons_succ, List.getElem?_cons_zero, Option.getD_some, r_mv, r_pick, r_fa, r_ld, r_box, r_alloc, r_un, r_eqb, r_ext, r_mkf, r_cnv, r_st, r_nck, r_ix, r_iaa, asNat0, asNat1, asNat2, asNatN, wr1, wr2, wr3, takeN, List.cons_append, List.nil_append, VE.store, over, oneCell_v, one_int, one_bool, one_str, one_ptr, one_sl, one_isl, one_nils, one_nilp, one_fn, one_ifc, one_nili, one_iptr, co_int, co_bool, co_str, co_agg, co_ptr, co_sl, co_isl, co_nils, co_nilp, co_fn, co_iptr, cellsO_v, r_len_v, cellsAt, VE.part, Heap.get_new, Heap.get_set, Heap.new_nx, Heap.new_lo, Heap.set_nx, Heap.set_lo, Option.map_some, Option.bind_some, blkX, gEval, cond_true, cond_false, decide_true, decide_false, Bool.not_true, Bool.not_false, Bool.and_true, Bool.true_and, Bool.and_self, Bool.or_false, Bool.false_or, Bool.or_self, Bool.and_false, Bool.false_and, r_build, r_bsl, fill, VE.unOp, r_bin, bi_lss, bi_leq, bi_gtr, bi_geq, bi_eql, bi_neq, bi_add, bi_sub, List.drop_zero, List.drop_succ_cons, resOf, resVs, resV, beq_dec, blt_dec, ble_dec, List.length_cons, List.length_nil, reduceCtorEq, or_true, true_or, false_or, or_false, eq_self, exists_eq_left', Option.some.injEq, c0, c2, c4, c9, c10, c11, hlt', ia1, e32, m18, isin, hin, ws]
      refine ⟨_, by omega, k + 1, by omega, rfl, by simp only [Slots.at_set, Nat.reduceEqDiff, if_false, if_true, reduceIte, argSlots_at, List.getElem?_cons_succ, List.getElem?_cons_zero, Option.getD_some, c0], by simp only [Slots.at_set, Nat.reduceEqDiff, if_false, if_true, reduceIte, argSlots_at, List.getElem?_cons_succ, List.getElem?_cons_zero, Option.getD_some, c2], by simp only [Slots.at_set, Nat.reduceEqDiff, if_false, if_true, reduceIte, argSlots_at, List.getElem?_cons_succ, List.getElem?_cons_zero, Option.getD_some, c4], by simp only [Slots.at_set, Nat.reduceEqDiff, if_false, if_true, reduceIte, argSlots_at, List.getElem?_cons_succ, List.getElem?_cons_zero, Option.getD_some, c9], by simp only [Slots.at_set, Nat.reduceEqDiff, if_false, if_true, reduceIte, argSlots_at, List.getElem?_cons_succ, List.getElem?_cons_zero, Option.getD_some, c10], by simp only [Slots.at_set, Nat.reduceEqDiff, if_false, if_true, reduceIte, argSlots_at, List.getElem?_cons_succ, List.getElem?_cons_zero, Option.getD_some], hext, by rw [revs_snoc _ _ _ _ _ hlt, if_pos hin, List.append_nil]; exact ho⟩
    · have hl : (l ++ revsL x.t (x.rev.l.take k) but.l ex).length ≤ l.length + k := by
        rw [List.length_append]
        have := revs_len x.t (x.rev.l.take k) but.l ex
        rw [List.length_take] at this
        omega
      obtain ⟨h', e1, e2, e3⟩ := add14 h14 (revC x.t x.rev.l[k] 0) bo ex _ g ho (by omega)
      simp only [encC, revC, zL] at e1
      simp only [encS] at hbox
      simp only [↓w_seq, ↓w_reg, ↓w_block, ↓w_skip, ↓w_exit, ↓w_ret, ↓w_scope, ↓w_true, ↓w_false, ↓wo_nil, ↓g_t, ↓g_f, ↓p_call, ↓n_call, ↓p_callp, ↓p_callo, ↓p_callv, ↓p_mv, ↓p_pick, ↓p_alloc, ↓p_box, ↓p_build, ↓p_bsl, ↓p_ld, ↓p_st, ↓n_st, ↓p_nck, ↓p_bin, ↓p_eqb, ↓p_eqn, ↓p_eqa, ↓p_un, ↓p_cnv, ↓p_mkf, ↓p_mks, ↓p_slc, ↓p_slca, ↓p_fa, ↓p_fld, ↓p_ia, ↓p_iaa, ↓p_ix, ↓p_ixs, ↓p_ext, ↓p_len, ↓p_lens, ↓p_lenc, ↓p_app, ↓p_apps, ↓p_app0, ↓p_cpy, ↓n_cpy, ↓p_cpys, ↓n_cpys, ↓p_mini, ↓p_maxi, ↓p_mkif, ↓p_carry, ↓p_clr, ↓n_clr, ↓p_mkmap, ↓p_look, ↓p_mupd, ↓n_mupd, ↓p_mdel, ↓n_mdel, ↓p_lenm, ↓p_pur, ↓p_eff, ↓n_eff, ↓p_mnz, vOf_some, hOf_some, okR_some, true_and, and_true, chkOk, Slots.at_set, Nat.reduceEqDiff, Nat.add_assoc, Nat.add_left_cancel_iff, Nat.add_eq_left, Nat.left_eq_add, Nat.zero_add, Nat.add_zero, Nat.reduceAdd, Nat.reduceSub, Nat.reduceMul, Nat.reduceLT, Nat.reduceLeDiff, Int.reduceLT, Int.reduceLE, Int.reduceEq, Int.reduceAdd, Int.reduceNeg, if_false, if_true, reduceIte, ev_t, ev_k, evs_nil, evs_cons, evo_none, evo_some, evp_nil, evp_cons, argSlots_at, List.getElem?_cons_succ, List.getElem?_cons_zero, Option.getD_some, r_mv, r_pick, r_fa, r_ld, r_box, r_alloc, r_un, r_eqb, r_ext, r_mkf, r_cnv, r_st, r_nck, r_ix, r_iaa, asNat0, asNat1, asNat2, asNatN, wr1, wr2, wr3, takeN, List.cons_append, List.nil_append, VE.store, over, oneCell_v, one_int, one_bool, one_str, one_ptr, one_sl, one_isl, one_nils, one_nilp, one_fn, one_ifc, one_nili, one_iptr, co_int, co_bool, co_str, co_agg, co_ptr, co_sl, co_isl, co_nils, co_nilp, co_fn, co_iptr, cellsO_v, r_len_v, cellsAt, VE.part, Heap.get_new, Heap.get_set, Heap.new_nx, Heap.new_lo, Heap.set_nx, Heap.set_lo, Option.map_some, Option.bind_some, blkX, gEval, cond_true, cond_false, decide_true, decide_false, Bool.not_true, Bool.not_false, Bool.and_true, Bool.true_and, Bool.and_self, Bool.or_false, Bool.false_or, Bool.or_self, Bool.and_false, Bool.false_and, r_build, r_bsl, fill, VE.unOp, r_bin, bi_lss, bi_leq, bi_gtr, bi_geq, bi_eql, bi_neq, bi_add, bi_sub, List.drop_zero, List.drop_succ_cons, resOf, resVs, resV, beq_dec, blt_dec, ble_dec, List.length_cons, List.length_nil, reduceCtorEq, or_true, true_or, false_or, or_false, eq_self, exists_eq_left', Option.some.injEq, c0, c2, c4, c9, c10, c11, hlt', ia1, e32, m18, isin, hin, ws, hbox, e1]
      refine ⟨_, by omega, k + 1, by omega, rfl, by simp only [Slots.at_set, Nat.reduceEqDiff, if_false, if_true, reduceIte, argSlots_at, List.getElem?_cons_succ, List.getElem?_cons_zero, Option.getD_some, c0], by simp only [Slots.at_set, Nat.reduceEqDiff, if_false, if_true, reduceIte, argSlots_at, List.getElem?_cons_succ, List.getElem?_cons_zero, Option.getD_some, c2], by simp only [Slots.at_set, Nat.reduceEqDiff, if_false, if_true, reduceIte, argSlots_at, List.getElem?_cons_succ, List.getElem?_cons_zero, Option.getD_some, c4], by simp only [Slots.at_set, Nat.reduceEqDiff, if_false, if_true, reduceIte, argSlots_at, List.getElem?_cons_succ, List.getElem?_cons_zero, Option.getD_some, c9], by simp only [Slots.at_set, Nat.reduceEqDiff, if_false, if_true, reduceIte, argSlots_at, List.getElem?_cons_succ, List.getElem?_cons_zero, Option.getD_some, c10], by simp only [Slots.at_set, Nat.reduceEqDiff, if_false, if_true, reduceIte, argSlots_at, List.getElem?_cons_succ, List.getElem?_cons_zero, Option.getD_some], hext.trans e3, by rw [revs_snoc _ _ _ _ _ hlt, if_neg hin, ← List.append_assoc]; exact e2⟩)
  obtain ⟨v', h', k1, rfl, k2, k3⟩ := k
  exact ⟨h', k1, k2, k3⟩

theorem create15 (h15 : vp 15 = some v15) (h19 : vp 19 = some v19) (h14 : vp 14 = some v14) (h18 : vp 18 = some v18) (h30 : vp 30 = some v30) (x : Setting) (bo : Nat) (ex : Int) (l : List Command) (h : Heap) (o : Ord bo ex h l) (hb : (l.length + 1 + x.rev.l.length) * 136 ≤ 140737488355328) :
    ∃ h', callRes vp 15 [.ptr bo 0, .agg (encS x)] h = some (.tup [], h') ∧ Ord bo ex h' (l ++ crt x ex) ∧ ExtB bo h h' := by
  obtain ⟨h1, e1, e2, e3⟩ := add14 h14 ⟨1, x.t, 0, x.l0, x.l1, x.l2, x.u, x.e, 0⟩ bo ex l _ (o.new (.cells (encS x) .cl)) (by omega)
  have hbox : h1.get h.nx = .cells (encS x) .cl := by
    obtain ⟨_, _, _, _, _⟩ := o
    have e4 : (h.new (.cells (encS x) .cl)).get h.nx = .cells (encS x) .cl := by rw [Heap.get_new, if_pos rfl]
    rw [e3.get h.nx (by rw [Heap.new_nx]; omega) (by omega) (by rw [e4]; intro cs q; cases q), e4]
  obtain ⟨h2, f1, f2, f3⟩ := revoke19 h19 h14 h18 h30 x .nil bo ex _ h1 e2 (by rw [List.length_append]; simp only [List.length_cons, List.length_nil]; omega) (by simp [Sl.l])
  have k := res_raw (vp := vp) (P := fun v' h' => v' = .tup [] ∧ h' = h2) (args := [.ptr bo 0, .agg (encS x)]) (h := h) h15 rfl rfl (by
    simp only [encC, encS] at e1
    simp only [encS] at hbox f1
    simp only [slnil] at f1
    unfold v15
    simp only [↓w_seq, ↓w_reg, ↓w_block, ↓w_skip, ↓w_exit, ↓w_ret, ↓w_scope, ↓w_true, ↓w_false, ↓wo_nil, ↓g_t, ↓g_f, ↓p_call, ↓n_call, ↓p_callp, ↓p_callo, ↓p_callv, ↓p_mv, ↓p_pick, ↓p_alloc, ↓p_box, ↓p_build, ↓p_bsl, ↓p_ld, ↓p_st, ↓n_st, ↓p_nck, ↓p_bin, ↓p_eqb, ↓p_eqn, ↓p_eqa, ↓p_un, ↓p_cnv, ↓p_mkf, ↓p_mks, ↓p_slc, ↓p_slca, ↓p_fa, ↓p_fld, ↓p_ia, ↓p_iaa, ↓p_ix, ↓p_ixs, ↓p_ext, ↓p_len, ↓p_lens, ↓p_lenc, ↓p_app, ↓p_apps, ↓p_app0, ↓p_cpy, ↓n_cpy, ↓p_cpys, ↓n_cpys, ↓p_mini, ↓p_maxi, ↓p_mkif, ↓p_carry, ↓p_clr, ↓n_clr, ↓p_mkmap, ↓p_look, ↓p_mupd, ↓n_mupd, ↓p_mdel, ↓n_mdel, ↓p_lenm, ↓p_pur, ↓p_eff, ↓n_eff, ↓p_mnz, vOf_some, hOf_some, okR_some, true_and, and_true, chkOk, Slots.at_set, Nat.reduceEqDiff, Nat.add_assoc, Nat.add_left_cancel_iff, Nat.add_eq_left, Nat.left_eq_add, Nat.zero_add, Nat.add_zero, Nat.reduceAdd, Nat.reduceSub, Nat.reduceMul, Nat.reduceLT, Nat.reduceLeDiff, Int.reduceLT, Int.reduceLE, Int.reduceEq, Int.reduceAdd, Int.reduceNeg, if_false, if_true, reduceIte, ev_t, ev_k, evs_nil, evs_cons, evo_none, evo_some, evp_nil, evp_cons, argSlots_at, List.getElem?_cons_succ, List.getElem?_cons_zero, Option.getD_some, r_mv, r_pick, r_fa, r_ld, r_box, r_alloc, r_un, r_eqb, r_ext, r_mkf, r_cnv, r_st, r_nck, r_ix, r_iaa, asNat0, asNat1, asNat2, asNatN, wr1, wr2, wr3, takeN, List.cons_append, List.nil_append, VE.store, over, oneCell_v, one_int, one_bool, one_str, one_ptr, one_sl, one_isl, one_nils, one_nilp, one_fn, one_ifc, one_nili, one_iptr, co_int, co_bool, co_str, co_agg, co_ptr, co_sl, co_isl, co_nils, co_nilp, co_fn, co_iptr, cellsO_v, r_len_v, cellsAt, VE.part, Heap.get_new, Heap.get_set, Heap.new_nx, Heap.new_lo, Heap.set_nx, Heap.set_lo, Option.map_some, Option.bind_some, blkX, gEval, cond_true, cond_false, decide_true, decide_false, Bool.not_true, Bool.not_false, Bool.and_true, Bool.true_and, Bool.and_self, Bool.or_false, Bool.false_or, Bool.or_self, Bool.and_false, Bool.false_and, r_build, r_bsl, fill, VE.unOp, r_bin, bi_lss, bi_leq, bi_gtr, bi_geq, bi_eql, bi_neq, bi_add, bi_sub, List.drop_zero, List.drop_succ_cons, resOf, resVs, resV, beq_dec, blt_dec, ble_dec, List.length_cons, List.length_nil, reduceCtorEq, or_true, true_or, false_or, or_false, eq_self, exists_eq_left', Option.some.injEq, encS, encC, e1, hbox, f1])
  obtain ⟨v', h', k1, rfl, rfl⟩ := k
  refine ⟨_, k1, ?_, (Ext.new h _).toB.trans (e3.trans f3)⟩
  rw [List.append_assoc] at f2
  exact f2
end
end Go.VE.CO
