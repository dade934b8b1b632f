/- What the functions of the law DifferChecks compute, on typed arguments (part 22). -/
import Derived.Test.YtlomleifnbpghabDifferChecksA21
set_option linter.all false
namespace Go.VE.LB
open Go Go.VE Classical
set_option maxRecDepth 100000
set_option maxHeartbeats 4000000
set_option linter.all false
theorem eqb_refl {b : Bool} : (b == b) = true := by cases b <;> rfl
theorem pushI {h : Heap} {v : V} {l : List Int} (a : Acc e32 1 h v l) (hlo : h.lo ≤ h.nx) (c : Int) (hb : (l.length + 1) * 4 ≤ 140737488355328) :
    ∃ v' h', r_app 1 4 v (.sl h.nx 0 1 1 1) (h.new (.cells [.int .u32 c] .cl)) = some (v', h') ∧ Ext h h' ∧ Acc e32 1 h' v' (l ++ [c]) := by
  have a2 : Acc e32 1 (h.new (.cells (e32 c) .cl)) v l := a.keep rfl (by simp [Heap.new]) (fun b _ hb _ => by rw [Heap.get_new, if_neg (by omega)])
  obtain ⟨v', h', e1, e2, e3, e4, e5⟩ := a2.app e32_len (fun _ => rfl) (bx := h.nx) (y := c) (tx := .cl) (by rw [Heap.get_new, if_pos rfl]) hb
  refine ⟨v', h', e1, ⟨e2, by rw [e3]; simp [Heap.new]; omega, fun b hb hne => ?_⟩, e4 (by show h.lo ≤ h.nx + 1; omega)⟩
  have e6 : (h.new (.cells (e32 c) .cl)).get b = h.get b := by rw [Heap.get_new, if_neg (by omega)]
  rw [e5 b (by show b < h.nx + 1; omega) (by rw [e6]; exact hne), e6]
section
variable {vp : Nat → Option VFn}
def inv8 (d : Sl Lack) (b : Nat) (w : List V) (lo : Nat) (m : Nat) (s : Slots) (h : Heap) : Prop :=
  ∃ k, k ≤ d.l.length ∧ m = d.l.length - k ∧ s.at 1 = .ptr b 0 ∧ s.at 5 = .int .i64 (k : Int) ∧ h.get b = .cells w .cl ∧ h.lo = lo ∧ b < h.nx ∧ ∃ v, s.at 4 = v ∧ Acc e32 1 h v ((d.l.take k).map (·.t))
theorem fzT {h : Heap} {base : Nat} {v v' : V} {e : Int} (f : FzV h base 800000 v v') : frz frzFuel h base false (.tup [v, .int .i64 e]) = some (.tup [v', .int .i64 e]) := by
  have z : FzL h base 800000 [] [] := fun n hn => FzL.nil n (by omega)
  have q2 : FzL h base 800003 [.int .i64 e] [.int .i64 e] := fun n hn => FzL.cons (.scal rfl) z (by omega) n (by omega)
  exact (FzV.tup (FzL.cons f q2 (by omega))) frzFuel (by show _ ≤ 1000000; omega)
/-- what the tenants of a difference are -/
def TenIs (nd : Int) (d : List Lack) (r : V) : Prop := ∃ o : Sl Int, r = .tup [o.v e32, .int .i64 (chkD nd d)] ∧ o.l = if chkD nd d = 0 then d.map (·.t) else []
theorem ten8_spec {f a0 : Nat} (hf : vp f = some (B_spigotref34_Tenants a0)) (ma : modeOf vp a0 = some 1)
    (chk : ∀ (now : Int) (v : V) (l : List Lack) (h : Heap), Rd encK 27 h v l → (∀ x ∈ l, Short x.a) → l.length < 4611686018427387904 → callRes vp a0 [.agg [.int .u64 now, v]] h = some (.int .i64 (chkD now l), h))
    (nd : Int) (d : Sl Lack) (h : Heap) (shd : ∀ x ∈ d.l, Short x.a) (hnd : d.l.length ≤ 1000) : ∃ r, callRes vp f [.agg [.int .u64 nd, d.v encK]] h = some (r, h) ∧ TenIs nd d.l r := by
  have cd := fun h => chk nd (d.v encK) d.l h (Rd.sl d) shd (by omega)
  refine res_pure_ex hf rfl rfl (fun g hg => ?_)
  have hlo := hlo hg
  have hge : g.lo = g.nx := by
    rcases hg with ⟨rfl, _⟩ | ⟨e1, e2, _⟩
    · rfl
    · omega
  unfold B_spigotref34_Tenants
  by_cases q1 : chkD nd d.l = 0
  case neg =>
    simp only [↓zp, zz, true_and, and_true, chkOk, Nat.reduceEqDiff, Nat.reduceAdd, Nat.reduceSub, Nat.reduceMul, Nat.reduceLT, Nat.reduceLeDiff, Int.reduceLT, Int.reduceLE, Int.reduceEq, Int.reduceAdd, Int.reduceNeg, if_false, if_true, reduceIte, List.getElem?_cons_succ, List.getElem?_cons_zero, Option.getD_some, r_mv, r_pick, r_box, r_alloc, r_un, r_eqb, r_ext, r_mkf, r_cnv, r_st, r_nck, r_ix, r_iaa, takeN, List.cons_append, List.nil_append, VE.store, over, cellsAt, VE.part, Option.map_some, Option.bind_some, blkX, gEval, cond_true, cond_false, r_build, r_bsl, fill, VE.unOp, r_bin, List.drop_zero, List.drop_succ_cons, resOf, resVs, resV, List.length_cons, List.length_nil, reduceCtorEq, or_true, true_or, false_or, or_false, eq_self, exists_eq_left', Option.some.injEq, ma, cd, q1]
    exact ⟨_, rfl, .nil, rfl, by rw [if_neg q1]; rfl⟩
  simp only [↓zp, zz, true_and, and_true, chkOk, Nat.reduceEqDiff, Nat.reduceAdd, Nat.reduceSub, Nat.reduceMul, Nat.reduceLT, Nat.reduceLeDiff, Int.reduceLT, Int.reduceLE, Int.reduceEq, Int.reduceAdd, Int.reduceNeg, if_false, if_true, reduceIte, List.getElem?_cons_succ, List.getElem?_cons_zero, Option.getD_some, r_mv, r_pick, r_box, r_alloc, r_un, r_eqb, r_ext, r_mkf, r_cnv, r_st, r_nck, r_ix, r_iaa, takeN, List.cons_append, List.nil_append, VE.store, over, cellsAt, VE.part, Option.map_some, Option.bind_some, blkX, gEval, cond_true, cond_false, r_build, r_bsl, fill, VE.unOp, r_bin, List.drop_zero, List.drop_succ_cons, resOf, resVs, resV, List.length_cons, List.length_nil, reduceCtorEq, or_true, true_or, false_or, or_false, eq_self, exists_eq_left', Option.some.injEq, ma, cd, q1]
  generalize hS : Tr.set _ 5 _ = S
  have b1 : Slots.at S 1 = .ptr g.nx 0 := by rw [← hS]; simp only [Slots.at_set, Nat.reduceEqDiff, if_false, if_true, reduceIte, argSlots_at, List.getElem?_cons_succ, List.getElem?_cons_zero, Option.getD_some]
  have b4 : Slots.at S 4 = .nils := by rw [← hS]; simp only [Slots.at_set, Nat.reduceEqDiff, if_false, if_true, reduceIte, argSlots_at, List.getElem?_cons_succ, List.getElem?_cons_zero, Option.getD_some]
  have b5 : Slots.at S 5 = .int .i64 ((0 : Nat) : Int) := by rw [← hS]; simp only [Slots.at_set, Nat.reduceEqDiff, if_false, if_true, reduceIte, argSlots_at, List.getElem?_cons_succ, List.getElem?_cons_zero, Option.getD_some]; rfl
  clear hS
  generalize hH : Heap.new g _ = H
  have hb : H.get g.nx = .cells [.int .u64 nd, d.v encK] .cl := by rw [← hH, Heap.get_new, if_pos rfl]
  have hl : H.lo = g.lo := by rw [← hH]; rfl
  have hn : g.nx < H.nx := by rw [← hH]; simp [Heap.new]
  clear hH
  refine loop_ind (fun m s h => inv8 d g.nx [.int .u64 nd, d.v encK] g.lo m s h) ?_ d.l.length ⟨0, by omega, by omega, b1, b5, hb, hl, hn, .nils, b4, Acc.nil⟩
  rintro m s h ⟨k, hk, hm, c1, c5, hbh, hlh, hnh, v, c4, ac⟩
  by_cases hlt : k < d.l.length
  case neg =>
    have hlt' : ¬ ((k : Int) < (d.l.length : Int)) := by omega
    obtain rfl : k = d.l.length := by omega
    rw [List.take_length] at ac
    obtain ⟨o, ol, of⟩ := Acc.fz (base := g.nx) e32_len e32_scal ac (by omega)
    simp only [↓zp, zz, true_and, and_true, chkOk, Nat.reduceEqDiff, Nat.reduceAdd, Nat.reduceSub, Nat.reduceMul, Nat.reduceLT, Nat.reduceLeDiff, Int.reduceLT, Int.reduceLE, Int.reduceEq, Int.reduceAdd, Int.reduceNeg, if_false, if_true, reduceIte, List.getElem?_cons_succ, List.getElem?_cons_zero, Option.getD_some, r_mv, r_pick, r_box, r_alloc, r_un, r_eqb, r_ext, r_mkf, r_cnv, r_st, r_nck, r_ix, r_iaa, takeN, List.cons_append, List.nil_append, VE.store, over, cellsAt, VE.part, Option.map_some, Option.bind_some, blkX, gEval, cond_true, cond_false, r_build, r_bsl, fill, VE.unOp, r_bin, List.drop_zero, List.drop_succ_cons, resOf, resVs, resV, List.length_cons, List.length_nil, reduceCtorEq, or_true, true_or, false_or, or_false, eq_self, exists_eq_left', Option.some.injEq, c1, c4, c5, hbh, r_len_v, hlt']
    refine ⟨_, fzT (of.le (by simp; omega)), o, by rw [q1], by rw [if_pos q1, ol]⟩
  have hlt' : (k : Int) < (d.l.length : Int) := by omega
  have ws := wr_succ (k := k) (by omega)
  have ia1 : ∀ h, r_ia 27 (d.v encK) (.int .i64 (k : Int)) h = some (.iptr (encK d.l[k] ++ (d.l.drop (k + 1)).flatMap encK), h) := fun h => r_ia_v encK_len (by decide) hlt rfl
  obtain ⟨v', h', e1, e2, e3⟩ := pushI ac (by omega) d.l[k].t (by simp; omega)
  simp only [↓zp, zz, true_and, and_true, chkOk, Nat.reduceEqDiff, Nat.reduceAdd, Nat.reduceSub, Nat.reduceMul, Nat.reduceLT, Nat.reduceLeDiff, Int.reduceLT, Int.reduceLE, Int.reduceEq, Int.reduceAdd, Int.reduceNeg, if_false, if_true, reduceIte, List.getElem?_cons_succ, List.getElem?_cons_zero, Option.getD_some, r_mv, r_pick, r_box, r_alloc, r_un, r_eqb, r_ext, r_mkf, r_cnv, r_st, r_nck, r_ix, r_iaa, takeN, List.cons_append, List.nil_append, VE.store, over, cellsAt, VE.part, Option.map_some, Option.bind_some, blkX, gEval, cond_true, cond_false, r_build, r_bsl, fill, VE.unOp, r_bin, List.drop_zero, List.drop_succ_cons, resOf, resVs, resV, List.length_cons, List.length_nil, reduceCtorEq, or_true, true_or, false_or, or_false, eq_self, exists_eq_left', Option.some.injEq, c1, c4, c5, hbh, r_len_v, hlt', ia1, encK, e1, ws]
  exact ⟨_, by omega, k + 1, by omega, rfl, by simp only [Slots.at_set, Nat.reduceEqDiff, if_false, if_true, reduceIte, argSlots_at, List.getElem?_cons_succ, List.getElem?_cons_zero, Option.getD_some, c1], by simp only [Slots.at_set, Nat.reduceEqDiff, if_false, if_true, reduceIte, argSlots_at, List.getElem?_cons_succ, List.getElem?_cons_zero, Option.getD_some], by rw [e2.get _ hnh (by rw [hbh]; intro cs q; cases q), hbh], e2.lo.trans hlh, Nat.lt_of_lt_of_le hnh e2.nx, v', by simp only [Slots.at_set, Nat.reduceEqDiff, if_false, if_true, reduceIte, argSlots_at, List.getElem?_cons_succ, List.getElem?_cons_zero, Option.getD_some], by rw [List.take_succ_eq_append_getElem hlt, List.map_append]; exact e3⟩
def inv7 (d : Sl Lack) (b : Nat) (lo : Nat) (m : Nat) (s : Slots) (h : Heap) : Prop :=
  ∃ k, k ≤ d.l.length ∧ m = d.l.length - k ∧ s.at 14 = d.v encK ∧ s.at 15 = .int .i64 (d.l.length : Int) ∧ s.at 16 = .int .i64 (k : Int) ∧ h.lo = lo ∧ lo ≤ h.nx ∧ ∃ v, s.at 5 = v ∧ Acc e32 1 h v ((d.l.take k).map (·.t))
theorem ten7_spec {f a0 t1 : Nat} (hf : vp f = some (B_differ_Tenants a0 t1)) (ma : modeOf vp a0 = some 1)
    (chk : ∀ (now : Int) (v : V) (l : List Lack) (h : Heap), Rd encK 27 h v l → (∀ x ∈ l, Short x.a) → l.length < 4611686018427387904 → callRes vp a0 [.agg [.int .u64 now, v]] h = some (.int .i64 (chkD now l), h))
    (nd : Int) (d : Sl Lack) (h : Heap) (shd : ∀ x ∈ d.l, Short x.a) (hnd : d.l.length ≤ 1000) : ∃ r, callRes vp f [.agg [.int .u64 nd, d.v encK]] h = some (r, h) ∧ TenIs nd d.l r := by
  have cd := fun h => chk nd (d.v encK) d.l h (Rd.sl d) shd (by omega)
  refine res_pure_ex hf rfl rfl (fun g hg => ?_)
  have hlo := hlo hg
  have hge : g.lo = g.nx := by
    rcases hg with ⟨rfl, _⟩ | ⟨e1, e2, _⟩
    · rfl
    · omega
  unfold B_differ_Tenants
  by_cases q1 : chkD nd d.l = 0
  case neg =>
    simp only [↓zp, zz, true_and, and_true, chkOk, Nat.reduceEqDiff, Nat.reduceAdd, Nat.reduceSub, Nat.reduceMul, Nat.reduceLT, Nat.reduceLeDiff, Int.reduceLT, Int.reduceLE, Int.reduceEq, Int.reduceAdd, Int.reduceNeg, if_false, if_true, reduceIte, List.getElem?_cons_succ, List.getElem?_cons_zero, Option.getD_some, r_mv, r_pick, r_box, r_alloc, r_un, r_eqb, r_ext, r_mkf, r_cnv, r_st, r_nck, r_ix, r_iaa, takeN, List.cons_append, List.nil_append, VE.store, over, cellsAt, VE.part, Option.map_some, Option.bind_some, blkX, gEval, cond_true, cond_false, r_build, r_bsl, fill, VE.unOp, r_bin, List.drop_zero, List.drop_succ_cons, resOf, resVs, resV, List.length_cons, List.length_nil, reduceCtorEq, or_true, true_or, false_or, or_false, eq_self, exists_eq_left', Option.some.injEq, ma, cd, q1]
    exact ⟨_, rfl, .nil, rfl, by rw [if_neg q1]; rfl⟩
  simp only [↓zp, zz, true_and, and_true, chkOk, Nat.reduceEqDiff, Nat.reduceAdd, Nat.reduceSub, Nat.reduceMul, Nat.reduceLT, Nat.reduceLeDiff, Int.reduceLT, Int.reduceLE, Int.reduceEq, Int.reduceAdd, Int.reduceNeg, if_false, if_true, reduceIte, List.getElem?_cons_succ, List.getElem?_cons_zero, Option.getD_some, r_mv, r_pick, r_box, r_alloc, r_un, r_eqb, r_ext, r_mkf, r_cnv, r_st, r_nck, r_ix, r_iaa, takeN, List.cons_append, List.nil_append, VE.store, over, cellsAt, VE.part, Option.map_some, Option.bind_some, blkX, gEval, cond_true, cond_false, r_build, r_bsl, fill, VE.unOp, r_bin, List.drop_zero, List.drop_succ_cons, resOf, resVs, resV, List.length_cons, List.length_nil, reduceCtorEq, or_true, true_or, false_or, or_false, eq_self, exists_eq_left', Option.some.injEq, ma, cd, q1]
  generalize hS : Tr.set _ 16 _ = S
  have b14 : Slots.at S 14 = d.v encK := by rw [← hS]; simp only [Slots.at_set, Nat.reduceEqDiff, if_false, if_true, reduceIte, argSlots_at, List.getElem?_cons_succ, List.getElem?_cons_zero, Option.getD_some]
  have b15 : Slots.at S 15 = .int .i64 (d.l.length : Int) := by rw [← hS]; simp only [Slots.at_set, Nat.reduceEqDiff, if_false, if_true, reduceIte, argSlots_at, List.getElem?_cons_succ, List.getElem?_cons_zero, Option.getD_some]
  have b5 : Slots.at S 5 = .nils := by rw [← hS]; simp only [Slots.at_set, Nat.reduceEqDiff, if_false, if_true, reduceIte, argSlots_at, List.getElem?_cons_succ, List.getElem?_cons_zero, Option.getD_some]
  have b16 : Slots.at S 16 = .int .i64 ((0 : Nat) : Int) := by rw [← hS]; simp only [Slots.at_set, Nat.reduceEqDiff, if_false, if_true, reduceIte, argSlots_at, List.getElem?_cons_succ, List.getElem?_cons_zero, Option.getD_some]; rfl
  clear hS
  generalize hH : Heap.new g _ = H
  have hl : H.lo = g.lo := by rw [← hH]; rfl
  have hn : g.nx < H.nx := by rw [← hH]; simp [Heap.new]
  clear hH
  refine loop_ind (fun m s h => inv7 d g.nx g.lo m s h) ?_ d.l.length ⟨0, by omega, by omega, b14, b15, b16, hl, by omega, .nils, b5, Acc.nil⟩
  rintro m s h ⟨k, hk, hm, c14, c15, c16, hlh, hnh, v, c5, ac⟩
  by_cases hlt : k < d.l.length
  case neg =>
    have hlt' : ¬ ((k : Int) < (d.l.length : Int)) := by omega
    obtain rfl : k = d.l.length := by omega
    rw [List.take_length] at ac
    obtain ⟨o, ol, of⟩ := Acc.fz (base := g.nx) e32_len e32_scal ac (by omega)
    simp only [↓zp, zz, true_and, and_true, chkOk, Nat.reduceEqDiff, Nat.reduceAdd, Nat.reduceSub, Nat.reduceMul, Nat.reduceLT, Nat.reduceLeDiff, Int.reduceLT, Int.reduceLE, Int.reduceEq, Int.reduceAdd, Int.reduceNeg, if_false, if_true, reduceIte, List.getElem?_cons_succ, List.getElem?_cons_zero, Option.getD_some, r_mv, r_pick, r_box, r_alloc, r_un, r_eqb, r_ext, r_mkf, r_cnv, r_st, r_nck, r_ix, r_iaa, takeN, List.cons_append, List.nil_append, VE.store, over, cellsAt, VE.part, Option.map_some, Option.bind_some, blkX, gEval, cond_true, cond_false, r_build, r_bsl, fill, VE.unOp, r_bin, List.drop_zero, List.drop_succ_cons, resOf, resVs, resV, List.length_cons, List.length_nil, reduceCtorEq, or_true, true_or, false_or, or_false, eq_self, exists_eq_left', Option.some.injEq, c14, c15, c16, c5, hlt']
    refine ⟨_, fzT (of.le (by simp; omega)), o, by rw [q1], by rw [if_pos q1, ol]⟩
  have hlt' : (k : Int) < (d.l.length : Int) := by omega
  have ws := wr_succ (k := k) (by omega)
  have hl0 : ¬ (h.nx < h.lo) := by omega
  have ia1 : ∀ h, r_ia 27 (d.v encK) (.int .i64 (k : Int)) h = some (.iptr (encK d.l[k] ++ (d.l.drop (k + 1)).flatMap encK), h) := fun h => r_ia_v encK_len (by decide) hlt rfl
  have a2 : Acc e32 1 (LB.hk h d.l[k] t1) v ((d.l.take k).map (·.t)) := ac.keep rfl (by simp [LB.hk, Heap.new, Heap.set]) (fun b cs hb _ => by
    unfold LB.hk
    rw [Heap.get_set, if_neg (by omega), Heap.get_new, if_neg (by omega)])
  obtain ⟨v', h', e1, e2, e3⟩ := pushI a2 (by show h.lo ≤ h.nx + 1; omega) d.l[k].t (by simp; omega)
  have lo2 : h'.lo = h.lo := e2.lo
  have nx2 : h.nx + 1 ≤ h'.nx := e2.nx
  simp only [LB.hk, zk, encK, encA, Heap.set_nx, Heap.new_nx] at e1
  simp only [↓zp, zz, true_and, and_true, chkOk, Nat.reduceEqDiff, Nat.reduceAdd, Nat.reduceSub, Nat.reduceMul, Nat.reduceLT, Nat.reduceLeDiff, Int.reduceLT, Int.reduceLE, Int.reduceEq, Int.reduceAdd, Int.reduceNeg, if_false, if_true, reduceIte, List.getElem?_cons_succ, List.getElem?_cons_zero, Option.getD_some, r_mv, r_pick, r_box, r_alloc, r_un, r_eqb, r_ext, r_mkf, r_cnv, r_st, r_nck, r_ix, r_iaa, takeN, List.cons_append, List.nil_append, VE.store, over, cellsAt, VE.part, Option.map_some, Option.bind_some, blkX, gEval, cond_true, cond_false, r_build, r_bsl, fill, VE.unOp, r_bin, List.drop_zero, List.drop_succ_cons, resOf, resVs, resV, List.length_cons, List.length_nil, reduceCtorEq, or_true, true_or, false_or, or_false, eq_self, exists_eq_left', Option.some.injEq, c14, c15, c16, c5, hlt', hl0, ia1, encK, encA, e1, ws]
  exact ⟨_, by omega, k + 1, by omega, rfl, by simp only [Slots.at_set, Nat.reduceEqDiff, if_false, if_true, reduceIte, argSlots_at, List.getElem?_cons_succ, List.getElem?_cons_zero, Option.getD_some, c14], by simp only [Slots.at_set, Nat.reduceEqDiff, if_false, if_true, reduceIte, argSlots_at, List.getElem?_cons_succ, List.getElem?_cons_zero, Option.getD_some, c15], by simp only [Slots.at_set, Nat.reduceEqDiff, if_false, if_true, reduceIte, argSlots_at, List.getElem?_cons_succ, List.getElem?_cons_zero, Option.getD_some], lo2.trans hlh, by omega, v', by simp only [Slots.at_set, Nat.reduceEqDiff, if_false, if_true, reduceIte, argSlots_at, List.getElem?_cons_succ, List.getElem?_cons_zero, Option.getD_some], by rw [List.take_succ_eq_append_getElem hlt, List.map_append]; exact e3⟩
def inv11 (a b : Sl Lack) (bb : Nat) (wa wb : List V) (H : Heap) (m : Nat) (s : Slots) (h : Heap) : Prop :=
  ∃ k, k ≤ a.l.length ∧ m = a.l.length - k ∧ s.at 2 = .ptr bb 0 ∧ s.at 3 = .ptr (bb + 1) 0 ∧ s.at 5 = .int .i64 (k : Int) ∧ Kp H h
theorem same11_spec {f c1 c2 t1 : Nat} (hf : vp f = some (B_spigotref34_Same c1 t1)) (h1 : vp c1 = some (B_spigotref25_SameAccount c2)) (h2 : vp c2 = some B_spigotref25_SameHeld) (n : Int) (a b : Sl Lack) (h : Heap) (al : AllK a.l b.l) (sh : ∀ x ∈ a.l, Short x.a) (hn : a.l.length ≤ 1000) :
    callRes vp f [.agg [.int .u64 n, a.v encK], .agg [.int .u64 n, b.v encK]] h = some (.bool true, h) := by
  have m1 : modeOf vp c1 = some 1 := by simp [modeOf, h1, B_spigotref25_SameAccount]
  refine res_pure hf rfl rfl (fun g hg => ?_)
  have hlo := hlo hg
  have n0 := eq_true (rfl : n = n)
  have n1 : ((a.l.length : Int) = (b.l.length : Int)) = True := eq_true (by rw [al.1])
  unfold B_spigotref34_Same
  simp only [↓zp, zz, true_and, and_true, chkOk, Nat.reduceEqDiff, Nat.reduceAdd, Nat.reduceSub, Nat.reduceMul, Nat.reduceLT, Nat.reduceLeDiff, Int.reduceLT, Int.reduceLE, Int.reduceEq, Int.reduceAdd, Int.reduceNeg, if_false, if_true, reduceIte, List.getElem?_cons_succ, List.getElem?_cons_zero, Option.getD_some, r_mv, r_pick, r_box, r_alloc, r_un, r_eqb, r_ext, r_mkf, r_cnv, r_st, r_nck, r_ix, r_iaa, takeN, List.cons_append, List.nil_append, VE.store, over, cellsAt, VE.part, Option.map_some, Option.bind_some, blkX, gEval, cond_true, cond_false, r_build, r_bsl, fill, VE.unOp, r_bin, List.drop_zero, List.drop_succ_cons, resOf, resVs, resV, List.length_cons, List.length_nil, reduceCtorEq, or_true, true_or, false_or, or_false, eq_self, exists_eq_left', Option.some.injEq, n1]
  generalize hS : Tr.set _ 5 _ = S
  have b2 : Slots.at S 2 = .ptr g.nx 0 := by rw [← hS]; simp only [Slots.at_set, Nat.reduceEqDiff, if_false, if_true, reduceIte, argSlots_at, List.getElem?_cons_succ, List.getElem?_cons_zero, Option.getD_some]
  have b3 : Slots.at S 3 = .ptr (g.nx + 1) 0 := by rw [← hS]; simp only [Slots.at_set, Nat.reduceEqDiff, if_false, if_true, reduceIte, argSlots_at, List.getElem?_cons_succ, List.getElem?_cons_zero, Option.getD_some]
  have b5 : Slots.at S 5 = .int .i64 ((0 : Nat) : Int) := by rw [← hS]; simp only [Slots.at_set, Nat.reduceEqDiff, if_false, if_true, reduceIte, argSlots_at, List.getElem?_cons_succ, List.getElem?_cons_zero, Option.getD_some]; rfl
  clear hS
  generalize hH : Heap.new _ _ = H
  obtain ⟨ha, hb, hnx, hlH⟩ : H.get g.nx = .cells [.int .u64 n, a.v encK] .cl ∧ H.get (g.nx + 1) = .cells [.int .u64 n, b.v encK] .cl ∧ g.nx + 2 ≤ H.nx ∧ H.lo = g.lo := by
    subst hH
    exact ⟨by simp only [↓zp, zz, true_and, and_true, chkOk, Nat.reduceEqDiff, Nat.reduceAdd, Nat.reduceSub, Nat.reduceMul, Nat.reduceLT, Nat.reduceLeDiff, Int.reduceLT, Int.reduceLE, Int.reduceEq, Int.reduceAdd, Int.reduceNeg, if_false, if_true, reduceIte, List.getElem?_cons_succ, List.getElem?_cons_zero, Option.getD_some, r_mv, r_pick, r_box, r_alloc, r_un, r_eqb, r_ext, r_mkf, r_cnv, r_st, r_nck, r_ix, r_iaa, takeN, List.cons_append, List.nil_append, VE.store, over, cellsAt, VE.part, Option.map_some, Option.bind_some, blkX, gEval, cond_true, cond_false, r_build, r_bsl, fill, VE.unOp, r_bin, List.drop_zero, List.drop_succ_cons, resOf, resVs, resV, List.length_cons, List.length_nil, reduceCtorEq, or_true, true_or, false_or, or_false, eq_self, exists_eq_left', Option.some.injEq], by simp only [↓zp, zz, true_and, and_true, chkOk, Nat.reduceEqDiff, Nat.reduceAdd, Nat.reduceSub, Nat.reduceMul, Nat.reduceLT, Nat.reduceLeDiff, Int.reduceLT, Int.reduceLE, Int.reduceEq, Int.reduceAdd, Int.reduceNeg, if_false, if_true, reduceIte, List.getElem?_cons_succ, List.getElem?_cons_zero, Option.getD_some, r_mv, r_pick, r_box, r_alloc, r_un, r_eqb, r_ext, r_mkf, r_cnv, r_st, r_nck, r_ix, r_iaa, takeN, List.cons_append, List.nil_append, VE.store, over, cellsAt, VE.part, Option.map_some, Option.bind_some, blkX, gEval, cond_true, cond_false, r_build, r_bsl, fill, VE.unOp, r_bin, List.drop_zero, List.drop_succ_cons, resOf, resVs, resV, List.length_cons, List.length_nil, reduceCtorEq, or_true, true_or, false_or, or_false, eq_self, exists_eq_left', Option.some.injEq], by simp only [Heap.new_nx]; omega, rfl⟩
  clear hH
  refine loop_ind (fun m s h => inv11 a b g.nx [] [] H m s h) ?_ a.l.length ⟨0, by omega, by omega, b2, b3, b5, Kp.refl H⟩
  rintro m s h ⟨k, hk', hm, c2', c3, c5, kh⟩
  have hga : h.get g.nx = .cells [.int .u64 n, a.v encK] .cl := by rw [kh.get _ (by omega), ha]
  have hgb : h.get (g.nx + 1) = .cells [.int .u64 n, b.v encK] .cl := by rw [kh.get _ (by omega), hb]
  by_cases hlt : k < a.l.length
  case neg =>
    have hlt' : ¬ ((k : Int) < (a.l.length : Int)) := by omega
    simp only [↓zp, zz, true_and, and_true, chkOk, Nat.reduceEqDiff, Nat.reduceAdd, Nat.reduceSub, Nat.reduceMul, Nat.reduceLT, Nat.reduceLeDiff, Int.reduceLT, Int.reduceLE, Int.reduceEq, Int.reduceAdd, Int.reduceNeg, if_false, if_true, reduceIte, List.getElem?_cons_succ, List.getElem?_cons_zero, Option.getD_some, r_mv, r_pick, r_box, r_alloc, r_un, r_eqb, r_ext, r_mkf, r_cnv, r_st, r_nck, r_ix, r_iaa, takeN, List.cons_append, List.nil_append, VE.store, over, cellsAt, VE.part, Option.map_some, Option.bind_some, blkX, gEval, cond_true, cond_false, r_build, r_bsl, fill, VE.unOp, r_bin, List.drop_zero, List.drop_succ_cons, resOf, resVs, resV, List.length_cons, List.length_nil, reduceCtorEq, or_true, true_or, false_or, or_false, eq_self, exists_eq_left', Option.some.injEq, c2', c3, c5, hga, hgb, r_len_v, hlt', frzB]
  have hlt' : (k : Int) < (a.l.length : Int) := by omega
  have hltb : k < b.l.length := by rw [← al.1]; exact hlt
  have ws := wr_succ (k := k) (by omega)
  have hx1 := kh.nx
  have hx2 := kh.lo
  have hl0 : ¬ (h.nx < h.lo) := by omega
  have hl1 : ¬ (h.nx + 1 < h.lo) := by omega
  have ne1 : ¬ g.nx = h.nx := by omega
  have ne2 : ¬ g.nx + 1 = h.nx := by omega
  have ia1 : ∀ h, r_ia 27 (a.v encK) (.int .i64 (k : Int)) h = some (.iptr (encK a.l[k] ++ (a.l.drop (k + 1)).flatMap encK), h) := fun h => r_ia_v encK_len (by decide) hlt rfl
  have ia2 : ∀ h, r_ia 27 (b.v encK) (.int .i64 (k : Int)) h = some (.iptr (encK b.l[k] ++ (b.l.drop (k + 1)).flatMap encK), h) := fun h => r_ia_v encK_len (by decide) hltb rfl
  obtain ⟨s1, s2, s3, s4⟩ := al.2 k hlt hltb
  have shk := sh _ (List.getElem_mem hlt)
  have sm := shk.small
  have sa := fun h => sameA_spec h1 h2 a.l[k].a b.l[k].a h sm.u sm.e sm.r
  have s1' := eq_true s1
  have s2' := eq_true s2
  have s4' := eq_true s4
  simp only [encA] at sa
  simp only [↓zp, zz, true_and, and_true, chkOk, Nat.reduceEqDiff, Nat.reduceAdd, Nat.reduceSub, Nat.reduceMul, Nat.reduceLT, Nat.reduceLeDiff, Int.reduceLT, Int.reduceLE, Int.reduceEq, Int.reduceAdd, Int.reduceNeg, if_false, if_true, reduceIte, List.getElem?_cons_succ, List.getElem?_cons_zero, Option.getD_some, r_mv, r_pick, r_box, r_alloc, r_un, r_eqb, r_ext, r_mkf, r_cnv, r_st, r_nck, r_ix, r_iaa, takeN, List.cons_append, List.nil_append, VE.store, over, cellsAt, VE.part, Option.map_some, Option.bind_some, blkX, gEval, cond_true, cond_false, r_build, r_bsl, fill, VE.unOp, r_bin, List.drop_zero, List.drop_succ_cons, resOf, resVs, resV, List.length_cons, List.length_nil, reduceCtorEq, or_true, true_or, false_or, or_false, eq_self, exists_eq_left', Option.some.injEq, c2', c3, c5, hga, hgb, r_len_v, hlt', hl0, hl1, ne1, ne2, ia1, ia2, encK, encA, s1', s2', s3, eqb_refl, m1, sa, s4', ws, apartV]
  refine ⟨_, by omega, k + 1, by omega, rfl, by simp only [Slots.at_set, Nat.reduceEqDiff, if_false, if_true, reduceIte, argSlots_at, List.getElem?_cons_succ, List.getElem?_cons_zero, Option.getD_some, c2'], by simp only [Slots.at_set, Nat.reduceEqDiff, if_false, if_true, reduceIte, argSlots_at, List.getElem?_cons_succ, List.getElem?_cons_zero, Option.getD_some, c3], by simp only [Slots.at_set, Nat.reduceEqDiff, if_false, if_true, reduceIte, argSlots_at, List.getElem?_cons_succ, List.getElem?_cons_zero, Option.getD_some], ?_⟩
  exact (((kh.new _).new _).set _ (by omega)).set _ (by omega)
end
end Go.VE.LB
