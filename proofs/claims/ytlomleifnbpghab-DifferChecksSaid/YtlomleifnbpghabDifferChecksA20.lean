/- What the functions of the law DifferChecks compute, on typed arguments (part 20). -/
import Derived.Test.YtlomleifnbpghabDifferChecksA19
set_option linter.all false
namespace Go.VE.LB
open Go Go.VE Classical
set_option maxRecDepth 100000
set_option maxHeartbeats 4000000
set_option linter.all false
theorem wru {k : Nat} (h : k < 16) : wr .u32 ((k : Int) + 1) = ((k + 1 : Nat) : Int) := by
  revert k
  decide
noncomputable def J (d e : List Lack) : List Lack := (List.range' 0 16).filterMap (pick d e)
noncomputable def joinE (nd : Int) (d : List Lack) (ne : Int) (e : List Lack) : Int := if chkD nd d = 0 then (if chkD ne e = 0 then (if chkD ne (J d e) = 0 then 0 else 36) else chkD ne e) else chkD nd d
/-- what a join gives -/
def JoinIs (nd : Int) (d : List Lack) (ne : Int) (e : List Lack) (r : V) : Prop :=
  ∃ (no : Int) (o : Sl Lack), r = .tup [.agg [.int .u64 no, o.v encK], .int .i64 (joinE nd d ne e)] ∧ ((joinE nd d ne e = 0 ∧ no = ne ∧ AllK (J d e) o.l) ∨ (joinE nd d ne e ≠ 0 ∧ no = 0 ∧ o.l = []))
theorem ordK_set {bo t : Nat} {now : Int} {h h' : Heap} {v v' : V} {l : List Lack} (o1 : h.get bo = .cells [.int .u64 now, v] (.ct t)) (o3 : h.lo ≤ bo) (o4 : bo < h.nx) (e2 : Ext h h') (e3 : Acc encK 27 h' v' l) :
    OrdK bo t now (h'.set bo (.cells [.int .u64 now, v'] (.ct t))) l ∧ ExtB bo h (h'.set bo (.cells [.int .u64 now, v'] (.ct t))) := by
  have hbo : h'.get bo = .cells [.int .u64 now, v] (.ct t) := by rw [e2.get bo o4 (by rw [o1]; intro cs q; cases q), o1]
  refine ⟨⟨v', by rw [Heap.get_set, if_pos rfl], e3.keep rfl (by simp [Heap.set]) (fun b cs hb q => by rw [Heap.get_set, if_neg (fun e => by subst e; rw [hbo] at q; cases q)]), by show h'.lo ≤ bo; rw [e2.lo]; exact o3, Nat.lt_of_lt_of_le o4 e2.nx⟩, ⟨e2.lo, e2.nx, fun b hb hnb hq => by rw [Heap.get_set, if_neg hnb, e2.get b hb hq]⟩⟩
theorem range_snoc (k : Nat) : List.range' 0 (k + 1) = List.range' 0 k ++ [k] := by
  rw [List.range'_1_concat, Nat.zero_add]
theorem J_len (d e : List Lack) (k : Nat) : ((List.range' 0 k).filterMap (pick d e)).length ≤ k := by
  refine Nat.le_trans (List.length_filterMap_le _ _) ?_
  simp
theorem fzJ {h : Heap} {base : Nat} {now : Int} {v v' : V} {e : Int} (f : FzV h base 800000 v v') : frz frzFuel h base false (.tup [.agg [.int .u64 now, v], .int .i64 e]) = some (.tup [.agg [.int .u64 now, v'], .int .i64 e]) := by
  have z : FzL h base 800000 [] [] := fun n hn => FzL.nil n (by omega)
  have q := FzV.agg (FzL.cons (v := .int .u64 now) (.scal rfl) (FzL.cons f z (by omega)) (by omega))
  have q2 : FzL h base 800003 [.int .i64 e] [.int .i64 e] := fun n hn => FzL.cons (.scal rfl) z (by omega) n (by omega)
  exact (FzV.tup (FzL.cons q q2 (by omega))) frzFuel (by show _ ≤ 1000000; omega)
section
variable {vp : Nat → Option VFn}
def inv6 (nd : Int) (d : Sl Lack) (ne : Int) (e : Sl Lack) (b t1 : Nat) (lo : Nat) (m : Nat) (s : Slots) (h : Heap) : Prop :=
  ∃ k, k ≤ 16 ∧ m = 16 - k ∧ s.at 2 = .ptr b 0 ∧ s.at 3 = .ptr (b + 1) 0 ∧ s.at 4 = .ptr (b + 2) 0 ∧ s.at 6 = .ptr (b + 3) 0 ∧ s.at 7 = .int .u32 (k : Int) ∧
    (h.get b = .cells [.int .u64 nd, d.v encK] .cl ∧ h.get (b + 1) = .cells [.int .u64 ne, e.v encK] .cl ∧ h.get (b + 2) = .cells [.int .u64 0, .nils] (.ct t1) ∧ h.lo = lo ∧ b + 4 ≤ h.nx) ∧
    ∃ l, OrdK (b + 3) t1 ne h l ∧ AllK ((List.range' 0 k).filterMap (pick d.l e.l)) l
theorem joinR_spec {f a0 b0 w0 t1 : Nat} (hf : vp f = some (B_spigotref34_Join a0 b0 w0 t1)) (ma : modeOf vp a0 = some 1) (mb : modeOf vp b0 = some 1) (mw : modeOf vp w0 = some 1)
    (chk : ∀ (now : Int) (v : V) (l : List Lack) (h : Heap), Rd encK 27 h v l → (∀ x ∈ l, Short x.a) → l.length < 4611686018427387904 → callRes vp a0 [.agg [.int .u64 now, v]] h = some (.int .i64 (chkD now l), h))
    (hat : ∀ (now : Int) (c : Sl Lack) (t : Int) (h : Heap), c.l.length < 4611686018427387904 → callRes vp b0 [.agg [.int .u64 now, c.v encK], .int .u32 t] h = some (.int .i64 (fidx (isT t) c.l), h))
    (htw : ∀ (x : Lack), Short x.a → ∀ h, ∃ y, SameA x.a y ∧ callRes vp w0 [.agg (encK x)] h = some (.agg (encK ⟨x.t, x.e, x.is, y, x.ok⟩), h))
    (nd : Int) (d : Sl Lack) (ne : Int) (e : Sl Lack) (h : Heap) (shd : ∀ x ∈ d.l, Short x.a) (she : ∀ x ∈ e.l, Short x.a) (hnd : d.l.length ≤ 1000) (hne : e.l.length ≤ 1000) :
    ∃ r, callRes vp f [.agg [.int .u64 nd, d.v encK], .agg [.int .u64 ne, e.v encK]] h = some (r, h) ∧ JoinIs nd d.l ne e.l r := by
  have cd := fun h => chk nd (d.v encK) d.l h (Rd.sl d) shd (by omega)
  have ce := fun h => chk ne (e.v encK) e.l h (Rd.sl e) she (by omega)
  refine res_pure_ex hf rfl rfl (fun g hg => ?_)
  have hlo := hlo hg
  have hge : g.lo = g.nx := by
    rcases hg with ⟨rfl, _⟩ | ⟨e1, e2, _⟩
    · rfl
    · omega
  have hl : ∀ i, ¬ (g.nx + i < g.lo) := fun i => by omega
  unfold B_spigotref34_Join
  by_cases q1 : chkD nd d.l = 0
  case neg =>
    have je : joinE nd d.l ne e.l = chkD nd d.l := by unfold joinE; rw [if_neg q1]
    simp only [↓zp, zz, true_and, and_true, chkOk, Nat.reduceEqDiff, Nat.reduceAdd, Nat.reduceSub, Nat.reduceMul, Nat.reduceLT, Nat.reduceLeDiff, Int.reduceLT, Int.reduceLE, Int.reduceEq, Int.reduceAdd, Int.reduceNeg, if_false, if_true, reduceIte, List.getElem?_cons_succ, List.getElem?_cons_zero, Option.getD_some, r_mv, r_pick, r_box, r_alloc, r_un, r_eqb, r_ext, r_mkf, r_cnv, r_st, r_nck, r_ix, r_iaa, takeN, List.cons_append, List.nil_append, VE.store, over, cellsAt, VE.part, Option.map_some, Option.bind_some, blkX, gEval, cond_true, cond_false, r_build, r_bsl, fill, VE.unOp, r_bin, List.drop_zero, List.drop_succ_cons, resOf, resVs, resV, List.length_cons, List.length_nil, reduceCtorEq, or_true, true_or, false_or, or_false, eq_self, exists_eq_left', Option.some.injEq, ma, cd, q1, hl]
    exact ⟨_, rfl, 0, .nil, by rw [je]; rfl, .inr ⟨by rw [je]; exact q1, rfl, rfl⟩⟩
  by_cases q2 : chkD ne e.l = 0
  case neg =>
    have je : joinE nd d.l ne e.l = chkD ne e.l := by unfold joinE; rw [if_pos q1, if_neg q2]
    simp only [↓zp, zz, true_and, and_true, chkOk, Nat.reduceEqDiff, Nat.reduceAdd, Nat.reduceSub, Nat.reduceMul, Nat.reduceLT, Nat.reduceLeDiff, Int.reduceLT, Int.reduceLE, Int.reduceEq, Int.reduceAdd, Int.reduceNeg, if_false, if_true, reduceIte, List.getElem?_cons_succ, List.getElem?_cons_zero, Option.getD_some, r_mv, r_pick, r_box, r_alloc, r_un, r_eqb, r_ext, r_mkf, r_cnv, r_st, r_nck, r_ix, r_iaa, takeN, List.cons_append, List.nil_append, VE.store, over, cellsAt, VE.part, Option.map_some, Option.bind_some, blkX, gEval, cond_true, cond_false, r_build, r_bsl, fill, VE.unOp, r_bin, List.drop_zero, List.drop_succ_cons, resOf, resVs, resV, List.length_cons, List.length_nil, reduceCtorEq, or_true, true_or, false_or, or_false, eq_self, exists_eq_left', Option.some.injEq, ma, cd, ce, q1, q2, hl]
    exact ⟨_, rfl, 0, .nil, by rw [je]; rfl, .inr ⟨by rw [je]; exact q2, rfl, rfl⟩⟩
  simp only [↓zp, zz, true_and, and_true, chkOk, Nat.reduceEqDiff, Nat.reduceAdd, Nat.reduceSub, Nat.reduceMul, Nat.reduceLT, Nat.reduceLeDiff, Int.reduceLT, Int.reduceLE, Int.reduceEq, Int.reduceAdd, Int.reduceNeg, if_false, if_true, reduceIte, List.getElem?_cons_succ, List.getElem?_cons_zero, Option.getD_some, r_mv, r_pick, r_box, r_alloc, r_un, r_eqb, r_ext, r_mkf, r_cnv, r_st, r_nck, r_ix, r_iaa, takeN, List.cons_append, List.nil_append, VE.store, over, cellsAt, VE.part, Option.map_some, Option.bind_some, blkX, gEval, cond_true, cond_false, r_build, r_bsl, fill, VE.unOp, r_bin, List.drop_zero, List.drop_succ_cons, resOf, resVs, resV, List.length_cons, List.length_nil, reduceCtorEq, or_true, true_or, false_or, or_false, eq_self, exists_eq_left', Option.some.injEq, ma, cd, ce, q1, q2, hl]
  generalize hS : Tr.set _ 7 _ = S
  have b2 : Slots.at S 2 = .ptr g.nx 0 := by rw [← hS]; simp only [Slots.at_set, Nat.reduceEqDiff, if_false, if_true, reduceIte, argSlots_at, List.getElem?_cons_succ, List.getElem?_cons_zero, Option.getD_some]
  have b3 : Slots.at S 3 = .ptr (g.nx + 1) 0 := by rw [← hS]; simp only [Slots.at_set, Nat.reduceEqDiff, if_false, if_true, reduceIte, argSlots_at, List.getElem?_cons_succ, List.getElem?_cons_zero, Option.getD_some]
  have b4 : Slots.at S 4 = .ptr (g.nx + 2) 0 := by rw [← hS]; simp only [Slots.at_set, Nat.reduceEqDiff, if_false, if_true, reduceIte, argSlots_at, List.getElem?_cons_succ, List.getElem?_cons_zero, Option.getD_some]
  have b6 : Slots.at S 6 = .ptr (g.nx + 3) 0 := by rw [← hS]; simp only [Slots.at_set, Nat.reduceEqDiff, if_false, if_true, reduceIte, argSlots_at, List.getElem?_cons_succ, List.getElem?_cons_zero, Option.getD_some]
  have b7 : Slots.at S 7 = .int .u32 ((0 : Nat) : Int) := by rw [← hS]; simp only [Slots.at_set, Nat.reduceEqDiff, if_false, if_true, reduceIte, argSlots_at, List.getElem?_cons_succ, List.getElem?_cons_zero, Option.getD_some]; rfl
  clear hS
  generalize hH : Heap.set _ _ _ = H
  have hi : (H.get g.nx = .cells [.int .u64 nd, d.v encK] .cl ∧ H.get (g.nx + 1) = .cells [.int .u64 ne, e.v encK] .cl ∧ H.get (g.nx + 2) = .cells [.int .u64 0, .nils] (.ct t1) ∧ H.lo = g.lo ∧ g.nx + 4 ≤ H.nx) ∧ ∃ l, OrdK (g.nx + 3) t1 ne H l ∧ AllK ((List.range' 0 0).filterMap (pick d.l e.l)) l := by
    subst hH
    refine ⟨⟨by simp only [↓zp, zz, true_and, and_true, chkOk, Nat.reduceEqDiff, Nat.reduceAdd, Nat.reduceSub, Nat.reduceMul, Nat.reduceLT, Nat.reduceLeDiff, Int.reduceLT, Int.reduceLE, Int.reduceEq, Int.reduceAdd, Int.reduceNeg, if_false, if_true, reduceIte, List.getElem?_cons_succ, List.getElem?_cons_zero, Option.getD_some, r_mv, r_pick, r_box, r_alloc, r_un, r_eqb, r_ext, r_mkf, r_cnv, r_st, r_nck, r_ix, r_iaa, takeN, List.cons_append, List.nil_append, VE.store, over, cellsAt, VE.part, Option.map_some, Option.bind_some, blkX, gEval, cond_true, cond_false, r_build, r_bsl, fill, VE.unOp, r_bin, List.drop_zero, List.drop_succ_cons, resOf, resVs, resV, List.length_cons, List.length_nil, reduceCtorEq, or_true, true_or, false_or, or_false, eq_self, exists_eq_left', Option.some.injEq], by simp only [↓zp, zz, true_and, and_true, chkOk, Nat.reduceEqDiff, Nat.reduceAdd, Nat.reduceSub, Nat.reduceMul, Nat.reduceLT, Nat.reduceLeDiff, Int.reduceLT, Int.reduceLE, Int.reduceEq, Int.reduceAdd, Int.reduceNeg, if_false, if_true, reduceIte, List.getElem?_cons_succ, List.getElem?_cons_zero, Option.getD_some, r_mv, r_pick, r_box, r_alloc, r_un, r_eqb, r_ext, r_mkf, r_cnv, r_st, r_nck, r_ix, r_iaa, takeN, List.cons_append, List.nil_append, VE.store, over, cellsAt, VE.part, Option.map_some, Option.bind_some, blkX, gEval, cond_true, cond_false, r_build, r_bsl, fill, VE.unOp, r_bin, List.drop_zero, List.drop_succ_cons, resOf, resVs, resV, List.length_cons, List.length_nil, reduceCtorEq, or_true, true_or, false_or, or_false, eq_self, exists_eq_left', Option.some.injEq], by simp only [↓zp, zz, true_and, and_true, chkOk, Nat.reduceEqDiff, Nat.reduceAdd, Nat.reduceSub, Nat.reduceMul, Nat.reduceLT, Nat.reduceLeDiff, Int.reduceLT, Int.reduceLE, Int.reduceEq, Int.reduceAdd, Int.reduceNeg, if_false, if_true, reduceIte, List.getElem?_cons_succ, List.getElem?_cons_zero, Option.getD_some, r_mv, r_pick, r_box, r_alloc, r_un, r_eqb, r_ext, r_mkf, r_cnv, r_st, r_nck, r_ix, r_iaa, takeN, List.cons_append, List.nil_append, VE.store, over, cellsAt, VE.part, Option.map_some, Option.bind_some, blkX, gEval, cond_true, cond_false, r_build, r_bsl, fill, VE.unOp, r_bin, List.drop_zero, List.drop_succ_cons, resOf, resVs, resV, List.length_cons, List.length_nil, reduceCtorEq, or_true, true_or, false_or, or_false, eq_self, exists_eq_left', Option.some.injEq], rfl, by simp only [Heap.set_nx, Heap.new_nx]; omega⟩, [], ⟨.nils, by simp only [↓zp, zz, true_and, and_true, chkOk, Nat.reduceEqDiff, Nat.reduceAdd, Nat.reduceSub, Nat.reduceMul, Nat.reduceLT, Nat.reduceLeDiff, Int.reduceLT, Int.reduceLE, Int.reduceEq, Int.reduceAdd, Int.reduceNeg, if_false, if_true, reduceIte, List.getElem?_cons_succ, List.getElem?_cons_zero, Option.getD_some, r_mv, r_pick, r_box, r_alloc, r_un, r_eqb, r_ext, r_mkf, r_cnv, r_st, r_nck, r_ix, r_iaa, takeN, List.cons_append, List.nil_append, VE.store, over, cellsAt, VE.part, Option.map_some, Option.bind_some, blkX, gEval, cond_true, cond_false, r_build, r_bsl, fill, VE.unOp, r_bin, List.drop_zero, List.drop_succ_cons, resOf, resVs, resV, List.length_cons, List.length_nil, reduceCtorEq, or_true, true_or, false_or, or_false, eq_self, exists_eq_left', Option.some.injEq], Acc.nil, by simp only [Heap.set_lo, Heap.new_lo]; omega, by simp only [Heap.set_nx, Heap.new_nx]; omega⟩, AllK.refl _⟩
  clear hH
  refine loop_ind (fun m s h => inv6 nd d ne e g.nx t1 g.lo m s h) ?_ 16 ⟨0, by omega, by omega, b2, b3, b4, b6, b7, hi⟩
  rintro m s h ⟨k, hk, hm, c2, c3, c4, c6, c7, ⟨hg0, hg1, hg2, hgl, hgn⟩, l, ⟨v, o1, o2, o3, o4⟩, al⟩
  have hl3 : ∀ i, ¬ (g.nx + i < h.lo) := fun i => by omega
  by_cases hlt : k < 16
  case neg =>
    have hlt' : ¬ ((k : Int) < 16) := by omega
    obtain rfl : k = 16 := by omega
    have lj : l.length ≤ 16 := by rw [← al.1]; exact J_len _ _ _
    have shl : ∀ x ∈ l, Short x.a := fun x hx => by
      obtain ⟨j, hj, rfl⟩ := List.mem_iff_getElem.1 hx
      have sk := al.2 j (by rw [al.1]; exact hj) hj
      have hm := List.getElem_mem (l := (List.range' 0 16).filterMap (pick d.l e.l)) (by rw [al.1]; exact hj)
      obtain ⟨t, _, ht⟩ := List.mem_filterMap.1 hm
      have s0 : Short (((List.range' 0 16).filterMap (pick d.l e.l))[j]'(by rw [al.1]; exact hj)).a := by
        unfold pick at ht
        split at ht
        · rename_i y hy
          cases ht
          exact she _ (List.mem_of_find?_eq_some hy)
        · exact shd _ (List.mem_of_find?_eq_some ht)
      exact ⟨by rw [← sk.2.2.2.us]; exact s0.u, by rw [← sk.2.2.2.en]; exact s0.e, by rw [← sk.2.2.2.len]; exact s0.r⟩
    have cj := chk ne v l h (Acc.rd o2) shl (by omega)
    have cs : chkD ne (J d.l e.l) = chkD ne l := chkD_same al ne
    by_cases q3 : chkD ne l = 0
    case neg =>
      have je : joinE nd d.l ne e.l = 36 := by unfold joinE; rw [if_pos q1, if_pos q2, if_neg (by rw [cs]; exact q3)]
      simp only [↓zp, zz, true_and, and_true, chkOk, Nat.reduceEqDiff, Nat.reduceAdd, Nat.reduceSub, Nat.reduceMul, Nat.reduceLT, Nat.reduceLeDiff, Int.reduceLT, Int.reduceLE, Int.reduceEq, Int.reduceAdd, Int.reduceNeg, if_false, if_true, reduceIte, List.getElem?_cons_succ, List.getElem?_cons_zero, Option.getD_some, r_mv, r_pick, r_box, r_alloc, r_un, r_eqb, r_ext, r_mkf, r_cnv, r_st, r_nck, r_ix, r_iaa, takeN, List.cons_append, List.nil_append, VE.store, over, cellsAt, VE.part, Option.map_some, Option.bind_some, blkX, gEval, cond_true, cond_false, r_build, r_bsl, fill, VE.unOp, r_bin, List.drop_zero, List.drop_succ_cons, resOf, resVs, resV, List.length_cons, List.length_nil, reduceCtorEq, or_true, true_or, false_or, or_false, eq_self, exists_eq_left', Option.some.injEq, c2, c3, c4, c6, c7, hlt', o1, ma, cj, q3, hg2, hl3]
      exact ⟨_, rfl, 0, .nil, by rw [je]; rfl, .inr ⟨by rw [je]; decide, rfl, rfl⟩⟩
    have je : joinE nd d.l ne e.l = 0 := by unfold joinE; rw [if_pos q1, if_pos q2, if_pos (by rw [cs]; exact q3)]
    have hbase : ∀ (x : Blk), ∃ o : Sl Lack, o.l = l ∧ FzV (h.set (g.nx + 2) x) g.nx (l.length * 27 + 4) v (o.v encK) := fun x => by
      rcases o2 with ⟨rfl, rfl⟩ | ⟨b, rfl, p1, p2, p3, p4⟩
      · exact ⟨.nil, rfl, FzV.le (.scal rfl) (by omega)⟩
      · exact FzV.row encK_len encK_scal (by omega) rfl (by rw [Heap.get_set, if_neg (fun q => by subst q; have := hg2.symm.trans p3; injection this with _ q; cases q)]; exact p3)
    obtain ⟨o, ol, of⟩ := hbase (.cells [.int .u64 ne, v] (.ct t1))
    simp only [↓zp, zz, true_and, and_true, chkOk, Nat.reduceEqDiff, Nat.reduceAdd, Nat.reduceSub, Nat.reduceMul, Nat.reduceLT, Nat.reduceLeDiff, Int.reduceLT, Int.reduceLE, Int.reduceEq, Int.reduceAdd, Int.reduceNeg, if_false, if_true, reduceIte, List.getElem?_cons_succ, List.getElem?_cons_zero, Option.getD_some, r_mv, r_pick, r_box, r_alloc, r_un, r_eqb, r_ext, r_mkf, r_cnv, r_st, r_nck, r_ix, r_iaa, takeN, List.cons_append, List.nil_append, VE.store, over, cellsAt, VE.part, Option.map_some, Option.bind_some, blkX, gEval, cond_true, cond_false, r_build, r_bsl, fill, VE.unOp, r_bin, List.drop_zero, List.drop_succ_cons, resOf, resVs, resV, List.length_cons, List.length_nil, reduceCtorEq, or_true, true_or, false_or, or_false, eq_self, exists_eq_left', Option.some.injEq, c2, c3, c4, c6, c7, hlt', o1, ma, cj, q3, hg2, hl3, Acc.oneK o2]
    exact ⟨_, fzJ (of.le (by omega)), ne, o, by rw [je], .inl ⟨je, rfl, by rw [ol]; exact al⟩⟩
  have hlt' : (k : Int) < 16 := by omega
  have ws := wru hlt
  have ad := fun h => hat nd d (k : Int) h (by omega)
  have ae := fun h => hat ne e (k : Int) h (by omega)
  have ll : l.length ≤ k := by rw [← al.1]; exact J_len _ _ _
  rcases fidx_find (q := isT (k : Int)) e.l with ⟨en, ef⟩ | ⟨j, hj, ej, ef⟩
  case inr =>
    have pk : pick d.l e.l k = some e.l[j] := by simp only [pick, ef]
    have ae' := ae
    rw [ej] at ae'
    have h0j : (0 : Int) ≤ (j : Int) := by omega
    have ia1 : ∀ h, r_ia 27 (e.v encK) (.int .i64 (j : Int)) h = some (.iptr (encK e.l[j] ++ (e.l.drop (j + 1)).flatMap encK), h) := fun h => r_ia_v encK_len (by decide) hj rfl
    obtain ⟨y, sy, ey⟩ := htw e.l[j] (she _ (List.getElem_mem hj)) h
    obtain ⟨v', h', e1, e2, e3⟩ := pushK o2 (by omega) ⟨e.l[j].t, e.l[j].e, e.l[j].is, y, e.l[j].ok⟩ (by omega)
    have e3' : ∃ b1 n1, v' = .sl b1 0 n1 n1 27 := by
      rcases e3 with ⟨_, q⟩ | ⟨b1, q, _⟩
      · simp at q
      · exact ⟨b1, _, q⟩
    obtain ⟨b1, n1, rfl⟩ := e3'
    have hbo : h'.get (g.nx + 3) = .cells [.int .u64 ne, v] (.ct t1) := by rw [e2.get _ o4 (by rw [o1]; intro cs q; cases q), o1]
    have hlo1 : ¬ (g.nx + 3 < h'.lo) := by rw [e2.lo]; omega
    obtain ⟨z1, z2⟩ := ordK_set o1 o3 o4 e2 e3
    have al2 : AllK ((List.range' 0 (k + 1)).filterMap (pick d.l e.l)) (l ++ [⟨e.l[j].t, e.l[j].e, e.l[j].is, y, e.l[j].ok⟩]) := by
      rw [range_snoc, List.filterMap_append, List.filterMap_cons, pk]
      exact al.snoc ⟨rfl, rfl, rfl, sy⟩
    simp only [encK, encA] at ey e1
    simp only [↓zp, zz, true_and, and_true, chkOk, Nat.reduceEqDiff, Nat.reduceAdd, Nat.reduceSub, Nat.reduceMul, Nat.reduceLT, Nat.reduceLeDiff, Int.reduceLT, Int.reduceLE, Int.reduceEq, Int.reduceAdd, Int.reduceNeg, if_false, if_true, reduceIte, List.getElem?_cons_succ, List.getElem?_cons_zero, Option.getD_some, r_mv, r_pick, r_box, r_alloc, r_un, r_eqb, r_ext, r_mkf, r_cnv, r_st, r_nck, r_ix, r_iaa, takeN, List.cons_append, List.nil_append, VE.store, over, cellsAt, VE.part, Option.map_some, Option.bind_some, blkX, gEval, cond_true, cond_false, r_build, r_bsl, fill, VE.unOp, r_bin, List.drop_zero, List.drop_succ_cons, resOf, resVs, resV, List.length_cons, List.length_nil, reduceCtorEq, or_true, true_or, false_or, or_false, eq_self, exists_eq_left', Option.some.injEq, c2, c3, c4, c6, c7, hlt', mb, ad, ae', h0j, hg0, hg1, o1, ia1, encK, encA, mw, ey, e1, hbo, hlo1, ws]
    exact ⟨_, by omega, k + 1, by omega, rfl, by simp only [Slots.at_set, Nat.reduceEqDiff, if_false, if_true, reduceIte, argSlots_at, List.getElem?_cons_succ, List.getElem?_cons_zero, Option.getD_some, c2], by simp only [Slots.at_set, Nat.reduceEqDiff, if_false, if_true, reduceIte, argSlots_at, List.getElem?_cons_succ, List.getElem?_cons_zero, Option.getD_some, c3], by simp only [Slots.at_set, Nat.reduceEqDiff, if_false, if_true, reduceIte, argSlots_at, List.getElem?_cons_succ, List.getElem?_cons_zero, Option.getD_some, c4], by simp only [Slots.at_set, Nat.reduceEqDiff, if_false, if_true, reduceIte, argSlots_at, List.getElem?_cons_succ, List.getElem?_cons_zero, Option.getD_some, c6], by simp only [Slots.at_set, Nat.reduceEqDiff, if_false, if_true, reduceIte, argSlots_at, List.getElem?_cons_succ, List.getElem?_cons_zero, Option.getD_some],
      ⟨by rw [z2.get _ (by omega) (by omega) (by rw [hg0]; intro cs q; cases q), hg0], by rw [z2.get _ (by omega) (by omega) (by rw [hg1]; intro cs q; cases q), hg1], by rw [z2.get _ (by omega) (by omega) (by rw [hg2]; intro cs q; cases q), hg2], z2.lo.trans hgl, Nat.le_trans hgn z2.nx⟩, _, z1, al2⟩
  have en' : ¬ 0 ≤ fidx (isT (k : Int)) e.l := by omega
  have ae' := ae
  rcases fidx_find (q := isT (k : Int)) d.l with ⟨dn, df⟩ | ⟨j, hj, ej, df⟩
  case inr =>
    have pk : pick d.l e.l k = some d.l[j] := by simp only [pick, ef, df]
    have ad' := ad
    rw [ej] at ad'
    have h0j : (0 : Int) ≤ (j : Int) := by omega
    have ia1 : ∀ h, r_ia 27 (d.v encK) (.int .i64 (j : Int)) h = some (.iptr (encK d.l[j] ++ (d.l.drop (j + 1)).flatMap encK), h) := fun h => r_ia_v encK_len (by decide) hj rfl
    obtain ⟨y, sy, ey⟩ := htw d.l[j] (shd _ (List.getElem_mem hj)) h
    obtain ⟨v', h', e1, e2, e3⟩ := pushK o2 (by omega) ⟨d.l[j].t, d.l[j].e, d.l[j].is, y, d.l[j].ok⟩ (by omega)
    have e3' : ∃ b1 n1, v' = .sl b1 0 n1 n1 27 := by
      rcases e3 with ⟨_, q⟩ | ⟨b1, q, _⟩
      · simp at q
      · exact ⟨b1, _, q⟩
    obtain ⟨b1, n1, rfl⟩ := e3'
    have hbo : h'.get (g.nx + 3) = .cells [.int .u64 ne, v] (.ct t1) := by rw [e2.get _ o4 (by rw [o1]; intro cs q; cases q), o1]
    have hlo1 : ¬ (g.nx + 3 < h'.lo) := by rw [e2.lo]; omega
    obtain ⟨z1, z2⟩ := ordK_set o1 o3 o4 e2 e3
    have al2 : AllK ((List.range' 0 (k + 1)).filterMap (pick d.l e.l)) (l ++ [⟨d.l[j].t, d.l[j].e, d.l[j].is, y, d.l[j].ok⟩]) := by
      rw [range_snoc, List.filterMap_append, List.filterMap_cons, pk]
      exact al.snoc ⟨rfl, rfl, rfl, sy⟩
    simp only [encK, encA] at ey e1
    simp only [↓zp, zz, true_and, and_true, chkOk, Nat.reduceEqDiff, Nat.reduceAdd, Nat.reduceSub, Nat.reduceMul, Nat.reduceLT, Nat.reduceLeDiff, Int.reduceLT, Int.reduceLE, Int.reduceEq, Int.reduceAdd, Int.reduceNeg, if_false, if_true, reduceIte, List.getElem?_cons_succ, List.getElem?_cons_zero, Option.getD_some, r_mv, r_pick, r_box, r_alloc, r_un, r_eqb, r_ext, r_mkf, r_cnv, r_st, r_nck, r_ix, r_iaa, takeN, List.cons_append, List.nil_append, VE.store, over, cellsAt, VE.part, Option.map_some, Option.bind_some, blkX, gEval, cond_true, cond_false, r_build, r_bsl, fill, VE.unOp, r_bin, List.drop_zero, List.drop_succ_cons, resOf, resVs, resV, List.length_cons, List.length_nil, reduceCtorEq, or_true, true_or, false_or, or_false, eq_self, exists_eq_left', Option.some.injEq, c2, c3, c4, c6, c7, hlt', mb, ae', en', ad', h0j, hg0, hg1, o1, ia1, encK, encA, mw, ey, e1, hbo, hlo1, ws]
    exact ⟨_, by omega, k + 1, by omega, rfl, by simp only [Slots.at_set, Nat.reduceEqDiff, if_false, if_true, reduceIte, argSlots_at, List.getElem?_cons_succ, List.getElem?_cons_zero, Option.getD_some, c2], by simp only [Slots.at_set, Nat.reduceEqDiff, if_false, if_true, reduceIte, argSlots_at, List.getElem?_cons_succ, List.getElem?_cons_zero, Option.getD_some, c3], by simp only [Slots.at_set, Nat.reduceEqDiff, if_false, if_true, reduceIte, argSlots_at, List.getElem?_cons_succ, List.getElem?_cons_zero, Option.getD_some, c4], by simp only [Slots.at_set, Nat.reduceEqDiff, if_false, if_true, reduceIte, argSlots_at, List.getElem?_cons_succ, List.getElem?_cons_zero, Option.getD_some, c6], by simp only [Slots.at_set, Nat.reduceEqDiff, if_false, if_true, reduceIte, argSlots_at, List.getElem?_cons_succ, List.getElem?_cons_zero, Option.getD_some],
      ⟨by rw [z2.get _ (by omega) (by omega) (by rw [hg0]; intro cs q; cases q), hg0], by rw [z2.get _ (by omega) (by omega) (by rw [hg1]; intro cs q; cases q), hg1], by rw [z2.get _ (by omega) (by omega) (by rw [hg2]; intro cs q; cases q), hg2], z2.lo.trans hgl, Nat.le_trans hgn z2.nx⟩, _, z1, al2⟩
  have dn' : ¬ 0 ≤ fidx (isT (k : Int)) d.l := by omega
  have pk : pick d.l e.l k = none := by simp only [pick, ef, df]
  simp only [↓zp, zz, true_and, and_true, chkOk, Nat.reduceEqDiff, Nat.reduceAdd, Nat.reduceSub, Nat.reduceMul, Nat.reduceLT, Nat.reduceLeDiff, Int.reduceLT, Int.reduceLE, Int.reduceEq, Int.reduceAdd, Int.reduceNeg, if_false, if_true, reduceIte, List.getElem?_cons_succ, List.getElem?_cons_zero, Option.getD_some, r_mv, r_pick, r_box, r_alloc, r_un, r_eqb, r_ext, r_mkf, r_cnv, r_st, r_nck, r_ix, r_iaa, takeN, List.cons_append, List.nil_append, VE.store, over, cellsAt, VE.part, Option.map_some, Option.bind_some, blkX, gEval, cond_true, cond_false, r_build, r_bsl, fill, VE.unOp, r_bin, List.drop_zero, List.drop_succ_cons, resOf, resVs, resV, List.length_cons, List.length_nil, reduceCtorEq, or_true, true_or, false_or, or_false, eq_self, exists_eq_left', Option.some.injEq, c2, c3, c4, c6, c7, hlt', mb, ad, ae', en', dn', hg0, hg1, ws]
  refine ⟨_, by omega, k + 1, by omega, rfl, by simp only [Slots.at_set, Nat.reduceEqDiff, if_false, if_true, reduceIte, argSlots_at, List.getElem?_cons_succ, List.getElem?_cons_zero, Option.getD_some, c2], by simp only [Slots.at_set, Nat.reduceEqDiff, if_false, if_true, reduceIte, argSlots_at, List.getElem?_cons_succ, List.getElem?_cons_zero, Option.getD_some, c3], by simp only [Slots.at_set, Nat.reduceEqDiff, if_false, if_true, reduceIte, argSlots_at, List.getElem?_cons_succ, List.getElem?_cons_zero, Option.getD_some, c4], by simp only [Slots.at_set, Nat.reduceEqDiff, if_false, if_true, reduceIte, argSlots_at, List.getElem?_cons_succ, List.getElem?_cons_zero, Option.getD_some, c6], by simp only [Slots.at_set, Nat.reduceEqDiff, if_false, if_true, reduceIte, argSlots_at, List.getElem?_cons_succ, List.getElem?_cons_zero, Option.getD_some], ⟨hg0, hg1, hg2, hgl, hgn⟩, l, ⟨v, o1, o2, o3, o4⟩, ?_⟩
  rw [range_snoc, List.filterMap_append, List.filterMap_cons, pk]
  simpa using al
end
end Go.VE.LB
