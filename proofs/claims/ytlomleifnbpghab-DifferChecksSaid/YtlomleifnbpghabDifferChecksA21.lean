/- What the functions of the law DifferChecks compute, on typed arguments (part 21). -/
import Derived.Test.YtlomleifnbpghabDifferChecksA20
import Derived.Test.YtlomleifnbpghabDifferChecksA16
set_option linter.all false
namespace Go.VE.LB
open Go Go.VE Classical
set_option maxRecDepth 100000
set_option maxHeartbeats 4000000
set_option linter.all false
theorem chkD_zero {now : Int} {l : List Lack} (h : chkD now l = 0) : DOk now l ∧ l.length ≤ 16 := by
  unfold chkD at h
  split at h
  · cases h
  · split at h
    · exact ⟨by assumption, by omega⟩
    · cases h
theorem shortJ {d e l : List Lack} (shd : ∀ x ∈ d, Short x.a) (she : ∀ x ∈ e, Short x.a) (al : AllK (J d e) l) : ∀ x ∈ l, Short x.a := fun x hx => by
  obtain ⟨j, hj, rfl⟩ := List.mem_iff_getElem.1 hx
  have sk := al.2 j (by rw [al.1]; exact hj) hj
  have hm := List.getElem_mem (l := (List.range' 0 16).filterMap (pick d e)) (by have := al.1; unfold J at this; rw [this]; exact hj)
  obtain ⟨t, _, ht⟩ := List.mem_filterMap.1 hm
  have s0 : Short (((List.range' 0 16).filterMap (pick d e))[j]'(by have := al.1; unfold J at this; rw [this]; exact hj)).a := by
    unfold pick at ht
    split at ht
    · rename_i y hy
      cases ht
      exact she _ (List.mem_of_find?_eq_some hy)
    · exact shd _ (List.mem_of_find?_eq_some ht)
  exact ⟨by rw [← sk.2.2.2.us]; exact s0.u, by rw [← sk.2.2.2.en]; exact s0.e, by rw [← sk.2.2.2.len]; exact s0.r⟩
section
variable {vp : Nat → Option VFn}
def inv5 (nd : Int) (d : Sl Lack) (ne : Int) (e : Sl Lack) (c13 b t1 : Nat) (lo : Nat) (m : Nat) (s : Slots) (h : Heap) : Prop :=
  ∃ i k, i ≤ d.l.length ∧ k ≤ e.l.length ∧ m = (d.l.length - i) + (e.l.length - k) ∧ s.at 2 = .ptr b 0 ∧ s.at 3 = .ptr (b + 1) 0 ∧ s.at 4 = .ptr (b + 2) 0 ∧ s.at 8 = .ptr (b + 3) 0 ∧ s.at 9 = .fn c13 [.ptr (b + 3) 0] ∧ s.at 10 = .int .i64 (i : Int) ∧ s.at 11 = .int .i64 (k : Int) ∧
    (h.get b = .cells [.int .u64 nd, d.v encK] .cl ∧ h.get (b + 1) = .cells [.int .u64 ne, e.v encK] .cl ∧ h.get (b + 2) = .cells [.int .u64 0, .nils] (.ct t1) ∧ h.lo = lo ∧ b + 4 ≤ h.nx) ∧
    ∃ l L, OrdK (b + 3) t1 ne h l ∧ AllK L l ∧ l.length ≤ i + k ∧ L ++ merge (d.l.drop i) (e.l.drop k) = merge d.l e.l
theorem joinP_spec {f a0 p0 t1 : Nat} (hf : vp f = some (B_differ_Join a0 p0 t1)) (ma : modeOf vp a0 = some 1)
    (chk : ∀ (now : Int) (v : V) (l : List Lack) (h : Heap), Rd encK 27 h v l → (∀ x ∈ l, Short x.a) → l.length < 4611686018427387904 → callRes vp a0 [.agg [.int .u64 now, v]] h = some (.int .i64 (chkD now l), h))
    (hput : ∀ (x : Lack), Short x.a → ∀ (bo t : Nat) (now : Int) (l : List Lack) (h : Heap), OrdK bo t now h l → (l.length + 1) * 256 ≤ 140737488355328 → ∃ y h', SameK x y ∧ callRes vp p0 [.agg (encK x), .ptr bo 0] h = some (.tup [], h') ∧ OrdK bo t now h' (l ++ [y]) ∧ ExtB bo h h')
    (nd : Int) (d : Sl Lack) (ne : Int) (e : Sl Lack) (h : Heap) (shd : ∀ x ∈ d.l, Short x.a) (she : ∀ x ∈ e.l, Short x.a) (hnd : d.l.length ≤ 1000) (hne : e.l.length ≤ 1000) :
    ∃ r, callRes vp f [.agg [.int .u64 nd, d.v encK], .agg [.int .u64 ne, e.v encK]] h = some (r, h) ∧ JoinIs nd d.l ne e.l r := by
  have cd := fun h => chk nd (d.v encK) d.l h (Rd.sl d) shd (by omega)
  have ce := fun h => chk ne (e.v encK) e.l h (Rd.sl e) she (by omega)
  refine res_pure_ex hf rfl rfl (fun g hg => ?_)
  have hlo := hlo hg
  have hge : g.lo = g.nx := by
    rcases hg with ⟨rfl, _⟩ | ⟨e1, e2, _⟩
    · rfl
    · omega
  have hl : ∀ i, ¬ (g.nx + i < g.lo) := fun i => by omega
  unfold B_differ_Join
  by_cases q1 : chkD nd d.l = 0
  case neg =>
    have je : joinE nd d.l ne e.l = chkD nd d.l := by unfold joinE; rw [if_neg q1]
    simp only [↓zp, zz, true_and, and_true, chkOk, Nat.reduceEqDiff, Nat.reduceAdd, Nat.reduceSub, Nat.reduceMul, Nat.reduceLT, Nat.reduceLeDiff, Int.reduceLT, Int.reduceLE, Int.reduceEq, Int.reduceAdd, Int.reduceNeg, if_false, if_true, reduceIte, List.getElem?_cons_succ, List.getElem?_cons_zero, Option.getD_some, r_mv, r_pick, r_box, r_alloc, r_un, r_eqb, r_ext, r_mkf, r_cnv, r_st, r_nck, r_ix, r_iaa, takeN, List.cons_append, List.nil_append, VE.store, over, cellsAt, VE.part, Option.map_some, Option.bind_some, blkX, gEval, cond_true, cond_false, r_build, r_bsl, fill, VE.unOp, r_bin, List.drop_zero, List.drop_succ_cons, resOf, resVs, resV, List.length_cons, List.length_nil, reduceCtorEq, or_true, true_or, false_or, or_false, eq_self, exists_eq_left', Option.some.injEq, ma, cd, q1, hl]
    exact ⟨_, rfl, 0, .nil, by rw [je]; rfl, .inr ⟨by rw [je]; exact q1, rfl, rfl⟩⟩
  by_cases q2 : chkD ne e.l = 0
  case neg =>
    have je : joinE nd d.l ne e.l = chkD ne e.l := by unfold joinE; rw [if_pos q1, if_neg q2]
    simp only [↓zp, zz, true_and, and_true, chkOk, Nat.reduceEqDiff, Nat.reduceAdd, Nat.reduceSub, Nat.reduceMul, Nat.reduceLT, Nat.reduceLeDiff, Int.reduceLT, Int.reduceLE, Int.reduceEq, Int.reduceAdd, Int.reduceNeg, if_false, if_true, reduceIte, List.getElem?_cons_succ, List.getElem?_cons_zero, Option.getD_some, r_mv, r_pick, r_box, r_alloc, r_un, r_eqb, r_ext, r_mkf, r_cnv, r_st, r_nck, r_ix, r_iaa, takeN, List.cons_append, List.nil_append, VE.store, over, cellsAt, VE.part, Option.map_some, Option.bind_some, blkX, gEval, cond_true, cond_false, r_build, r_bsl, fill, VE.unOp, r_bin, List.drop_zero, List.drop_succ_cons, resOf, resVs, resV, List.length_cons, List.length_nil, reduceCtorEq, or_true, true_or, false_or, or_false, eq_self, exists_eq_left', Option.some.injEq, ma, cd, ce, q1, q2, hl]
    exact ⟨_, rfl, 0, .nil, by rw [je]; rfl, .inr ⟨by rw [je]; exact q2, rfl, rfl⟩⟩
  have hJ : merge d.l e.l = J d.l e.l := merge_J (chkD_zero q1).1 (chkD_zero q2).1
  simp only [↓zp, zz, true_and, and_true, chkOk, Nat.reduceEqDiff, Nat.reduceAdd, Nat.reduceSub, Nat.reduceMul, Nat.reduceLT, Nat.reduceLeDiff, Int.reduceLT, Int.reduceLE, Int.reduceEq, Int.reduceAdd, Int.reduceNeg, if_false, if_true, reduceIte, List.getElem?_cons_succ, List.getElem?_cons_zero, Option.getD_some, r_mv, r_pick, r_box, r_alloc, r_un, r_eqb, r_ext, r_mkf, r_cnv, r_st, r_nck, r_ix, r_iaa, takeN, List.cons_append, List.nil_append, VE.store, over, cellsAt, VE.part, Option.map_some, Option.bind_some, blkX, gEval, cond_true, cond_false, r_build, r_bsl, fill, VE.unOp, r_bin, List.drop_zero, List.drop_succ_cons, resOf, resVs, resV, List.length_cons, List.length_nil, reduceCtorEq, or_true, true_or, false_or, or_false, eq_self, exists_eq_left', Option.some.injEq, ma, cd, ce, q1, q2, hl]
  generalize hS : Tr.set _ 11 _ = S
  have b2 : Slots.at S 2 = .ptr g.nx 0 := by rw [← hS]; simp only [Slots.at_set, Nat.reduceEqDiff, if_false, if_true, reduceIte, argSlots_at, List.getElem?_cons_succ, List.getElem?_cons_zero, Option.getD_some]
  have b3 : Slots.at S 3 = .ptr (g.nx + 1) 0 := by rw [← hS]; simp only [Slots.at_set, Nat.reduceEqDiff, if_false, if_true, reduceIte, argSlots_at, List.getElem?_cons_succ, List.getElem?_cons_zero, Option.getD_some]
  have b4 : Slots.at S 4 = .ptr (g.nx + 2) 0 := by rw [← hS]; simp only [Slots.at_set, Nat.reduceEqDiff, if_false, if_true, reduceIte, argSlots_at, List.getElem?_cons_succ, List.getElem?_cons_zero, Option.getD_some]
  have b8 : Slots.at S 8 = .ptr (g.nx + 3) 0 := by rw [← hS]; simp only [Slots.at_set, Nat.reduceEqDiff, if_false, if_true, reduceIte, argSlots_at, List.getElem?_cons_succ, List.getElem?_cons_zero, Option.getD_some]
  have b9 : Slots.at S 9 = .fn p0 [.ptr (g.nx + 3) 0] := by rw [← hS]; simp only [Slots.at_set, Nat.reduceEqDiff, if_false, if_true, reduceIte, argSlots_at, List.getElem?_cons_succ, List.getElem?_cons_zero, Option.getD_some]
  have b10 : Slots.at S 10 = .int .i64 ((0 : Nat) : Int) := by rw [← hS]; simp only [Slots.at_set, Nat.reduceEqDiff, if_false, if_true, reduceIte, argSlots_at, List.getElem?_cons_succ, List.getElem?_cons_zero, Option.getD_some]; rfl
  have b11 : Slots.at S 11 = .int .i64 ((0 : Nat) : Int) := by rw [← hS]; simp only [Slots.at_set, Nat.reduceEqDiff, if_false, if_true, reduceIte, argSlots_at, List.getElem?_cons_succ, List.getElem?_cons_zero, Option.getD_some]; rfl
  clear hS
  generalize hH : Heap.set _ _ _ = H
  have hi : (H.get g.nx = .cells [.int .u64 nd, d.v encK] .cl ∧ H.get (g.nx + 1) = .cells [.int .u64 ne, e.v encK] .cl ∧ H.get (g.nx + 2) = .cells [.int .u64 0, .nils] (.ct t1) ∧ H.lo = g.lo ∧ g.nx + 4 ≤ H.nx) ∧ OrdK (g.nx + 3) t1 ne H [] := by
    subst hH
    refine ⟨⟨by simp only [↓zp, zz, true_and, and_true, chkOk, Nat.reduceEqDiff, Nat.reduceAdd, Nat.reduceSub, Nat.reduceMul, Nat.reduceLT, Nat.reduceLeDiff, Int.reduceLT, Int.reduceLE, Int.reduceEq, Int.reduceAdd, Int.reduceNeg, if_false, if_true, reduceIte, List.getElem?_cons_succ, List.getElem?_cons_zero, Option.getD_some, r_mv, r_pick, r_box, r_alloc, r_un, r_eqb, r_ext, r_mkf, r_cnv, r_st, r_nck, r_ix, r_iaa, takeN, List.cons_append, List.nil_append, VE.store, over, cellsAt, VE.part, Option.map_some, Option.bind_some, blkX, gEval, cond_true, cond_false, r_build, r_bsl, fill, VE.unOp, r_bin, List.drop_zero, List.drop_succ_cons, resOf, resVs, resV, List.length_cons, List.length_nil, reduceCtorEq, or_true, true_or, false_or, or_false, eq_self, exists_eq_left', Option.some.injEq], by simp only [↓zp, zz, true_and, and_true, chkOk, Nat.reduceEqDiff, Nat.reduceAdd, Nat.reduceSub, Nat.reduceMul, Nat.reduceLT, Nat.reduceLeDiff, Int.reduceLT, Int.reduceLE, Int.reduceEq, Int.reduceAdd, Int.reduceNeg, if_false, if_true, reduceIte, List.getElem?_cons_succ, List.getElem?_cons_zero, Option.getD_some, r_mv, r_pick, r_box, r_alloc, r_un, r_eqb, r_ext, r_mkf, r_cnv, r_st, r_nck, r_ix, r_iaa, takeN, List.cons_append, List.nil_append, VE.store, over, cellsAt, VE.part, Option.map_some, Option.bind_some, blkX, gEval, cond_true, cond_false, r_build, r_bsl, fill, VE.unOp, r_bin, List.drop_zero, List.drop_succ_cons, resOf, resVs, resV, List.length_cons, List.length_nil, reduceCtorEq, or_true, true_or, false_or, or_false, eq_self, exists_eq_left', Option.some.injEq], by simp only [↓zp, zz, true_and, and_true, chkOk, Nat.reduceEqDiff, Nat.reduceAdd, Nat.reduceSub, Nat.reduceMul, Nat.reduceLT, Nat.reduceLeDiff, Int.reduceLT, Int.reduceLE, Int.reduceEq, Int.reduceAdd, Int.reduceNeg, if_false, if_true, reduceIte, List.getElem?_cons_succ, List.getElem?_cons_zero, Option.getD_some, r_mv, r_pick, r_box, r_alloc, r_un, r_eqb, r_ext, r_mkf, r_cnv, r_st, r_nck, r_ix, r_iaa, takeN, List.cons_append, List.nil_append, VE.store, over, cellsAt, VE.part, Option.map_some, Option.bind_some, blkX, gEval, cond_true, cond_false, r_build, r_bsl, fill, VE.unOp, r_bin, List.drop_zero, List.drop_succ_cons, resOf, resVs, resV, List.length_cons, List.length_nil, reduceCtorEq, or_true, true_or, false_or, or_false, eq_self, exists_eq_left', Option.some.injEq], rfl, by simp only [Heap.set_nx, Heap.new_nx]; omega⟩, ⟨.nils, by simp only [↓zp, zz, true_and, and_true, chkOk, Nat.reduceEqDiff, Nat.reduceAdd, Nat.reduceSub, Nat.reduceMul, Nat.reduceLT, Nat.reduceLeDiff, Int.reduceLT, Int.reduceLE, Int.reduceEq, Int.reduceAdd, Int.reduceNeg, if_false, if_true, reduceIte, List.getElem?_cons_succ, List.getElem?_cons_zero, Option.getD_some, r_mv, r_pick, r_box, r_alloc, r_un, r_eqb, r_ext, r_mkf, r_cnv, r_st, r_nck, r_ix, r_iaa, takeN, List.cons_append, List.nil_append, VE.store, over, cellsAt, VE.part, Option.map_some, Option.bind_some, blkX, gEval, cond_true, cond_false, r_build, r_bsl, fill, VE.unOp, r_bin, List.drop_zero, List.drop_succ_cons, resOf, resVs, resV, List.length_cons, List.length_nil, reduceCtorEq, or_true, true_or, false_or, or_false, eq_self, exists_eq_left', Option.some.injEq], Acc.nil, by simp only [Heap.set_lo, Heap.new_lo]; omega, by simp only [Heap.set_nx, Heap.new_nx]; omega⟩⟩
  clear hH
  refine loop_ind (fun m s h => inv5 nd d ne e p0 g.nx t1 g.lo m s h) ?_ (d.l.length + e.l.length) ⟨0, 0, by omega, by omega, by omega, b2, b3, b4, b8, b9, b10, b11, hi.1, [], [], hi.2, AllK.refl _, by simp, by simp⟩
  rintro m s h ⟨i, k, hi', hk', hm, c2, c3, c4, c8, c9, c10, c11, ⟨hg0, hg1, hg2, hgl, hgn⟩, l, L, ⟨v, o1, o2, o3, o4⟩, al, ll, lm⟩
  have hl3 : ∀ i, ¬ (g.nx + i < h.lo) := fun i => by omega
  have wsi := wr_succ (k := i) (by omega)
  have wsk := wr_succ (k := k) (by omega)
  by_cases hik : i = d.l.length ∧ k = e.l.length
  case pos =>
    obtain ⟨rfl, rfl⟩ := hik
    have t1' := eq_true (rfl : (d.l.length : Int) = (d.l.length : Int))
    rw [List.drop_length, List.drop_length] at lm
    simp only [merge, List.append_nil] at lm
    rw [lm, hJ] at al
    have lj : l.length ≤ 16 := by rw [← al.1]; exact J_len _ _ _
    have cj := chk ne v l h (Acc.rd o2) (shortJ shd she al) (by omega)
    have cs : chkD ne (J d.l e.l) = chkD ne l := chkD_same al ne
    by_cases q3 : chkD ne l = 0
    case neg =>
      have je : joinE nd d.l ne e.l = 36 := by unfold joinE; rw [if_pos q1, if_pos q2, if_neg (by rw [cs]; exact q3)]
      simp only [↓zp, zz, true_and, and_true, chkOk, Nat.reduceEqDiff, Nat.reduceAdd, Nat.reduceSub, Nat.reduceMul, Nat.reduceLT, Nat.reduceLeDiff, Int.reduceLT, Int.reduceLE, Int.reduceEq, Int.reduceAdd, Int.reduceNeg, if_false, if_true, reduceIte, List.getElem?_cons_succ, List.getElem?_cons_zero, Option.getD_some, r_mv, r_pick, r_box, r_alloc, r_un, r_eqb, r_ext, r_mkf, r_cnv, r_st, r_nck, r_ix, r_iaa, takeN, List.cons_append, List.nil_append, VE.store, over, cellsAt, VE.part, Option.map_some, Option.bind_some, blkX, gEval, cond_true, cond_false, r_build, r_bsl, fill, VE.unOp, r_bin, List.drop_zero, List.drop_succ_cons, resOf, resVs, resV, List.length_cons, List.length_nil, reduceCtorEq, or_true, true_or, false_or, or_false, eq_self, exists_eq_left', Option.some.injEq, c2, c3, c4, c8, c9, c10, c11, hg0, hg1, r_len_v, o1, ma, cj, q3, hg2, hl3]
      exact ⟨_, rfl, 0, .nil, by rw [je]; rfl, .inr ⟨by rw [je]; decide, rfl, rfl⟩⟩
    have je : joinE nd d.l ne e.l = 0 := by unfold joinE; rw [if_pos q1, if_pos q2, if_pos (by rw [cs]; exact q3)]
    have hbase : ∀ (x : Blk), ∃ o : Sl Lack, o.l = l ∧ FzV (h.set (g.nx + 2) x) g.nx (l.length * 27 + 4) v (o.v encK) := fun x => by
      rcases o2 with ⟨rfl, rfl⟩ | ⟨b, rfl, p1, p2, p3, p4⟩
      · exact ⟨.nil, rfl, FzV.le (.scal rfl) (by omega)⟩
      · exact FzV.row encK_len encK_scal (by omega) rfl (by rw [Heap.get_set, if_neg (fun q => by subst q; have := hg2.symm.trans p3; injection this with _ q; cases q)]; exact p3)
    obtain ⟨o, ol, of⟩ := hbase (.cells [.int .u64 ne, v] (.ct t1))
    simp only [↓zp, zz, true_and, and_true, chkOk, Nat.reduceEqDiff, Nat.reduceAdd, Nat.reduceSub, Nat.reduceMul, Nat.reduceLT, Nat.reduceLeDiff, Int.reduceLT, Int.reduceLE, Int.reduceEq, Int.reduceAdd, Int.reduceNeg, if_false, if_true, reduceIte, List.getElem?_cons_succ, List.getElem?_cons_zero, Option.getD_some, r_mv, r_pick, r_box, r_alloc, r_un, r_eqb, r_ext, r_mkf, r_cnv, r_st, r_nck, r_ix, r_iaa, takeN, List.cons_append, List.nil_append, VE.store, over, cellsAt, VE.part, Option.map_some, Option.bind_some, blkX, gEval, cond_true, cond_false, r_build, r_bsl, fill, VE.unOp, r_bin, List.drop_zero, List.drop_succ_cons, resOf, resVs, resV, List.length_cons, List.length_nil, reduceCtorEq, or_true, true_or, false_or, or_false, eq_self, exists_eq_left', Option.some.injEq, c2, c3, c4, c8, c9, c10, c11, hg0, hg1, r_len_v, o1, ma, cj, q3, hg2, hl3, Acc.oneK o2]
    exact ⟨_, fzJ (of.le (by omega)), ne, o, by rw [je], .inl ⟨je, rfl, by rw [ol]; exact al⟩⟩
  by_cases hk : k < e.l.length
  case neg =>
    have hi : i < d.l.length := by omega
    have x1 : ((i : Int) = (d.l.length : Int)) = False := eq_false (by omega)
    have x2 : ((k : Int) = (e.l.length : Int)) = True := eq_true (by omega)
    have iad : ∀ h, r_ia 27 (d.v encK) (.int .i64 (i : Int)) h = some (.iptr (encK d.l[i] ++ (d.l.drop (i + 1)).flatMap encK), h) := fun h => r_ia_v encK_len (by decide) hi rfl
    obtain ⟨y, h', sk, ey, z1, z2⟩ := hput d.l[i] (shd _ (List.getElem_mem hi)) (g.nx + 3) t1 ne l h ⟨v, o1, o2, o3, o4⟩ (by omega)
    have ey := callVRes_fn (args := [.agg (encK d.l[i])]) (caps := [.ptr (g.nx + 3) 0]) ey
    simp only [encK, encA] at ey
    have gets : h'.get g.nx = .cells [.int .u64 nd, d.v encK] .cl ∧ h'.get (g.nx + 1) = .cells [.int .u64 ne, e.v encK] .cl ∧ h'.get (g.nx + 2) = .cells [.int .u64 0, .nils] (.ct t1) ∧ h'.lo = g.lo ∧ g.nx + 4 ≤ h'.nx := ⟨by rw [z2.get _ (by omega) (by omega) (by rw [hg0]; intro cs q; cases q), hg0], by rw [z2.get _ (by omega) (by omega) (by rw [hg1]; intro cs q; cases q), hg1], by rw [z2.get _ (by omega) (by omega) (by rw [hg2]; intro cs q; cases q), hg2], z2.lo.trans hgl, Nat.le_trans hgn z2.nx⟩
    rw [List.drop_eq_getElem_cons hi, List.drop_eq_nil_of_le (by omega : e.l.length ≤ k), merge] at lm
    simp only [↓zp, zz, true_and, and_true, chkOk, Nat.reduceEqDiff, Nat.reduceAdd, Nat.reduceSub, Nat.reduceMul, Nat.reduceLT, Nat.reduceLeDiff, Int.reduceLT, Int.reduceLE, Int.reduceEq, Int.reduceAdd, Int.reduceNeg, if_false, if_true, reduceIte, List.getElem?_cons_succ, List.getElem?_cons_zero, Option.getD_some, r_mv, r_pick, r_box, r_alloc, r_un, r_eqb, r_ext, r_mkf, r_cnv, r_st, r_nck, r_ix, r_iaa, takeN, List.cons_append, List.nil_append, VE.store, over, cellsAt, VE.part, Option.map_some, Option.bind_some, blkX, gEval, cond_true, cond_false, r_build, r_bsl, fill, VE.unOp, r_bin, List.drop_zero, List.drop_succ_cons, resOf, resVs, resV, List.length_cons, List.length_nil, reduceCtorEq, or_true, true_or, false_or, or_false, eq_self, exists_eq_left', Option.some.injEq, c2, c3, c4, c8, c9, c10, c11, hg0, hg1, r_len_v, x1, x2, iad, encK, encA, ey, wsi]
    exact ⟨_, by omega, i + 1, k, by omega, by omega, rfl, by simp only [Slots.at_set, Nat.reduceEqDiff, if_false, if_true, reduceIte, argSlots_at, List.getElem?_cons_succ, List.getElem?_cons_zero, Option.getD_some, c2], by simp only [Slots.at_set, Nat.reduceEqDiff, if_false, if_true, reduceIte, argSlots_at, List.getElem?_cons_succ, List.getElem?_cons_zero, Option.getD_some, c3], by simp only [Slots.at_set, Nat.reduceEqDiff, if_false, if_true, reduceIte, argSlots_at, List.getElem?_cons_succ, List.getElem?_cons_zero, Option.getD_some, c4], by simp only [Slots.at_set, Nat.reduceEqDiff, if_false, if_true, reduceIte, argSlots_at, List.getElem?_cons_succ, List.getElem?_cons_zero, Option.getD_some, c8], by simp only [Slots.at_set, Nat.reduceEqDiff, if_false, if_true, reduceIte, argSlots_at, List.getElem?_cons_succ, List.getElem?_cons_zero, Option.getD_some, c9], by simp only [Slots.at_set, Nat.reduceEqDiff, if_false, if_true, reduceIte, argSlots_at, List.getElem?_cons_succ, List.getElem?_cons_zero, Option.getD_some], by simp only [Slots.at_set, Nat.reduceEqDiff, if_false, if_true, reduceIte, argSlots_at, List.getElem?_cons_succ, List.getElem?_cons_zero, Option.getD_some, c11], gets, _, L ++ [d.l[i]], z1, al.snoc sk, by simp; omega, by rw [List.drop_eq_nil_of_le (by omega : e.l.length ≤ k), merge_nil, List.append_assoc]; exact lm⟩
  have x2 : ((k : Int) = (e.l.length : Int)) = False := eq_false (by omega)
  have iae : ∀ h, r_ia 27 (e.v encK) (.int .i64 (k : Int)) h = some (.iptr (encK e.l[k] ++ (e.l.drop (k + 1)).flatMap encK), h) := fun h => r_ia_v encK_len (by decide) hk rfl
  by_cases hi : i < d.l.length
  case neg =>
    have x1 : ((i : Int) = (d.l.length : Int)) = True := eq_true (by omega)
    have x3 : ¬ ((i : Int) < (d.l.length : Int)) := by omega
    obtain ⟨y, h', sk, ey, z1, z2⟩ := hput e.l[k] (she _ (List.getElem_mem hk)) (g.nx + 3) t1 ne l h ⟨v, o1, o2, o3, o4⟩ (by omega)
    have ey := callVRes_fn (args := [.agg (encK e.l[k])]) (caps := [.ptr (g.nx + 3) 0]) ey
    simp only [encK, encA] at ey
    have gets : h'.get g.nx = .cells [.int .u64 nd, d.v encK] .cl ∧ h'.get (g.nx + 1) = .cells [.int .u64 ne, e.v encK] .cl ∧ h'.get (g.nx + 2) = .cells [.int .u64 0, .nils] (.ct t1) ∧ h'.lo = g.lo ∧ g.nx + 4 ≤ h'.nx := ⟨by rw [z2.get _ (by omega) (by omega) (by rw [hg0]; intro cs q; cases q), hg0], by rw [z2.get _ (by omega) (by omega) (by rw [hg1]; intro cs q; cases q), hg1], by rw [z2.get _ (by omega) (by omega) (by rw [hg2]; intro cs q; cases q), hg2], z2.lo.trans hgl, Nat.le_trans hgn z2.nx⟩
    rw [List.drop_eq_getElem_cons hk, List.drop_eq_nil_of_le (by omega : d.l.length ≤ i), merge] at lm
    simp only [↓zp, zz, true_and, and_true, chkOk, Nat.reduceEqDiff, Nat.reduceAdd, Nat.reduceSub, Nat.reduceMul, Nat.reduceLT, Nat.reduceLeDiff, Int.reduceLT, Int.reduceLE, Int.reduceEq, Int.reduceAdd, Int.reduceNeg, if_false, if_true, reduceIte, List.getElem?_cons_succ, List.getElem?_cons_zero, Option.getD_some, r_mv, r_pick, r_box, r_alloc, r_un, r_eqb, r_ext, r_mkf, r_cnv, r_st, r_nck, r_ix, r_iaa, takeN, List.cons_append, List.nil_append, VE.store, over, cellsAt, VE.part, Option.map_some, Option.bind_some, blkX, gEval, cond_true, cond_false, r_build, r_bsl, fill, VE.unOp, r_bin, List.drop_zero, List.drop_succ_cons, resOf, resVs, resV, List.length_cons, List.length_nil, reduceCtorEq, or_true, true_or, false_or, or_false, eq_self, exists_eq_left', Option.some.injEq, c2, c3, c4, c8, c9, c10, c11, hg0, hg1, r_len_v, x1, x2, x3, iae, encK, encA, ey, wsk]
    exact ⟨_, by omega, i, k + 1, by omega, by omega, rfl, by simp only [Slots.at_set, Nat.reduceEqDiff, if_false, if_true, reduceIte, argSlots_at, List.getElem?_cons_succ, List.getElem?_cons_zero, Option.getD_some, c2], by simp only [Slots.at_set, Nat.reduceEqDiff, if_false, if_true, reduceIte, argSlots_at, List.getElem?_cons_succ, List.getElem?_cons_zero, Option.getD_some, c3], by simp only [Slots.at_set, Nat.reduceEqDiff, if_false, if_true, reduceIte, argSlots_at, List.getElem?_cons_succ, List.getElem?_cons_zero, Option.getD_some, c4], by simp only [Slots.at_set, Nat.reduceEqDiff, if_false, if_true, reduceIte, argSlots_at, List.getElem?_cons_succ, List.getElem?_cons_zero, Option.getD_some, c8], by simp only [Slots.at_set, Nat.reduceEqDiff, if_false, if_true, reduceIte, argSlots_at, List.getElem?_cons_succ, List.getElem?_cons_zero, Option.getD_some, c9], by simp only [Slots.at_set, Nat.reduceEqDiff, if_false, if_true, reduceIte, argSlots_at, List.getElem?_cons_succ, List.getElem?_cons_zero, Option.getD_some, c10], by simp only [Slots.at_set, Nat.reduceEqDiff, if_false, if_true, reduceIte, argSlots_at, List.getElem?_cons_succ, List.getElem?_cons_zero, Option.getD_some], gets, _, L ++ [e.l[k]], z1, al.snoc sk, by simp; omega, by rw [List.drop_eq_nil_of_le (by omega : d.l.length ≤ i), merge, List.append_assoc]; exact lm⟩
  have x1 : ((i : Int) = (d.l.length : Int)) = False := eq_false (by omega)
  have x3 : (i : Int) < (d.l.length : Int) := by omega
  have iad : ∀ h, r_ia 27 (d.v encK) (.int .i64 (i : Int)) h = some (.iptr (encK d.l[i] ++ (d.l.drop (i + 1)).flatMap encK), h) := fun h => r_ia_v encK_len (by decide) hi rfl
  have ed := List.drop_eq_getElem_cons hi
  have ee := List.drop_eq_getElem_cons hk
  rw [ed, ee, merge] at lm
  by_cases y1 : d.l[i].t < e.l[k].t
  case pos =>
    rw [if_pos y1] at lm
    obtain ⟨y, h', sk, ey, z1, z2⟩ := hput d.l[i] (shd _ (List.getElem_mem hi)) (g.nx + 3) t1 ne l h ⟨v, o1, o2, o3, o4⟩ (by omega)
    have ey := callVRes_fn (args := [.agg (encK d.l[i])]) (caps := [.ptr (g.nx + 3) 0]) ey
    simp only [encK, encA] at ey
    have gets : h'.get g.nx = .cells [.int .u64 nd, d.v encK] .cl ∧ h'.get (g.nx + 1) = .cells [.int .u64 ne, e.v encK] .cl ∧ h'.get (g.nx + 2) = .cells [.int .u64 0, .nils] (.ct t1) ∧ h'.lo = g.lo ∧ g.nx + 4 ≤ h'.nx := ⟨by rw [z2.get _ (by omega) (by omega) (by rw [hg0]; intro cs q; cases q), hg0], by rw [z2.get _ (by omega) (by omega) (by rw [hg1]; intro cs q; cases q), hg1], by rw [z2.get _ (by omega) (by omega) (by rw [hg2]; intro cs q; cases q), hg2], z2.lo.trans hgl, Nat.le_trans hgn z2.nx⟩
    simp only [↓zp, zz, true_and, and_true, chkOk, Nat.reduceEqDiff, Nat.reduceAdd, Nat.reduceSub, Nat.reduceMul, Nat.reduceLT, Nat.reduceLeDiff, Int.reduceLT, Int.reduceLE, Int.reduceEq, Int.reduceAdd, Int.reduceNeg, if_false, if_true, reduceIte, List.getElem?_cons_succ, List.getElem?_cons_zero, Option.getD_some, r_mv, r_pick, r_box, r_alloc, r_un, r_eqb, r_ext, r_mkf, r_cnv, r_st, r_nck, r_ix, r_iaa, takeN, List.cons_append, List.nil_append, VE.store, over, cellsAt, VE.part, Option.map_some, Option.bind_some, blkX, gEval, cond_true, cond_false, r_build, r_bsl, fill, VE.unOp, r_bin, List.drop_zero, List.drop_succ_cons, resOf, resVs, resV, List.length_cons, List.length_nil, reduceCtorEq, or_true, true_or, false_or, or_false, eq_self, exists_eq_left', Option.some.injEq, c2, c3, c4, c8, c9, c10, c11, hg0, hg1, r_len_v, x1, x2, x3, iad, iae, y1, encK, encA, ey, wsi]
    exact ⟨_, by omega, i + 1, k, by omega, by omega, rfl, by simp only [Slots.at_set, Nat.reduceEqDiff, if_false, if_true, reduceIte, argSlots_at, List.getElem?_cons_succ, List.getElem?_cons_zero, Option.getD_some, c2], by simp only [Slots.at_set, Nat.reduceEqDiff, if_false, if_true, reduceIte, argSlots_at, List.getElem?_cons_succ, List.getElem?_cons_zero, Option.getD_some, c3], by simp only [Slots.at_set, Nat.reduceEqDiff, if_false, if_true, reduceIte, argSlots_at, List.getElem?_cons_succ, List.getElem?_cons_zero, Option.getD_some, c4], by simp only [Slots.at_set, Nat.reduceEqDiff, if_false, if_true, reduceIte, argSlots_at, List.getElem?_cons_succ, List.getElem?_cons_zero, Option.getD_some, c8], by simp only [Slots.at_set, Nat.reduceEqDiff, if_false, if_true, reduceIte, argSlots_at, List.getElem?_cons_succ, List.getElem?_cons_zero, Option.getD_some, c9], by simp only [Slots.at_set, Nat.reduceEqDiff, if_false, if_true, reduceIte, argSlots_at, List.getElem?_cons_succ, List.getElem?_cons_zero, Option.getD_some], by simp only [Slots.at_set, Nat.reduceEqDiff, if_false, if_true, reduceIte, argSlots_at, List.getElem?_cons_succ, List.getElem?_cons_zero, Option.getD_some, c11], gets, _, L ++ [d.l[i]], z1, al.snoc sk, by simp; omega, by rw [ee, List.append_assoc]; exact lm⟩
  rw [if_neg y1] at lm
  by_cases y2 : d.l[i].t = e.l[k].t
  case pos =>
    rw [if_pos y2] at lm
    have y2' := eq_true y2
    obtain ⟨y, h', sk, ey, z1, z2⟩ := hput e.l[k] (she _ (List.getElem_mem hk)) (g.nx + 3) t1 ne l h ⟨v, o1, o2, o3, o4⟩ (by omega)
    have ey := callVRes_fn (args := [.agg (encK e.l[k])]) (caps := [.ptr (g.nx + 3) 0]) ey
    simp only [encK, encA] at ey
    have gets : h'.get g.nx = .cells [.int .u64 nd, d.v encK] .cl ∧ h'.get (g.nx + 1) = .cells [.int .u64 ne, e.v encK] .cl ∧ h'.get (g.nx + 2) = .cells [.int .u64 0, .nils] (.ct t1) ∧ h'.lo = g.lo ∧ g.nx + 4 ≤ h'.nx := ⟨by rw [z2.get _ (by omega) (by omega) (by rw [hg0]; intro cs q; cases q), hg0], by rw [z2.get _ (by omega) (by omega) (by rw [hg1]; intro cs q; cases q), hg1], by rw [z2.get _ (by omega) (by omega) (by rw [hg2]; intro cs q; cases q), hg2], z2.lo.trans hgl, Nat.le_trans hgn z2.nx⟩
    simp only [↓zp, zz, true_and, and_true, chkOk, Nat.reduceEqDiff, Nat.reduceAdd, Nat.reduceSub, Nat.reduceMul, Nat.reduceLT, Nat.reduceLeDiff, Int.reduceLT, Int.reduceLE, Int.reduceEq, Int.reduceAdd, Int.reduceNeg, if_false, if_true, reduceIte, List.getElem?_cons_succ, List.getElem?_cons_zero, Option.getD_some, r_mv, r_pick, r_box, r_alloc, r_un, r_eqb, r_ext, r_mkf, r_cnv, r_st, r_nck, r_ix, r_iaa, takeN, List.cons_append, List.nil_append, VE.store, over, cellsAt, VE.part, Option.map_some, Option.bind_some, blkX, gEval, cond_true, cond_false, r_build, r_bsl, fill, VE.unOp, r_bin, List.drop_zero, List.drop_succ_cons, resOf, resVs, resV, List.length_cons, List.length_nil, reduceCtorEq, or_true, true_or, false_or, or_false, eq_self, exists_eq_left', Option.some.injEq, c2, c3, c4, c8, c9, c10, c11, hg0, hg1, r_len_v, x1, x2, x3, iad, iae, y1, y2', encK, encA, ey, wsi, wsk]
    exact ⟨_, by omega, i + 1, k + 1, by omega, by omega, rfl, by simp only [Slots.at_set, Nat.reduceEqDiff, if_false, if_true, reduceIte, argSlots_at, List.getElem?_cons_succ, List.getElem?_cons_zero, Option.getD_some, c2], by simp only [Slots.at_set, Nat.reduceEqDiff, if_false, if_true, reduceIte, argSlots_at, List.getElem?_cons_succ, List.getElem?_cons_zero, Option.getD_some, c3], by simp only [Slots.at_set, Nat.reduceEqDiff, if_false, if_true, reduceIte, argSlots_at, List.getElem?_cons_succ, List.getElem?_cons_zero, Option.getD_some, c4], by simp only [Slots.at_set, Nat.reduceEqDiff, if_false, if_true, reduceIte, argSlots_at, List.getElem?_cons_succ, List.getElem?_cons_zero, Option.getD_some, c8], by simp only [Slots.at_set, Nat.reduceEqDiff, if_false, if_true, reduceIte, argSlots_at, List.getElem?_cons_succ, List.getElem?_cons_zero, Option.getD_some, c9], by simp only [Slots.at_set, Nat.reduceEqDiff, if_false, if_true, reduceIte, argSlots_at, List.getElem?_cons_succ, List.getElem?_cons_zero, Option.getD_some], by simp only [Slots.at_set, Nat.reduceEqDiff, if_false, if_true, reduceIte, argSlots_at, List.getElem?_cons_succ, List.getElem?_cons_zero, Option.getD_some], gets, _, L ++ [e.l[k]], z1, al.snoc sk, by simp; omega, by rw [List.append_assoc]; exact lm⟩
  rw [if_neg y2] at lm
  obtain ⟨y, h', sk, ey, z1, z2⟩ := hput e.l[k] (she _ (List.getElem_mem hk)) (g.nx + 3) t1 ne l h ⟨v, o1, o2, o3, o4⟩ (by omega)
  have ey := callVRes_fn (args := [.agg (encK e.l[k])]) (caps := [.ptr (g.nx + 3) 0]) ey
  simp only [encK, encA] at ey
  have gets : h'.get g.nx = .cells [.int .u64 nd, d.v encK] .cl ∧ h'.get (g.nx + 1) = .cells [.int .u64 ne, e.v encK] .cl ∧ h'.get (g.nx + 2) = .cells [.int .u64 0, .nils] (.ct t1) ∧ h'.lo = g.lo ∧ g.nx + 4 ≤ h'.nx := ⟨by rw [z2.get _ (by omega) (by omega) (by rw [hg0]; intro cs q; cases q), hg0], by rw [z2.get _ (by omega) (by omega) (by rw [hg1]; intro cs q; cases q), hg1], by rw [z2.get _ (by omega) (by omega) (by rw [hg2]; intro cs q; cases q), hg2], z2.lo.trans hgl, Nat.le_trans hgn z2.nx⟩
  simp only [↓zp, zz, true_and, and_true, chkOk, Nat.reduceEqDiff, Nat.reduceAdd, Nat.reduceSub, Nat.reduceMul, Nat.reduceLT, Nat.reduceLeDiff, Int.reduceLT, Int.reduceLE, Int.reduceEq, Int.reduceAdd, Int.reduceNeg, if_false, if_true, reduceIte, List.getElem?_cons_succ, List.getElem?_cons_zero, Option.getD_some, r_mv, r_pick, r_box, r_alloc, r_un, r_eqb, r_ext, r_mkf, r_cnv, r_st, r_nck, r_ix, r_iaa, takeN, List.cons_append, List.nil_append, VE.store, over, cellsAt, VE.part, Option.map_some, Option.bind_some, blkX, gEval, cond_true, cond_false, r_build, r_bsl, fill, VE.unOp, r_bin, List.drop_zero, List.drop_succ_cons, resOf, resVs, resV, List.length_cons, List.length_nil, reduceCtorEq, or_true, true_or, false_or, or_false, eq_self, exists_eq_left', Option.some.injEq, c2, c3, c4, c8, c9, c10, c11, hg0, hg1, r_len_v, x1, x2, x3, iad, iae, y1, y2, encK, encA, ey, wsk]
  exact ⟨_, by omega, i, k + 1, by omega, by omega, rfl, by simp only [Slots.at_set, Nat.reduceEqDiff, if_false, if_true, reduceIte, argSlots_at, List.getElem?_cons_succ, List.getElem?_cons_zero, Option.getD_some, c2], by simp only [Slots.at_set, Nat.reduceEqDiff, if_false, if_true, reduceIte, argSlots_at, List.getElem?_cons_succ, List.getElem?_cons_zero, Option.getD_some, c3], by simp only [Slots.at_set, Nat.reduceEqDiff, if_false, if_true, reduceIte, argSlots_at, List.getElem?_cons_succ, List.getElem?_cons_zero, Option.getD_some, c4], by simp only [Slots.at_set, Nat.reduceEqDiff, if_false, if_true, reduceIte, argSlots_at, List.getElem?_cons_succ, List.getElem?_cons_zero, Option.getD_some, c8], by simp only [Slots.at_set, Nat.reduceEqDiff, if_false, if_true, reduceIte, argSlots_at, List.getElem?_cons_succ, List.getElem?_cons_zero, Option.getD_some, c9], by simp only [Slots.at_set, Nat.reduceEqDiff, if_false, if_true, reduceIte, argSlots_at, List.getElem?_cons_succ, List.getElem?_cons_zero, Option.getD_some, c10], by simp only [Slots.at_set, Nat.reduceEqDiff, if_false, if_true, reduceIte, argSlots_at, List.getElem?_cons_succ, List.getElem?_cons_zero, Option.getD_some], gets, _, L ++ [e.l[k]], z1, al.snoc sk, by simp; omega, by rw [ed, List.append_assoc]; exact lm⟩
end
end Go.VE.LB
