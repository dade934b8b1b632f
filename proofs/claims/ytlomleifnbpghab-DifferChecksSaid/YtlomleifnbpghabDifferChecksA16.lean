/- What the functions of the law DifferChecks compute, on typed arguments (part 16). -/
import Derived.Test.YtlomleifnbpghabDifferChecksA15
set_option linter.all false
namespace Go.VE.LB
open Go Go.VE Classical
set_option maxRecDepth 100000
set_option maxHeartbeats 4000000
set_option linter.all false
section
variable {vp : Nat → Option VFn}
def inv9 (now : Int) (v : V) (l : List Lack) (b : Nat) (H : Heap) (m : Nat) (s : Slots) (h : Heap) : Prop :=
  ∃ k, k ≤ l.length ∧ m = l.length - k ∧ s.at 1 = .ptr b 0 ∧ s.at 10 = v ∧ s.at 11 = .int .i64 (l.length : Int) ∧ s.at 12 = .int .i64 (k : Int) ∧ Kp H h ∧ (∀ j (hj : j < l.length), j < k → LackOk now l[j]) ∧ ∀ j (hj : j + 1 < l.length), j + 1 < k → ¬ l[j + 1].t ≤ l[j].t
theorem check9_spec {f e0 mc c1 c2 c3 c4 c5 d1 d2 d3 d4 d5 d6 d7 d8 t1 t2 t3 t4 : Nat} (hf : vp f = some (B_differ_Check e0 mc t1)) (he0 : vp e0 = some B_differ_empty) (hmc : vp mc = some (B_model_Check c1 c2 c3 c4 c5 t2)) (h1 : vp c1 = some (B_slices_ContainsFunc_uint32 d1)) (g1 : vp d1 = some B_slices_IndexFunc_uint32) (h2 : vp c2 = some B_model_Check_fn1) (h3 : vp c3 = some B_model_Check_fn2)
    (h4 : vp c4 = some (B_model_valid d2 d3 d4 t3)) (g2 : vp d2 = some B_bucket_CheckLimit) (g3 : vp d3 = some (B_bucket_Check d2)) (g4 : vp d4 = some (B_model_held d5 d3 t4)) (g5 : vp d5 = some (B_model_at d6 d7)) (g6 : vp d6 = some B_model_at_fn1) (g7 : vp d7 = some B_slices_IndexFunc_api_Held)
    (h5 : vp c5 = some (B_slices_ContainsFunc_api_Held d8)) (g8 : vp d8 = some B_slices_IndexFunc_api_Held)
    (now : Int) (v : V) (l : List Lack) (h : Heap) (hv : Rd encK 27 h v l) (sh : ∀ x ∈ l, Short x.a) (hn : l.length < 4611686018427387904) :
    callRes vp f [.agg [.int .u64 now, v]] h = some (.int .i64 (chkD now l), h) := by
  have ma : modeOf vp e0 = some 1 := by simp [modeOf, he0, B_differ_empty]
  have mb : modeOf vp mc = some 1 := by simp [modeOf, hmc, B_model_Check]
  refine res_pure hf rfl rfl (fun g hg => ?_)
  have hlo := hlo hg
  have hv := hv.enter (A := fun v => [.agg [.int .u64 now, v]]) hg (fun _ _ _ _ => rfl)
  have ln := hv.len
  unfold B_differ_Check
  by_cases q1 : 16 < l.length
  · have q1' : (16 : Int) < (l.length : Int) := by omega
    have e : chkD now l = 4 := by simp [chkD, q1]
    simp only [↓zp, zz, true_and, and_true, chkOk, Nat.reduceEqDiff, Nat.reduceAdd, Nat.reduceSub, Nat.reduceMul, Nat.reduceLT, Nat.reduceLeDiff, Int.reduceLT, Int.reduceLE, Int.reduceEq, Int.reduceAdd, Int.reduceNeg, if_false, if_true, reduceIte, List.getElem?_cons_succ, List.getElem?_cons_zero, Option.getD_some, r_mv, r_pick, r_box, r_alloc, r_un, r_eqb, r_ext, r_mkf, r_cnv, r_st, r_nck, r_ix, r_iaa, takeN, List.cons_append, List.nil_append, VE.store, over, cellsAt, VE.part, Option.map_some, Option.bind_some, blkX, gEval, cond_true, cond_false, r_build, r_bsl, fill, VE.unOp, r_bin, List.drop_zero, List.drop_succ_cons, resOf, resVs, resV, List.length_cons, List.length_nil, reduceCtorEq, or_true, true_or, false_or, or_false, eq_self, exists_eq_left', Option.some.injEq, ln, q1', e, frzI]
  have q1' : ¬ (16 : Int) < (l.length : Int) := by omega
  have ce : chkD now l = if DOk now l then 0 else 8 := by simp [chkD, q1]
  rw [ce]
  have no : ∀ (P : Prop), ¬ P → (DOk now l → P) → (.int .i64 8 : V) = .int .i64 (if DOk now l then 0 else 8) := fun P hn hv => by
    rw [if_neg (fun q => hn (hv q))]
  simp only [↓zp, zz, true_and, and_true, chkOk, Nat.reduceEqDiff, Nat.reduceAdd, Nat.reduceSub, Nat.reduceMul, Nat.reduceLT, Nat.reduceLeDiff, Int.reduceLT, Int.reduceLE, Int.reduceEq, Int.reduceAdd, Int.reduceNeg, if_false, if_true, reduceIte, List.getElem?_cons_succ, List.getElem?_cons_zero, Option.getD_some, r_mv, r_pick, r_box, r_alloc, r_un, r_eqb, r_ext, r_mkf, r_cnv, r_st, r_nck, r_ix, r_iaa, takeN, List.cons_append, List.nil_append, VE.store, over, cellsAt, VE.part, Option.map_some, Option.bind_some, blkX, gEval, cond_true, cond_false, r_build, r_bsl, fill, VE.unOp, r_bin, List.drop_zero, List.drop_succ_cons, resOf, resVs, resV, List.length_cons, List.length_nil, reduceCtorEq, or_true, true_or, false_or, or_false, eq_self, exists_eq_left', Option.some.injEq, ln, q1']
  generalize hS : Tr.set _ 12 _ = S
  have b1' : Slots.at S 1 = .ptr g.nx 0 := by rw [← hS]; simp only [Slots.at_set, Nat.reduceEqDiff, if_false, if_true, reduceIte, argSlots_at, List.getElem?_cons_succ, List.getElem?_cons_zero, Option.getD_some]
  have b10 : Slots.at S 10 = v := by rw [← hS]; simp only [Slots.at_set, Nat.reduceEqDiff, if_false, if_true, reduceIte, argSlots_at, List.getElem?_cons_succ, List.getElem?_cons_zero, Option.getD_some]
  have b11 : Slots.at S 11 = .int .i64 (l.length : Int) := by rw [← hS]; simp only [Slots.at_set, Nat.reduceEqDiff, if_false, if_true, reduceIte, argSlots_at, List.getElem?_cons_succ, List.getElem?_cons_zero, Option.getD_some]
  have b12 : Slots.at S 12 = .int .i64 ((0 : Nat) : Int) := by rw [← hS]; simp only [Slots.at_set, Nat.reduceEqDiff, if_false, if_true, reduceIte, argSlots_at, List.getElem?_cons_succ, List.getElem?_cons_zero, Option.getD_some]; rfl
  clear hS
  generalize hH : Heap.new g _ = H
  have hb : H.get g.nx = .cells [.int .u64 now, v] .cl := by rw [← hH, Heap.get_new, if_pos rfl]
  have kp : Kp g H := by rw [← hH]; exact (Kp.refl g).new _
  have hgn : g.nx < H.nx := by rw [← hH]; simp [Heap.new]
  clear hH
  have hv := hv.keep kp
  have hlH : H.lo = g.lo := kp.lo
  refine loop_ind (fun m s h => inv9 now v l g.nx H m s h) ?_ l.length ⟨0, by omega, by omega, b1', b10, b11, b12, Kp.refl H, fun j _ hj => by omega, fun j _ hj => by omega⟩
  rintro m s h ⟨k, hk', hm, a1, a10, a11, a12, kh, hok, hinc⟩
  have hbh : h.get g.nx = .cells [.int .u64 now, v] .cl := by rw [kh.get _ hgn, hb]
  by_cases hlt : k < l.length
  case neg =>
    have hlt' : ¬ ((k : Int) < (l.length : Int)) := by omega
    have e : DOk now l := ⟨fun j hj => hok j hj (by omega), fun j hj => hinc j hj (by omega)⟩
    simp only [↓zp, zz, true_and, and_true, chkOk, Nat.reduceEqDiff, Nat.reduceAdd, Nat.reduceSub, Nat.reduceMul, Nat.reduceLT, Nat.reduceLeDiff, Int.reduceLT, Int.reduceLE, Int.reduceEq, Int.reduceAdd, Int.reduceNeg, if_false, if_true, reduceIte, List.getElem?_cons_succ, List.getElem?_cons_zero, Option.getD_some, r_mv, r_pick, r_box, r_alloc, r_un, r_eqb, r_ext, r_mkf, r_cnv, r_st, r_nck, r_ix, r_iaa, takeN, List.cons_append, List.nil_append, VE.store, over, cellsAt, VE.part, Option.map_some, Option.bind_some, blkX, gEval, cond_true, cond_false, r_build, r_bsl, fill, VE.unOp, r_bin, List.drop_zero, List.drop_succ_cons, resOf, resVs, resV, List.length_cons, List.length_nil, reduceCtorEq, or_true, true_or, false_or, or_false, eq_self, exists_eq_left', Option.some.injEq, a1, a10, a11, a12, hbh, hlt', e, frzI]
  have hlt' : (k : Int) < (l.length : Int) := by omega
  have ws := wr_succ (k := k) (by omega)
  obtain ⟨a, ia, el⟩ := hv.ia encK_len (by decide) hlt
  have ld := El.ld el kh (encK_len l[k])
  have shk := sh _ (List.getElem_mem hlt)
  have es := fun h => empty_spec he0 l[k].a shk h
  have hl0 : ¬ (h.nx < h.lo) := by have := kh.lo; have := kh.nx; omega
  have hne : ¬ g.nx = h.nx := by have := kh.nx; omega
  have kp2 := kh.hk l[k] t1
  have kp3 := kp2.new (.cells (encA l[k].a) .cl)
  have vs := mcheck_spec hmc h1 g1 h2 h3 h4 g2 g3 g4 g5 g6 g7 h5 g8 now z32 z16 rfl rfl (.sl (h.nx + 1) 0 1 1 24) [l[k].a] ((hk h l[k] t1).new (.cells (encA l[k].a) .cl)) (.inr ⟨h.nx + 1, 0, 1, 1, .cl, _, [], rfl, rfl, by rw [Heap.get_new, if_pos (by simp only [hk, Heap.set_nx, Heap.new_nx])], by simp, by simp [Heap.new_nx, hk]⟩) (mz_iso now) (fun y hy => by
    obtain rfl : y = l[k].a := by simpa using hy
    exact shk.small) (by simp)
  rw [mz_eq] at vs
  simp only [encK, encA] at ld
  simp only [encA] at es
  simp only [hk, zk, encK, encA] at kp2 kp3
  simp only [hk, zk, encK, encA, mz] at vs
  by_cases q2 : 16 ≤ l[k].t
  case pos =>
    have e := no (LackOk now l[k]) (fun q => q.1 q2) (·.each k hlt)
    simp only [↓zp, zz, true_and, and_true, chkOk, Nat.reduceEqDiff, Nat.reduceAdd, Nat.reduceSub, Nat.reduceMul, Nat.reduceLT, Nat.reduceLeDiff, Int.reduceLT, Int.reduceLE, Int.reduceEq, Int.reduceAdd, Int.reduceNeg, if_false, if_true, reduceIte, List.getElem?_cons_succ, List.getElem?_cons_zero, Option.getD_some, r_mv, r_pick, r_box, r_alloc, r_un, r_eqb, r_ext, r_mkf, r_cnv, r_st, r_nck, r_ix, r_iaa, takeN, List.cons_append, List.nil_append, VE.store, over, cellsAt, VE.part, Option.map_some, Option.bind_some, blkX, gEval, cond_true, cond_false, r_build, r_bsl, fill, VE.unOp, r_bin, List.drop_zero, List.drop_succ_cons, resOf, resVs, resV, List.length_cons, List.length_nil, reduceCtorEq, or_true, true_or, false_or, or_false, eq_self, exists_eq_left', Option.some.injEq, a1, a10, a11, a12, hbh, hlt', ia, ld, hl0, hne, q2, ← e, frzI]
  by_cases q3 : 1000000 < l[k].e
  case pos =>
    have e := no (LackOk now l[k]) (fun q => q.2.1 q3) (·.each k hlt)
    simp only [↓zp, zz, true_and, and_true, chkOk, Nat.reduceEqDiff, Nat.reduceAdd, Nat.reduceSub, Nat.reduceMul, Nat.reduceLT, Nat.reduceLeDiff, Int.reduceLT, Int.reduceLE, Int.reduceEq, Int.reduceAdd, Int.reduceNeg, if_false, if_true, reduceIte, List.getElem?_cons_succ, List.getElem?_cons_zero, Option.getD_some, r_mv, r_pick, r_box, r_alloc, r_un, r_eqb, r_ext, r_mkf, r_cnv, r_st, r_nck, r_ix, r_iaa, takeN, List.cons_append, List.nil_append, VE.store, over, cellsAt, VE.part, Option.map_some, Option.bind_some, blkX, gEval, cond_true, cond_false, r_build, r_bsl, fill, VE.unOp, r_bin, List.drop_zero, List.drop_succ_cons, resOf, resVs, resV, List.length_cons, List.length_nil, reduceCtorEq, or_true, true_or, false_or, or_false, eq_self, exists_eq_left', Option.some.injEq, a1, a10, a11, a12, hbh, hlt', ia, ld, hl0, hne, q2, q3, ← e, frzI]
  have fin : LackOk now l[k] → (∀ j (hj : j + 1 < l.length), j + 1 = k → ¬ l[j + 1].t ≤ l[j].t) → (∀ j (hj : j < l.length), j < k + 1 → LackOk now l[j]) ∧ ∀ j (hj : j + 1 < l.length), j + 1 < k + 1 → ¬ l[j + 1].t ≤ l[j].t := fun x y => ⟨fun j hj hj2 => by
    rcases Nat.lt_or_ge j k with r | r
    · exact hok j hj r
    · have : j = k := by omega
      subst this
      exact x, fun j hj hj2 => by
    rcases Nat.lt_or_ge (j + 1) k with r | r
    · exact hinc j hj r
    · exact y j hj (by omega)⟩
  by_cases hz : 0 < k
  case neg =>
    have hz' : ¬ ((0 : Int) < (k : Int)) := by omega
    cases q4 : l[k].is with
    | true =>
      rw [q4] at kp2
      rw [q4] at kp3 vs
      by_cases q5 : l[k].a.t = l[k].t
      case neg =>
        have e := no (LackOk now l[k]) (fun q => q5 (q.2.2.1 q4).1) (·.each k hlt)
        simp only [↓zp, zz, true_and, and_true, chkOk, Nat.reduceEqDiff, Nat.reduceAdd, Nat.reduceSub, Nat.reduceMul, Nat.reduceLT, Nat.reduceLeDiff, Int.reduceLT, Int.reduceLE, Int.reduceEq, Int.reduceAdd, Int.reduceNeg, if_false, if_true, reduceIte, List.getElem?_cons_succ, List.getElem?_cons_zero, Option.getD_some, r_mv, r_pick, r_box, r_alloc, r_un, r_eqb, r_ext, r_mkf, r_cnv, r_st, r_nck, r_ix, r_iaa, takeN, List.cons_append, List.nil_append, VE.store, over, cellsAt, VE.part, Option.map_some, Option.bind_some, blkX, gEval, cond_true, cond_false, r_build, r_bsl, fill, VE.unOp, r_bin, List.drop_zero, List.drop_succ_cons, resOf, resVs, resV, List.length_cons, List.length_nil, reduceCtorEq, or_true, true_or, false_or, or_false, eq_self, exists_eq_left', Option.some.injEq, a1, a10, a11, a12, hbh, hlt', ia, ld, hl0, hne, q2, q3, hz', q4, q5, ← e, frzI]
      have q5' := eq_true q5
      by_cases q6 : MOk now z16 [l[k].a]
      case neg =>
        have e := no (LackOk now l[k]) (fun q => q6 (q.2.2.1 q4).2) (·.each k hlt)
        simp only [q6, if_false] at vs
        simp only [↓zp, zz, true_and, and_true, chkOk, Nat.reduceEqDiff, Nat.reduceAdd, Nat.reduceSub, Nat.reduceMul, Nat.reduceLT, Nat.reduceLeDiff, Int.reduceLT, Int.reduceLE, Int.reduceEq, Int.reduceAdd, Int.reduceNeg, if_false, if_true, reduceIte, List.getElem?_cons_succ, List.getElem?_cons_zero, Option.getD_some, r_mv, r_pick, r_box, r_alloc, r_un, r_eqb, r_ext, r_mkf, r_cnv, r_st, r_nck, r_ix, r_iaa, takeN, List.cons_append, List.nil_append, VE.store, over, cellsAt, VE.part, Option.map_some, Option.bind_some, blkX, gEval, cond_true, cond_false, r_build, r_bsl, fill, VE.unOp, r_bin, List.drop_zero, List.drop_succ_cons, resOf, resVs, resV, List.length_cons, List.length_nil, reduceCtorEq, or_true, true_or, false_or, or_false, eq_self, exists_eq_left', Option.some.injEq, a1, a10, a11, a12, hbh, hlt', ia, ld, hl0, hne, q2, q3, hz', q4, q5', mb, vs, ← e, frzI]
      simp only [q6, if_true] at vs
      simp only [↓zp, zz, true_and, and_true, chkOk, Nat.reduceEqDiff, Nat.reduceAdd, Nat.reduceSub, Nat.reduceMul, Nat.reduceLT, Nat.reduceLeDiff, Int.reduceLT, Int.reduceLE, Int.reduceEq, Int.reduceAdd, Int.reduceNeg, if_false, if_true, reduceIte, List.getElem?_cons_succ, List.getElem?_cons_zero, Option.getD_some, r_mv, r_pick, r_box, r_alloc, r_un, r_eqb, r_ext, r_mkf, r_cnv, r_st, r_nck, r_ix, r_iaa, takeN, List.cons_append, List.nil_append, VE.store, over, cellsAt, VE.part, Option.map_some, Option.bind_some, blkX, gEval, cond_true, cond_false, r_build, r_bsl, fill, VE.unOp, r_bin, List.drop_zero, List.drop_succ_cons, resOf, resVs, resV, List.length_cons, List.length_nil, reduceCtorEq, or_true, true_or, false_or, or_false, eq_self, exists_eq_left', Option.some.injEq, a1, a10, a11, a12, hbh, hlt', ia, ld, hl0, hne, q2, q3, hz', q4, q5', mb, vs, ws]
      have fin := fin ⟨q2, q3, fun _ => ⟨q5, q6⟩, fun q => by rw [q4] at q; cases q⟩ (fun j hj h => by omega)
      exact ⟨_, by omega, k + 1, by omega, rfl, by simp only [Slots.at_set, Nat.reduceEqDiff, if_false, if_true, reduceIte, argSlots_at, List.getElem?_cons_succ, List.getElem?_cons_zero, Option.getD_some, a1], by simp only [Slots.at_set, Nat.reduceEqDiff, if_false, if_true, reduceIte, argSlots_at, List.getElem?_cons_succ, List.getElem?_cons_zero, Option.getD_some, a10], by simp only [Slots.at_set, Nat.reduceEqDiff, if_false, if_true, reduceIte, argSlots_at, List.getElem?_cons_succ, List.getElem?_cons_zero, Option.getD_some, a11], by simp only [Slots.at_set, Nat.reduceEqDiff, if_false, if_true, reduceIte, argSlots_at, List.getElem?_cons_succ, List.getElem?_cons_zero, Option.getD_some], kp3, fin.1, fin.2⟩
    | false =>
      rw [q4] at kp2
      by_cases q6 : SameA l[k].a zA
      case neg =>
        have e := no (LackOk now l[k]) (fun q => q6 (q.2.2.2 q4)) (·.each k hlt)
        simp only [↓zp, zz, true_and, and_true, chkOk, Nat.reduceEqDiff, Nat.reduceAdd, Nat.reduceSub, Nat.reduceMul, Nat.reduceLT, Nat.reduceLeDiff, Int.reduceLT, Int.reduceLE, Int.reduceEq, Int.reduceAdd, Int.reduceNeg, if_false, if_true, reduceIte, List.getElem?_cons_succ, List.getElem?_cons_zero, Option.getD_some, r_mv, r_pick, r_box, r_alloc, r_un, r_eqb, r_ext, r_mkf, r_cnv, r_st, r_nck, r_ix, r_iaa, takeN, List.cons_append, List.nil_append, VE.store, over, cellsAt, VE.part, Option.map_some, Option.bind_some, blkX, gEval, cond_true, cond_false, r_build, r_bsl, fill, VE.unOp, r_bin, List.drop_zero, List.drop_succ_cons, resOf, resVs, resV, List.length_cons, List.length_nil, reduceCtorEq, or_true, true_or, false_or, or_false, eq_self, exists_eq_left', Option.some.injEq, a1, a10, a11, a12, hbh, hlt', ia, ld, hl0, hne, q2, q3, hz', q4, ma, es, q6, ← e, frzI]
      simp only [↓zp, zz, true_and, and_true, chkOk, Nat.reduceEqDiff, Nat.reduceAdd, Nat.reduceSub, Nat.reduceMul, Nat.reduceLT, Nat.reduceLeDiff, Int.reduceLT, Int.reduceLE, Int.reduceEq, Int.reduceAdd, Int.reduceNeg, if_false, if_true, reduceIte, List.getElem?_cons_succ, List.getElem?_cons_zero, Option.getD_some, r_mv, r_pick, r_box, r_alloc, r_un, r_eqb, r_ext, r_mkf, r_cnv, r_st, r_nck, r_ix, r_iaa, takeN, List.cons_append, List.nil_append, VE.store, over, cellsAt, VE.part, Option.map_some, Option.bind_some, blkX, gEval, cond_true, cond_false, r_build, r_bsl, fill, VE.unOp, r_bin, List.drop_zero, List.drop_succ_cons, resOf, resVs, resV, List.length_cons, List.length_nil, reduceCtorEq, or_true, true_or, false_or, or_false, eq_self, exists_eq_left', Option.some.injEq, a1, a10, a11, a12, hbh, hlt', ia, ld, hl0, hne, q2, q3, hz', q4, ma, es, q6, ws]
      have fin := fin ⟨q2, q3, fun q => by (rw [q4] at q; cases q), fun _ => q6⟩ (fun j hj h => by omega)
      exact ⟨_, by omega, k + 1, by omega, rfl, by simp only [Slots.at_set, Nat.reduceEqDiff, if_false, if_true, reduceIte, argSlots_at, List.getElem?_cons_succ, List.getElem?_cons_zero, Option.getD_some, a1], by simp only [Slots.at_set, Nat.reduceEqDiff, if_false, if_true, reduceIte, argSlots_at, List.getElem?_cons_succ, List.getElem?_cons_zero, Option.getD_some, a10], by simp only [Slots.at_set, Nat.reduceEqDiff, if_false, if_true, reduceIte, argSlots_at, List.getElem?_cons_succ, List.getElem?_cons_zero, Option.getD_some, a11], by simp only [Slots.at_set, Nat.reduceEqDiff, if_false, if_true, reduceIte, argSlots_at, List.getElem?_cons_succ, List.getElem?_cons_zero, Option.getD_some], kp2, fin.1, fin.2⟩
  have hz' : (0 : Int) < (k : Int) := by omega
  have wp := wr_pred (k := k) hz (by omega)
  obtain ⟨a2, ia2, el2⟩ := hv.ia encK_len (by decide) (k := k - 1) (by omega)
  obtain ⟨a5, fa5, el5⟩ := el2.fa (n := 0) (by omega)
  have ld5 := El.ld1 el5 kp2
  have e21 : k - 1 + 1 = k := by omega
  by_cases hle : l[k].t ≤ l[k - 1].t
  case pos =>
    have e := no (∀ k (h : k + 1 < l.length), ¬ l[k + 1].t ≤ l[k].t) (fun q => by have := q (k - 1) (by omega); simp only [e21] at this; exact this hle) (·.inc)
    simp only [↓zp, zz, true_and, and_true, chkOk, Nat.reduceEqDiff, Nat.reduceAdd, Nat.reduceSub, Nat.reduceMul, Nat.reduceLT, Nat.reduceLeDiff, Int.reduceLT, Int.reduceLE, Int.reduceEq, Int.reduceAdd, Int.reduceNeg, if_false, if_true, reduceIte, List.getElem?_cons_succ, List.getElem?_cons_zero, Option.getD_some, r_mv, r_pick, r_box, r_alloc, r_un, r_eqb, r_ext, r_mkf, r_cnv, r_st, r_nck, r_ix, r_iaa, takeN, List.cons_append, List.nil_append, VE.store, over, cellsAt, VE.part, Option.map_some, Option.bind_some, blkX, gEval, cond_true, cond_false, r_build, r_bsl, fill, VE.unOp, r_bin, List.drop_zero, List.drop_succ_cons, resOf, resVs, resV, List.length_cons, List.length_nil, reduceCtorEq, or_true, true_or, false_or, or_false, eq_self, exists_eq_left', Option.some.injEq, a1, a10, a11, a12, hbh, hlt', ia, ld, hl0, hne, q2, q3, hz', wp, ia2, fa5, ld5, hle, ← e, frzI]
  cases q4 : l[k].is with
  | true =>
    rw [q4] at kp2 ld5
    rw [q4] at kp3 vs
    by_cases q5 : l[k].a.t = l[k].t
    case neg =>
      have e := no (LackOk now l[k]) (fun q => q5 (q.2.2.1 q4).1) (·.each k hlt)
      simp only [↓zp, zz, true_and, and_true, chkOk, Nat.reduceEqDiff, Nat.reduceAdd, Nat.reduceSub, Nat.reduceMul, Nat.reduceLT, Nat.reduceLeDiff, Int.reduceLT, Int.reduceLE, Int.reduceEq, Int.reduceAdd, Int.reduceNeg, if_false, if_true, reduceIte, List.getElem?_cons_succ, List.getElem?_cons_zero, Option.getD_some, r_mv, r_pick, r_box, r_alloc, r_un, r_eqb, r_ext, r_mkf, r_cnv, r_st, r_nck, r_ix, r_iaa, takeN, List.cons_append, List.nil_append, VE.store, over, cellsAt, VE.part, Option.map_some, Option.bind_some, blkX, gEval, cond_true, cond_false, r_build, r_bsl, fill, VE.unOp, r_bin, List.drop_zero, List.drop_succ_cons, resOf, resVs, resV, List.length_cons, List.length_nil, reduceCtorEq, or_true, true_or, false_or, or_false, eq_self, exists_eq_left', Option.some.injEq, a1, a10, a11, a12, hbh, hlt', ia, ld, hl0, hne, q2, q3, hz', wp, ia2, fa5, ld5, hle, q4, q5, ← e, frzI]
    have q5' := eq_true q5
    by_cases q6 : MOk now z16 [l[k].a]
    case neg =>
      have e := no (LackOk now l[k]) (fun q => q6 (q.2.2.1 q4).2) (·.each k hlt)
      simp only [q6, if_false] at vs
      simp only [↓zp, zz, true_and, and_true, chkOk, Nat.reduceEqDiff, Nat.reduceAdd, Nat.reduceSub, Nat.reduceMul, Nat.reduceLT, Nat.reduceLeDiff, Int.reduceLT, Int.reduceLE, Int.reduceEq, Int.reduceAdd, Int.reduceNeg, if_false, if_true, reduceIte, List.getElem?_cons_succ, List.getElem?_cons_zero, Option.getD_some, r_mv, r_pick, r_box, r_alloc, r_un, r_eqb, r_ext, r_mkf, r_cnv, r_st, r_nck, r_ix, r_iaa, takeN, List.cons_append, List.nil_append, VE.store, over, cellsAt, VE.part, Option.map_some, Option.bind_some, blkX, gEval, cond_true, cond_false, r_build, r_bsl, fill, VE.unOp, r_bin, List.drop_zero, List.drop_succ_cons, resOf, resVs, resV, List.length_cons, List.length_nil, reduceCtorEq, or_true, true_or, false_or, or_false, eq_self, exists_eq_left', Option.some.injEq, a1, a10, a11, a12, hbh, hlt', ia, ld, hl0, hne, q2, q3, hz', wp, ia2, fa5, ld5, hle, q4, q5', mb, vs, ← e, frzI]
    simp only [q6, if_true] at vs
    simp only [↓zp, zz, true_and, and_true, chkOk, Nat.reduceEqDiff, Nat.reduceAdd, Nat.reduceSub, Nat.reduceMul, Nat.reduceLT, Nat.reduceLeDiff, Int.reduceLT, Int.reduceLE, Int.reduceEq, Int.reduceAdd, Int.reduceNeg, if_false, if_true, reduceIte, List.getElem?_cons_succ, List.getElem?_cons_zero, Option.getD_some, r_mv, r_pick, r_box, r_alloc, r_un, r_eqb, r_ext, r_mkf, r_cnv, r_st, r_nck, r_ix, r_iaa, takeN, List.cons_append, List.nil_append, VE.store, over, cellsAt, VE.part, Option.map_some, Option.bind_some, blkX, gEval, cond_true, cond_false, r_build, r_bsl, fill, VE.unOp, r_bin, List.drop_zero, List.drop_succ_cons, resOf, resVs, resV, List.length_cons, List.length_nil, reduceCtorEq, or_true, true_or, false_or, or_false, eq_self, exists_eq_left', Option.some.injEq, a1, a10, a11, a12, hbh, hlt', ia, ld, hl0, hne, q2, q3, hz', wp, ia2, fa5, ld5, hle, q4, q5', mb, vs, ws]
    have fin := fin ⟨q2, q3, fun _ => ⟨q5, q6⟩, fun q => by rw [q4] at q; cases q⟩ (fun j hj h => by (have : j = k - 1 := by omega); subst this; simpa only [e21] using hle)
    exact ⟨_, by omega, k + 1, by omega, rfl, by simp only [Slots.at_set, Nat.reduceEqDiff, if_false, if_true, reduceIte, argSlots_at, List.getElem?_cons_succ, List.getElem?_cons_zero, Option.getD_some, a1], by simp only [Slots.at_set, Nat.reduceEqDiff, if_false, if_true, reduceIte, argSlots_at, List.getElem?_cons_succ, List.getElem?_cons_zero, Option.getD_some, a10], by simp only [Slots.at_set, Nat.reduceEqDiff, if_false, if_true, reduceIte, argSlots_at, List.getElem?_cons_succ, List.getElem?_cons_zero, Option.getD_some, a11], by simp only [Slots.at_set, Nat.reduceEqDiff, if_false, if_true, reduceIte, argSlots_at, List.getElem?_cons_succ, List.getElem?_cons_zero, Option.getD_some], kp3, fin.1, fin.2⟩
  | false =>
    rw [q4] at kp2 ld5
    by_cases q6 : SameA l[k].a zA
    case neg =>
      have e := no (LackOk now l[k]) (fun q => q6 (q.2.2.2 q4)) (·.each k hlt)
      simp only [↓zp, zz, true_and, and_true, chkOk, Nat.reduceEqDiff, Nat.reduceAdd, Nat.reduceSub, Nat.reduceMul, Nat.reduceLT, Nat.reduceLeDiff, Int.reduceLT, Int.reduceLE, Int.reduceEq, Int.reduceAdd, Int.reduceNeg, if_false, if_true, reduceIte, List.getElem?_cons_succ, List.getElem?_cons_zero, Option.getD_some, r_mv, r_pick, r_box, r_alloc, r_un, r_eqb, r_ext, r_mkf, r_cnv, r_st, r_nck, r_ix, r_iaa, takeN, List.cons_append, List.nil_append, VE.store, over, cellsAt, VE.part, Option.map_some, Option.bind_some, blkX, gEval, cond_true, cond_false, r_build, r_bsl, fill, VE.unOp, r_bin, List.drop_zero, List.drop_succ_cons, resOf, resVs, resV, List.length_cons, List.length_nil, reduceCtorEq, or_true, true_or, false_or, or_false, eq_self, exists_eq_left', Option.some.injEq, a1, a10, a11, a12, hbh, hlt', ia, ld, hl0, hne, q2, q3, hz', wp, ia2, fa5, ld5, hle, q4, ma, es, q6, ← e, frzI]
    simp only [↓zp, zz, true_and, and_true, chkOk, Nat.reduceEqDiff, Nat.reduceAdd, Nat.reduceSub, Nat.reduceMul, Nat.reduceLT, Nat.reduceLeDiff, Int.reduceLT, Int.reduceLE, Int.reduceEq, Int.reduceAdd, Int.reduceNeg, if_false, if_true, reduceIte, List.getElem?_cons_succ, List.getElem?_cons_zero, Option.getD_some, r_mv, r_pick, r_box, r_alloc, r_un, r_eqb, r_ext, r_mkf, r_cnv, r_st, r_nck, r_ix, r_iaa, takeN, List.cons_append, List.nil_append, VE.store, over, cellsAt, VE.part, Option.map_some, Option.bind_some, blkX, gEval, cond_true, cond_false, r_build, r_bsl, fill, VE.unOp, r_bin, List.drop_zero, List.drop_succ_cons, resOf, resVs, resV, List.length_cons, List.length_nil, reduceCtorEq, or_true, true_or, false_or, or_false, eq_self, exists_eq_left', Option.some.injEq, a1, a10, a11, a12, hbh, hlt', ia, ld, hl0, hne, q2, q3, hz', wp, ia2, fa5, ld5, hle, q4, ma, es, q6, ws]
    have fin := fin ⟨q2, q3, fun q => by (rw [q4] at q; cases q), fun _ => q6⟩ (fun j hj h => by (have : j = k - 1 := by omega); subst this; simpa only [e21] using hle)
    exact ⟨_, by omega, k + 1, by omega, rfl, by simp only [Slots.at_set, Nat.reduceEqDiff, if_false, if_true, reduceIte, argSlots_at, List.getElem?_cons_succ, List.getElem?_cons_zero, Option.getD_some, a1], by simp only [Slots.at_set, Nat.reduceEqDiff, if_false, if_true, reduceIte, argSlots_at, List.getElem?_cons_succ, List.getElem?_cons_zero, Option.getD_some, a10], by simp only [Slots.at_set, Nat.reduceEqDiff, if_false, if_true, reduceIte, argSlots_at, List.getElem?_cons_succ, List.getElem?_cons_zero, Option.getD_some, a11], by simp only [Slots.at_set, Nat.reduceEqDiff, if_false, if_true, reduceIte, argSlots_at, List.getElem?_cons_succ, List.getElem?_cons_zero, Option.getD_some], kp2, fin.1, fin.2⟩
end
end Go.VE.LB
