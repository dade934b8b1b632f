/- What the functions of the law DifferChecks compute, on typed arguments (part 14). -/
import Derived.Test.YtlomleifnbpghabDifferChecksA13
set_option linter.all false
namespace Go.VE.LB
open Go Go.VE Classical
set_option maxRecDepth 100000
set_option maxHeartbeats 4000000
set_option linter.all false
def hp (h : Heap) (x : Acct) (t1 : Nat) : Heap := (h.new (.cells zc (.ct t1))).set h.nx (.cells (encA x) (.ct t1))
theorem Kp.hp {H h : Heap} (k : Kp H h) (x : Acct) (t1 : Nat) : Kp H (hp h x t1) := (k.new _).set _ k.nx
section
variable {vp : Nat → Option VFn}
def inv18 (now : Int) (v : V) (l : List Acct) (c3 b : Nat) (H : Heap) (m : Nat) (s : Slots) (h : Heap) : Prop :=
  ∃ k, k ≤ l.length ∧ m = l.length - k ∧ s.at 1 = .ptr b 0 ∧ s.at 3 = .fn c3 [.ptr b 0] ∧ s.at 17 = v ∧ s.at 18 = .int .i64 (l.length : Int) ∧ s.at 19 = .int .i64 (k : Int) ∧ Kp H h ∧ (∀ j (hj : j < l.length), j < k → AOk l[j] ∧ lateA now l[j] = false) ∧ ∀ j (hj : j + 1 < l.length), j + 1 < k → ¬ l[j + 1].t ≤ l[j].t
theorem mcheck_spec {f c1 c2 c3 c4 c5 d1 d2 d3 d4 d5 d6 d7 d8 t1 t2 t3 : Nat} (hf : vp f = some (B_model_Check c1 c2 c3 c4 c5 t1)) (h1 : vp c1 = some (B_slices_ContainsFunc_uint32 d1)) (g1 : vp d1 = some B_slices_IndexFunc_uint32) (h2 : vp c2 = some B_model_Check_fn1) (h3 : vp c3 = some B_model_Check_fn2)
    (h4 : vp c4 = some (B_model_valid d2 d3 d4 t2)) (g2 : vp d2 = some B_bucket_CheckLimit) (g3 : vp d3 = some (B_bucket_Check d2)) (g4 : vp d4 = some (B_model_held d5 d3 t3)) (g5 : vp d5 = some (B_model_at d6 d7)) (g6 : vp d6 = some B_model_at_fn1) (g7 : vp d7 = some B_slices_IndexFunc_api_Held)
    (h5 : vp c5 = some (B_slices_ContainsFunc_api_Held d8)) (g8 : vp d8 = some B_slices_IndexFunc_api_Held)
    (now : Int) (sd ep : List Int) (hsd : sd.length = 32) (hep : ep.length = 16) (v : V) (l : List Acct) (h : Heap) (hv : Rd encA 24 h v l) (hi : ∀ b o n c, isoArgs 1 [.agg (encM now sd ep (.sl b o n c 24))] = none) (sm : ∀ x ∈ l, Small x) (hn : l.length < 4611686018427387904) :
    callRes vp f [.agg (encM now sd ep v)] h = some (.int .i64 (if MOk now ep l then 0 else 8), h) := by
  have m1 : modeOf vp c1 = some 1 := by simp [modeOf, h1, B_slices_ContainsFunc_uint32]
  have m4 : modeOf vp c4 = some 1 := by simp [modeOf, h4, B_model_valid]
  have m5 : modeOf vp c5 = some 1 := by simp [modeOf, h5, B_slices_ContainsFunc_api_Held]
  refine res_pure hf rfl rfl (fun g hg => ?_)
  have hlo := hlo hg
  have hv := hv.enter (A := fun v => [.agg (encM now sd ep v)]) hg hi
  have no : ∀ (P : Prop), ¬ P → (MOk now ep l → P) → (.int .i64 8 : V) = .int .i64 (if MOk now ep l then 0 else 8) := fun P hn hv => by
    rw [if_neg (fun q => hn (hv q))]
  obtain ⟨R, er⟩ : ∃ R, encM now sd ep v = .int .u64 now :: R := ⟨_, rfl⟩
  have lM := M_len (now := now) (v := v) hsd hep
  have d49 := M49 (now := now) (v := v) hsd hep
  have d33 := M33 (now := now) (ep := ep) (v := v) hsd
  rw [er] at lM d49 d33 hg ⊢
  have hrd : Rd e32 1 (g.new (.cells (.int .u64 now :: R) .cl)) (.sl g.nx 33 16 16 1) ep := .inr ⟨g.nx, 33, 16, 16, .cl, _, [v], rfl, hep.symm, by rw [Heap.get_new, if_pos rfl], by rw [d33, map_flat], by simp [Heap.new]⟩
  have sl : r_slca 16 1 (.ptr g.nx 33) none none none (g.new (.cells (.int .u64 now :: R) .cl)) = some (.sl g.nx 33 16 16 1, g.new (.cells (.int .u64 now :: R) .cl)) := by
    simp only [r_slca, bound, Heap.get_new, if_true, lM]
    rfl
  have an := any32_spec h1 g1 (.fn c2 []) bigE _ ep _ hrd (fun _ _ _ _ => rfl) (by omega) (fun g x => callVRes_fn (fnbig_spec h2 x g))
  simp only [List.length_cons, List.drop_succ_cons, Nat.add_right_cancel_iff, Nat.reduceEqDiff] at lM d49 d33
  have ln := hv.len
  unfold B_model_Check
  by_cases q1 : 8 < (l.length : Int)
  · have e := no _ (not_not_intro q1) (·.len)
    simp only [↓zp, zz, true_and, and_true, chkOk, Nat.reduceEqDiff, Nat.reduceAdd, Nat.reduceSub, Nat.reduceMul, Nat.reduceLT, Nat.reduceLeDiff, Int.reduceLT, Int.reduceLE, Int.reduceEq, Int.reduceAdd, Int.reduceNeg, if_false, if_true, reduceIte, List.getElem?_cons_succ, List.getElem?_cons_zero, Option.getD_some, r_mv, r_pick, r_box, r_alloc, r_un, r_eqb, r_ext, r_mkf, r_cnv, r_st, r_nck, r_ix, r_iaa, takeN, List.cons_append, List.nil_append, VE.store, over, cellsAt, VE.part, Option.map_some, Option.bind_some, blkX, gEval, cond_true, cond_false, r_build, r_bsl, fill, VE.unOp, r_bin, List.drop_zero, List.drop_succ_cons, resOf, resVs, resV, List.length_cons, List.length_nil, reduceCtorEq, or_true, true_or, false_or, or_false, eq_self, exists_eq_left', Option.some.injEq, lM, d49, ln, q1, ← e, frzI]
  cases qe : ep.any bigE with
  | true =>
    have e := no (ep.any bigE = false) (by rw [qe]; simp) (·.ep)
    simp only [↓zp, zz, true_and, and_true, chkOk, Nat.reduceEqDiff, Nat.reduceAdd, Nat.reduceSub, Nat.reduceMul, Nat.reduceLT, Nat.reduceLeDiff, Int.reduceLT, Int.reduceLE, Int.reduceEq, Int.reduceAdd, Int.reduceNeg, if_false, if_true, reduceIte, List.getElem?_cons_succ, List.getElem?_cons_zero, Option.getD_some, r_mv, r_pick, r_box, r_alloc, r_un, r_eqb, r_ext, r_mkf, r_cnv, r_st, r_nck, r_ix, r_iaa, takeN, List.cons_append, List.nil_append, VE.store, over, cellsAt, VE.part, Option.map_some, Option.bind_some, blkX, gEval, cond_true, cond_false, r_build, r_bsl, fill, VE.unOp, r_bin, List.drop_zero, List.drop_succ_cons, resOf, resVs, resV, List.length_cons, List.length_nil, reduceCtorEq, or_true, true_or, false_or, or_false, eq_self, exists_eq_left', Option.some.injEq, lM, d49, ln, q1, sl, m1, an, qe, ← e, frzI]
  | false =>
  simp only [↓zp, zz, true_and, and_true, chkOk, Nat.reduceEqDiff, Nat.reduceAdd, Nat.reduceSub, Nat.reduceMul, Nat.reduceLT, Nat.reduceLeDiff, Int.reduceLT, Int.reduceLE, Int.reduceEq, Int.reduceAdd, Int.reduceNeg, if_false, if_true, reduceIte, List.getElem?_cons_succ, List.getElem?_cons_zero, Option.getD_some, r_mv, r_pick, r_box, r_alloc, r_un, r_eqb, r_ext, r_mkf, r_cnv, r_st, r_nck, r_ix, r_iaa, takeN, List.cons_append, List.nil_append, VE.store, over, cellsAt, VE.part, Option.map_some, Option.bind_some, blkX, gEval, cond_true, cond_false, r_build, r_bsl, fill, VE.unOp, r_bin, List.drop_zero, List.drop_succ_cons, resOf, resVs, resV, List.length_cons, List.length_nil, reduceCtorEq, or_true, true_or, false_or, or_false, eq_self, exists_eq_left', Option.some.injEq, lM, d49, ln, q1, sl, m1, an, qe]
  generalize hS : Tr.set _ 19 _ = S
  have b1 : Slots.at S 1 = .ptr g.nx 0 := by rw [← hS]; simp only [Slots.at_set, Nat.reduceEqDiff, if_false, if_true, reduceIte, argSlots_at, List.getElem?_cons_succ, List.getElem?_cons_zero, Option.getD_some]
  have b3 : Slots.at S 3 = .fn c3 [.ptr g.nx 0] := by rw [← hS]; simp only [Slots.at_set, Nat.reduceEqDiff, if_false, if_true, reduceIte, argSlots_at, List.getElem?_cons_succ, List.getElem?_cons_zero, Option.getD_some]
  have b17 : Slots.at S 17 = v := by rw [← hS]; simp only [Slots.at_set, Nat.reduceEqDiff, if_false, if_true, reduceIte, argSlots_at, List.getElem?_cons_succ, List.getElem?_cons_zero, Option.getD_some]
  have b18 : Slots.at S 18 = .int .i64 (l.length : Int) := by rw [← hS]; simp only [Slots.at_set, Nat.reduceEqDiff, if_false, if_true, reduceIte, argSlots_at, List.getElem?_cons_succ, List.getElem?_cons_zero, Option.getD_some]
  have b19 : Slots.at S 19 = .int .i64 ((0 : Nat) : Int) := by rw [← hS]; simp only [Slots.at_set, Nat.reduceEqDiff, if_false, if_true, reduceIte, argSlots_at, List.getElem?_cons_succ, List.getElem?_cons_zero, Option.getD_some]; rfl
  clear hS an sl hrd
  generalize hH : Heap.new g _ = H
  have hb : H.get g.nx = .cells (.int .u64 now :: R) .cl := by rw [← hH, Heap.get_new, if_pos rfl]
  have kp : Kp g H := by rw [← hH]; exact (Kp.refl g).new _
  have hgn : g.nx < H.nx := by rw [← hH]; simp [Heap.new]
  clear hH
  have hv := hv.keep kp
  have hlH : H.lo = g.lo := kp.lo
  refine loop_ind (fun m s h => inv18 now v l c3 g.nx H m s h) ?_ l.length ⟨0, by omega, by omega, b1, b3, b17, b18, b19, Kp.refl H, fun j _ hj => by omega, fun j _ hj => by omega⟩
  rintro m s h ⟨k, hk, hm, a1, a3, a17, a18, a19, kh, hok, hinc⟩
  have hbh : h.get g.nx = .cells (.int .u64 now :: R) .cl := by rw [kh.get _ hgn, hb]
  by_cases hlt : k < l.length
  case neg =>
    have hlt' : ¬ ((k : Int) < (l.length : Int)) := by omega
    have e : MOk now ep l := ⟨q1, qe, fun j hj => (hok j hj (by omega)).1, fun j hj => (hok j hj (by omega)).2, fun j hj => hinc j hj (by omega)⟩
    simp only [↓zp, zz, true_and, and_true, chkOk, Nat.reduceEqDiff, Nat.reduceAdd, Nat.reduceSub, Nat.reduceMul, Nat.reduceLT, Nat.reduceLeDiff, Int.reduceLT, Int.reduceLE, Int.reduceEq, Int.reduceAdd, Int.reduceNeg, if_false, if_true, reduceIte, List.getElem?_cons_succ, List.getElem?_cons_zero, Option.getD_some, r_mv, r_pick, r_box, r_alloc, r_un, r_eqb, r_ext, r_mkf, r_cnv, r_st, r_nck, r_ix, r_iaa, takeN, List.cons_append, List.nil_append, VE.store, over, cellsAt, VE.part, Option.map_some, Option.bind_some, blkX, gEval, cond_true, cond_false, r_build, r_bsl, fill, VE.unOp, r_bin, List.drop_zero, List.drop_succ_cons, resOf, resVs, resV, List.length_cons, List.length_nil, reduceCtorEq, or_true, true_or, false_or, or_false, eq_self, exists_eq_left', Option.some.injEq, a1, a3, a17, a18, a19, hlt', e, frzI]
  have hlt' : (k : Int) < (l.length : Int) := by omega
  have ws := wr_succ (k := k) (by omega)
  obtain ⟨a, ia, el⟩ := hv.ia encA_len (by decide) hlt
  have ld := El.ld el kh (encA_len l[k])
  have vs := fun h => valid_spec h4 g2 g3 g4 g5 g6 g7 l[k] (sm _ (List.getElem_mem hlt)) h
  have hbp : (hp h l[k] t1).get g.nx = .cells (.int .u64 now :: R) .cl := by rw [(kh.hp l[k] t1).get _ hgn, hb]
  have hnp : g.nx < (hp h l[k] t1).nx := Nat.lt_of_lt_of_le hgn (kh.hp l[k] t1).nx
  have au := anyLate h5 g8 h3 now l[k].users (sm _ (List.getElem_mem hlt)).u g.nx R .cl _ hbp hnp
  have ae := anyLate h5 g8 h3 now l[k].ends (sm _ (List.getElem_mem hlt)).e g.nx R .cl _ hbp hnp
  have hl0 : ¬ (h.nx < h.lo) := by have := kh.lo; have := kh.nx; omega
  have hne : ¬ g.nx = h.nx := by have := kh.nx; omega
  have stp : ∀ (P : Nat → Prop), P k → (∀ j, j < k → P j) → ∀ j, j < k + 1 → P j := fun P hk hj j hlt => by
    rcases Nat.lt_or_ge j k with r | r
    · exact hj j r
    · have : j = k := by omega
      subst this
      exact hk
  simp only [encA] at ld vs
  simp only [hp, zc, encA] at au ae
  by_cases q2 : AOk l[k]
  case neg =>
    have e := no _ q2 (·.ok k hlt)
    simp only [↓zp, zz, true_and, and_true, chkOk, Nat.reduceEqDiff, Nat.reduceAdd, Nat.reduceSub, Nat.reduceMul, Nat.reduceLT, Nat.reduceLeDiff, Int.reduceLT, Int.reduceLE, Int.reduceEq, Int.reduceAdd, Int.reduceNeg, if_false, if_true, reduceIte, List.getElem?_cons_succ, List.getElem?_cons_zero, Option.getD_some, r_mv, r_pick, r_box, r_alloc, r_un, r_eqb, r_ext, r_mkf, r_cnv, r_st, r_nck, r_ix, r_iaa, takeN, List.cons_append, List.nil_append, VE.store, over, cellsAt, VE.part, Option.map_some, Option.bind_some, blkX, gEval, cond_true, cond_false, r_build, r_bsl, fill, VE.unOp, r_bin, List.drop_zero, List.drop_succ_cons, resOf, resVs, resV, List.length_cons, List.length_nil, reduceCtorEq, or_true, true_or, false_or, or_false, eq_self, exists_eq_left', Option.some.injEq, a1, a3, a17, a18, a19, hlt', ia, ld, hl0, m4, vs, q2, ← e, frzI]
  by_cases q3 : now < l[k].own.t
  case pos =>
    have e := no (lateA now l[k] = false) (by simp [lateA, q3]) (·.late k hlt)
    simp only [↓zp, zz, true_and, and_true, chkOk, Nat.reduceEqDiff, Nat.reduceAdd, Nat.reduceSub, Nat.reduceMul, Nat.reduceLT, Nat.reduceLeDiff, Int.reduceLT, Int.reduceLE, Int.reduceEq, Int.reduceAdd, Int.reduceNeg, if_false, if_true, reduceIte, List.getElem?_cons_succ, List.getElem?_cons_zero, Option.getD_some, r_mv, r_pick, r_box, r_alloc, r_un, r_eqb, r_ext, r_mkf, r_cnv, r_st, r_nck, r_ix, r_iaa, takeN, List.cons_append, List.nil_append, VE.store, over, cellsAt, VE.part, Option.map_some, Option.bind_some, blkX, gEval, cond_true, cond_false, r_build, r_bsl, fill, VE.unOp, r_bin, List.drop_zero, List.drop_succ_cons, resOf, resVs, resV, List.length_cons, List.length_nil, reduceCtorEq, or_true, true_or, false_or, or_false, eq_self, exists_eq_left', Option.some.injEq, a1, a3, a17, a18, a19, hlt', ia, ld, hl0, m4, vs, q2, hne, hbh, q3, ← e, frzI]
  cases q4 : l[k].users.l.any (lateH now) with
  | true =>
    have e := no (lateA now l[k] = false) (by simp [lateA, q3, q4]) (·.late k hlt)
    simp only [↓zp, zz, true_and, and_true, chkOk, Nat.reduceEqDiff, Nat.reduceAdd, Nat.reduceSub, Nat.reduceMul, Nat.reduceLT, Nat.reduceLeDiff, Int.reduceLT, Int.reduceLE, Int.reduceEq, Int.reduceAdd, Int.reduceNeg, if_false, if_true, reduceIte, List.getElem?_cons_succ, List.getElem?_cons_zero, Option.getD_some, r_mv, r_pick, r_box, r_alloc, r_un, r_eqb, r_ext, r_mkf, r_cnv, r_st, r_nck, r_ix, r_iaa, takeN, List.cons_append, List.nil_append, VE.store, over, cellsAt, VE.part, Option.map_some, Option.bind_some, blkX, gEval, cond_true, cond_false, r_build, r_bsl, fill, VE.unOp, r_bin, List.drop_zero, List.drop_succ_cons, resOf, resVs, resV, List.length_cons, List.length_nil, reduceCtorEq, or_true, true_or, false_or, or_false, eq_self, exists_eq_left', Option.some.injEq, a1, a3, a17, a18, a19, hlt', ia, ld, hl0, m4, vs, q2, hne, hbh, q3, m5, au, q4, ← e, frzI]
  | false =>
  cases q5 : l[k].ends.l.any (lateH now) with
  | true =>
    have e := no (lateA now l[k] = false) (by simp [lateA, q3, q4, q5]) (·.late k hlt)
    simp only [↓zp, zz, true_and, and_true, chkOk, Nat.reduceEqDiff, Nat.reduceAdd, Nat.reduceSub, Nat.reduceMul, Nat.reduceLT, Nat.reduceLeDiff, Int.reduceLT, Int.reduceLE, Int.reduceEq, Int.reduceAdd, Int.reduceNeg, if_false, if_true, reduceIte, List.getElem?_cons_succ, List.getElem?_cons_zero, Option.getD_some, r_mv, r_pick, r_box, r_alloc, r_un, r_eqb, r_ext, r_mkf, r_cnv, r_st, r_nck, r_ix, r_iaa, takeN, List.cons_append, List.nil_append, VE.store, over, cellsAt, VE.part, Option.map_some, Option.bind_some, blkX, gEval, cond_true, cond_false, r_build, r_bsl, fill, VE.unOp, r_bin, List.drop_zero, List.drop_succ_cons, resOf, resVs, resV, List.length_cons, List.length_nil, reduceCtorEq, or_true, true_or, false_or, or_false, eq_self, exists_eq_left', Option.some.injEq, a1, a3, a17, a18, a19, hlt', ia, ld, hl0, m4, vs, q2, hne, hbh, q3, m5, au, q4, ae, q5, ← e, frzI]
  | false =>
  have ql : lateA now l[k] = false := by simp [lateA, q3, q4, q5]
  have kp2 := kh.hp l[k] t1
  simp only [hp, zc, encA] at kp2
  by_cases hz : 0 < k
  case neg =>
    have hz' : ¬ ((0 : Int) < (k : Int)) := by omega
    simp only [↓zp, zz, true_and, and_true, chkOk, Nat.reduceEqDiff, Nat.reduceAdd, Nat.reduceSub, Nat.reduceMul, Nat.reduceLT, Nat.reduceLeDiff, Int.reduceLT, Int.reduceLE, Int.reduceEq, Int.reduceAdd, Int.reduceNeg, if_false, if_true, reduceIte, List.getElem?_cons_succ, List.getElem?_cons_zero, Option.getD_some, r_mv, r_pick, r_box, r_alloc, r_un, r_eqb, r_ext, r_mkf, r_cnv, r_st, r_nck, r_ix, r_iaa, takeN, List.cons_append, List.nil_append, VE.store, over, cellsAt, VE.part, Option.map_some, Option.bind_some, blkX, gEval, cond_true, cond_false, r_build, r_bsl, fill, VE.unOp, r_bin, List.drop_zero, List.drop_succ_cons, resOf, resVs, resV, List.length_cons, List.length_nil, reduceCtorEq, or_true, true_or, false_or, or_false, eq_self, exists_eq_left', Option.some.injEq, a1, a3, a17, a18, a19, hlt', ia, ld, hl0, m4, vs, q2, hne, hbh, q3, m5, au, q4, ae, q5, hz', ws]
    refine ⟨_, by omega, k + 1, by omega, rfl, by simp only [Slots.at_set, Nat.reduceEqDiff, if_false, if_true, reduceIte, argSlots_at, List.getElem?_cons_succ, List.getElem?_cons_zero, Option.getD_some, a1], by simp only [Slots.at_set, Nat.reduceEqDiff, if_false, if_true, reduceIte, argSlots_at, List.getElem?_cons_succ, List.getElem?_cons_zero, Option.getD_some, a3], by simp only [Slots.at_set, Nat.reduceEqDiff, if_false, if_true, reduceIte, argSlots_at, List.getElem?_cons_succ, List.getElem?_cons_zero, Option.getD_some, a17], by simp only [Slots.at_set, Nat.reduceEqDiff, if_false, if_true, reduceIte, argSlots_at, List.getElem?_cons_succ, List.getElem?_cons_zero, Option.getD_some, a18], by simp only [Slots.at_set, Nat.reduceEqDiff, if_false, if_true, reduceIte, argSlots_at, List.getElem?_cons_succ, List.getElem?_cons_zero, Option.getD_some], kp2, fun j hj hj2 => ?_, fun j hj hj2 => by omega⟩
    obtain rfl : j = k := by omega
    exact ⟨q2, ql⟩
  have hz' : (0 : Int) < (k : Int) := by omega
  have wp := wr_pred (k := k) hz (by omega)
  obtain ⟨a2, ia2, el2⟩ := hv.ia encA_len (by decide) (k := k - 1) (by omega)
  obtain ⟨a5, fa5, el5⟩ := el2.fa (n := 0) (by omega)
  have ld5 := El.ld1 el5 kp2
  by_cases hle : l[k].t ≤ l[k - 1].t
  · have e := no (∀ k (h : k + 1 < l.length), ¬ l[k + 1].t ≤ l[k].t) (fun q => by have := q (k - 1) (by omega); have e1 : k - 1 + 1 = k := by omega
                                                                                  simp only [e1] at this; omega) (·.inc)
    simp only [↓zp, zz, true_and, and_true, chkOk, Nat.reduceEqDiff, Nat.reduceAdd, Nat.reduceSub, Nat.reduceMul, Nat.reduceLT, Nat.reduceLeDiff, Int.reduceLT, Int.reduceLE, Int.reduceEq, Int.reduceAdd, Int.reduceNeg, if_false, if_true, reduceIte, List.getElem?_cons_succ, List.getElem?_cons_zero, Option.getD_some, r_mv, r_pick, r_box, r_alloc, r_un, r_eqb, r_ext, r_mkf, r_cnv, r_st, r_nck, r_ix, r_iaa, takeN, List.cons_append, List.nil_append, VE.store, over, cellsAt, VE.part, Option.map_some, Option.bind_some, blkX, gEval, cond_true, cond_false, r_build, r_bsl, fill, VE.unOp, r_bin, List.drop_zero, List.drop_succ_cons, resOf, resVs, resV, List.length_cons, List.length_nil, reduceCtorEq, or_true, true_or, false_or, or_false, eq_self, exists_eq_left', Option.some.injEq, a1, a3, a17, a18, a19, hlt', ia, ld, hl0, m4, vs, q2, hne, hbh, q3, m5, au, q4, ae, q5, hz', wp, d49, ia2, fa5, ld5, hle, ← e, frzI]
  · simp only [↓zp, zz, true_and, and_true, chkOk, Nat.reduceEqDiff, Nat.reduceAdd, Nat.reduceSub, Nat.reduceMul, Nat.reduceLT, Nat.reduceLeDiff, Int.reduceLT, Int.reduceLE, Int.reduceEq, Int.reduceAdd, Int.reduceNeg, if_false, if_true, reduceIte, List.getElem?_cons_succ, List.getElem?_cons_zero, Option.getD_some, r_mv, r_pick, r_box, r_alloc, r_un, r_eqb, r_ext, r_mkf, r_cnv, r_st, r_nck, r_ix, r_iaa, takeN, List.cons_append, List.nil_append, VE.store, over, cellsAt, VE.part, Option.map_some, Option.bind_some, blkX, gEval, cond_true, cond_false, r_build, r_bsl, fill, VE.unOp, r_bin, List.drop_zero, List.drop_succ_cons, resOf, resVs, resV, List.length_cons, List.length_nil, reduceCtorEq, or_true, true_or, false_or, or_false, eq_self, exists_eq_left', Option.some.injEq, a1, a3, a17, a18, a19, hlt', ia, ld, hl0, m4, vs, q2, hne, hbh, q3, m5, au, q4, ae, q5, hz', wp, d49, ia2, fa5, ld5, hle, ws]
    refine ⟨_, by omega, k + 1, by omega, rfl, by simp only [Slots.at_set, Nat.reduceEqDiff, if_false, if_true, reduceIte, argSlots_at, List.getElem?_cons_succ, List.getElem?_cons_zero, Option.getD_some, a1], by simp only [Slots.at_set, Nat.reduceEqDiff, if_false, if_true, reduceIte, argSlots_at, List.getElem?_cons_succ, List.getElem?_cons_zero, Option.getD_some, a3], by simp only [Slots.at_set, Nat.reduceEqDiff, if_false, if_true, reduceIte, argSlots_at, List.getElem?_cons_succ, List.getElem?_cons_zero, Option.getD_some, a17], by simp only [Slots.at_set, Nat.reduceEqDiff, if_false, if_true, reduceIte, argSlots_at, List.getElem?_cons_succ, List.getElem?_cons_zero, Option.getD_some, a18], by simp only [Slots.at_set, Nat.reduceEqDiff, if_false, if_true, reduceIte, argSlots_at, List.getElem?_cons_succ, List.getElem?_cons_zero, Option.getD_some], kp2, fun j hj hj2 => ?_, fun j hj hj2 => ?_⟩
    · rcases Nat.lt_or_ge j k with r | r
      · exact hok j hj r
      · have : j = k := by omega
        subst this
        exact ⟨q2, ql⟩
    · rcases Nat.lt_or_ge (j + 1) k with r | r
      · exact hinc j hj r
      · have e1 : j = k - 1 := by omega
        subst e1
        have e2 : k - 1 + 1 = k := by omega
        simp only [e2]
        exact hle
end
end Go.VE.LB
