/- What the functions of the law ModelCommands compute, on typed arguments (part 7). -/
import Derived.Test.YtdggjlfamjfdkaaGreatModelCommandsA6
set_option linter.all false
namespace Go.VE.LB
section
open Go Go.VE
set_option maxRecDepth 100000
set_option linter.all false
set_option maxHeartbeats 4000000
structure Cmd where
 op : Int
 t : Int
 u : Int
 l0 : Limit
 l1 : Limit
 l2 : Limit
 us : Int
 es : Int
 ex : Int
 tg : List Int
def encC (c : Cmd) : List V := .int .u8 c.op :: .int .u32 c.t :: .int .u32 c.u :: .int .i64 c.l0.b :: .int .i64 c.l0.r :: .int .i64 c.l0.p :: .int .i64 c.l1.b :: .int .i64 c.l1.r :: .int .i64 c.l1.p :: .int .i64 c.l2.b :: .int .i64 c.l2.r :: .int .i64 c.l2.p ::
 .int .u8 c.us :: .int .u8 c.es :: .int .u64 c.ex :: c.tg.map (V.int .u8)
structure CmdOk (c : Cmd) : Prop where
 op : c.op = 1 ∨ c.op = 2 ∨ c.op = 3 ∨ c.op = 4 ∨ c.op = 5
 t : c.t < 16
 u : c.op = 5 ∨ c.u = 0
 ls : c.op = 1 ∨ c.op = 3 → limBad c.l0 = false ∧ limBad c.l1 = false ∧ limBad c.l2 = false
 lz : c.op ≠ 1 → c.op ≠ 3 → c.l0 = zLim ∧ c.l1 = zLim ∧ c.l2 = zLim
 cs : c.op = 1 → 1 ≤ c.us ∧ c.us ≤ 8 ∧ 1 ≤ c.es ∧ c.es ≤ 8
 cz : c.op ≠ 1 → c.us = 0 ∧ c.es = 0
theorem zLim_of {l : Limit} (h : l.b = 0 ∧ l.r = 0 ∧ l.p = 0) : l = zLim := by
 cases l
 obtain ⟨h1, h2, h3⟩ := h
 simp only at h1 h2 h3
 subst h1 h2 h3
 rfl
section
variable {vp : Nat → Option VFn}
theorem frzT4 {h : Heap} {b : Nat} {x y z w : Bool} : frz frzFuel h b false (.tup [.bool x, .bool y, .bool z, .bool w]) = some (.tup [.bool x, .bool y, .bool z, .bool w]) := rfl
theorem used_spec {f : Nat} (hf : vp f = some B_spigotref09_used) (op : Int) (h : Heap) : callRes vp f [.int .u8 op] h = some (.tup [.bool (decide (op = 1) || decide (op = 3)), .bool (decide (op = 1)), .bool (decide (op = 5)), .bool (decide (1 ≤ op) && decide (op ≤ 5))], h) := by
 refine res_pure hf rfl rfl (fun g hg => ?_)
 unfold B_spigotref09_used
 by_cases q1 : op = 1
 ·subst q1
  simp only [↓zp, zz, zy, chkOk, Nat.reduceEqDiff, Nat.reduceAdd, Nat.reduceSub, Nat.reduceMul, Nat.reduceLT, Nat.reduceLeDiff, Int.reduceLT, Int.reduceLE, Int.reduceEq, Int.reduceAdd, Int.reduceNeg, reduceIte, r_st, r_nck, r_ix, r_iaa, takeN, VE.store, over, cellsAt, VE.part, blkX, gEval, fill, VE.unOp, resVs, resV, reduceCtorEq, frzT4, Int.reduceLE, Int.reduceEq]
 ·by_cases q2 : 1 ≤ op
  ·simp only [↓zp, zz, zy, chkOk, Nat.reduceEqDiff, Nat.reduceAdd, Nat.reduceSub, Nat.reduceMul, Nat.reduceLT, Nat.reduceLeDiff, Int.reduceLT, Int.reduceLE, Int.reduceEq, Int.reduceAdd, Int.reduceNeg, reduceIte, r_st, r_nck, r_ix, r_iaa, takeN, VE.store, over, cellsAt, VE.part, blkX, gEval, fill, VE.unOp, resVs, resV, reduceCtorEq, q1, q2, frzT4]
  ·simp only [↓zp, zz, zy, chkOk, Nat.reduceEqDiff, Nat.reduceAdd, Nat.reduceSub, Nat.reduceMul, Nat.reduceLT, Nat.reduceLeDiff, Int.reduceLT, Int.reduceLE, Int.reduceEq, Int.reduceAdd, Int.reduceNeg, reduceIte, r_st, r_nck, r_ix, r_iaa, takeN, VE.store, over, cellsAt, VE.part, blkX, gEval, fill, VE.unOp, resVs, resV, reduceCtorEq, q1, q2, frzT4]
theorem rcmd_spec {f c1 c2 : Nat} (hf : vp f = some (B_spigotref09_Command c1 c2)) (h1 : vp c1 = some B_spigotref09_used) (h2 : vp c2 = some B_spigotref03_CheckLimit) (c : Cmd) (hc : c.tg.length = 32) (h : Heap) :
  ∃ b : Bool, callRes vp f [.agg (encC c)] h = some (.bool b, h) ∧ (b = true → CmdOk c) := by
 have m1 : modeOf vp c1 = some 1 := by simp [modeOf, h1, B_spigotref09_used]
 have m2 : modeOf vp c2 = some 1 := by simp [modeOf, h2, B_spigotref03_CheckLimit]
 have ku := fun h => used_spec h1 c.op h
 have kl := fun x h => lim_spec2 h2 x h
 suffices hgoal : ∃ r, callRes vp f [.agg (encC c)] h = some (r, h) ∧ ∃ b : Bool, r = .bool b ∧ (b = true → CmdOk c) by
  obtain ⟨r, e, b, rfl, k⟩ := hgoal
  exact ⟨b, e, k⟩
 refine res_pure_ex hf rfl rfl (fun g hg => ?_)
 obtain ⟨R, hR⟩ : ∃ R, c.tg.map (V.int .u8) = R := ⟨_, rfl⟩
 have lR : R.length = 32 := by rw [← hR, List.length_map, hc]
 clear hg
 unfold encC B_spigotref09_Command
 rw [hR]
 generalize hL : (decide (c.op = 1) || decide (c.op = 3)) = L at ku
 generalize hC : decide (c.op = 1) = C at ku
 generalize hU : decide (c.op = 5) = U at ku
 generalize hI : (decide (1 ≤ c.op) && decide (c.op ≤ 5)) = I at ku
 have tf : (true = false) = False := by simp
 have ft : (false = true) = False := by simp
 cases I with
 | false =>
  simp only [↓zp, zz, zy, chkOk, Nat.reduceEqDiff, Nat.reduceAdd, Nat.reduceSub, Nat.reduceMul, Nat.reduceLT, Nat.reduceLeDiff, Int.reduceLT, Int.reduceLE, Int.reduceEq, Int.reduceAdd, Int.reduceNeg, reduceIte, r_st, r_nck, r_ix, r_iaa, takeN, VE.store, over, cellsAt, VE.part, blkX, gEval, fill, VE.unOp, resVs, resV, reduceCtorEq, lR, m1, ku, frzB, V.bool.injEq, ft, false_implies]
 | true =>
 rw [← Bool.decide_and, decide_eq_true_eq] at hI
 by_cases t16 : 16 ≤ c.t
 ·simp only [↓zp, zz, zy, chkOk, Nat.reduceEqDiff, Nat.reduceAdd, Nat.reduceSub, Nat.reduceMul, Nat.reduceLT, Nat.reduceLeDiff, Int.reduceLT, Int.reduceLE, Int.reduceEq, Int.reduceAdd, Int.reduceNeg, reduceIte, r_st, r_nck, r_ix, r_iaa, takeN, VE.store, over, cellsAt, VE.part, blkX, gEval, fill, VE.unOp, resVs, resV, reduceCtorEq, lR, m1, ku, t16, frzB, V.bool.injEq, ft, false_implies]
 by_cases hu : U = true ∨ c.u = 0
 case neg =>
  have e5 : U = false := by
   cases U
   ·rfl
   ·exact absurd (.inl rfl) hu
  have eu : ¬ c.u = 0 := fun e => hu (.inr e)
  subst e5
  simp only [↓zp, zz, zy, chkOk, Nat.reduceEqDiff, Nat.reduceAdd, Nat.reduceSub, Nat.reduceMul, Nat.reduceLT, Nat.reduceLeDiff, Int.reduceLT, Int.reduceLE, Int.reduceEq, Int.reduceAdd, Int.reduceNeg, reduceIte, r_st, r_nck, r_ix, r_iaa, takeN, VE.store, over, cellsAt, VE.part, blkX, gEval, fill, VE.unOp, resVs, resV, reduceCtorEq, lR, m1, ku, t16, eu, not_false_eq_true, frzB, V.bool.injEq, ft, false_implies]
 have okU : c.op = 5 ∨ c.u = 0 := by
  rcases hu with rfl | e
  ·exact .inl (of_decide_eq_true hU)
  ·exact .inr e
 have main : ∀ (s : Slots) (K : Heap → Prop), True := fun _ _ => trivial
 have hu2 : U = true ∨ U = false ∧ (c.u = 0) = True := by
  cases U
  ·exact .inr ⟨rfl, eq_true (hu.resolve_left (by simp))⟩
  ·exact .inl rfl
 cases L with
 | true =>
  have hop : c.op = 1 ∨ c.op = 3 := by
   rw [← Bool.decide_or, decide_eq_true_eq] at hL
   exact hL
  rcases hu2 with rfl | ⟨rfl, eu⟩
  ·exact absurd (of_decide_eq_true hU) (by omega)
  simp only [↓zp, zz, zy, chkOk, Nat.reduceEqDiff, Nat.reduceAdd, Nat.reduceSub, Nat.reduceMul, Nat.reduceLT, Nat.reduceLeDiff, Int.reduceLT, Int.reduceLE, Int.reduceEq, Int.reduceAdd, Int.reduceNeg, reduceIte, r_st, r_nck, r_ix, r_iaa, takeN, VE.store, over, cellsAt, VE.part, blkX, gEval, fill, VE.unOp, resVs, resV, reduceCtorEq, lR, m1, ku, t16, eu, not_true_eq_false]
  generalize hS : Tr.set _ 7 _ = S0
  have a1' : Slots.at S0 1 = .ptr g.nx 0 := by rw [← hS]; simp only [zs, Nat.reduceEqDiff]
  have a3' : Slots.at S0 3 = .bool true := by rw [← hS]; simp only [zs, Nat.reduceEqDiff]
  have a4' : Slots.at S0 4 = .bool C := by rw [← hS]; simp only [zs, Nat.reduceEqDiff]
  have a7' : Slots.at S0 7 = .int .i64 0 := by rw [← hS]; simp only [zs, Nat.reduceEqDiff]
  clear hS
  have a1 := a1'
  clear a1'
  have a3 := a3'
  clear a3'
  have a4 := a4'
  clear a4'
  have a7 := a7'
  clear a7'
  generalize hH : Heap.new _ _ = H
  have gH : H.get g.nx = .cells (.int .u8 c.op :: .int .u32 c.t :: .int .u32 c.u :: .int .i64 c.l0.b :: .int .i64 c.l0.r :: .int .i64 c.l0.p :: .int .i64 c.l1.b :: .int .i64 c.l1.r :: .int .i64 c.l1.p :: .int .i64 c.l2.b :: .int .i64 c.l2.r :: .int .i64 c.l2.p :: .int .u8 c.us :: .int .u8 c.es :: .int .u64 c.ex :: R) .cl := by rw [← hH, Heap.get_new, if_pos rfl]
  clear hH
  refine w_loop1 ?_
  cases b0 : limBad c.l0 with
  | true => simp only [↓zp, zz, zy, chkOk, Nat.reduceEqDiff, Nat.reduceAdd, Nat.reduceSub, Nat.reduceMul, Nat.reduceLT, Nat.reduceLeDiff, Int.reduceLT, Int.reduceLE, Int.reduceEq, Int.reduceAdd, Int.reduceNeg, reduceIte, r_st, r_nck, r_ix, r_iaa, takeN, VE.store, over, cellsAt, VE.part, blkX, gEval, fill, VE.unOp, resVs, resV, reduceCtorEq, a1, a3, a4, a7, gH, m2, kl, chkLim, b0, frzB, V.bool.injEq, ft, false_implies]
  | false =>
  simp only [↓zp, zz, zy, chkOk, Nat.reduceEqDiff, Nat.reduceAdd, Nat.reduceSub, Nat.reduceMul, Nat.reduceLT, Nat.reduceLeDiff, Int.reduceLT, Int.reduceLE, Int.reduceEq, Int.reduceAdd, Int.reduceNeg, reduceIte, r_st, r_nck, r_ix, r_iaa, takeN, VE.store, over, cellsAt, VE.part, blkX, gEval, fill, VE.unOp, resVs, resV, reduceCtorEq, a1, a3, a4, a7, gH, m2, kl, chkLim, b0, frzB]
  generalize hS : Tr.set _ 7 _ = S1
  have a1' : Slots.at S1 1 = .ptr g.nx 0 := by rw [← hS]; simp only [zs, Nat.reduceEqDiff, a1, a3, a4]
  have a3' : Slots.at S1 3 = .bool true := by rw [← hS]; simp only [zs, Nat.reduceEqDiff, a1, a3, a4]
  have a4' : Slots.at S1 4 = .bool C := by rw [← hS]; simp only [zs, Nat.reduceEqDiff, a1, a3, a4]
  have a7' : Slots.at S1 7 = .int .i64 1 := by rw [← hS]; simp only [zs, Nat.reduceEqDiff, a1, a3, a4]
  clear hS
  clear a1 a3 a4 a7
  have a1 := a1'
  clear a1'
  have a3 := a3'
  clear a3'
  have a4 := a4'
  clear a4'
  have a7 := a7'
  clear a7'
  refine w_loop1 ?_
  cases b1 : limBad c.l1 with
  | true => simp only [↓zp, zz, zy, chkOk, Nat.reduceEqDiff, Nat.reduceAdd, Nat.reduceSub, Nat.reduceMul, Nat.reduceLT, Nat.reduceLeDiff, Int.reduceLT, Int.reduceLE, Int.reduceEq, Int.reduceAdd, Int.reduceNeg, reduceIte, r_st, r_nck, r_ix, r_iaa, takeN, VE.store, over, cellsAt, VE.part, blkX, gEval, fill, VE.unOp, resVs, resV, reduceCtorEq, a1, a3, a4, a7, gH, m2, kl, chkLim, b1, frzB, V.bool.injEq, ft, false_implies]
  | false =>
  simp only [↓zp, zz, zy, chkOk, Nat.reduceEqDiff, Nat.reduceAdd, Nat.reduceSub, Nat.reduceMul, Nat.reduceLT, Nat.reduceLeDiff, Int.reduceLT, Int.reduceLE, Int.reduceEq, Int.reduceAdd, Int.reduceNeg, reduceIte, r_st, r_nck, r_ix, r_iaa, takeN, VE.store, over, cellsAt, VE.part, blkX, gEval, fill, VE.unOp, resVs, resV, reduceCtorEq, a1, a3, a4, a7, gH, m2, kl, chkLim, b1, frzB]
  generalize hS : Tr.set _ 7 _ = S2
  have a1' : Slots.at S2 1 = .ptr g.nx 0 := by rw [← hS]; simp only [zs, Nat.reduceEqDiff, a1, a3, a4]
  have a3' : Slots.at S2 3 = .bool true := by rw [← hS]; simp only [zs, Nat.reduceEqDiff, a1, a3, a4]
  have a4' : Slots.at S2 4 = .bool C := by rw [← hS]; simp only [zs, Nat.reduceEqDiff, a1, a3, a4]
  have a7' : Slots.at S2 7 = .int .i64 2 := by rw [← hS]; simp only [zs, Nat.reduceEqDiff, a1, a3, a4]
  clear hS
  clear a1 a3 a4 a7
  have a1 := a1'
  clear a1'
  have a3 := a3'
  clear a3'
  have a4 := a4'
  clear a4'
  have a7 := a7'
  clear a7'
  refine w_loop1 ?_
  cases b2 : limBad c.l2 with
  | true => simp only [↓zp, zz, zy, chkOk, Nat.reduceEqDiff, Nat.reduceAdd, Nat.reduceSub, Nat.reduceMul, Nat.reduceLT, Nat.reduceLeDiff, Int.reduceLT, Int.reduceLE, Int.reduceEq, Int.reduceAdd, Int.reduceNeg, reduceIte, r_st, r_nck, r_ix, r_iaa, takeN, VE.store, over, cellsAt, VE.part, blkX, gEval, fill, VE.unOp, resVs, resV, reduceCtorEq, a1, a3, a4, a7, gH, m2, kl, chkLim, b2, frzB, V.bool.injEq, ft, false_implies]
  | false =>
  simp only [↓zp, zz, zy, chkOk, Nat.reduceEqDiff, Nat.reduceAdd, Nat.reduceSub, Nat.reduceMul, Nat.reduceLT, Nat.reduceLeDiff, Int.reduceLT, Int.reduceLE, Int.reduceEq, Int.reduceAdd, Int.reduceNeg, reduceIte, r_st, r_nck, r_ix, r_iaa, takeN, VE.store, over, cellsAt, VE.part, blkX, gEval, fill, VE.unOp, resVs, resV, reduceCtorEq, a1, a3, a4, a7, gH, m2, kl, chkLim, b2, frzB]
  generalize hS : Tr.set _ 7 _ = S3
  have a1' : Slots.at S3 1 = .ptr g.nx 0 := by rw [← hS]; simp only [zs, Nat.reduceEqDiff, a1, a3, a4]
  have a3' : Slots.at S3 3 = .bool true := by rw [← hS]; simp only [zs, Nat.reduceEqDiff, a1, a3, a4]
  have a4' : Slots.at S3 4 = .bool C := by rw [← hS]; simp only [zs, Nat.reduceEqDiff, a1, a3, a4]
  have a7' : Slots.at S3 7 = .int .i64 3 := by rw [← hS]; simp only [zs, Nat.reduceEqDiff, a1, a3, a4]
  clear hS
  clear a1 a3 a4 a7
  have a1 := a1'
  clear a1'
  have a3 := a3'
  clear a3'
  have a4 := a4'
  clear a4'
  have a7 := a7'
  clear a7'
  refine w_loop1 ?_
  cases C with
  | true =>
   have q1 := of_decide_eq_true hC
   rcases ch4 (¬ 1 ≤ c.us) (¬ c.us ≤ 8) (¬ 1 ≤ c.es) (¬ c.es ≤ 8) with q | q | q | q | q
   all_goals simp only [eq_iff_iff, iff_true, iff_false, Decidable.not_not] at q
   all_goals simp only [↓zp, zz, zy, chkOk, Nat.reduceEqDiff, Nat.reduceAdd, Nat.reduceSub, Nat.reduceMul, Nat.reduceLT, Nat.reduceLeDiff, Int.reduceLT, Int.reduceLE, Int.reduceEq, Int.reduceAdd, Int.reduceNeg, reduceIte, r_st, r_nck, r_ix, r_iaa, takeN, VE.store, over, cellsAt, VE.part, blkX, gEval, fill, VE.unOp, resVs, resV, reduceCtorEq, a1, a3, a4, a7, gH, q, frzB, V.bool.injEq, ft, false_implies]
   exact fun _ => ⟨.inl q1, by omega, okU, fun _ => ⟨b0, b1, b2⟩, fun k => absurd q1 k, fun _ => ⟨q.1, q.2.1, q.2.2.1, q.2.2.2⟩, fun k => absurd q1 k⟩
  | false =>
   have q1 := of_decide_eq_false hC
   rcases ch2 (¬ c.us = 0) (¬ c.es = 0) with q | q | q
   all_goals simp only [eq_iff_iff, iff_true, iff_false, Decidable.not_not] at q
   ·simp only [↓zp, zz, zy, chkOk, Nat.reduceEqDiff, Nat.reduceAdd, Nat.reduceSub, Nat.reduceMul, Nat.reduceLT, Nat.reduceLeDiff, Int.reduceLT, Int.reduceLE, Int.reduceEq, Int.reduceAdd, Int.reduceNeg, reduceIte, r_st, r_nck, r_ix, r_iaa, takeN, VE.store, over, cellsAt, VE.part, blkX, gEval, fill, VE.unOp, resVs, resV, reduceCtorEq, a1, a3, a4, a7, gH, q, frzB, V.bool.injEq, ft, false_implies]
   ·have q' := eq_true q.1
    simp only [↓zp, zz, zy, chkOk, Nat.reduceEqDiff, Nat.reduceAdd, Nat.reduceSub, Nat.reduceMul, Nat.reduceLT, Nat.reduceLeDiff, Int.reduceLT, Int.reduceLE, Int.reduceEq, Int.reduceAdd, Int.reduceNeg, reduceIte, r_st, r_nck, r_ix, r_iaa, takeN, VE.store, over, cellsAt, VE.part, blkX, gEval, fill, VE.unOp, resVs, resV, reduceCtorEq, a1, a3, a4, a7, gH, q.2, q', frzB, V.bool.injEq, ft, false_implies]
   ·have q' := eq_true q.1
    have q'' := eq_true q.2
    simp only [↓zp, zz, zy, chkOk, Nat.reduceEqDiff, Nat.reduceAdd, Nat.reduceSub, Nat.reduceMul, Nat.reduceLT, Nat.reduceLeDiff, Int.reduceLT, Int.reduceLE, Int.reduceEq, Int.reduceAdd, Int.reduceNeg, reduceIte, r_st, r_nck, r_ix, r_iaa, takeN, VE.store, over, cellsAt, VE.part, blkX, gEval, fill, VE.unOp, resVs, resV, reduceCtorEq, a1, a3, a4, a7, gH, q', q'', frzB, V.bool.injEq]
    exact fun _ => ⟨by omega, by omega, okU, fun _ => ⟨b0, b1, b2⟩, fun k1 k3 => by omega, fun k => absurd k q1, fun _ => q⟩
 | false =>
  have hop : c.op ≠ 1 ∧ c.op ≠ 3 := by
   rw [← Bool.decide_or, decide_eq_false_iff_not] at hL
   exact ⟨fun e => hL (.inl e), fun e => hL (.inr e)⟩
  have : C = false := by rw [← hC]; exact decide_eq_false hop.1
  subst this
  rcases hu2 with rfl | ⟨rfl, eu⟩
  all_goals
   first
    | simp only [↓zp, zz, zy, chkOk, Nat.reduceEqDiff, Nat.reduceAdd, Nat.reduceSub, Nat.reduceMul, Nat.reduceLT, Nat.reduceLeDiff, Int.reduceLT, Int.reduceLE, Int.reduceEq, Int.reduceAdd, Int.reduceNeg, reduceIte, r_st, r_nck, r_ix, r_iaa, takeN, VE.store, over, cellsAt, VE.part, blkX, gEval, fill, VE.unOp, resVs, resV, reduceCtorEq, lR, m1, ku, t16, eu, not_true_eq_false]
    | simp only [↓zp, zz, zy, chkOk, Nat.reduceEqDiff, Nat.reduceAdd, Nat.reduceSub, Nat.reduceMul, Nat.reduceLT, Nat.reduceLeDiff, Int.reduceLT, Int.reduceLE, Int.reduceEq, Int.reduceAdd, Int.reduceNeg, reduceIte, r_st, r_nck, r_ix, r_iaa, takeN, VE.store, over, cellsAt, VE.part, blkX, gEval, fill, VE.unOp, resVs, resV, reduceCtorEq, lR, m1, ku, t16]
   generalize hS : Tr.set _ 7 _ = S0
   have a1' : Slots.at S0 1 = .ptr g.nx 0 := by rw [← hS]; simp only [zs, Nat.reduceEqDiff]
   have a3' : Slots.at S0 3 = .bool false := by rw [← hS]; simp only [zs, Nat.reduceEqDiff]
   have a4' : Slots.at S0 4 = .bool false := by rw [← hS]; simp only [zs, Nat.reduceEqDiff]
   have a7' : Slots.at S0 7 = .int .i64 0 := by rw [← hS]; simp only [zs, Nat.reduceEqDiff]
   clear hS
   have a1 := a1'
   clear a1'
   have a3 := a3'
   clear a3'
   have a4 := a4'
   clear a4'
   have a7 := a7'
   clear a7'
   generalize hH : Heap.new _ _ = H
   have gH : H.get g.nx = .cells (.int .u8 c.op :: .int .u32 c.t :: .int .u32 c.u :: .int .i64 c.l0.b :: .int .i64 c.l0.r :: .int .i64 c.l0.p :: .int .i64 c.l1.b :: .int .i64 c.l1.r :: .int .i64 c.l1.p :: .int .i64 c.l2.b :: .int .i64 c.l2.r :: .int .i64 c.l2.p :: .int .u8 c.us :: .int .u8 c.es :: .int .u64 c.ex :: R) .cl := by rw [← hH, Heap.get_new, if_pos rfl]
   clear hH
   refine w_loop1 ?_
   by_cases b0 : c.l0.b = 0 ∧ c.l0.r = 0 ∧ c.l0.p = 0
   case neg => simp only [↓zp, zz, zy, chkOk, Nat.reduceEqDiff, Nat.reduceAdd, Nat.reduceSub, Nat.reduceMul, Nat.reduceLT, Nat.reduceLeDiff, Int.reduceLT, Int.reduceLE, Int.reduceEq, Int.reduceAdd, Int.reduceNeg, reduceIte, r_st, r_nck, r_ix, r_iaa, takeN, VE.store, over, cellsAt, VE.part, blkX, gEval, fill, VE.unOp, resVs, resV, reduceCtorEq, a1, a3, a4, a7, gH, eq3, b0, frzB, V.bool.injEq, ft, false_implies]
   have b0' := eq_true b0
   simp only [↓zp, zz, zy, chkOk, Nat.reduceEqDiff, Nat.reduceAdd, Nat.reduceSub, Nat.reduceMul, Nat.reduceLT, Nat.reduceLeDiff, Int.reduceLT, Int.reduceLE, Int.reduceEq, Int.reduceAdd, Int.reduceNeg, reduceIte, r_st, r_nck, r_ix, r_iaa, takeN, VE.store, over, cellsAt, VE.part, blkX, gEval, fill, VE.unOp, resVs, resV, reduceCtorEq, a1, a3, a4, a7, gH, eq3, b0', frzB]
   generalize hS : Tr.set _ 7 _ = S1
   have a1' : Slots.at S1 1 = .ptr g.nx 0 := by rw [← hS]; simp only [zs, Nat.reduceEqDiff, a1, a3, a4]
   have a3' : Slots.at S1 3 = .bool false := by rw [← hS]; simp only [zs, Nat.reduceEqDiff, a1, a3, a4]
   have a4' : Slots.at S1 4 = .bool false := by rw [← hS]; simp only [zs, Nat.reduceEqDiff, a1, a3, a4]
   have a7' : Slots.at S1 7 = .int .i64 1 := by rw [← hS]; simp only [zs, Nat.reduceEqDiff, a1, a3, a4]
   clear hS
   clear a1 a3 a4 a7
   have a1 := a1'
   clear a1'
   have a3 := a3'
   clear a3'
   have a4 := a4'
   clear a4'
   have a7 := a7'
   clear a7'
   refine w_loop1 ?_
   by_cases b1 : c.l1.b = 0 ∧ c.l1.r = 0 ∧ c.l1.p = 0
   case neg => simp only [↓zp, zz, zy, chkOk, Nat.reduceEqDiff, Nat.reduceAdd, Nat.reduceSub, Nat.reduceMul, Nat.reduceLT, Nat.reduceLeDiff, Int.reduceLT, Int.reduceLE, Int.reduceEq, Int.reduceAdd, Int.reduceNeg, reduceIte, r_st, r_nck, r_ix, r_iaa, takeN, VE.store, over, cellsAt, VE.part, blkX, gEval, fill, VE.unOp, resVs, resV, reduceCtorEq, a1, a3, a4, a7, gH, eq3, b1, frzB, V.bool.injEq, ft, false_implies]
   have b1' := eq_true b1
   simp only [↓zp, zz, zy, chkOk, Nat.reduceEqDiff, Nat.reduceAdd, Nat.reduceSub, Nat.reduceMul, Nat.reduceLT, Nat.reduceLeDiff, Int.reduceLT, Int.reduceLE, Int.reduceEq, Int.reduceAdd, Int.reduceNeg, reduceIte, r_st, r_nck, r_ix, r_iaa, takeN, VE.store, over, cellsAt, VE.part, blkX, gEval, fill, VE.unOp, resVs, resV, reduceCtorEq, a1, a3, a4, a7, gH, eq3, b1', frzB]
   generalize hS : Tr.set _ 7 _ = S2
   have a1' : Slots.at S2 1 = .ptr g.nx 0 := by rw [← hS]; simp only [zs, Nat.reduceEqDiff, a1, a3, a4]
   have a3' : Slots.at S2 3 = .bool false := by rw [← hS]; simp only [zs, Nat.reduceEqDiff, a1, a3, a4]
   have a4' : Slots.at S2 4 = .bool false := by rw [← hS]; simp only [zs, Nat.reduceEqDiff, a1, a3, a4]
   have a7' : Slots.at S2 7 = .int .i64 2 := by rw [← hS]; simp only [zs, Nat.reduceEqDiff, a1, a3, a4]
   clear hS
   clear a1 a3 a4 a7
   have a1 := a1'
   clear a1'
   have a3 := a3'
   clear a3'
   have a4 := a4'
   clear a4'
   have a7 := a7'
   clear a7'
   refine w_loop1 ?_
   by_cases b2 : c.l2.b = 0 ∧ c.l2.r = 0 ∧ c.l2.p = 0
   case neg => simp only [↓zp, zz, zy, chkOk, Nat.reduceEqDiff, Nat.reduceAdd, Nat.reduceSub, Nat.reduceMul, Nat.reduceLT, Nat.reduceLeDiff, Int.reduceLT, Int.reduceLE, Int.reduceEq, Int.reduceAdd, Int.reduceNeg, reduceIte, r_st, r_nck, r_ix, r_iaa, takeN, VE.store, over, cellsAt, VE.part, blkX, gEval, fill, VE.unOp, resVs, resV, reduceCtorEq, a1, a3, a4, a7, gH, eq3, b2, frzB, V.bool.injEq, ft, false_implies]
   have b2' := eq_true b2
   simp only [↓zp, zz, zy, chkOk, Nat.reduceEqDiff, Nat.reduceAdd, Nat.reduceSub, Nat.reduceMul, Nat.reduceLT, Nat.reduceLeDiff, Int.reduceLT, Int.reduceLE, Int.reduceEq, Int.reduceAdd, Int.reduceNeg, reduceIte, r_st, r_nck, r_ix, r_iaa, takeN, VE.store, over, cellsAt, VE.part, blkX, gEval, fill, VE.unOp, resVs, resV, reduceCtorEq, a1, a3, a4, a7, gH, eq3, b2', frzB]
   generalize hS : Tr.set _ 7 _ = S3
   have a1' : Slots.at S3 1 = .ptr g.nx 0 := by rw [← hS]; simp only [zs, Nat.reduceEqDiff, a1, a3, a4]
   have a3' : Slots.at S3 3 = .bool false := by rw [← hS]; simp only [zs, Nat.reduceEqDiff, a1, a3, a4]
   have a4' : Slots.at S3 4 = .bool false := by rw [← hS]; simp only [zs, Nat.reduceEqDiff, a1, a3, a4]
   have a7' : Slots.at S3 7 = .int .i64 3 := by rw [← hS]; simp only [zs, Nat.reduceEqDiff, a1, a3, a4]
   clear hS
   clear a1 a3 a4 a7
   have a1 := a1'
   clear a1'
   have a3 := a3'
   clear a3'
   have a4 := a4'
   clear a4'
   have a7 := a7'
   clear a7'
   refine w_loop1 ?_
   rcases ch2 (¬ c.us = 0) (¬ c.es = 0) with q | q | q
   all_goals simp only [eq_iff_iff, iff_true, iff_false, Decidable.not_not] at q
   ·simp only [↓zp, zz, zy, chkOk, Nat.reduceEqDiff, Nat.reduceAdd, Nat.reduceSub, Nat.reduceMul, Nat.reduceLT, Nat.reduceLeDiff, Int.reduceLT, Int.reduceLE, Int.reduceEq, Int.reduceAdd, Int.reduceNeg, reduceIte, r_st, r_nck, r_ix, r_iaa, takeN, VE.store, over, cellsAt, VE.part, blkX, gEval, fill, VE.unOp, resVs, resV, reduceCtorEq, a1, a3, a4, a7, gH, q, frzB, V.bool.injEq, ft, false_implies]
   ·have q' := eq_true q.1
    simp only [↓zp, zz, zy, chkOk, Nat.reduceEqDiff, Nat.reduceAdd, Nat.reduceSub, Nat.reduceMul, Nat.reduceLT, Nat.reduceLeDiff, Int.reduceLT, Int.reduceLE, Int.reduceEq, Int.reduceAdd, Int.reduceNeg, reduceIte, r_st, r_nck, r_ix, r_iaa, takeN, VE.store, over, cellsAt, VE.part, blkX, gEval, fill, VE.unOp, resVs, resV, reduceCtorEq, a1, a3, a4, a7, gH, q.2, q', frzB, V.bool.injEq, ft, false_implies]
   ·have q' := eq_true q.1
    have q'' := eq_true q.2
    simp only [↓zp, zz, zy, chkOk, Nat.reduceEqDiff, Nat.reduceAdd, Nat.reduceSub, Nat.reduceMul, Nat.reduceLT, Nat.reduceLeDiff, Int.reduceLT, Int.reduceLE, Int.reduceEq, Int.reduceAdd, Int.reduceNeg, reduceIte, r_st, r_nck, r_ix, r_iaa, takeN, VE.store, over, cellsAt, VE.part, blkX, gEval, fill, VE.unOp, resVs, resV, reduceCtorEq, a1, a3, a4, a7, gH, q', q'', frzB, V.bool.injEq]
    exact fun _ => ⟨by omega, by omega, okU, fun k => by omega, fun _ _ => ⟨zLim_of b0, zLim_of b1, zLim_of b2⟩, fun k => by omega, fun _ => q⟩
end
end
section
open Go Go.VE
set_option maxRecDepth 100000
set_option linter.all false
set_option maxHeartbeats 4000000
section
variable {vp : Nat → Option VFn}
structure VfP (b1 b4 b3 : Nat) (C Z : List V) (T4 T3 : Tag) (h h' : Heap) : Prop where
 g4 : h'.get b4 = .cells [.bool true] T4
 g3 : h'.get b3 = .cells Z T3
 get : ∀ c, c < h.nx → c ≠ b4 → c ≠ b3 → h'.get c = h.get c
 lo : h'.lo = h.lo
 nx : h.nx ≤ h'.nx
theorem vfn_spec {f c1 t1 : Nat} (hf : vp f = some (B_frame_valid_fn1 c1 t1)) (h1 : vp c1 = some B_bucket_CheckLimit) (l0 l1 l2 : Limit) (k0 : limBad l0 = false) (k1 : limBad l1 = false) (k2 : limBad l2 = false)
  (b1 b4 b3 : Nat) (x0 x1 x2 y0 y1 y2 m0 m1 m2 m3 m4 m5 m6 m7 m8 : V) (X Y : List V) (T1 T4 T3 : Tag) (h : Heap)
  (g1 : h.get b1 = .cells (x0 :: x1 :: x2 :: .int .i64 l0.b :: .int .i64 l0.r :: .int .i64 l0.p :: .int .i64 l1.b :: .int .i64 l1.r :: .int .i64 l1.p :: .int .i64 l2.b :: .int .i64 l2.r :: .int .i64 l2.p :: X) T1)
  (g4 : h.get b4 = .cells [.bool true] T4) (g3 : h.get b3 = .cells (y0 :: y1 :: y2 :: m0 :: m1 :: m2 :: m3 :: m4 :: m5 :: m6 :: m7 :: m8 :: Y) T3)
  (n4 : b4 < h.nx) (n3 : b3 < h.nx) (lo4 : ¬ b4 < h.lo) (lo3 : ¬ b3 < h.lo) (hl : h.lo ≤ h.nx) (ne : b3 ≠ b4) :
  ∃ v h', callRes vp f [.ptr b1 0, .ptr b4 0, .ptr b3 0] h = some (v, h') ∧ v = .tup [] ∧ VfP b1 b4 b3 [] (y0 :: y1 :: y2 :: .int .i64 0 :: .int .i64 0 :: .int .i64 0 :: .int .i64 0 :: .int .i64 0 :: .int .i64 0 :: .int .i64 0 :: .int .i64 0 :: .int .i64 0 :: Y) T4 T3 h h' := by
 have e1 : modeOf vp c1 = some 1 := by simp [modeOf, h1, B_bucket_CheckLimit]
 have kl := fun x h => lim_spec h1 x h
 refine res_raw hf rfl rfl ?_
 have ne' : ¬ b4 = b3 := fun e => ne e.symm
 have l0' : ¬ h.nx < h.lo := by omega
 have l1' : ¬ h.nx + 1 < h.lo := by omega
 have l2' : ¬ h.nx + 2 < h.lo := by omega
 have a1 : ¬ b4 = h.nx := by omega
 have a2 : ¬ b4 = h.nx + 1 := by omega
 have a3 : ¬ b4 = h.nx + 2 := by omega
 have a4 : ¬ b3 = h.nx := by omega
 have a5 : ¬ b3 = h.nx + 1 := by omega
 have a6 : ¬ b3 = h.nx + 2 := by omega
 have a7 : ¬ h.nx = b4 := by omega
 have a8 : ¬ h.nx + 1 = b4 := by omega
 have a9 : ¬ h.nx + 2 = b4 := by omega
 unfold B_frame_valid_fn1
 simp only [↓zp, zz, zy, chkOk, Nat.reduceEqDiff, Nat.reduceAdd, Nat.reduceSub, Nat.reduceMul, Nat.reduceLT, Nat.reduceLeDiff, Int.reduceLT, Int.reduceLE, Int.reduceEq, Int.reduceAdd, Int.reduceNeg, reduceIte, r_st, r_nck, r_ix, r_iaa, takeN, VE.store, over, cellsAt, VE.part, blkX, gEval, fill, VE.unOp, resVs, resV, reduceCtorEq, g1]
 refine w_loop1 ?_
 simp only [↓zp, zz, zy, chkOk, Nat.reduceEqDiff, Nat.reduceAdd, Nat.reduceSub, Nat.reduceMul, Nat.reduceLT, Nat.reduceLeDiff, Int.reduceLT, Int.reduceLE, Int.reduceEq, Int.reduceAdd, Int.reduceNeg, reduceIte, r_st, r_nck, r_ix, r_iaa, takeN, VE.store, over, cellsAt, VE.part, blkX, gEval, fill, VE.unOp, resVs, resV, reduceCtorEq, g1, g4, n4, lo4, l0', l1', l2', a1, a2, a3, a4, a5, a6, a7, a8, a9, e1, kl, chkLim, k0]
 refine w_loop1 ?_
 simp only [↓zp, zz, zy, chkOk, Nat.reduceEqDiff, Nat.reduceAdd, Nat.reduceSub, Nat.reduceMul, Nat.reduceLT, Nat.reduceLeDiff, Int.reduceLT, Int.reduceLE, Int.reduceEq, Int.reduceAdd, Int.reduceNeg, reduceIte, r_st, r_nck, r_ix, r_iaa, takeN, VE.store, over, cellsAt, VE.part, blkX, gEval, fill, VE.unOp, resVs, resV, reduceCtorEq, g1, g4, n4, lo4, l0', l1', l2', a1, a2, a3, a4, a5, a6, a7, a8, a9, e1, kl, chkLim, k1]
 refine w_loop1 ?_
 simp only [↓zp, zz, zy, chkOk, Nat.reduceEqDiff, Nat.reduceAdd, Nat.reduceSub, Nat.reduceMul, Nat.reduceLT, Nat.reduceLeDiff, Int.reduceLT, Int.reduceLE, Int.reduceEq, Int.reduceAdd, Int.reduceNeg, reduceIte, r_st, r_nck, r_ix, r_iaa, takeN, VE.store, over, cellsAt, VE.part, blkX, gEval, fill, VE.unOp, resVs, resV, reduceCtorEq, g1, g4, n4, lo4, l0', l1', l2', a1, a2, a3, a4, a5, a6, a7, a8, a9, e1, kl, chkLim, k2]
 refine w_loop1 ?_
 have z9 : rep 9 [V.int .i64 0] = [.int .i64 0, .int .i64 0, .int .i64 0, .int .i64 0, .int .i64 0, .int .i64 0, .int .i64 0, .int .i64 0, .int .i64 0] := rfl
 simp only [↓zp, zz, zy, chkOk, Nat.reduceEqDiff, Nat.reduceAdd, Nat.reduceSub, Nat.reduceMul, Nat.reduceLT, Nat.reduceLeDiff, Int.reduceLT, Int.reduceLE, Int.reduceEq, Int.reduceAdd, Int.reduceNeg, reduceIte, r_st, r_nck, r_ix, r_iaa, takeN, VE.store, over, cellsAt, VE.part, blkX, gEval, fill, VE.unOp, resVs, resV, reduceCtorEq, z9, g1, g3, g4, n4, lo4, lo3, l0', l1', l2', a1, a2, a3, a4, a5, a6, a7, a8, a9, ne, ne', k2]
 refine ⟨?_, ?_, fun c hc h4 h3 => ?_, rfl, ?_⟩
 ·simp only [↓zp, zz, zy, chkOk, Nat.reduceEqDiff, Nat.reduceAdd, Nat.reduceSub, Nat.reduceMul, Nat.reduceLT, Nat.reduceLeDiff, Int.reduceLT, Int.reduceLE, Int.reduceEq, Int.reduceAdd, Int.reduceNeg, reduceIte, r_st, r_nck, r_ix, r_iaa, takeN, VE.store, over, cellsAt, VE.part, blkX, gEval, fill, VE.unOp, resVs, resV, reduceCtorEq, g4, a1, a2, a3, ne', a7, a8, a9]
 ·simp only [↓zp, zz, zy, chkOk, Nat.reduceEqDiff, Nat.reduceAdd, Nat.reduceSub, Nat.reduceMul, Nat.reduceLT, Nat.reduceLeDiff, Int.reduceLT, Int.reduceLE, Int.reduceEq, Int.reduceAdd, Int.reduceNeg, reduceIte, r_st, r_nck, r_ix, r_iaa, takeN, VE.store, over, cellsAt, VE.part, blkX, gEval, fill, VE.unOp, resVs, resV, reduceCtorEq]
 ·have q1 : ¬ c = h.nx := by omega
  have q2 : ¬ c = h.nx + 1 := by omega
  have q3 : ¬ c = h.nx + 2 := by omega
  simp only [↓zp, zz, zy, chkOk, Nat.reduceEqDiff, Nat.reduceAdd, Nat.reduceSub, Nat.reduceMul, Nat.reduceLT, Nat.reduceLeDiff, Int.reduceLT, Int.reduceLE, Int.reduceEq, Int.reduceAdd, Int.reduceNeg, reduceIte, r_st, r_nck, r_ix, r_iaa, takeN, VE.store, over, cellsAt, VE.part, blkX, gEval, fill, VE.unOp, resVs, resV, reduceCtorEq, h4, h3, q1, q2, q3]
 ·simp only [↓zp, zz, zy, chkOk, Nat.reduceEqDiff, Nat.reduceAdd, Nat.reduceSub, Nat.reduceMul, Nat.reduceLT, Nat.reduceLeDiff, Int.reduceLT, Int.reduceLE, Int.reduceEq, Int.reduceAdd, Int.reduceNeg, reduceIte, r_st, r_nck, r_ix, r_iaa, takeN, VE.store, over, cellsAt, VE.part, blkX, gEval, fill, VE.unOp, resVs, resV, reduceCtorEq]
  omega
end
theorem eq47 {h : Heap} : r_eqa false [0, 0, 0, 0, 0, 0, 0, 0, 0, 0, 0, 0, 0, 0, 0, 0, 0, 0, 0, 0, 0, 0, 0, 0, 0, 0, 0, 0, 0, 0, 0, 0, 0, 0, 0, 0, 0, 0, 0, 0, 0, 0, 0, 0, 0, 0, 0] (.agg [.int .u8 0, .int .u32 0, .int .u32 0, .int .i64 0, .int .i64 0, .int .i64 0, .int .i64 0, .int .i64 0, .int .i64 0, .int .i64 0, .int .i64 0, .int .i64 0, .int .u8 0, .int .u8 0, .int .u64 0, .int .u8 0, .int .u8 0, .int .u8 0, .int .u8 0, .int .u8 0, .int .u8 0, .int .u8 0, .int .u8 0, .int .u8 0, .int .u8 0, .int .u8 0, .int .u8 0, .int .u8 0, .int .u8 0, .int .u8 0, .int .u8 0, .int .u8 0, .int .u8 0, .int .u8 0, .int .u8 0, .int .u8 0, .int .u8 0, .int .u8 0, .int .u8 0, .int .u8 0, .int .u8 0, .int .u8 0, .int .u8 0, .int .u8 0, .int .u8 0, .int .u8 0, .int .u8 0]) (.agg [.int .u8 0, .int .u32 0, .int .u32 0, .int .i64 0, .int .i64 0, .int .i64 0, .int .i64 0, .int .i64 0, .int .i64 0, .int .i64 0, .int .i64 0, .int .i64 0, .int .u8 0, .int .u8 0, .int .u64 0, .int .u8 0, .int .u8 0, .int .u8 0, .int .u8 0, .int .u8 0, .int .u8 0, .int .u8 0, .int .u8 0, .int .u8 0, .int .u8 0, .int .u8 0, .int .u8 0, .int .u8 0, .int .u8 0, .int .u8 0, .int .u8 0, .int .u8 0, .int .u8 0, .int .u8 0, .int .u8 0, .int .u8 0, .int .u8 0, .int .u8 0, .int .u8 0, .int .u8 0, .int .u8 0, .int .u8 0, .int .u8 0, .int .u8 0, .int .u8 0, .int .u8 0, .int .u8 0]) h = some (.bool true, h) := rfl
theorem eq38 {h : Heap} : r_eqa false [0, 0, 0, 0, 0, 0, 0, 0, 0, 0, 0, 0, 0, 0, 0, 0, 0, 0, 0, 0, 0, 0, 0, 0, 0, 0, 0, 0, 0, 0, 0, 0, 0, 0, 0, 0, 0, 0] (.agg [.int .u32 0, .int .u32 0, .int .u32 0, .int .u64 0, .int .u8 0, .int .u8 0, .int .u8 0, .int .u8 0, .int .u8 0, .int .u8 0, .int .u8 0, .int .u8 0, .int .u8 0, .int .u8 0, .int .u8 0, .int .u8 0, .int .u8 0, .int .u8 0, .int .u8 0, .int .u8 0, .int .u8 0, .int .u8 0, .int .u8 0, .int .u8 0, .int .u8 0, .int .u8 0, .int .u8 0, .int .u8 0, .int .u8 0, .int .u8 0, .int .u8 0, .int .u8 0, .int .u8 0, .int .u8 0, .int .u8 0, .int .u8 0, .int .u16 0, .int .u32 0]) (.agg [.int .u32 0, .int .u32 0, .int .u32 0, .int .u64 0, .int .u8 0, .int .u8 0, .int .u8 0, .int .u8 0, .int .u8 0, .int .u8 0, .int .u8 0, .int .u8 0, .int .u8 0, .int .u8 0, .int .u8 0, .int .u8 0, .int .u8 0, .int .u8 0, .int .u8 0, .int .u8 0, .int .u8 0, .int .u8 0, .int .u8 0, .int .u8 0, .int .u8 0, .int .u8 0, .int .u8 0, .int .u8 0, .int .u8 0, .int .u8 0, .int .u8 0, .int .u8 0, .int .u8 0, .int .u8 0, .int .u8 0, .int .u8 0, .int .u16 0, .int .u32 0]) h = some (.bool true, h) := rfl
theorem maxi8 {a b : Int} {h : Heap} : r_maxi [.int .u8 a, .int .u8 b] h = some (.int .u8 (bif ltI a b then b else a), h) := rfl
theorem mini8 {a b : Int} {h : Heap} : r_mini [.int .u8 a, .int .u8 b] h = some (.int .u8 (bif ltI b a then b else a), h) := rfl
section
variable {vp : Nat → Option VFn}
theorem fvalid_spec {f c1 c2 t1 t2 t3 : Nat} (hf : vp f = some (B_frame_valid c1 t1 t2)) (h1 : vp c1 = some (B_frame_valid_fn1 c2 t3)) (h2 : vp c2 = some B_bucket_CheckLimit) (c : Cmd) (ok : CmdOk c) (hc : c.tg.length = 32) (h : Heap) :
  callRes vp f [.agg (encC c)] h = some (.bool true, h) := by
 refine res_pure hf rfl rfl (fun g hg => ?_)
 have hlo := hlo hg
 obtain ⟨op, t, u, l0, l1, l2, us, es, ex, tg⟩ := c
 obtain ⟨q1, q2, q3, q4, q5, q6, q7⟩ := ok
 simp only at q1 q2 q3 q4 q5 q6 q7 hc
 obtain ⟨R, hR⟩ : ∃ R, tg.map (V.int .u8) = R := ⟨_, rfl⟩
 have lR : R.length = 32 := by rw [← hR, List.length_map, hc]
 have tR : takeN 32 R = some R := by rw [← lR]; exact takeN_all R
 have oR : R.all oneCell = true := by
  rw [← hR, List.all_map]
  exact List.all_eq_true.2 (fun _ _ => rfl)
 have ov32 : over 0 [.int .u8 0, .int .u8 0, .int .u8 0, .int .u8 0, .int .u8 0, .int .u8 0, .int .u8 0, .int .u8 0, .int .u8 0, .int .u8 0, .int .u8 0, .int .u8 0, .int .u8 0, .int .u8 0, .int .u8 0, .int .u8 0, .int .u8 0, .int .u8 0, .int .u8 0, .int .u8 0, .int .u8 0, .int .u8 0, .int .u8 0, .int .u8 0, .int .u8 0, .int .u8 0, .int .u8 0, .int .u8 0, .int .u8 0, .int .u8 0, .int .u8 0, .int .u8 0] R = some R := over_all (by rw [lR]; rfl) oR
 have ov32' : over 0 R [.int .u8 0, .int .u8 0, .int .u8 0, .int .u8 0, .int .u8 0, .int .u8 0, .int .u8 0, .int .u8 0, .int .u8 0, .int .u8 0, .int .u8 0, .int .u8 0, .int .u8 0, .int .u8 0, .int .u8 0, .int .u8 0, .int .u8 0, .int .u8 0, .int .u8 0, .int .u8 0, .int .u8 0, .int .u8 0, .int .u8 0, .int .u8 0, .int .u8 0, .int .u8 0, .int .u8 0, .int .u8 0, .int .u8 0, .int .u8 0, .int .u8 0, .int .u8 0] = some [.int .u8 0, .int .u8 0, .int .u8 0, .int .u8 0, .int .u8 0, .int .u8 0, .int .u8 0, .int .u8 0, .int .u8 0, .int .u8 0, .int .u8 0, .int .u8 0, .int .u8 0, .int .u8 0, .int .u8 0, .int .u8 0, .int .u8 0, .int .u8 0, .int .u8 0, .int .u8 0, .int .u8 0, .int .u8 0, .int .u8 0, .int .u8 0, .int .u8 0, .int .u8 0, .int .u8 0, .int .u8 0, .int .u8 0, .int .u8 0, .int .u8 0, .int .u8 0] := over_all (by rw [lR]; rfl) rfl
 have r32 : rep 32 [V.int .u8 0] = [.int .u8 0, .int .u8 0, .int .u8 0, .int .u8 0, .int .u8 0, .int .u8 0, .int .u8 0, .int .u8 0, .int .u8 0, .int .u8 0, .int .u8 0, .int .u8 0, .int .u8 0, .int .u8 0, .int .u8 0, .int .u8 0, .int .u8 0, .int .u8 0, .int .u8 0, .int .u8 0, .int .u8 0, .int .u8 0, .int .u8 0, .int .u8 0, .int .u8 0, .int .u8 0, .int .u8 0, .int .u8 0, .int .u8 0, .int .u8 0, .int .u8 0, .int .u8 0] := rfl
 clear hg
 have t16 : ¬ 16 ≤ t := by omega
 have t16' : t < 16 := q2
 have l0' : ¬ g.nx < g.lo := by omega
 have l1' : ¬ g.nx + 1 < g.lo := by omega
 have l2' : ¬ g.nx + 2 < g.lo := by omega
 unfold encC B_frame_valid
 rw [hR]
 simp only [↓zp, zz, zy, chkOk, Nat.reduceEqDiff, Nat.reduceAdd, Nat.reduceSub, Nat.reduceMul, Nat.reduceLT, Nat.reduceLeDiff, Int.reduceLT, Int.reduceLE, Int.reduceEq, Int.reduceAdd, Int.reduceNeg, reduceIte, r_st, r_nck, r_ix, r_iaa, takeN, VE.store, over, cellsAt, VE.part, blkX, gEval, fill, VE.unOp, resVs, resV, reduceCtorEq, lR, tR, ov32, ov32', r32, l0', l1', l2', t16']
 generalize hS : Tr.set _ 17 _ = S
 have s1 : Slots.at S 1 = .ptr g.nx 0 := by rw [← hS]; simp only [zs, Nat.reduceEqDiff]
 have s2 : Slots.at S 2 = .bool false := by rw [← hS]; simp only [zs, Nat.reduceEqDiff]
 have s3 : Slots.at S 3 = .ptr (g.nx + 1) 0 := by rw [← hS]; simp only [zs, Nat.reduceEqDiff]
 have s4 : Slots.at S 4 = .ptr (g.nx + 2) 0 := by rw [← hS]; simp only [zs, Nat.reduceEqDiff]
 have s5 : Slots.at S 5 = .fn c1 [.ptr g.nx 0, .ptr (g.nx + 2) 0, .ptr (g.nx + 1) 0] := by rw [← hS]; simp only [zs, Nat.reduceEqDiff]
 have s17 : Slots.at S 17 = .int .u8 op := by rw [← hS]; simp only [zs, Nat.reduceEqDiff]
 clear hS
 generalize hH : Heap.set (Heap.new _ _) (g.nx + 2) _ = H
 have g0 : H.get g.nx = .cells (.int .u8 op :: .int .u32 t :: .int .u32 u :: .int .i64 l0.b :: .int .i64 l0.r :: .int .i64 l0.p :: .int .i64 l1.b :: .int .i64 l1.r :: .int .i64 l1.p :: .int .i64 l2.b :: .int .i64 l2.r :: .int .i64 l2.p :: .int .u8 us :: .int .u8 es :: .int .u64 ex :: R) .cl := by rw [← hH]; simp only [↓zp, zz, zy, chkOk, Nat.reduceEqDiff, Nat.reduceAdd, Nat.reduceSub, Nat.reduceMul, Nat.reduceLT, Nat.reduceLeDiff, Int.reduceLT, Int.reduceLE, Int.reduceEq, Int.reduceAdd, Int.reduceNeg, reduceIte, r_st, r_nck, r_ix, r_iaa, takeN, VE.store, over, cellsAt, VE.part, blkX, gEval, fill, VE.unOp, resVs, resV, reduceCtorEq]
 have g1 : H.get (g.nx + 1) = .cells [.int .u8 0, .int .u32 0, .int .u32 u, .int .i64 l0.b, .int .i64 l0.r, .int .i64 l0.p, .int .i64 l1.b, .int .i64 l1.r, .int .i64 l1.p, .int .i64 l2.b, .int .i64 l2.r, .int .i64 l2.p, .int .u8 us, .int .u8 es, .int .u64 0, .int .u8 0, .int .u8 0, .int .u8 0, .int .u8 0, .int .u8 0, .int .u8 0, .int .u8 0, .int .u8 0, .int .u8 0, .int .u8 0, .int .u8 0, .int .u8 0, .int .u8 0, .int .u8 0, .int .u8 0, .int .u8 0, .int .u8 0, .int .u8 0, .int .u8 0, .int .u8 0, .int .u8 0, .int .u8 0, .int .u8 0, .int .u8 0, .int .u8 0, .int .u8 0, .int .u8 0, .int .u8 0, .int .u8 0, .int .u8 0, .int .u8 0, .int .u8 0] (.ct t1) := by rw [← hH]; simp only [↓zp, zz, zy, chkOk, Nat.reduceEqDiff, Nat.reduceAdd, Nat.reduceSub, Nat.reduceMul, Nat.reduceLT, Nat.reduceLeDiff, Int.reduceLT, Int.reduceLE, Int.reduceEq, Int.reduceAdd, Int.reduceNeg, reduceIte, r_st, r_nck, r_ix, r_iaa, takeN, VE.store, over, cellsAt, VE.part, blkX, gEval, fill, VE.unOp, resVs, resV, reduceCtorEq]
 have g2 : H.get (g.nx + 2) = .cells [.bool true] (.ct t2) := by rw [← hH]; simp only [↓zp, zz, zy, chkOk, Nat.reduceEqDiff, Nat.reduceAdd, Nat.reduceSub, Nat.reduceMul, Nat.reduceLT, Nat.reduceLeDiff, Int.reduceLT, Int.reduceLE, Int.reduceEq, Int.reduceAdd, Int.reduceNeg, reduceIte, r_st, r_nck, r_ix, r_iaa, takeN, VE.store, over, cellsAt, VE.part, blkX, gEval, fill, VE.unOp, resVs, resV, reduceCtorEq]
 have nxH : H.nx = g.nx + 3 := by rw [← hH]; simp only [↓zp, zz, zy, chkOk, Nat.reduceEqDiff, Nat.reduceAdd, Nat.reduceSub, Nat.reduceMul, Nat.reduceLT, Nat.reduceLeDiff, Int.reduceLT, Int.reduceLE, Int.reduceEq, Int.reduceAdd, Int.reduceNeg, reduceIte, r_st, r_nck, r_ix, r_iaa, takeN, VE.store, over, cellsAt, VE.part, blkX, gEval, fill, VE.unOp, resVs, resV, reduceCtorEq]
 have loH : H.lo = g.lo := by rw [← hH]; simp only [↓zp, zz, zy, chkOk, Nat.reduceEqDiff, Nat.reduceAdd, Nat.reduceSub, Nat.reduceMul, Nat.reduceLT, Nat.reduceLeDiff, Int.reduceLT, Int.reduceLE, Int.reduceEq, Int.reduceAdd, Int.reduceNeg, reduceIte, r_st, r_nck, r_ix, r_iaa, takeN, VE.store, over, cellsAt, VE.part, blkX, gEval, fill, VE.unOp, resVs, resV, reduceCtorEq]
 clear hH
 have fin : ∀ (H : Heap), H.get (g.nx + 2) = .cells [.bool true] (.ct t2) → H.get (g.nx + 1) = .cells [.int .u8 0, .int .u32 0, .int .u32 0, .int .i64 0, .int .i64 0, .int .i64 0, .int .i64 0, .int .i64 0, .int .i64 0, .int .i64 0, .int .i64 0, .int .i64 0, .int .u8 0, .int .u8 0, .int .u64 0, .int .u8 0, .int .u8 0, .int .u8 0, .int .u8 0, .int .u8 0, .int .u8 0, .int .u8 0, .int .u8 0, .int .u8 0, .int .u8 0, .int .u8 0, .int .u8 0, .int .u8 0, .int .u8 0, .int .u8 0, .int .u8 0, .int .u8 0, .int .u8 0, .int .u8 0, .int .u8 0, .int .u8 0, .int .u8 0, .int .u8 0, .int .u8 0, .int .u8 0, .int .u8 0, .int .u8 0, .int .u8 0, .int .u8 0, .int .u8 0, .int .u8 0, .int .u8 0] (.ct t1) → True := fun _ _ _ => trivial
 rcases q1 with rfl | rfl | rfl | rfl | rfl
 ·
  obtain ⟨k0, k1, k2⟩ := q4 (.inl rfl)
  obtain ⟨w1, w2, w3, w4⟩ := q6 rfl
  obtain rfl : u = 0 := by omega
  obtain ⟨v, H', cv, rfl, P⟩ := vfn_spec h1 h2 l0 l1 l2 k0 k1 k2 g.nx (g.nx + 2) (g.nx + 1) _ _ _ _ _ _ _ _ _ _ _ _ _ _ _ _ _ _ _ _ H g0 g2 g1 (by omega) (by omega) (by omega) (by omega) (by omega) (by omega)
  have cv' := callVRes_fn (args := []) cv
  have p4 := P.g4
  have p3 := P.g3
  have p0 := (P.get g.nx (by omega) (by omega) (by omega)).trans g0
  have plo : H'.lo = g.lo := P.lo.trans loH
  have mn : ∃ x, (bif ltI es us then es else us) = x ∧ 1 ≤ x := ⟨_, rfl, by cases ltI es us <;> simpa⟩
  have mx : ∃ x, (bif ltI us es then es else us) = x ∧ x ≤ 8 := ⟨_, rfl, by cases ltI us es <;> simpa⟩
  obtain ⟨a, ha, a1⟩ := mn
  obtain ⟨b, hb, b1⟩ := mx
  simp only [↓zp, zz, zy, chkOk, Nat.reduceEqDiff, Nat.reduceAdd, Nat.reduceSub, Nat.reduceMul, Nat.reduceLT, Nat.reduceLeDiff, Int.reduceLT, Int.reduceLE, Int.reduceEq, Int.reduceAdd, Int.reduceNeg, reduceIte, r_st, r_nck, r_ix, r_iaa, takeN, VE.store, over, cellsAt, VE.part, blkX, gEval, fill, VE.unOp, resVs, resV, reduceCtorEq, s1, s2, s3, s4, s5, s17, cv', p4, p3, p0, plo, l1', l2', mini8, maxi8, ha, hb, a1, b1, eq47, frzB]
 ·
  obtain ⟨rfl, rfl, rfl⟩ := q5 (by omega) (by omega)
  obtain ⟨rfl, rfl⟩ := q7 (by omega)
  obtain rfl : u = 0 := by omega
  simp only [zLim] at g0 g1
  simp only [↓zp, zz, zy, chkOk, Nat.reduceEqDiff, Nat.reduceAdd, Nat.reduceSub, Nat.reduceMul, Nat.reduceLT, Nat.reduceLeDiff, Int.reduceLT, Int.reduceLE, Int.reduceEq, Int.reduceAdd, Int.reduceNeg, reduceIte, r_st, r_nck, r_ix, r_iaa, takeN, VE.store, over, cellsAt, VE.part, blkX, gEval, fill, VE.unOp, resVs, resV, reduceCtorEq, s1, s2, s3, s4, s5, s17, g0, g1, g2, eq47, frzB]
 ·
  obtain ⟨k0, k1, k2⟩ := q4 (.inr rfl)
  obtain ⟨rfl, rfl⟩ := q7 (by omega)
  obtain rfl : u = 0 := by omega
  obtain ⟨v, H', cv, rfl, P⟩ := vfn_spec h1 h2 l0 l1 l2 k0 k1 k2 g.nx (g.nx + 2) (g.nx + 1) _ _ _ _ _ _ _ _ _ _ _ _ _ _ _ _ _ _ _ _ H g0 g2 g1 (by omega) (by omega) (by omega) (by omega) (by omega) (by omega)
  have cv' := callVRes_fn (args := []) cv
  have p4 := P.g4
  have p3 := P.g3
  have p0 := (P.get g.nx (by omega) (by omega) (by omega)).trans g0
  simp only [↓zp, zz, zy, chkOk, Nat.reduceEqDiff, Nat.reduceAdd, Nat.reduceSub, Nat.reduceMul, Nat.reduceLT, Nat.reduceLeDiff, Int.reduceLT, Int.reduceLE, Int.reduceEq, Int.reduceAdd, Int.reduceNeg, reduceIte, r_st, r_nck, r_ix, r_iaa, takeN, VE.store, over, cellsAt, VE.part, blkX, gEval, fill, VE.unOp, resVs, resV, reduceCtorEq, s1, s2, s3, s4, s5, s17, cv', p4, p3, p0, eq47, frzB]
 ·
  obtain ⟨rfl, rfl, rfl⟩ := q5 (by omega) (by omega)
  obtain ⟨rfl, rfl⟩ := q7 (by omega)
  obtain rfl : u = 0 := by omega
  simp only [zLim] at g0 g1
  simp only [↓zp, zz, zy, chkOk, Nat.reduceEqDiff, Nat.reduceAdd, Nat.reduceSub, Nat.reduceMul, Nat.reduceLT, Nat.reduceLeDiff, Int.reduceLT, Int.reduceLE, Int.reduceEq, Int.reduceAdd, Int.reduceNeg, reduceIte, r_st, r_nck, r_ix, r_iaa, takeN, VE.store, over, cellsAt, VE.part, blkX, gEval, fill, VE.unOp, resVs, resV, reduceCtorEq, s1, s2, s3, s4, s5, s17, g0, g1, g2, eq47, frzB]
 ·
  obtain ⟨rfl, rfl, rfl⟩ := q5 (by omega) (by omega)
  obtain ⟨rfl, rfl⟩ := q7 (by omega)
  simp only [zLim] at g0 g1
  simp only [↓zp, zz, zy, chkOk, Nat.reduceEqDiff, Nat.reduceAdd, Nat.reduceSub, Nat.reduceMul, Nat.reduceLT, Nat.reduceLeDiff, Int.reduceLT, Int.reduceLE, Int.reduceEq, Int.reduceAdd, Int.reduceNeg, reduceIte, r_st, r_nck, r_ix, r_iaa, takeN, VE.store, over, cellsAt, VE.part, blkX, gEval, fill, VE.unOp, resVs, resV, reduceCtorEq, s1, s2, s3, s4, s5, s17, g0, g1, g2, loH, l1', eq47, frzB]
def encF (c : Cmd) : List V := .int .u8 2 :: ([.int .u32 0, .int .u32 0, .int .u32 0, .int .u64 0, .int .u8 0, .int .u8 0, .int .u8 0, .int .u8 0, .int .u8 0, .int .u8 0, .int .u8 0, .int .u8 0, .int .u8 0, .int .u8 0, .int .u8 0, .int .u8 0, .int .u8 0, .int .u8 0, .int .u8 0, .int .u8 0, .int .u8 0, .int .u8 0, .int .u8 0, .int .u8 0, .int .u8 0, .int .u8 0, .int .u8 0, .int .u8 0, .int .u8 0, .int .u8 0, .int .u8 0, .int .u8 0, .int .u8 0, .int .u8 0, .int .u8 0, .int .u8 0, .int .u16 0, .int .u32 0] ++ encC c)
theorem fcheck_spec {f c1 c2 c3 t1 t2 t3 : Nat} (hf : vp f = some (B_frame_Check c1)) (h1 : vp c1 = some (B_frame_valid c2 t1 t2)) (h2 : vp c2 = some (B_frame_valid_fn1 c3 t3)) (h3 : vp c3 = some B_bucket_CheckLimit) (c : Cmd) (ok : CmdOk c) (hc : c.tg.length = 32) (h : Heap) :
  callRes vp f [.agg (encF c)] h = some (.int .i64 0, h) := by
 have m1 : modeOf vp c1 = some 1 := by simp [modeOf, h1, B_frame_valid]
 have kv := fun h => fvalid_spec h1 h2 h3 c ok hc h
 refine res_pure hf rfl rfl (fun g hg => ?_)
 clear hg
 obtain ⟨R, hR⟩ : ∃ R, c.tg.map (V.int .u8) = R := ⟨_, rfl⟩
 have lR : R.length = 32 := by rw [← hR, List.length_map, hc]
 have tR : takeN 32 R = some R := by rw [← lR]; exact takeN_all R
 unfold encF encC B_frame_Check
 unfold encC at kv
 rw [hR] at kv ⊢
 simp only [↓zp, zz, zy, chkOk, Nat.reduceEqDiff, Nat.reduceAdd, Nat.reduceSub, Nat.reduceMul, Nat.reduceLT, Nat.reduceLeDiff, Int.reduceLT, Int.reduceLE, Int.reduceEq, Int.reduceAdd, Int.reduceNeg, reduceIte, r_st, r_nck, r_ix, r_iaa, takeN, VE.store, over, cellsAt, VE.part, blkX, gEval, fill, VE.unOp, resVs, resV, reduceCtorEq, lR, tR, eq38, m1, kv, frzI]
end
end
end Go.VE.LB
