/- What the functions of the law ModelCommands compute, on typed arguments (part 3). -/
import Derived.Test.YtdggjlfamjfdkaaGreatModelCommandsA2
set_option linter.all false
namespace Go.VE.LB
section
open Go Go.VE Classical
set_option maxRecDepth 100000
set_option maxHeartbeats 2000000
set_option linter.all false
theorem eqInts : ∀ (l : List (IntKind × Int × Int)), eqCells (l.map fun _ => 0) (l.map fun p => .int p.1 p.2.1) (l.map fun p => .int p.1 p.2.2) = some (decide (∀ p ∈ l, p.2.1 = p.2.2))
 | [] => by simp [eqCells]
 | p :: l => by
  simp only [List.map_cons, eqC, eqInts l]
  by_cases h : p.2.1 = p.2.2
  ·simp [h]
  ·simp [h]
theorem eqaInts (l : List (IntKind × Int × Int)) {neg : Bool} {h : Heap} {ks : List Nat} {xs ys : List V} {P : Prop} [Decidable P] (h1 : ks = l.map fun _ => 0) (h2 : xs = l.map fun p => .int p.1 p.2.1) (h3 : ys = l.map fun p => .int p.1 p.2.2) (hP : (∀ p ∈ l, p.2.1 = p.2.2) ↔ P) :
  r_eqa neg ks (.agg xs) (.agg ys) h = some (.bool (bif neg then !decide P else decide P), h) := by
 subst h1; subst h2; subst h3
 have e : decide (∀ p ∈ l, p.2.1 = p.2.2) = decide P := decide_eq_decide.2 hP
 simp only [r_eqa, List.length_map, eqInts, e, beq_dec, decide_true, Bool.and_self, cond_true]
theorem bucket_ext {x y : Bucket} : x = y ↔ x.l = y.l ∧ x.lv = y.lv ∧ x.pt = y.pt ∧ x.t = y.t := by
 cases x; cases y; simp
theorem held_ext {x y : Held} : x = y ↔ x.k = y.k ∧ x.b = y.b := by
 cases x; cases y; simp
theorem eqH {x y : Held} {neg : Bool} {h : Heap} : r_eqa neg [0, 0, 0, 0, 0, 0, 0] (.agg (encH x)) (.agg (encH y)) h = some (.bool (bif neg then !decide (x = y) else decide (x = y)), h) :=
 eqaInts [(.u32, x.k, y.k), (.i64, x.b.l.b, y.b.l.b), (.i64, x.b.l.r, y.b.l.r), (.i64, x.b.l.p, y.b.l.p), (.i64, x.b.lv, y.b.lv), (.i64, x.b.pt, y.b.pt), (.u64, x.b.t, y.b.t)] rfl rfl rfl (by simp [held_ext, bucket_ext, limit_ext, and_assoc])
theorem eqB {x y : Bucket} {neg : Bool} {h : Heap} : r_eqa neg [0, 0, 0, 0, 0, 0] (.agg [.int .i64 x.l.b, .int .i64 x.l.r, .int .i64 x.l.p, .int .i64 x.lv, .int .i64 x.pt, .int .u64 x.t]) (.agg [.int .i64 y.l.b, .int .i64 y.l.r, .int .i64 y.l.p, .int .i64 y.lv, .int .i64 y.pt, .int .u64 y.t]) h = some (.bool (bif neg then !decide (x = y) else decide (x = y)), h) :=
 eqaInts [(.i64, x.l.b, y.l.b), (.i64, x.l.r, y.l.r), (.i64, x.l.p, y.l.p), (.i64, x.lv, y.lv), (.i64, x.pt, y.pt), (.u64, x.t, y.t)] rfl rfl rfl (by simp [bucket_ext, limit_ext, and_assoc])
theorem eq9 {x y : Acct} {neg : Bool} {h : Heap} : r_eqa neg [0, 0, 0, 0, 0, 0, 0, 0, 0] (.agg [.int .i64 x.l0.b, .int .i64 x.l0.r, .int .i64 x.l0.p, .int .i64 x.l1.b, .int .i64 x.l1.r, .int .i64 x.l1.p, .int .i64 x.l2.b, .int .i64 x.l2.r, .int .i64 x.l2.p])
  (.agg [.int .i64 y.l0.b, .int .i64 y.l0.r, .int .i64 y.l0.p, .int .i64 y.l1.b, .int .i64 y.l1.r, .int .i64 y.l1.p, .int .i64 y.l2.b, .int .i64 y.l2.r, .int .i64 y.l2.p]) h = some (.bool (bif neg then !decide (x.l0 = y.l0 ∧ x.l1 = y.l1 ∧ x.l2 = y.l2) else decide (x.l0 = y.l0 ∧ x.l1 = y.l1 ∧ x.l2 = y.l2)), h) :=
 eqaInts [(.i64, x.l0.b, y.l0.b), (.i64, x.l0.r, y.l0.r), (.i64, x.l0.p, y.l0.p), (.i64, x.l1.b, y.l1.b), (.i64, x.l1.r, y.l1.r), (.i64, x.l1.p, y.l1.p), (.i64, x.l2.b, y.l2.b), (.i64, x.l2.r, y.l2.r), (.i64, x.l2.p, y.l2.p)] (P := x.l0 = y.l0 ∧ x.l1 = y.l1 ∧ x.l2 = y.l2) rfl rfl rfl (by simp [limit_ext, and_assoc])
theorem eq2 {k : IntKind} {a b c d : Int} {neg : Bool} {h : Heap} : r_eqa neg [0, 0] (.agg [.int k a, .int k b]) (.agg [.int k c, .int k d]) h = some (.bool (bif neg then !decide (a = c ∧ b = d) else decide (a = c ∧ b = d)), h) :=
 eqaInts [(k, a, c), (k, b, d)] (P := a = c ∧ b = d) rfl rfl rfl (by simp)
theorem eq3 {k : IntKind} {a b c d e f : Int} {neg : Bool} {h : Heap} : r_eqa neg [0, 0, 0] (.agg [.int k a, .int k b, .int k c]) (.agg [.int k d, .int k e, .int k f]) h = some (.bool (bif neg then !decide (a = d ∧ b = e ∧ c = f) else decide (a = d ∧ b = e ∧ c = f)), h) :=
 eqaInts [(k, a, d), (k, b, e), (k, c, f)] (P := a = d ∧ b = e ∧ c = f) rfl rfl rfl (by simp)
structure SameA (x y : Acct) : Prop where
 len : x.rev.l.length = y.rev.l.length
 rev : ∀ k (h : k < x.rev.l.length) (h' : k < y.rev.l.length), x.rev.l[k] = y.rev.l[k]
 t : x.t = y.t
 ls : x.l0 = y.l0 ∧ x.l1 = y.l1 ∧ x.l2 = y.l2
 cs : x.c0 = y.c0 ∧ x.c1 = y.c1
 own : x.own = y.own
 us : x.users.l = y.users.l
 en : x.ends.l = y.ends.l
 ta : x.n0 = y.n0 ∧ x.n1 = y.n1 ∧ x.n2 = y.n2
section
variable {vp : Nat → Option VFn}
def inv31 (a b : Sl Held) (H : Heap) (m : Nat) (s : Slots) (h : Heap) : Prop :=
 ∃ k, k ≤ a.l.length ∧ m = a.l.length - k ∧ s.at 0 = a.v encH ∧ s.at 1 = b.v encH ∧ s.at 5 = .int .i64 (k : Int) ∧ h = H ∧ ∀ j (hj : j < a.l.length) (hj' : j < b.l.length), j < k → a.l[j] = b.l[j]
theorem sameH_spec {f : Nat} (hf : vp f = some B_spigotref25_SameHeld) (a b : Sl Held) (h : Heap) (hn : a.l.length < 4611686018427387904) : callRes vp f [a.v encH, b.v encH] h = some (.bool (decide (a.l = b.l)), h) := by
 refine res_pure hf rfl rfl (fun g hg => ?_)
 have no : ¬ a.l = b.l → (.bool false : V) = .bool (decide (a.l = b.l)) := fun q => by rw [decide_eq_false q]
 unfold B_spigotref25_SameHeld
 by_cases hl : (a.l.length : Int) = (b.l.length : Int)
 case neg =>
  have e := no (fun q => hl (by rw [q]))
  simp only [↓zp, zz, zy, chkOk, Nat.reduceEqDiff, Nat.reduceAdd, Nat.reduceSub, Nat.reduceMul, Nat.reduceLT, Nat.reduceLeDiff, Int.reduceLT, Int.reduceLE, Int.reduceEq, Int.reduceAdd, Int.reduceNeg, reduceIte, r_st, r_nck, r_ix, r_iaa, takeN, VE.store, over, cellsAt, VE.part, blkX, gEval, fill, VE.unOp, resVs, resV, reduceCtorEq, hl, frzB, ← e]
 have hl' := eq_true hl
 simp only [↓zp, zz, zy, chkOk, Nat.reduceEqDiff, Nat.reduceAdd, Nat.reduceSub, Nat.reduceMul, Nat.reduceLT, Nat.reduceLeDiff, Int.reduceLT, Int.reduceLE, Int.reduceEq, Int.reduceAdd, Int.reduceNeg, reduceIte, r_st, r_nck, r_ix, r_iaa, takeN, VE.store, over, cellsAt, VE.part, blkX, gEval, fill, VE.unOp, resVs, resV, reduceCtorEq, hl']
 generalize hS : Tr.set _ 5 _ = S
 have b0 : Slots.at S 0 = a.v encH := by rw [← hS]; simp only [zs, Nat.reduceEqDiff]
 have b1 : Slots.at S 1 = b.v encH := by rw [← hS]; simp only [zs, Nat.reduceEqDiff]
 have b5 : Slots.at S 5 = .int .i64 ((0 : Nat) : Int) := by rw [← hS]; simp only [zs, Nat.reduceEqDiff]; rfl
 clear hS
 refine loop_ind (fun m s h => inv31 a b g m s h) ?_ a.l.length ⟨0, by omega, by omega, b0, b1, b5, rfl, fun j _ _ hj => by omega⟩
 rintro m s h ⟨k, hk, hm, c0, c1, c5, rfl, hinc⟩
 by_cases hlt : k < a.l.length
 case neg =>
  have hlt' : ¬ ((k : Int) < (a.l.length : Int)) := by omega
  have e := eq_true (show a.l = b.l from List.ext_getElem (by omega) (fun j h1 h2 => hinc j h1 h2 (by omega)))
  simp only [↓zp, zz, zy, chkOk, Nat.reduceEqDiff, Nat.reduceAdd, Nat.reduceSub, Nat.reduceMul, Nat.reduceLT, Nat.reduceLeDiff, Int.reduceLT, Int.reduceLE, Int.reduceEq, Int.reduceAdd, Int.reduceNeg, reduceIte, r_st, r_nck, r_ix, r_iaa, takeN, VE.store, over, cellsAt, VE.part, blkX, gEval, fill, VE.unOp, resVs, resV, reduceCtorEq, c0, c1, c5, hlt', e, frzB]
 have hlt' : (k : Int) < (a.l.length : Int) := by omega
 have hltb : k < b.l.length := by omega
 have ws := wr_succ (k := k) (by omega)
 have ia1 : ∀ h, r_ia 7 (a.v encH) (.int .i64 (k : Int)) h = some (.iptr (encH a.l[k] ++ (a.l.drop (k + 1)).flatMap encH), h) := fun h => r_ia_v encH_len (by decide) hlt rfl
 have ia2 : ∀ h, r_ia 7 (b.v encH) (.int .i64 (k : Int)) h = some (.iptr (encH b.l[k] ++ (b.l.drop (k + 1)).flatMap encH), h) := fun h => r_ia_v encH_len (by decide) hltb rfl
 by_cases hq : a.l[k] = b.l[k]
 case neg =>
  have e := no (fun q => hq (by simp only [q]))
  simp only [↓zp, zz, zy, chkOk, Nat.reduceEqDiff, Nat.reduceAdd, Nat.reduceSub, Nat.reduceMul, Nat.reduceLT, Nat.reduceLeDiff, Int.reduceLT, Int.reduceLE, Int.reduceEq, Int.reduceAdd, Int.reduceNeg, reduceIte, r_st, r_nck, r_ix, r_iaa, takeN, VE.store, over, cellsAt, VE.part, blkX, gEval, fill, VE.unOp, resVs, resV, reduceCtorEq, c0, c1, c5, hlt', ia1, ia2, take7, eqH, hq, ← e, frzB]
 have hq' := eq_true hq
 simp only [↓zp, zz, zy, chkOk, Nat.reduceEqDiff, Nat.reduceAdd, Nat.reduceSub, Nat.reduceMul, Nat.reduceLT, Nat.reduceLeDiff, Int.reduceLT, Int.reduceLE, Int.reduceEq, Int.reduceAdd, Int.reduceNeg, reduceIte, r_st, r_nck, r_ix, r_iaa, takeN, VE.store, over, cellsAt, VE.part, blkX, gEval, fill, VE.unOp, resVs, resV, reduceCtorEq, c0, c1, c5, hlt', ia1, ia2, take7, eqH, hq', ws]
 refine ⟨_, by omega, k + 1, by omega, rfl, by simp only [zs, Nat.reduceEqDiff, c0], by simp only [zs, Nat.reduceEqDiff, c1], by simp only [zs, Nat.reduceEqDiff], rfl, fun j hj hj' hj2 => ?_⟩
 rcases Nat.lt_or_ge j k with r | r
 ·exact hinc j hj hj' r
 ·have : j = k := by omega
  subst this
  exact hq
def inv21 (x y : Acct) (b : Nat) (H : Heap) (m : Nat) (s : Slots) (h : Heap) : Prop :=
 ∃ k, k ≤ x.rev.l.length ∧ m = x.rev.l.length - k ∧ s.at 2 = .ptr b 0 ∧ s.at 3 = .ptr (b + 1) 0 ∧ s.at 5 = .int .i64 (k : Int) ∧ h = H ∧ ∀ j (hj : j < x.rev.l.length) (hj' : j < y.rev.l.length), j < k → x.rev.l[j] = y.rev.l[j]
theorem sameA_spec {f c1 : Nat} (hf : vp f = some (B_spigotref25_SameAccount c1)) (h1 : vp c1 = some B_spigotref25_SameHeld) (x y : Acct) (h : Heap) (n1 : x.users.l.length < 4611686018427387904) (n2 : x.ends.l.length < 4611686018427387904) (n3 : x.rev.l.length < 4611686018427387904) :
  callRes vp f [.agg (encA x), .agg (encA y)] h = some (.bool (decide (SameA x y)), h) := by
 have m1 : modeOf vp c1 = some 1 := by simp [modeOf, h1, B_spigotref25_SameHeld]
 have su := fun h => sameH_spec h1 x.users y.users h n1
 have se := fun h => sameH_spec h1 x.ends y.ends h n2
 refine res_pure hf rfl rfl (fun g hg => ?_)
 have no : ∀ (P : Prop), ¬ P → (SameA x y → P) → (.bool false : V) = .bool (decide (SameA x y)) := fun P hn hv => by
  rw [decide_eq_false (fun q => hn (hv q))]
 unfold B_spigotref25_SameAccount
 by_cases hl : (x.rev.l.length : Int) = (y.rev.l.length : Int)
 case neg =>
  have e := no _ hl (fun q => by rw [q.len])
  simp only [↓zp, zz, zy, chkOk, Nat.reduceEqDiff, Nat.reduceAdd, Nat.reduceSub, Nat.reduceMul, Nat.reduceLT, Nat.reduceLeDiff, Int.reduceLT, Int.reduceLE, Int.reduceEq, Int.reduceAdd, Int.reduceNeg, reduceIte, r_st, r_nck, r_ix, r_iaa, takeN, VE.store, over, cellsAt, VE.part, blkX, gEval, fill, VE.unOp, resVs, resV, reduceCtorEq, encA, hl, frzB, ← e]
 have hl' := eq_true hl
 simp only [↓zp, zz, zy, chkOk, Nat.reduceEqDiff, Nat.reduceAdd, Nat.reduceSub, Nat.reduceMul, Nat.reduceLT, Nat.reduceLeDiff, Int.reduceLT, Int.reduceLE, Int.reduceEq, Int.reduceAdd, Int.reduceNeg, reduceIte, r_st, r_nck, r_ix, r_iaa, takeN, VE.store, over, cellsAt, VE.part, blkX, gEval, fill, VE.unOp, resVs, resV, reduceCtorEq, encA, hl']
 generalize hS : Tr.set _ 5 _ = S
 have b2 : Slots.at S 2 = .ptr g.nx 0 := by rw [← hS]; simp only [zs, Nat.reduceEqDiff]
 have b3 : Slots.at S 3 = .ptr (g.nx + 1) 0 := by rw [← hS]; simp only [zs, Nat.reduceEqDiff]
 have b5 : Slots.at S 5 = .int .i64 ((0 : Nat) : Int) := by rw [← hS]; simp only [zs, Nat.reduceEqDiff]; rfl
 clear hS
 generalize hH : Heap.new _ _ = H
 obtain ⟨hx, hy⟩ : H.get g.nx = .cells (encA x) .cl ∧ H.get (g.nx + 1) = .cells (encA y) .cl := by
  subst hH
  exact ⟨by simp only [↓zp, zz, zy, chkOk, Nat.reduceEqDiff, Nat.reduceAdd, Nat.reduceSub, Nat.reduceMul, Nat.reduceLT, Nat.reduceLeDiff, Int.reduceLT, Int.reduceLE, Int.reduceEq, Int.reduceAdd, Int.reduceNeg, reduceIte, r_st, r_nck, r_ix, r_iaa, takeN, VE.store, over, cellsAt, VE.part, blkX, gEval, fill, VE.unOp, resVs, resV, reduceCtorEq, encA], by simp only [↓zp, zz, zy, chkOk, Nat.reduceEqDiff, Nat.reduceAdd, Nat.reduceSub, Nat.reduceMul, Nat.reduceLT, Nat.reduceLeDiff, Int.reduceLT, Int.reduceLE, Int.reduceEq, Int.reduceAdd, Int.reduceNeg, reduceIte, r_st, r_nck, r_ix, r_iaa, takeN, VE.store, over, cellsAt, VE.part, blkX, gEval, fill, VE.unOp, resVs, resV, reduceCtorEq, encA]⟩
 clear hH
 refine loop_ind (fun m s h => inv21 x y g.nx H m s h) ?_ x.rev.l.length ⟨0, by omega, by omega, b2, b3, b5, rfl, fun j _ _ hj => by omega⟩
 rintro m s h ⟨k, hk, hm, c2, c3, c5, rfl, hinc⟩
 by_cases hlt : k < x.rev.l.length
 case pos =>
  have hlt' : (k : Int) < (x.rev.l.length : Int) := by omega
  have hltb : k < y.rev.l.length := by omega
  have ws := wr_succ (k := k) (by omega)
  have ia1 : ∀ h, r_ia 1 (x.rev.v e32) (.int .i64 (k : Int)) h = some (.iptr (e32 x.rev.l[k] ++ (x.rev.l.drop (k + 1)).flatMap e32), h) := fun h => r_ia_v e32_len (by decide) hlt rfl
  have ia2 : ∀ h, r_ia 1 (y.rev.v e32) (.int .i64 (k : Int)) h = some (.iptr (e32 y.rev.l[k] ++ (y.rev.l.drop (k + 1)).flatMap e32), h) := fun h => r_ia_v e32_len (by decide) hltb rfl
  by_cases hq : x.rev.l[k] = y.rev.l[k]
  case neg =>
   have e := no _ hq (fun q => q.rev k hlt hltb)
   simp only [↓zp, zz, zy, chkOk, Nat.reduceEqDiff, Nat.reduceAdd, Nat.reduceSub, Nat.reduceMul, Nat.reduceLT, Nat.reduceLeDiff, Int.reduceLT, Int.reduceLE, Int.reduceEq, Int.reduceAdd, Int.reduceNeg, reduceIte, r_st, r_nck, r_ix, r_iaa, takeN, VE.store, over, cellsAt, VE.part, blkX, gEval, fill, VE.unOp, resVs, resV, reduceCtorEq, c2, c3, c5, hx, hy, encA, hlt', ia1, ia2, e32, hq, ← e, frzB]
  have hq' := eq_true hq
  simp only [↓zp, zz, zy, chkOk, Nat.reduceEqDiff, Nat.reduceAdd, Nat.reduceSub, Nat.reduceMul, Nat.reduceLT, Nat.reduceLeDiff, Int.reduceLT, Int.reduceLE, Int.reduceEq, Int.reduceAdd, Int.reduceNeg, reduceIte, r_st, r_nck, r_ix, r_iaa, takeN, VE.store, over, cellsAt, VE.part, blkX, gEval, fill, VE.unOp, resVs, resV, reduceCtorEq, c2, c3, c5, hx, hy, encA, hlt', ia1, ia2, e32, hq', ws]
  refine ⟨_, by omega, k + 1, by omega, rfl, by simp only [zs, Nat.reduceEqDiff, c2], by simp only [zs, Nat.reduceEqDiff, c3], by simp only [zs, Nat.reduceEqDiff], rfl, fun j hj hj' hj2 => ?_⟩
  rcases Nat.lt_or_ge j k with r | r
  ·exact hinc j hj hj' r
  ·have : j = k := by omega
   subst this
   exact hq
 have hlt' : ¬ ((k : Int) < (x.rev.l.length : Int)) := by omega
 by_cases q1 : x.t = y.t
 case neg =>
  have e := no _ q1 (·.t)
  simp only [↓zp, zz, zy, chkOk, Nat.reduceEqDiff, Nat.reduceAdd, Nat.reduceSub, Nat.reduceMul, Nat.reduceLT, Nat.reduceLeDiff, Int.reduceLT, Int.reduceLE, Int.reduceEq, Int.reduceAdd, Int.reduceNeg, reduceIte, r_st, r_nck, r_ix, r_iaa, takeN, VE.store, over, cellsAt, VE.part, blkX, gEval, fill, VE.unOp, resVs, resV, reduceCtorEq, c2, c3, c5, hx, hy, encA, hlt', q1, ← e, frzB]
 have q1' := eq_true q1
 by_cases q2 : x.l0 = y.l0 ∧ x.l1 = y.l1 ∧ x.l2 = y.l2
 case neg =>
  have e := no _ q2 (·.ls)
  simp only [↓zp, zz, zy, chkOk, Nat.reduceEqDiff, Nat.reduceAdd, Nat.reduceSub, Nat.reduceMul, Nat.reduceLT, Nat.reduceLeDiff, Int.reduceLT, Int.reduceLE, Int.reduceEq, Int.reduceAdd, Int.reduceNeg, reduceIte, r_st, r_nck, r_ix, r_iaa, takeN, VE.store, over, cellsAt, VE.part, blkX, gEval, fill, VE.unOp, resVs, resV, reduceCtorEq, c2, c3, c5, hx, hy, encA, hlt', q1', eq9, q2, ← e, frzB]
 have q2' := eq_true q2
 by_cases q3 : x.c0 = y.c0 ∧ x.c1 = y.c1
 case neg =>
  have e := no _ q3 (·.cs)
  simp only [↓zp, zz, zy, chkOk, Nat.reduceEqDiff, Nat.reduceAdd, Nat.reduceSub, Nat.reduceMul, Nat.reduceLT, Nat.reduceLeDiff, Int.reduceLT, Int.reduceLE, Int.reduceEq, Int.reduceAdd, Int.reduceNeg, reduceIte, r_st, r_nck, r_ix, r_iaa, takeN, VE.store, over, cellsAt, VE.part, blkX, gEval, fill, VE.unOp, resVs, resV, reduceCtorEq, c2, c3, c5, hx, hy, encA, hlt', q1', eq9, q2', eq2, q3, ← e, frzB]
 have q3' := eq_true q3
 by_cases q4 : x.own = y.own
 case neg =>
  have e := no _ q4 (·.own)
  simp only [↓zp, zz, zy, chkOk, Nat.reduceEqDiff, Nat.reduceAdd, Nat.reduceSub, Nat.reduceMul, Nat.reduceLT, Nat.reduceLeDiff, Int.reduceLT, Int.reduceLE, Int.reduceEq, Int.reduceAdd, Int.reduceNeg, reduceIte, r_st, r_nck, r_ix, r_iaa, takeN, VE.store, over, cellsAt, VE.part, blkX, gEval, fill, VE.unOp, resVs, resV, reduceCtorEq, c2, c3, c5, hx, hy, encA, hlt', q1', eq9, q2', eq2, q3', eqB, q4, ← e, frzB]
 have q4' := eq_true q4
 by_cases q5 : x.users.l = y.users.l
 case neg =>
  have e := no _ q5 (·.us)
  simp only [↓zp, zz, zy, chkOk, Nat.reduceEqDiff, Nat.reduceAdd, Nat.reduceSub, Nat.reduceMul, Nat.reduceLT, Nat.reduceLeDiff, Int.reduceLT, Int.reduceLE, Int.reduceEq, Int.reduceAdd, Int.reduceNeg, reduceIte, r_st, r_nck, r_ix, r_iaa, takeN, VE.store, over, cellsAt, VE.part, blkX, gEval, fill, VE.unOp, resVs, resV, reduceCtorEq, c2, c3, c5, hx, hy, encA, hlt', q1', eq9, q2', eq2, q3', eqB, q4', m1, su, q5, ← e, frzB]
 have q5' := eq_true q5
 by_cases q6 : x.ends.l = y.ends.l
 case neg =>
  have e := no _ q6 (·.en)
  simp only [↓zp, zz, zy, chkOk, Nat.reduceEqDiff, Nat.reduceAdd, Nat.reduceSub, Nat.reduceMul, Nat.reduceLT, Nat.reduceLeDiff, Int.reduceLT, Int.reduceLE, Int.reduceEq, Int.reduceAdd, Int.reduceNeg, reduceIte, r_st, r_nck, r_ix, r_iaa, takeN, VE.store, over, cellsAt, VE.part, blkX, gEval, fill, VE.unOp, resVs, resV, reduceCtorEq, c2, c3, c5, hx, hy, encA, hlt', q1', eq9, q2', eq2, q3', eqB, q4', m1, su, q5', se, q6, ← e, frzB]
 have q6' := eq_true q6
 by_cases q7 : x.n0 = y.n0 ∧ x.n1 = y.n1 ∧ x.n2 = y.n2
 case neg =>
  have e := no _ q7 (·.ta)
  simp only [↓zp, zz, zy, chkOk, Nat.reduceEqDiff, Nat.reduceAdd, Nat.reduceSub, Nat.reduceMul, Nat.reduceLT, Nat.reduceLeDiff, Int.reduceLT, Int.reduceLE, Int.reduceEq, Int.reduceAdd, Int.reduceNeg, reduceIte, r_st, r_nck, r_ix, r_iaa, takeN, VE.store, over, cellsAt, VE.part, blkX, gEval, fill, VE.unOp, resVs, resV, reduceCtorEq, c2, c3, c5, hx, hy, encA, hlt', q1', eq9, q2', eq2, q3', eqB, q4', m1, su, q5', se, q6', eq3, q7, ← e, frzB]
 have q7' := eq_true q7
 have e : SameA x y := ⟨by omega, fun j h1 h2 => hinc j h1 h2 (by omega), q1, q2, q3, q4, q5, q6, q7⟩
 simp only [↓zp, zz, zy, chkOk, Nat.reduceEqDiff, Nat.reduceAdd, Nat.reduceSub, Nat.reduceMul, Nat.reduceLT, Nat.reduceLeDiff, Int.reduceLT, Int.reduceLE, Int.reduceEq, Int.reduceAdd, Int.reduceNeg, reduceIte, r_st, r_nck, r_ix, r_iaa, takeN, VE.store, over, cellsAt, VE.part, blkX, gEval, fill, VE.unOp, resVs, resV, reduceCtorEq, c2, c3, c5, hx, hy, encA, hlt', q1', eq9, q2', eq2, q3', eqB, q4', m1, su, q5', se, q6', eq3, q7', e, frzB]
end
end
section
open Go Go.VE Classical
set_option maxRecDepth 100000
set_option maxHeartbeats 2000000
set_option linter.all false
theorem encH_scal (x : Held) : (encH x).all VE.scal = true := rfl
theorem e32_scal (x : Int) : (e32 x).all VE.scal = true := rfl
end
section
open Go Go.VE Classical
set_option maxRecDepth 100000
set_option maxHeartbeats 2000000
set_option linter.all false
def lateH (now : Int) (y : Held) : Bool := decide (now < y.b.t)
def lateA (now : Int) (x : Acct) : Bool := decide (now < x.own.t) || x.users.l.any (lateH now) || x.ends.l.any (lateH now)
theorem any_snoc {α : Type} {q : α → Bool} {l : List α} {k : Nat} (hk : k < l.length) : (l.take (k + 1)).any q = ((l.take k).any q || q l[k]) := by
 rw [List.take_succ_eq_append_getElem hk, List.any_append]; simp
section
variable {vp : Nat → Option VFn}
theorem fnlate_spec {f : Nat} (hf : vp f = some B_model_Check_fn2) (x : Held) (now : Int) (b : Nat) (r : List V) (tag : Tag) (h : Heap) (hb : h.get b = .cells (.int .u64 now :: r) tag) (hlt : b < h.nx) : callRes vp f [.agg (encH x), .ptr b 0] h = some (.bool (lateH now x), h) := by
 refine res_pure hf rfl rfl (fun g hg => ?_)
 have hb' : g.get b = .cells (.int .u64 now :: r) tag := by
  rcases hg with ⟨_, q⟩ | ⟨_, _, q⟩
  ·exact absurd q (by intro q; cases q)
  ·rw [q, hb]
 have hne : ¬ b = g.nx := by
  rcases hg with ⟨_, q⟩ | ⟨q, _, _⟩
  ·exact absurd q (by intro q; cases q)
  ·omega
 unfold B_model_Check_fn2 encH lateH
 simp only [↓zp, zz, zy, chkOk, Nat.reduceEqDiff, Nat.reduceAdd, Nat.reduceSub, Nat.reduceMul, Nat.reduceLT, Nat.reduceLeDiff, Int.reduceLT, Int.reduceLE, Int.reduceEq, Int.reduceAdd, Int.reduceNeg, reduceIte, r_st, r_nck, r_ix, r_iaa, takeN, VE.store, over, cellsAt, VE.part, blkX, gEval, fill, VE.unOp, resVs, resV, reduceCtorEq, hb', hne, frzB]
theorem anyH_spec {f c1 : Nat} (hf : vp f = some (B_slices_ContainsFunc_api_Held c1)) (h1 : vp c1 = some B_slices_IndexFunc_api_Held) (F : V) (q : Held → Bool) (c : Sl Held) (h : Heap) (hn : c.l.length < 4611686018427387904)
  (hq : ∀ g, hgOk h [c.v encH, F] g → ∀ g', hgOk g [c.v encH, F] g' → ∀ x ∈ c.l, callVRes vp F [.agg (encH x)] g' = some (.bool (q x), g')) : callRes vp f [c.v encH, F] h = some (.bool (c.l.any q), h) := by
 have m1 : modeOf vp c1 = some 1 := by simp [modeOf, h1, B_slices_IndexFunc_api_Held]
 refine res_pure hf rfl rfl (fun g hg => ?_)
 have e := idxH_spec h1 F q c g hn (hq g hg)
 unfold B_slices_ContainsFunc_api_Held
 simp only [↓zp, zz, zy, chkOk, Nat.reduceEqDiff, Nat.reduceAdd, Nat.reduceSub, Nat.reduceMul, Nat.reduceLT, Nat.reduceLeDiff, Int.reduceLT, Int.reduceLE, Int.reduceEq, Int.reduceAdd, Int.reduceNeg, reduceIte, r_st, r_nck, r_ix, r_iaa, takeN, VE.store, over, cellsAt, VE.part, blkX, gEval, fill, VE.unOp, resVs, resV, reduceCtorEq, m1, e, fidx_any, frzB]
theorem anyLate {f c1 c2 : Nat} (hf : vp f = some (B_slices_ContainsFunc_api_Held c1)) (h1 : vp c1 = some B_slices_IndexFunc_api_Held) (h2 : vp c2 = some B_model_Check_fn2) (now : Int) (c : Sl Held) (hn : c.l.length < 4611686018427387904) (b : Nat) (r : List V) (tag : Tag) (h : Heap) (hb : h.get b = .cells (.int .u64 now :: r) tag) (hlt : b < h.nx) :
  callRes vp f [c.v encH, .fn c2 [.ptr b 0]] h = some (.bool (c.l.any (lateH now)), h) :=
 anyH_spec hf h1 _ (lateH now) c h hn (fun g hg g' hg' x _ => callVRes_fn (fnlate_spec h2 x now b r tag g' (by rw [hg_get hg', hg_get hg, hb]) (by
  rcases hg with ⟨_, q⟩ | ⟨q, _, _⟩
  ·rw [iso_none] at q; cases q
  rcases hg' with ⟨_, q'⟩ | ⟨q', _, _⟩
  ·rw [iso_none] at q'; cases q'
  omega)))
def inv38 (x : Acct) (now : Int) (b : Nat) (H : Heap) (m : Nat) (s : Slots) (h : Heap) : Prop :=
 ∃ k, k ≤ x.users.l.length ∧ m = x.users.l.length - k ∧ s.at 1 = .int .u64 now ∧ s.at 2 = .ptr b 0 ∧ s.at 5 = .bool (decide (now < x.own.t) || (x.users.l.take k).any (lateH now)) ∧ s.at 6 = .int .i64 (k : Int) ∧ h = H
def inv38b (x : Acct) (now : Int) (b : Nat) (H : Heap) (m : Nat) (s : Slots) (h : Heap) : Prop :=
 ∃ k, k ≤ x.ends.l.length ∧ m = x.ends.l.length - k ∧ s.at 1 = .int .u64 now ∧ s.at 2 = .ptr b 0 ∧ s.at 5 = .bool (decide (now < x.own.t) || x.users.l.any (lateH now) || (x.ends.l.take k).any (lateH now)) ∧ s.at 7 = .int .i64 (k : Int) ∧ h = H
theorem late_spec {f : Nat} (hf : vp f = some B_spigotref25_late) (x : Acct) (now : Int) (h : Heap) (n1 : x.users.l.length < 4611686018427387904) (n2 : x.ends.l.length < 4611686018427387904) : callRes vp f [.agg (encA x), .int .u64 now] h = some (.bool (lateA now x), h) := by
 refine res_pure hf rfl rfl (fun g hg => ?_)
 unfold B_spigotref25_late
 simp only [↓zp, zz, zy, chkOk, Nat.reduceEqDiff, Nat.reduceAdd, Nat.reduceSub, Nat.reduceMul, Nat.reduceLT, Nat.reduceLeDiff, Int.reduceLT, Int.reduceLE, Int.reduceEq, Int.reduceAdd, Int.reduceNeg, reduceIte, r_st, r_nck, r_ix, r_iaa, takeN, VE.store, over, cellsAt, VE.part, blkX, gEval, fill, VE.unOp, resVs, resV, reduceCtorEq, encA]
 generalize hS : Tr.set _ 6 _ = S
 have b1 : Slots.at S 1 = .int .u64 now := by rw [← hS]; simp only [zs, Nat.reduceEqDiff]
 have b2 : Slots.at S 2 = .ptr g.nx 0 := by rw [← hS]; simp only [zs, Nat.reduceEqDiff]
 have b5 : Slots.at S 5 = .bool (decide (now < x.own.t) || (x.users.l.take 0).any (lateH now)) := by rw [← hS]; simp only [zs, Nat.reduceEqDiff, List.take_zero, List.any_nil, Bool.or_false]
 have b6 : Slots.at S 6 = .int .i64 ((0 : Nat) : Int) := by rw [← hS]; simp only [zs, Nat.reduceEqDiff]; rfl
 clear hS
 generalize hH : Heap.new g _ = H
 have hb : H.get g.nx = .cells (encA x) .cl := by rw [← hH, Heap.get_new, if_pos rfl]; rfl
 clear hH
 refine loop_ind (fun m s h => inv38 x now g.nx H m s h) ?_ x.users.l.length ⟨0, by omega, by omega, b1, b2, b5, b6, rfl⟩
 rintro m s h ⟨k, hk, hm, c1, c2, c5, c6, rfl⟩
 by_cases hlt : k < x.users.l.length
 case pos =>
  have hlt' : (k : Int) < (x.users.l.length : Int) := by omega
  have ws := wr_succ (k := k) (by omega)
  have ia1 : ∀ h, r_ia 7 (x.users.v encH) (.int .i64 (k : Int)) h = some (.iptr (encH x.users.l[k] ++ (x.users.l.drop (k + 1)).flatMap encH), h) := fun h => r_ia_v encH_len (by decide) hlt rfl
  have sn := any_snoc (q := lateH now) hlt
  cases q : (decide (now < x.own.t) || (x.users.l.take k).any (lateH now)) with
  | true =>
   rw [q] at c5
   simp only [↓zp, zz, zy, chkOk, Nat.reduceEqDiff, Nat.reduceAdd, Nat.reduceSub, Nat.reduceMul, Nat.reduceLT, Nat.reduceLeDiff, Int.reduceLT, Int.reduceLE, Int.reduceEq, Int.reduceAdd, Int.reduceNeg, reduceIte, r_st, r_nck, r_ix, r_iaa, takeN, VE.store, over, cellsAt, VE.part, blkX, gEval, fill, VE.unOp, resVs, resV, reduceCtorEq, c1, c2, c5, c6, hb, encA, hlt', ws]
   exact ⟨_, by omega, k + 1, by omega, rfl, by simp only [zs, Nat.reduceEqDiff, c1], by simp only [zs, Nat.reduceEqDiff, c2], by simp only [zs, Nat.reduceEqDiff, sn, ← Bool.or_assoc, q, Bool.true_or], by simp only [zs, Nat.reduceEqDiff], rfl⟩
  | false =>
   rw [q] at c5
   simp only [↓zp, zz, zy, chkOk, Nat.reduceEqDiff, Nat.reduceAdd, Nat.reduceSub, Nat.reduceMul, Nat.reduceLT, Nat.reduceLeDiff, Int.reduceLT, Int.reduceLE, Int.reduceEq, Int.reduceAdd, Int.reduceNeg, reduceIte, r_st, r_nck, r_ix, r_iaa, takeN, VE.store, over, cellsAt, VE.part, blkX, gEval, fill, VE.unOp, resVs, resV, reduceCtorEq, c1, c2, c5, c6, hb, encA, hlt', ws, ia1, encH]
   exact ⟨_, by omega, k + 1, by omega, rfl, by simp only [zs, Nat.reduceEqDiff, c1], by simp only [zs, Nat.reduceEqDiff, c2], by simp only [zs, Nat.reduceEqDiff, sn, ← Bool.or_assoc, q, Bool.false_or]; rfl, by simp only [zs, Nat.reduceEqDiff], rfl⟩
 have hlt' : ¬ ((k : Int) < (x.users.l.length : Int)) := by omega
 obtain rfl : k = x.users.l.length := by omega
 rw [List.take_length] at c5
 simp only [↓zp, zz, zy, chkOk, Nat.reduceEqDiff, Nat.reduceAdd, Nat.reduceSub, Nat.reduceMul, Nat.reduceLT, Nat.reduceLeDiff, Int.reduceLT, Int.reduceLE, Int.reduceEq, Int.reduceAdd, Int.reduceNeg, reduceIte, r_st, r_nck, r_ix, r_iaa, takeN, VE.store, over, cellsAt, VE.part, blkX, gEval, fill, VE.unOp, resVs, resV, reduceCtorEq, c1, c2, c5, c6, hb, encA, hlt']
 generalize hS : Tr.set _ 7 _ = S
 have b1 : Slots.at S 1 = .int .u64 now := by rw [← hS]; simp only [zs, Nat.reduceEqDiff, c1]
 have b2 : Slots.at S 2 = .ptr g.nx 0 := by rw [← hS]; simp only [zs, Nat.reduceEqDiff, c2]
 have b5 : Slots.at S 5 = .bool (decide (now < x.own.t) || x.users.l.any (lateH now) || (x.ends.l.take 0).any (lateH now)) := by rw [← hS]; simp only [zs, Nat.reduceEqDiff, c5, List.take_zero, List.any_nil, Bool.or_false]
 have b7 : Slots.at S 7 = .int .i64 ((0 : Nat) : Int) := by rw [← hS]; simp only [zs, Nat.reduceEqDiff]; rfl
 clear hS
 refine loop_ind (fun m s h' => inv38b x now g.nx h m s h') ?_ x.ends.l.length ⟨0, by omega, by omega, b1, b2, b5, b7, rfl⟩
 rintro m s h ⟨k, hk, hm, c1, c2, c5, c7, rfl⟩
 by_cases hlt : k < x.ends.l.length
 case neg =>
  have hlt' : ¬ ((k : Int) < (x.ends.l.length : Int)) := by omega
  obtain rfl : k = x.ends.l.length := by omega
  rw [List.take_length] at c5
  simp only [↓zp, zz, zy, chkOk, Nat.reduceEqDiff, Nat.reduceAdd, Nat.reduceSub, Nat.reduceMul, Nat.reduceLT, Nat.reduceLeDiff, Int.reduceLT, Int.reduceLE, Int.reduceEq, Int.reduceAdd, Int.reduceNeg, reduceIte, r_st, r_nck, r_ix, r_iaa, takeN, VE.store, over, cellsAt, VE.part, blkX, gEval, fill, VE.unOp, resVs, resV, reduceCtorEq, c1, c2, c5, c7, hb, encA, hlt', frzB, lateA]
 have hlt' : (k : Int) < (x.ends.l.length : Int) := by omega
 have ws := wr_succ (k := k) (by omega)
 have ia1 : ∀ h, r_ia 7 (x.ends.v encH) (.int .i64 (k : Int)) h = some (.iptr (encH x.ends.l[k] ++ (x.ends.l.drop (k + 1)).flatMap encH), h) := fun h => r_ia_v encH_len (by decide) hlt rfl
 have sn := any_snoc (q := lateH now) hlt
 cases q : (decide (now < x.own.t) || x.users.l.any (lateH now) || (x.ends.l.take k).any (lateH now)) with
 | true =>
  rw [q] at c5
  simp only [↓zp, zz, zy, chkOk, Nat.reduceEqDiff, Nat.reduceAdd, Nat.reduceSub, Nat.reduceMul, Nat.reduceLT, Nat.reduceLeDiff, Int.reduceLT, Int.reduceLE, Int.reduceEq, Int.reduceAdd, Int.reduceNeg, reduceIte, r_st, r_nck, r_ix, r_iaa, takeN, VE.store, over, cellsAt, VE.part, blkX, gEval, fill, VE.unOp, resVs, resV, reduceCtorEq, c1, c2, c5, c7, hb, encA, hlt', ws]
  exact ⟨_, by omega, k + 1, by omega, rfl, by simp only [zs, Nat.reduceEqDiff, c1], by simp only [zs, Nat.reduceEqDiff, c2], by simp only [zs, Nat.reduceEqDiff, sn, ← Bool.or_assoc, q, Bool.true_or], by simp only [zs, Nat.reduceEqDiff], rfl⟩
 | false =>
  rw [q] at c5
  simp only [↓zp, zz, zy, chkOk, Nat.reduceEqDiff, Nat.reduceAdd, Nat.reduceSub, Nat.reduceMul, Nat.reduceLT, Nat.reduceLeDiff, Int.reduceLT, Int.reduceLE, Int.reduceEq, Int.reduceAdd, Int.reduceNeg, reduceIte, r_st, r_nck, r_ix, r_iaa, takeN, VE.store, over, cellsAt, VE.part, blkX, gEval, fill, VE.unOp, resVs, resV, reduceCtorEq, c1, c2, c5, c7, hb, encA, hlt', ws, ia1, encH]
  exact ⟨_, by omega, k + 1, by omega, rfl, by simp only [zs, Nat.reduceEqDiff, c1], by simp only [zs, Nat.reduceEqDiff, c2], by simp only [zs, Nat.reduceEqDiff, sn, ← Bool.or_assoc, q, Bool.false_or]; rfl, by simp only [zs, Nat.reduceEqDiff], rfl⟩
end
end
section
open Go Go.VE Classical
set_option maxRecDepth 100000
set_option maxHeartbeats 2000000
set_option linter.all false
def zc : List V := [.int .u32 0, .int .i64 0, .int .i64 0, .int .i64 0, .int .i64 0, .int .i64 0, .int .i64 0, .int .i64 0, .int .i64 0, .int .i64 0, .int .i64 0, .int .i64 0, .int .i64 0, .int .i64 0, .int .i64 0, .int .i64 0, .int .i64 0, .int .u64 0, .nils, .nils, .nils, .int .u64 0, .int .u64 0, .int .u64 0]
end
section
open Go Go.VE Classical
set_option maxRecDepth 100000
set_option maxHeartbeats 4000000
set_option linter.all false
def encM (now : Int) (sd ep : List Int) (v : V) : List V := .int .u64 now :: (sd.map (V.int .u8) ++ (ep.map (V.int .u32) ++ [v]))
section
variable {now : Int} {sd ep : List Int} {v : V}
theorem M_len (h1 : sd.length = 32) (h2 : ep.length = 16) : (encM now sd ep v).length = 50 := by simp [encM, h1, h2]
theorem M33 (h1 : sd.length = 32) : (encM now sd ep v).drop 33 = ep.map (V.int .u32) ++ [v] := by
 show (sd.map (V.int .u8) ++ _).drop 32 = _
 rw [List.drop_append, List.drop_eq_nil_of_le (by simp; omega)]
 simp [h1]
theorem M49 (h1 : sd.length = 32) (h2 : ep.length = 16) : (encM now sd ep v).drop 49 = [v] := by
 have e : (encM now sd ep v).drop 49 = ((encM now sd ep v).drop 33).drop 16 := by rw [List.drop_drop]
 rw [e, M33 h1, List.drop_append, List.drop_eq_nil_of_le (by simp; omega)]
 simp [h2]
theorem Mk (h1 : sd.length = 32) {k : Nat} (hk : k < ep.length) : (encM now sd ep v).drop (33 + k * 1) = .int .u32 ep[k] :: ((ep.drop (k + 1)).map (V.int .u32) ++ [v]) := by
 have e : (encM now sd ep v).drop (33 + k * 1) = ((encM now sd ep v).drop 33).drop k := by rw [List.drop_drop, Nat.mul_one]
 rw [e, M33 h1, List.drop_append_of_le_length (by simp; omega), ← List.map_drop, List.drop_eq_getElem_cons hk]
 rfl
end
theorem map_flat (l : List Int) : l.map (V.int .u32) = l.flatMap e32 := by
 induction l with
 | nil => rfl
 | cons x l ih => simp [e32, ih]
section
variable {vp : Nat → Option VFn}
def invI (F : V) (q : Int → Bool) (v : V) (l : List Int) (H : Heap) (m : Nat) (s : Slots) (h : Heap) : Prop :=
 ∃ k, k ≤ l.length ∧ m = l.length - k ∧ s.at 0 = v ∧ s.at 1 = F ∧ s.at 7 = .int .i64 (l.length : Int) ∧ s.at 8 = .int .i64 (k : Int) ∧ h = H ∧ ∀ j (hj : j < l.length), j < k → q l[j] = false
theorem idx32_spec {f : Nat} (hf : vp f = some B_slices_IndexFunc_uint32) (F : V) (q : Int → Bool) (v : V) (l : List Int) (h : Heap) (hv : Rd e32 1 h v l) (hi : ∀ b o n c, isoArgs 1 [.sl b o n c 1, F] = none) (hn : l.length < 4611686018427387904)
  (hq : ∀ g x, callVRes vp F [.int .u32 x] g = some (.bool (q x), g)) : callRes vp f [v, F] h = some (.int .i64 (fidx q l), h) := by
 refine res_pure hf rfl rfl (fun g hg => ?_)
 have hv := hv.enter (A := fun v => [v, F]) hg hi
 have ln := hv.len
 unfold B_slices_IndexFunc_uint32
 simp only [↓zp, zz, zy, chkOk, Nat.reduceEqDiff, Nat.reduceAdd, Nat.reduceSub, Nat.reduceMul, Nat.reduceLT, Nat.reduceLeDiff, Int.reduceLT, Int.reduceLE, Int.reduceEq, Int.reduceAdd, Int.reduceNeg, reduceIte, r_st, r_nck, r_ix, r_iaa, takeN, VE.store, over, cellsAt, VE.part, blkX, gEval, fill, VE.unOp, resVs, resV, reduceCtorEq, ln]
 generalize hS : Tr.set _ 8 _ = S
 have b0 : Slots.at S 0 = v := by rw [← hS]; simp only [zs, Nat.reduceEqDiff]
 have b1 : Slots.at S 1 = F := by rw [← hS]; simp only [zs, Nat.reduceEqDiff]
 have b7 : Slots.at S 7 = .int .i64 (l.length : Int) := by rw [← hS]; simp only [zs, Nat.reduceEqDiff]
 have b8 : Slots.at S 8 = .int .i64 ((0 : Nat) : Int) := by rw [← hS]; simp only [zs, Nat.reduceEqDiff]; rfl
 clear hS
 refine loop_ind (fun m s h => invI F q v l g m s h) ?_ l.length ⟨0, by omega, by omega, b0, b1, b7, b8, rfl, fun j _ hj => by omega⟩
 rintro m s h ⟨k, hk, hm, c0, c1, c7, c8, rfl, hinc⟩
 by_cases hlt : k < l.length
 case neg =>
  have hlt' : ¬ ((k : Int) < (l.length : Int)) := by omega
  have e := fidx_none (q := q) (l := l) (fun j hj => hinc j hj (by omega))
  simp only [↓zp, zz, zy, chkOk, Nat.reduceEqDiff, Nat.reduceAdd, Nat.reduceSub, Nat.reduceMul, Nat.reduceLT, Nat.reduceLeDiff, Int.reduceLT, Int.reduceLE, Int.reduceEq, Int.reduceAdd, Int.reduceNeg, reduceIte, r_st, r_nck, r_ix, r_iaa, takeN, VE.store, over, cellsAt, VE.part, blkX, gEval, fill, VE.unOp, resVs, resV, reduceCtorEq, c0, c1, c7, c8, hlt', e, frzI]
 have hlt' : (k : Int) < (l.length : Int) := by omega
 have ws := wr_succ (k := k) (by omega)
 obtain ⟨a, ia, el⟩ := hv.ia e32_len (by decide) hlt
 have ld := El.ld1 (cs := []) el (Kp.refl h)
 have hc := hq h l[k]
 cases hqk : q l[k] with
 | true =>
  rw [hqk] at hc
  have e := fidx_at hlt hqk hinc
  simp only [↓zp, zz, zy, chkOk, Nat.reduceEqDiff, Nat.reduceAdd, Nat.reduceSub, Nat.reduceMul, Nat.reduceLT, Nat.reduceLeDiff, Int.reduceLT, Int.reduceLE, Int.reduceEq, Int.reduceAdd, Int.reduceNeg, reduceIte, r_st, r_nck, r_ix, r_iaa, takeN, VE.store, over, cellsAt, VE.part, blkX, gEval, fill, VE.unOp, resVs, resV, reduceCtorEq, c0, c1, c7, c8, hlt', ia, ld, hc, e, frzI]
 | false =>
  rw [hqk] at hc
  simp only [↓zp, zz, zy, chkOk, Nat.reduceEqDiff, Nat.reduceAdd, Nat.reduceSub, Nat.reduceMul, Nat.reduceLT, Nat.reduceLeDiff, Int.reduceLT, Int.reduceLE, Int.reduceEq, Int.reduceAdd, Int.reduceNeg, reduceIte, r_st, r_nck, r_ix, r_iaa, takeN, VE.store, over, cellsAt, VE.part, blkX, gEval, fill, VE.unOp, resVs, resV, reduceCtorEq, c0, c1, c7, c8, hlt', ia, ld, hc, ws]
  refine ⟨_, by omega, k + 1, by omega, rfl, by simp only [zs, Nat.reduceEqDiff, c0], by simp only [zs, Nat.reduceEqDiff, c1], by simp only [zs, Nat.reduceEqDiff, c7], by simp only [zs, Nat.reduceEqDiff], rfl, fun j hj hj2 => ?_⟩
  rcases Nat.lt_or_ge j k with r | r
  ·exact hinc j hj r
  ·have : j = k := by omega
   subst this
   exact hqk
theorem any32_spec {f c1 : Nat} (hf : vp f = some (B_slices_ContainsFunc_uint32 c1)) (h1 : vp c1 = some B_slices_IndexFunc_uint32) (F : V) (q : Int → Bool) (v : V) (l : List Int) (h : Heap) (hv : Rd e32 1 h v l) (hi : ∀ b o n c, isoArgs 1 [.sl b o n c 1, F] = none) (hn : l.length < 4611686018427387904)
  (hq : ∀ g x, callVRes vp F [.int .u32 x] g = some (.bool (q x), g)) : callRes vp f [v, F] h = some (.bool (l.any q), h) := by
 have m1 : modeOf vp c1 = some 1 := by simp [modeOf, h1, B_slices_IndexFunc_uint32]
 refine res_pure hf rfl rfl (fun g hg => ?_)
 have hv := hv.enter (A := fun v => [v, F]) hg hi
 have e := idx32_spec h1 F q v l g hv hi hn hq
 unfold B_slices_ContainsFunc_uint32
 simp only [↓zp, zz, zy, chkOk, Nat.reduceEqDiff, Nat.reduceAdd, Nat.reduceSub, Nat.reduceMul, Nat.reduceLT, Nat.reduceLeDiff, Int.reduceLT, Int.reduceLE, Int.reduceEq, Int.reduceAdd, Int.reduceNeg, reduceIte, r_st, r_nck, r_ix, r_iaa, takeN, VE.store, over, cellsAt, VE.part, blkX, gEval, fill, VE.unOp, resVs, resV, reduceCtorEq, m1, e, fidx_any, frzB]
def bigE (x : Int) : Bool := decide (1000000 < x)
theorem fnbig_spec {f : Nat} (hf : vp f = some B_model_Check_fn1) (x : Int) (h : Heap) : callRes vp f [.int .u32 x] h = some (.bool (bigE x), h) := by
 refine res_pure hf rfl rfl (fun g hg => ?_)
 unfold B_model_Check_fn1 bigE
 simp only [↓zp, zz, zy, chkOk, Nat.reduceEqDiff, Nat.reduceAdd, Nat.reduceSub, Nat.reduceMul, Nat.reduceLT, Nat.reduceLeDiff, Int.reduceLT, Int.reduceLE, Int.reduceEq, Int.reduceAdd, Int.reduceNeg, reduceIte, r_st, r_nck, r_ix, r_iaa, takeN, VE.store, over, cellsAt, VE.part, blkX, gEval, fill, VE.unOp, resVs, resV, reduceCtorEq, frzB]
structure MOk (now : Int) (ep : List Int) (l : List Acct) : Prop where
 len : ¬ 8 < (l.length : Int)
 ep : ep.any bigE = false
 ok : ∀ k (h : k < l.length), AOk l[k]
 late : ∀ k (h : k < l.length), lateA now l[k] = false
 inc : ∀ k (h : k + 1 < l.length), ¬ l[k + 1].t ≤ l[k].t
def inv30 (now : Int) (ep : List Int) (v : V) (l : List Acct) (b : Nat) (H : Heap) (m : Nat) (s : Slots) (h : Heap) : Prop :=
 ∃ k, k ≤ l.length ∧ m = l.length - k ∧ s.at 1 = .ptr b 0 ∧ s.at 3 = .int .i64 (k : Int) ∧ h = H ∧ (∀ j (hj : j < l.length), j < k → AOk l[j] ∧ lateA now l[j] = false) ∧ ∀ j (hj : j + 1 < l.length), j + 1 < k → ¬ l[j + 1].t ≤ l[j].t
def inv30b (ep : List Int) (b : Nat) (H : Heap) (m : Nat) (s : Slots) (h : Heap) : Prop :=
 ∃ k, k ≤ 16 ∧ m = 16 - k ∧ s.at 1 = .ptr b 0 ∧ s.at 4 = .int .i64 (k : Int) ∧ h = H ∧ ∀ j (hj : j < ep.length), j < k → bigE ep[j] = false
theorem rcheck_spec {f c1 c2 c3 c4 c5 c6 : Nat} (hf : vp f = some (B_spigotref25_Check c1 c2)) (h1 : vp c1 = some (B_spigotref25_Valid c3 c4 c5)) (h2 : vp c2 = some B_spigotref25_late) (h3 : vp c3 = some B_spigotref03_CheckLimit) (h4 : vp c4 = some (B_spigotref03_Check c3)) (h5 : vp c5 = some (B_spigotref25_held c6 c4)) (h6 : vp c6 = some B_spigotref25_At)
  (now : Int) (sd ep : List Int) (hsd : sd.length = 32) (hep : ep.length = 16) (v : V) (l : List Acct) (h : Heap) (hv : Rd encA 24 h v l) (hone : oneCell v = true) (hi : ∀ b o n c, isoArgs 1 [.agg (encM now sd ep (.sl b o n c 24))] = none) (sm : ∀ x ∈ l, Small x) (hn : l.length < 4611686018427387904) :
  callRes vp f [.agg (encM now sd ep v)] h = some (.int .i64 (if MOk now ep l then 0 else 8), h) := by
 have m1 : modeOf vp c1 = some 1 := by simp [modeOf, h1, B_spigotref25_Valid]
 have m2 : modeOf vp c2 = some 1 := by simp [modeOf, h2, B_spigotref25_late]
 refine res_pure hf rfl rfl (fun g hg => ?_)
 have hv := hv.enter (A := fun v => [.agg (encM now sd ep v)]) hg hi
 have no : ∀ (P : Prop), ¬ P → (MOk now ep l → P) → (.int .i64 8 : V) = .int .i64 (if MOk now ep l then 0 else 8) := fun P hn hv => by
  rw [if_neg (fun q => hn (hv q))]
 obtain ⟨R, er⟩ : ∃ R, encM now sd ep v = .int .u64 now :: R := ⟨_, rfl⟩
 have lM := M_len (now := now) (v := v) hsd hep
 have d49 := M49 (now := now) (v := v) hsd hep
 have d33 := M33 (now := now) (ep := ep) (v := v) hsd
 have dk := fun (k : Nat) hk => Mk (now := now) (v := v) hsd (ep := ep) (k := k) hk
 rw [er] at lM d49 d33 hg ⊢
 simp only [er] at dk
 simp only [List.length_cons, List.drop_succ_cons, Nat.add_right_cancel_iff, Nat.reduceEqDiff] at lM d49 d33
 have ln := hv.len
 unfold B_spigotref25_Check
 by_cases q1 : 8 < (l.length : Int)
 ·have e := no _ (not_not_intro q1) (·.len)
  simp only [↓zp, zz, zy, chkOk, Nat.reduceEqDiff, Nat.reduceAdd, Nat.reduceSub, Nat.reduceMul, Nat.reduceLT, Nat.reduceLeDiff, Int.reduceLT, Int.reduceLE, Int.reduceEq, Int.reduceAdd, Int.reduceNeg, reduceIte, r_st, r_nck, r_ix, r_iaa, takeN, VE.store, over, cellsAt, VE.part, blkX, gEval, fill, VE.unOp, resVs, resV, reduceCtorEq, lM, d49, ln, q1, ← e, frzI]
 simp only [↓zp, zz, zy, chkOk, Nat.reduceEqDiff, Nat.reduceAdd, Nat.reduceSub, Nat.reduceMul, Nat.reduceLT, Nat.reduceLeDiff, Int.reduceLT, Int.reduceLE, Int.reduceEq, Int.reduceAdd, Int.reduceNeg, reduceIte, r_st, r_nck, r_ix, r_iaa, takeN, VE.store, over, cellsAt, VE.part, blkX, gEval, fill, VE.unOp, resVs, resV, reduceCtorEq, lM, d49, ln, q1]
 generalize hS : Tr.set _ 3 _ = S
 have b1 : Slots.at S 1 = .ptr g.nx 0 := by rw [← hS]; simp only [zs, Nat.reduceEqDiff]
 have b3 : Slots.at S 3 = .int .i64 ((0 : Nat) : Int) := by rw [← hS]; simp only [zs, Nat.reduceEqDiff]; rfl
 clear hS
 generalize hH : Heap.new g _ = H
 have hb : H.get g.nx = .cells (.int .u64 now :: R) .cl := by rw [← hH, Heap.get_new, if_pos rfl]
 have kp : Kp g H := by rw [← hH]; exact (Kp.refl g).new _
 clear hH
 have hv := hv.keep kp
 refine loop_ind (fun m s h => inv30 now ep v l g.nx H m s h) ?_ l.length ⟨0, by omega, by omega, b1, b3, rfl, fun j _ hj => by omega, fun j _ hj => by omega⟩
 rintro m s h ⟨k, hk, hm, c1', c3', rfl, hok, hinc⟩
 by_cases hlt : k < l.length
 case neg =>
  have hlt' : ¬ ((k : Int) < (l.length : Int)) := by omega
  simp only [↓zp, zz, zy, chkOk, Nat.reduceEqDiff, Nat.reduceAdd, Nat.reduceSub, Nat.reduceMul, Nat.reduceLT, Nat.reduceLeDiff, Int.reduceLT, Int.reduceLE, Int.reduceEq, Int.reduceAdd, Int.reduceNeg, reduceIte, r_st, r_nck, r_ix, r_iaa, takeN, VE.store, over, cellsAt, VE.part, blkX, gEval, fill, VE.unOp, resVs, resV, reduceCtorEq, c1', c3', hb, d49, ln, hlt']
  generalize hS : Tr.set _ 4 _ = S
  have b1 : Slots.at S 1 = .ptr g.nx 0 := by rw [← hS]; simp only [zs, Nat.reduceEqDiff, c1']
  have b4 : Slots.at S 4 = .int .i64 ((0 : Nat) : Int) := by rw [← hS]; simp only [zs, Nat.reduceEqDiff]; rfl
  clear hS
  refine loop_ind (fun m s h' => inv30b ep g.nx h m s h') ?_ 16 ⟨0, by omega, by omega, b1, b4, rfl, fun j _ hj => by omega⟩
  rintro m s h ⟨i, hi', hm', c1'', c4, rfl, hbig⟩
  by_cases hi2 : i < 16
  case neg =>
   have hi3 : ¬ ((i : Int) < 16) := by omega
   have e : MOk now ep l := ⟨q1, by
    rw [List.any_eq_false]
    intro x hx
    obtain ⟨j, hj, rfl⟩ := List.mem_iff_getElem.1 hx
    rw [hbig j hj (by omega)]
    simp, fun j hj => (hok j hj (by omega)).1, fun j hj => (hok j hj (by omega)).2, fun j hj => hinc j hj (by omega)⟩
   simp only [↓zp, zz, zy, chkOk, Nat.reduceEqDiff, Nat.reduceAdd, Nat.reduceSub, Nat.reduceMul, Nat.reduceLT, Nat.reduceLeDiff, Int.reduceLT, Int.reduceLE, Int.reduceEq, Int.reduceAdd, Int.reduceNeg, reduceIte, r_st, r_nck, r_ix, r_iaa, takeN, VE.store, over, cellsAt, VE.part, blkX, gEval, fill, VE.unOp, resVs, resV, reduceCtorEq, c1'', c4, hi3, e, frzI]
  have hi3 : (i : Int) < 16 := by omega
  have ws := wr_succ (k := i) (by omega)
  have dk := dk i (by omega)
  by_cases q : 1000000 < ep[i]
  ·have e := no (ep.any bigE = false) (fun q' => by
    rw [List.any_eq_false] at q'
    exact q' ep[i] (List.getElem_mem _) (by simp [bigE, q])) (·.ep)
   simp only [↓zp, zz, zy, chkOk, Nat.reduceEqDiff, Nat.reduceAdd, Nat.reduceSub, Nat.reduceMul, Nat.reduceLT, Nat.reduceLeDiff, Int.reduceLT, Int.reduceLE, Int.reduceEq, Int.reduceAdd, Int.reduceNeg, reduceIte, r_st, r_nck, r_ix, r_iaa, takeN, VE.store, over, cellsAt, VE.part, blkX, gEval, fill, VE.unOp, resVs, resV, reduceCtorEq, c1'', c4, hi3, hi2, hb, d33, dk, q, ← e, frzI]
  ·simp only [↓zp, zz, zy, chkOk, Nat.reduceEqDiff, Nat.reduceAdd, Nat.reduceSub, Nat.reduceMul, Nat.reduceLT, Nat.reduceLeDiff, Int.reduceLT, Int.reduceLE, Int.reduceEq, Int.reduceAdd, Int.reduceNeg, reduceIte, r_st, r_nck, r_ix, r_iaa, takeN, VE.store, over, cellsAt, VE.part, blkX, gEval, fill, VE.unOp, resVs, resV, reduceCtorEq, c1'', c4, hi3, hi2, hb, d33, dk, q, ws]
   refine ⟨_, by omega, i + 1, by omega, rfl, by simp only [zs, Nat.reduceEqDiff, c1''], by simp only [zs, Nat.reduceEqDiff], rfl, fun j hj hj2 => ?_⟩
   rcases Nat.lt_or_ge j i with r | r
   ·exact hbig j hj r
   ·have : j = i := by omega
    subst this
    simp [bigE, q]
 have hlt' : (k : Int) < (l.length : Int) := by omega
 have ws := wr_succ (k := k) (by omega)
 obtain ⟨a, ia, el⟩ := hv.ia encA_len (by decide) hlt
 have ld := El.ld el (Kp.refl h) (encA_len l[k])
 have vs := fun h => Valid_spec h1 h3 h4 h5 h6 l[k] (sm _ (List.getElem_mem hlt)) h
 have ls := fun h => late_spec h2 l[k] now h (sm _ (List.getElem_mem hlt)).u (sm _ (List.getElem_mem hlt)).e
 by_cases q2 : AOk l[k]
 case neg =>
  have e := no _ q2 (·.ok k hlt)
  simp only [↓zp, zz, zy, chkOk, Nat.reduceEqDiff, Nat.reduceAdd, Nat.reduceSub, Nat.reduceMul, Nat.reduceLT, Nat.reduceLeDiff, Int.reduceLT, Int.reduceLE, Int.reduceEq, Int.reduceAdd, Int.reduceNeg, reduceIte, r_st, r_nck, r_ix, r_iaa, takeN, VE.store, over, cellsAt, VE.part, blkX, gEval, fill, VE.unOp, resVs, resV, reduceCtorEq, c1', c3', hb, d49, ln, hlt', ia, ld, m1, vs, q2, ← e, frzI]
 cases q3 : lateA now l[k] with
 | true =>
  have e := no (lateA now l[k] = false) (by rw [q3]; simp) (·.late k hlt)
  simp only [↓zp, zz, zy, chkOk, Nat.reduceEqDiff, Nat.reduceAdd, Nat.reduceSub, Nat.reduceMul, Nat.reduceLT, Nat.reduceLeDiff, Int.reduceLT, Int.reduceLE, Int.reduceEq, Int.reduceAdd, Int.reduceNeg, reduceIte, r_st, r_nck, r_ix, r_iaa, takeN, VE.store, over, cellsAt, VE.part, blkX, gEval, fill, VE.unOp, resVs, resV, reduceCtorEq, c1', c3', hb, d49, ln, hlt', ia, ld, m1, vs, q2, m2, ls, q3, ← e, frzI]
 | false =>
 by_cases hz : 0 < k
 case neg =>
  have hz' : ¬ ((0 : Int) < (k : Int)) := by omega
  simp only [↓zp, zz, zy, chkOk, Nat.reduceEqDiff, Nat.reduceAdd, Nat.reduceSub, Nat.reduceMul, Nat.reduceLT, Nat.reduceLeDiff, Int.reduceLT, Int.reduceLE, Int.reduceEq, Int.reduceAdd, Int.reduceNeg, reduceIte, r_st, r_nck, r_ix, r_iaa, takeN, VE.store, over, cellsAt, VE.part, blkX, gEval, fill, VE.unOp, resVs, resV, reduceCtorEq, c1', c3', hb, d49, ln, hlt', ia, ld, m1, vs, q2, m2, ls, q3, hz', ws]
  refine ⟨_, by omega, k + 1, by omega, rfl, by simp only [zs, Nat.reduceEqDiff, c1'], by simp only [zs, Nat.reduceEqDiff], rfl, fun j hj hj2 => ?_, fun j hj hj2 => by omega⟩
  obtain rfl : j = k := by omega
  exact ⟨q2, q3⟩
 have hz' : (0 : Int) < (k : Int) := by omega
 have wp := wr_pred (k := k) hz (by omega)
 obtain ⟨a2, ia2, el2⟩ := hv.ia encA_len (by decide) (k := k - 1) (by omega)
 obtain ⟨a3, fa3, el3⟩ := el2.fa (n := 0) (by omega)
 have ld3 := El.ld1 el3 (Kp.refl h)
 obtain ⟨a4, fa4, el4⟩ := el.fa (n := 0) (by omega)
 have ld4 := El.ld1 el4 (Kp.refl h)
 by_cases hle : l[k].t ≤ l[k - 1].t
 ·have e := no (∀ k (h : k + 1 < l.length), ¬ l[k + 1].t ≤ l[k].t) (fun q => by have := q (k - 1) (by omega); have e1 : k - 1 + 1 = k := (by omega); simp only [e1] at this; omega) (·.inc)
  simp only [↓zp, zz, zy, chkOk, Nat.reduceEqDiff, Nat.reduceAdd, Nat.reduceSub, Nat.reduceMul, Nat.reduceLT, Nat.reduceLeDiff, Int.reduceLT, Int.reduceLE, Int.reduceEq, Int.reduceAdd, Int.reduceNeg, reduceIte, r_st, r_nck, r_ix, r_iaa, takeN, VE.store, over, cellsAt, VE.part, blkX, gEval, fill, VE.unOp, resVs, resV, reduceCtorEq, c1', c3', hb, d49, ln, hlt', ia, ld, m1, vs, q2, m2, ls, q3, hz', ws, wp, ia2, fa3, ld3, fa4, ld4, hle, ← e, frzI]
 ·simp only [↓zp, zz, zy, chkOk, Nat.reduceEqDiff, Nat.reduceAdd, Nat.reduceSub, Nat.reduceMul, Nat.reduceLT, Nat.reduceLeDiff, Int.reduceLT, Int.reduceLE, Int.reduceEq, Int.reduceAdd, Int.reduceNeg, reduceIte, r_st, r_nck, r_ix, r_iaa, takeN, VE.store, over, cellsAt, VE.part, blkX, gEval, fill, VE.unOp, resVs, resV, reduceCtorEq, c1', c3', hb, d49, ln, hlt', ia, ld, m1, vs, q2, m2, ls, q3, hz', ws, wp, ia2, fa3, ld3, fa4, ld4, hle]
  refine ⟨_, by omega, k + 1, by omega, rfl, by simp only [zs, Nat.reduceEqDiff, c1'], by simp only [zs, Nat.reduceEqDiff], rfl, fun j hj hj2 => ?_, fun j hj hj2 => ?_⟩
  ·rcases Nat.lt_or_ge j k with r | r
   ·exact hok j hj r
   ·have : j = k := by omega
    subst this
    exact ⟨q2, q3⟩
  ·rcases Nat.lt_or_ge (j + 1) k with r | r
   ·exact hinc j hj r
   ·have e1 : j = k - 1 := by omega
    subst e1
    have e2 : k - 1 + 1 = k := by omega
    simp only [e2]
    exact hle
end
end
section
open Go Go.VE Classical
set_option maxRecDepth 100000
set_option maxHeartbeats 4000000
set_option linter.all false
def hp (h : Heap) (x : Acct) (t1 : Nat) : Heap := (h.new (.cells zc (.ct t1))).set h.nx (.cells (encA x) (.ct t1))
theorem Kp.hp {H h : Heap} (k : Kp H h) (x : Acct) (t1 : Nat) : Kp H (hp h x t1) := (k.new _).set _ k.nx
section
variable {vp : Nat → Option VFn}
def inv18 (now : Int) (v : V) (l : List Acct) (c3 b : Nat) (H : Heap) (m : Nat) (s : Slots) (h : Heap) : Prop :=
 ∃ k, k ≤ l.length ∧ m = l.length - k ∧ s.at 1 = .ptr b 0 ∧ s.at 3 = .fn c3 [.ptr b 0] ∧ s.at 17 = v ∧ s.at 18 = .int .i64 (l.length : Int) ∧ s.at 19 = .int .i64 (k : Int) ∧ Kp H h ∧ (∀ j (hj : j < l.length), j < k → AOk l[j] ∧ lateA now l[j] = false) ∧ ∀ j (hj : j + 1 < l.length), j + 1 < k → ¬ l[j + 1].t ≤ l[j].t
theorem mcheck_spec {f c1 c2 c3 c4 c5 d1 d2 d3 d4 d5 d6 d7 d8 t1 t2 t3 : Nat} (hf : vp f = some (B_model_Check c1 c2 c3 c4 c5 t1)) (h1 : vp c1 = some (B_slices_ContainsFunc_uint32 d1)) (g1 : vp d1 = some B_slices_IndexFunc_uint32) (h2 : vp c2 = some B_model_Check_fn1) (h3 : vp c3 = some B_model_Check_fn2)
  (h4 : vp c4 = some (B_model_valid d2 d3 d4 t2)) (g2 : vp d2 = some B_bucket_CheckLimit) (g3 : vp d3 = some (B_bucket_Check d2)) (g4 : vp d4 = some (B_model_held d5 d3 t3)) (g5 : vp d5 = some (B_model_at d6 d7)) (g6 : vp d6 = some B_model_at_fn1) (g7 : vp d7 = some B_slices_IndexFunc_api_Held)
  (h5 : vp c5 = some (B_slices_ContainsFunc_api_Held d8)) (g8 : vp d8 = some B_slices_IndexFunc_api_Held)
  (now : Int) (sd ep : List Int) (hsd : sd.length = 32) (hep : ep.length = 16) (v : V) (l : List Acct) (h : Heap) (hv : Rd encA 24 h v l) (hi : ∀ b o n c, isoArgs 1 [.agg (encM now sd ep (.sl b o n c 24))] = none) (sm : ∀ x ∈ l, Small x) (hn : l.length < 4611686018427387904) :
  callRes vp f [.agg (encM now sd ep v)] h = some (.int .i64 (if MOk now ep l then 0 else 8), h) := by
 have m1 : modeOf vp c1 = some 1 := by simp [modeOf, h1, B_slices_ContainsFunc_uint32]
 have m4 : modeOf vp c4 = some 1 := by simp [modeOf, h4, B_model_valid]
 have m5 : modeOf vp c5 = some 1 := by simp [modeOf, h5, B_slices_ContainsFunc_api_Held]
 refine res_pure hf rfl rfl (fun g hg => ?_)
 have hlo := hlo hg
 have hv := hv.enter (A := fun v => [.agg (encM now sd ep v)]) hg hi
 have no : ∀ (P : Prop), ¬ P → (MOk now ep l → P) → (.int .i64 8 : V) = .int .i64 (if MOk now ep l then 0 else 8) := fun P hn hv => by
  rw [if_neg (fun q => hn (hv q))]
 obtain ⟨R, er⟩ : ∃ R, encM now sd ep v = .int .u64 now :: R := ⟨_, rfl⟩
 have lM := M_len (now := now) (v := v) hsd hep
 have d49 := M49 (now := now) (v := v) hsd hep
 have d33 := M33 (now := now) (ep := ep) (v := v) hsd
 rw [er] at lM d49 d33 hg ⊢
 have hrd : Rd e32 1 (g.new (.cells (.int .u64 now :: R) .cl)) (.sl g.nx 33 16 16 1) ep := .inr ⟨g.nx, 33, 16, 16, .cl, _, [v], rfl, hep.symm, by rw [Heap.get_new, if_pos rfl], by rw [d33, map_flat], by simp [Heap.new]⟩
 have sl : r_slca 16 1 (.ptr g.nx 33) none none none (g.new (.cells (.int .u64 now :: R) .cl)) = some (.sl g.nx 33 16 16 1, g.new (.cells (.int .u64 now :: R) .cl)) := by
  simp only [r_slca, bound, Heap.get_new, if_true, lM]
  rfl
 have an := any32_spec h1 g1 (.fn c2 []) bigE _ ep _ hrd (fun _ _ _ _ => rfl) (by omega) (fun g x => callVRes_fn (fnbig_spec h2 x g))
 simp only [List.length_cons, List.drop_succ_cons, Nat.add_right_cancel_iff, Nat.reduceEqDiff] at lM d49 d33
 have ln := hv.len
 unfold B_model_Check
 by_cases q1 : 8 < (l.length : Int)
 ·have e := no _ (not_not_intro q1) (·.len)
  simp only [↓zp, zz, zy, chkOk, Nat.reduceEqDiff, Nat.reduceAdd, Nat.reduceSub, Nat.reduceMul, Nat.reduceLT, Nat.reduceLeDiff, Int.reduceLT, Int.reduceLE, Int.reduceEq, Int.reduceAdd, Int.reduceNeg, reduceIte, r_st, r_nck, r_ix, r_iaa, takeN, VE.store, over, cellsAt, VE.part, blkX, gEval, fill, VE.unOp, resVs, resV, reduceCtorEq, lM, d49, ln, q1, ← e, frzI]
 cases qe : ep.any bigE with
 | true =>
  have e := no (ep.any bigE = false) (by rw [qe]; simp) (·.ep)
  simp only [↓zp, zz, zy, chkOk, Nat.reduceEqDiff, Nat.reduceAdd, Nat.reduceSub, Nat.reduceMul, Nat.reduceLT, Nat.reduceLeDiff, Int.reduceLT, Int.reduceLE, Int.reduceEq, Int.reduceAdd, Int.reduceNeg, reduceIte, r_st, r_nck, r_ix, r_iaa, takeN, VE.store, over, cellsAt, VE.part, blkX, gEval, fill, VE.unOp, resVs, resV, reduceCtorEq, lM, d49, ln, q1, sl, m1, an, qe, ← e, frzI]
 | false =>
 simp only [↓zp, zz, zy, chkOk, Nat.reduceEqDiff, Nat.reduceAdd, Nat.reduceSub, Nat.reduceMul, Nat.reduceLT, Nat.reduceLeDiff, Int.reduceLT, Int.reduceLE, Int.reduceEq, Int.reduceAdd, Int.reduceNeg, reduceIte, r_st, r_nck, r_ix, r_iaa, takeN, VE.store, over, cellsAt, VE.part, blkX, gEval, fill, VE.unOp, resVs, resV, reduceCtorEq, lM, d49, ln, q1, sl, m1, an, qe]
 generalize hS : Tr.set _ 19 _ = S
 have b1 : Slots.at S 1 = .ptr g.nx 0 := by rw [← hS]; simp only [zs, Nat.reduceEqDiff]
 have b3 : Slots.at S 3 = .fn c3 [.ptr g.nx 0] := by rw [← hS]; simp only [zs, Nat.reduceEqDiff]
 have b17 : Slots.at S 17 = v := by rw [← hS]; simp only [zs, Nat.reduceEqDiff]
 have b18 : Slots.at S 18 = .int .i64 (l.length : Int) := by rw [← hS]; simp only [zs, Nat.reduceEqDiff]
 have b19 : Slots.at S 19 = .int .i64 ((0 : Nat) : Int) := by rw [← hS]; simp only [zs, Nat.reduceEqDiff]; rfl
 clear hS an sl hrd
 generalize hH : Heap.new g _ = H
 have hb : H.get g.nx = .cells (.int .u64 now :: R) .cl := by rw [← hH, Heap.get_new, if_pos rfl]
 have kp : Kp g H := by rw [← hH]; exact (Kp.refl g).new _
 have hgn : g.nx < H.nx := by rw [← hH]; simp [Heap.new]
 clear hH
 have hv := hv.keep kp
 have hlH : H.lo = g.lo := kp.lo
 refine loop_ind (fun m s h => inv18 now v l c3 g.nx H m s h) ?_ l.length ⟨0, by omega, by omega, b1, b3, b17, b18, b19, Kp.refl H, fun j _ hj => by omega, fun j _ hj => by omega⟩
 rintro m s h ⟨k, hk, hm, a1, a3, a17, a18, a19, kh, hok, hinc⟩
 have hbh : h.get g.nx = .cells (.int .u64 now :: R) .cl := by rw [kh.get _ hgn, hb]
 by_cases hlt : k < l.length
 case neg =>
  have hlt' : ¬ ((k : Int) < (l.length : Int)) := by omega
  have e : MOk now ep l := ⟨q1, qe, fun j hj => (hok j hj (by omega)).1, fun j hj => (hok j hj (by omega)).2, fun j hj => hinc j hj (by omega)⟩
  simp only [↓zp, zz, zy, chkOk, Nat.reduceEqDiff, Nat.reduceAdd, Nat.reduceSub, Nat.reduceMul, Nat.reduceLT, Nat.reduceLeDiff, Int.reduceLT, Int.reduceLE, Int.reduceEq, Int.reduceAdd, Int.reduceNeg, reduceIte, r_st, r_nck, r_ix, r_iaa, takeN, VE.store, over, cellsAt, VE.part, blkX, gEval, fill, VE.unOp, resVs, resV, reduceCtorEq, a1, a3, a17, a18, a19, hlt', e, frzI]
 have hlt' : (k : Int) < (l.length : Int) := by omega
 have ws := wr_succ (k := k) (by omega)
 obtain ⟨a, ia, el⟩ := hv.ia encA_len (by decide) hlt
 have ld := El.ld el kh (encA_len l[k])
 have vs := fun h => valid_spec h4 g2 g3 g4 g5 g6 g7 l[k] (sm _ (List.getElem_mem hlt)) h
 have hbp : (hp h l[k] t1).get g.nx = .cells (.int .u64 now :: R) .cl := by rw [(kh.hp l[k] t1).get _ hgn, hb]
 have hnp : g.nx < (hp h l[k] t1).nx := Nat.lt_of_lt_of_le hgn (kh.hp l[k] t1).nx
 have au := anyLate h5 g8 h3 now l[k].users (sm _ (List.getElem_mem hlt)).u g.nx R .cl _ hbp hnp
 have ae := anyLate h5 g8 h3 now l[k].ends (sm _ (List.getElem_mem hlt)).e g.nx R .cl _ hbp hnp
 have hl0 : ¬ (h.nx < h.lo) := by have := kh.lo; have := kh.nx; omega
 have hne : ¬ g.nx = h.nx := by have := kh.nx; omega
 have stp : ∀ (P : Nat → Prop), P k → (∀ j, j < k → P j) → ∀ j, j < k + 1 → P j := fun P hk hj j hlt => by
  rcases Nat.lt_or_ge j k with r | r
  ·exact hj j r
  ·have : j = k := by omega
   subst this
   exact hk
 simp only [encA] at ld vs
 simp only [hp, zc, encA] at au ae
 by_cases q2 : AOk l[k]
 case neg =>
  have e := no _ q2 (·.ok k hlt)
  simp only [↓zp, zz, zy, chkOk, Nat.reduceEqDiff, Nat.reduceAdd, Nat.reduceSub, Nat.reduceMul, Nat.reduceLT, Nat.reduceLeDiff, Int.reduceLT, Int.reduceLE, Int.reduceEq, Int.reduceAdd, Int.reduceNeg, reduceIte, r_st, r_nck, r_ix, r_iaa, takeN, VE.store, over, cellsAt, VE.part, blkX, gEval, fill, VE.unOp, resVs, resV, reduceCtorEq, a1, a3, a17, a18, a19, hlt', ia, ld, hl0, m4, vs, q2, ← e, frzI]
 by_cases q3 : now < l[k].own.t
 case pos =>
  have e := no (lateA now l[k] = false) (by simp [lateA, q3]) (·.late k hlt)
  simp only [↓zp, zz, zy, chkOk, Nat.reduceEqDiff, Nat.reduceAdd, Nat.reduceSub, Nat.reduceMul, Nat.reduceLT, Nat.reduceLeDiff, Int.reduceLT, Int.reduceLE, Int.reduceEq, Int.reduceAdd, Int.reduceNeg, reduceIte, r_st, r_nck, r_ix, r_iaa, takeN, VE.store, over, cellsAt, VE.part, blkX, gEval, fill, VE.unOp, resVs, resV, reduceCtorEq, a1, a3, a17, a18, a19, hlt', ia, ld, hl0, m4, vs, q2, hne, hbh, q3, ← e, frzI]
 cases q4 : l[k].users.l.any (lateH now) with
 | true =>
  have e := no (lateA now l[k] = false) (by simp [lateA, q3, q4]) (·.late k hlt)
  simp only [↓zp, zz, zy, chkOk, Nat.reduceEqDiff, Nat.reduceAdd, Nat.reduceSub, Nat.reduceMul, Nat.reduceLT, Nat.reduceLeDiff, Int.reduceLT, Int.reduceLE, Int.reduceEq, Int.reduceAdd, Int.reduceNeg, reduceIte, r_st, r_nck, r_ix, r_iaa, takeN, VE.store, over, cellsAt, VE.part, blkX, gEval, fill, VE.unOp, resVs, resV, reduceCtorEq, a1, a3, a17, a18, a19, hlt', ia, ld, hl0, m4, vs, q2, hne, hbh, q3, m5, au, q4, ← e, frzI]
 | false =>
 cases q5 : l[k].ends.l.any (lateH now) with
 | true =>
  have e := no (lateA now l[k] = false) (by simp [lateA, q3, q4, q5]) (·.late k hlt)
  simp only [↓zp, zz, zy, chkOk, Nat.reduceEqDiff, Nat.reduceAdd, Nat.reduceSub, Nat.reduceMul, Nat.reduceLT, Nat.reduceLeDiff, Int.reduceLT, Int.reduceLE, Int.reduceEq, Int.reduceAdd, Int.reduceNeg, reduceIte, r_st, r_nck, r_ix, r_iaa, takeN, VE.store, over, cellsAt, VE.part, blkX, gEval, fill, VE.unOp, resVs, resV, reduceCtorEq, a1, a3, a17, a18, a19, hlt', ia, ld, hl0, m4, vs, q2, hne, hbh, q3, m5, au, q4, ae, q5, ← e, frzI]
 | false =>
 have ql : lateA now l[k] = false := by simp [lateA, q3, q4, q5]
 have kp2 := kh.hp l[k] t1
 simp only [hp, zc, encA] at kp2
 by_cases hz : 0 < k
 case neg =>
  have hz' : ¬ ((0 : Int) < (k : Int)) := by omega
  simp only [↓zp, zz, zy, chkOk, Nat.reduceEqDiff, Nat.reduceAdd, Nat.reduceSub, Nat.reduceMul, Nat.reduceLT, Nat.reduceLeDiff, Int.reduceLT, Int.reduceLE, Int.reduceEq, Int.reduceAdd, Int.reduceNeg, reduceIte, r_st, r_nck, r_ix, r_iaa, takeN, VE.store, over, cellsAt, VE.part, blkX, gEval, fill, VE.unOp, resVs, resV, reduceCtorEq, a1, a3, a17, a18, a19, hlt', ia, ld, hl0, m4, vs, q2, hne, hbh, q3, m5, au, q4, ae, q5, hz', ws]
  refine ⟨_, by omega, k + 1, by omega, rfl, by simp only [zs, Nat.reduceEqDiff, a1], by simp only [zs, Nat.reduceEqDiff, a3], by simp only [zs, Nat.reduceEqDiff, a17], by simp only [zs, Nat.reduceEqDiff, a18], by simp only [zs, Nat.reduceEqDiff], kp2, fun j hj hj2 => ?_, fun j hj hj2 => by omega⟩
  obtain rfl : j = k := by omega
  exact ⟨q2, ql⟩
 have hz' : (0 : Int) < (k : Int) := by omega
 have wp := wr_pred (k := k) hz (by omega)
 obtain ⟨a2, ia2, el2⟩ := hv.ia encA_len (by decide) (k := k - 1) (by omega)
 obtain ⟨a5, fa5, el5⟩ := el2.fa (n := 0) (by omega)
 have ld5 := El.ld1 el5 kp2
 by_cases hle : l[k].t ≤ l[k - 1].t
 ·have e := no (∀ k (h : k + 1 < l.length), ¬ l[k + 1].t ≤ l[k].t) (fun q => by have := q (k - 1) (by omega); have e1 : k - 1 + 1 = k := (by omega); simp only [e1] at this; omega) (·.inc)
  simp only [↓zp, zz, zy, chkOk, Nat.reduceEqDiff, Nat.reduceAdd, Nat.reduceSub, Nat.reduceMul, Nat.reduceLT, Nat.reduceLeDiff, Int.reduceLT, Int.reduceLE, Int.reduceEq, Int.reduceAdd, Int.reduceNeg, reduceIte, r_st, r_nck, r_ix, r_iaa, takeN, VE.store, over, cellsAt, VE.part, blkX, gEval, fill, VE.unOp, resVs, resV, reduceCtorEq, a1, a3, a17, a18, a19, hlt', ia, ld, hl0, m4, vs, q2, hne, hbh, q3, m5, au, q4, ae, q5, hz', wp, d49, ia2, fa5, ld5, hle, ← e, frzI]
 ·simp only [↓zp, zz, zy, chkOk, Nat.reduceEqDiff, Nat.reduceAdd, Nat.reduceSub, Nat.reduceMul, Nat.reduceLT, Nat.reduceLeDiff, Int.reduceLT, Int.reduceLE, Int.reduceEq, Int.reduceAdd, Int.reduceNeg, reduceIte, r_st, r_nck, r_ix, r_iaa, takeN, VE.store, over, cellsAt, VE.part, blkX, gEval, fill, VE.unOp, resVs, resV, reduceCtorEq, a1, a3, a17, a18, a19, hlt', ia, ld, hl0, m4, vs, q2, hne, hbh, q3, m5, au, q4, ae, q5, hz', wp, d49, ia2, fa5, ld5, hle, ws]
  refine ⟨_, by omega, k + 1, by omega, rfl, by simp only [zs, Nat.reduceEqDiff, a1], by simp only [zs, Nat.reduceEqDiff, a3], by simp only [zs, Nat.reduceEqDiff, a17], by simp only [zs, Nat.reduceEqDiff, a18], by simp only [zs, Nat.reduceEqDiff], kp2, fun j hj hj2 => ?_, fun j hj hj2 => ?_⟩
  ·rcases Nat.lt_or_ge j k with r | r
   ·exact hok j hj r
   ·have : j = k := by omega
    subst this
    exact ⟨q2, ql⟩
  ·rcases Nat.lt_or_ge (j + 1) k with r | r
   ·exact hinc j hj r
   ·have e1 : j = k - 1 := by omega
    subst e1
    have e2 : k - 1 + 1 = k := by omega
    simp only [e2]
    exact hle
end
end
end Go.VE.LB
