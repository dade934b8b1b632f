/- What the functions of the law DifferChecks compute, on typed arguments (part 9). -/
import Derived.Test.YtlomleifnbpghabDifferChecksA5
set_option linter.all false
namespace Go.VE.LB
open Go Go.VE Classical
set_option maxRecDepth 100000
set_option maxHeartbeats 2000000
set_option linter.all false
theorem eqInts : ∀ (l : List (IntKind × Int × Int)), eqCells (l.map fun _ => 0) (l.map fun p => .int p.1 p.2.1) (l.map fun p => .int p.1 p.2.2) = some (decide (∀ p ∈ l, p.2.1 = p.2.2))
  | [] => by simp [eqCells]
  | p :: l => by
    simp only [List.map_cons, eqC, eqInts l]
    by_cases h : p.2.1 = p.2.2
    · simp [h]
    · simp [h]
theorem eqaInts (l : List (IntKind × Int × Int)) {neg : Bool} {h : Heap} {ks : List Nat} {xs ys : List V} {P : Prop} [Decidable P] (h1 : ks = l.map fun _ => 0) (h2 : xs = l.map fun p => .int p.1 p.2.1) (h3 : ys = l.map fun p => .int p.1 p.2.2) (hP : (∀ p ∈ l, p.2.1 = p.2.2) ↔ P) :
    r_eqa neg ks (.agg xs) (.agg ys) h = some (.bool (bif neg then !decide P else decide P), h) := by
  subst h1; subst h2; subst h3
  have e : decide (∀ p ∈ l, p.2.1 = p.2.2) = decide P := decide_eq_decide.2 hP
  simp only [r_eqa, List.length_map, eqInts, e, beq_dec, decide_true, Bool.and_self, cond_true]
theorem bucket_ext {x y : Bucket} : x = y ↔ x.l = y.l ∧ x.lv = y.lv ∧ x.pt = y.pt ∧ x.t = y.t := by
  cases x; cases y; simp
theorem held_ext {x y : Held} : x = y ↔ x.k = y.k ∧ x.b = y.b := by
  cases x; cases y; simp
theorem eqH {x y : Held} {neg : Bool} {h : Heap} : r_eqa neg [0, 0, 0, 0, 0, 0, 0] (.agg (encH x)) (.agg (encH y)) h = some (.bool (bif neg then !decide (x = y) else decide (x = y)), h) :=
  eqaInts [(.u32, x.k, y.k), (.i64, x.b.l.b, y.b.l.b), (.i64, x.b.l.r, y.b.l.r), (.i64, x.b.l.p, y.b.l.p), (.i64, x.b.lv, y.b.lv), (.i64, x.b.pt, y.b.pt), (.u64, x.b.t, y.b.t)] rfl rfl rfl (by simp [held_ext, bucket_ext, limit_ext, and_assoc])
theorem eqB {x y : Bucket} {neg : Bool} {h : Heap} : r_eqa neg [0, 0, 0, 0, 0, 0] (.agg [.int .i64 x.l.b, .int .i64 x.l.r, .int .i64 x.l.p, .int .i64 x.lv, .int .i64 x.pt, .int .u64 x.t]) (.agg [.int .i64 y.l.b, .int .i64 y.l.r, .int .i64 y.l.p, .int .i64 y.lv, .int .i64 y.pt, .int .u64 y.t]) h = some (.bool (bif neg then !decide (x = y) else decide (x = y)), h) :=
  eqaInts [(.i64, x.l.b, y.l.b), (.i64, x.l.r, y.l.r), (.i64, x.l.p, y.l.p), (.i64, x.lv, y.lv), (.i64, x.pt, y.pt), (.u64, x.t, y.t)] rfl rfl rfl (by simp [bucket_ext, limit_ext, and_assoc])
theorem eq9 {x y : Acct} {neg : Bool} {h : Heap} : r_eqa neg [0, 0, 0, 0, 0, 0, 0, 0, 0] (.agg [.int .i64 x.l0.b, .int .i64 x.l0.r, .int .i64 x.l0.p, .int .i64 x.l1.b, .int .i64 x.l1.r, .int .i64 x.l1.p, .int .i64 x.l2.b, .int .i64 x.l2.r, .int .i64 x.l2.p])
    (.agg [.int .i64 y.l0.b, .int .i64 y.l0.r, .int .i64 y.l0.p, .int .i64 y.l1.b, .int .i64 y.l1.r, .int .i64 y.l1.p, .int .i64 y.l2.b, .int .i64 y.l2.r, .int .i64 y.l2.p]) h = some (.bool (bif neg then !decide (x.l0 = y.l0 ∧ x.l1 = y.l1 ∧ x.l2 = y.l2) else decide (x.l0 = y.l0 ∧ x.l1 = y.l1 ∧ x.l2 = y.l2)), h) :=
  eqaInts [(.i64, x.l0.b, y.l0.b), (.i64, x.l0.r, y.l0.r), (.i64, x.l0.p, y.l0.p), (.i64, x.l1.b, y.l1.b), (.i64, x.l1.r, y.l1.r), (.i64, x.l1.p, y.l1.p), (.i64, x.l2.b, y.l2.b), (.i64, x.l2.r, y.l2.r), (.i64, x.l2.p, y.l2.p)] (P := x.l0 = y.l0 ∧ x.l1 = y.l1 ∧ x.l2 = y.l2) rfl rfl rfl (by simp [limit_ext, and_assoc])
theorem eq2 {k : IntKind} {a b c d : Int} {neg : Bool} {h : Heap} : r_eqa neg [0, 0] (.agg [.int k a, .int k b]) (.agg [.int k c, .int k d]) h = some (.bool (bif neg then !decide (a = c ∧ b = d) else decide (a = c ∧ b = d)), h) :=
  eqaInts [(k, a, c), (k, b, d)] (P := a = c ∧ b = d) rfl rfl rfl (by simp)
theorem eq3 {k : IntKind} {a b c d e f : Int} {neg : Bool} {h : Heap} : r_eqa neg [0, 0, 0] (.agg [.int k a, .int k b, .int k c]) (.agg [.int k d, .int k e, .int k f]) h = some (.bool (bif neg then !decide (a = d ∧ b = e ∧ c = f) else decide (a = d ∧ b = e ∧ c = f)), h) :=
  eqaInts [(k, a, d), (k, b, e), (k, c, f)] (P := a = d ∧ b = e ∧ c = f) rfl rfl rfl (by simp)
structure SameA (x y : Acct) : Prop where
  len : x.rev.l.length = y.rev.l.length
  rev : ∀ k (h : k < x.rev.l.length) (h' : k < y.rev.l.length), x.rev.l[k] = y.rev.l[k]
  t : x.t = y.t
  ls : x.l0 = y.l0 ∧ x.l1 = y.l1 ∧ x.l2 = y.l2
  cs : x.c0 = y.c0 ∧ x.c1 = y.c1
  own : x.own = y.own
  us : x.users.l = y.users.l
  en : x.ends.l = y.ends.l
  ta : x.n0 = y.n0 ∧ x.n1 = y.n1 ∧ x.n2 = y.n2
section
variable {vp : Nat → Option VFn}
def inv31 (a b : Sl Held) (H : Heap) (m : Nat) (s : Slots) (h : Heap) : Prop :=
  ∃ k, k ≤ a.l.length ∧ m = a.l.length - k ∧ s.at 0 = a.v encH ∧ s.at 1 = b.v encH ∧ s.at 5 = .int .i64 (k : Int) ∧ h = H ∧ ∀ j (hj : j < a.l.length) (hj' : j < b.l.length), j < k → a.l[j] = b.l[j]
theorem sameH_spec {f : Nat} (hf : vp f = some B_spigotref25_SameHeld) (a b : Sl Held) (h : Heap) (hn : a.l.length < 4611686018427387904) : callRes vp f [a.v encH, b.v encH] h = some (.bool (decide (a.l = b.l)), h) := by
  refine res_pure hf rfl rfl (fun g hg => ?_)
  have no : ¬ a.l = b.l → (.bool false : V) = .bool (decide (a.l = b.l)) := fun q => by rw [decide_eq_false q]
  unfold B_spigotref25_SameHeld
  by_cases hl : (a.l.length : Int) = (b.l.length : Int)
  case neg =>
    have e := no (fun q => hl (by rw [q]))
    simp only [↓zp, zz, true_and, and_true, chkOk, Nat.reduceEqDiff, Nat.reduceAdd, Nat.reduceSub, Nat.reduceMul, Nat.reduceLT, Nat.reduceLeDiff, Int.reduceLT, Int.reduceLE, Int.reduceEq, Int.reduceAdd, Int.reduceNeg, if_false, if_true, reduceIte, List.getElem?_cons_succ, List.getElem?_cons_zero, Option.getD_some, r_mv, r_pick, r_box, r_alloc, r_un, r_eqb, r_ext, r_mkf, r_cnv, r_st, r_nck, r_ix, r_iaa, takeN, List.cons_append, List.nil_append, VE.store, over, cellsAt, VE.part, Option.map_some, Option.bind_some, blkX, gEval, cond_true, cond_false, r_build, r_bsl, fill, VE.unOp, r_bin, List.drop_zero, List.drop_succ_cons, resOf, resVs, resV, List.length_cons, List.length_nil, reduceCtorEq, or_true, true_or, false_or, or_false, eq_self, exists_eq_left', Option.some.injEq, hl, frzB, ← e]
  have hl' := eq_true hl
  simp only [↓zp, zz, true_and, and_true, chkOk, Nat.reduceEqDiff, Nat.reduceAdd, Nat.reduceSub, Nat.reduceMul, Nat.reduceLT, Nat.reduceLeDiff, Int.reduceLT, Int.reduceLE, Int.reduceEq, Int.reduceAdd, Int.reduceNeg, if_false, if_true, reduceIte, List.getElem?_cons_succ, List.getElem?_cons_zero, Option.getD_some, r_mv, r_pick, r_box, r_alloc, r_un, r_eqb, r_ext, r_mkf, r_cnv, r_st, r_nck, r_ix, r_iaa, takeN, List.cons_append, List.nil_append, VE.store, over, cellsAt, VE.part, Option.map_some, Option.bind_some, blkX, gEval, cond_true, cond_false, r_build, r_bsl, fill, VE.unOp, r_bin, List.drop_zero, List.drop_succ_cons, resOf, resVs, resV, List.length_cons, List.length_nil, reduceCtorEq, or_true, true_or, false_or, or_false, eq_self, exists_eq_left', Option.some.injEq, hl']
  generalize hS : Tr.set _ 5 _ = S
  have b0 : Slots.at S 0 = a.v encH := by rw [← hS]; simp only [Slots.at_set, Nat.reduceEqDiff, if_false, if_true, reduceIte, argSlots_at, List.getElem?_cons_succ, List.getElem?_cons_zero, Option.getD_some]
  have b1 : Slots.at S 1 = b.v encH := by rw [← hS]; simp only [Slots.at_set, Nat.reduceEqDiff, if_false, if_true, reduceIte, argSlots_at, List.getElem?_cons_succ, List.getElem?_cons_zero, Option.getD_some]
  have b5 : Slots.at S 5 = .int .i64 ((0 : Nat) : Int) := by rw [← hS]; simp only [Slots.at_set, Nat.reduceEqDiff, if_false, if_true, reduceIte, argSlots_at, List.getElem?_cons_succ, List.getElem?_cons_zero, Option.getD_some]; rfl
  clear hS
  refine loop_ind (fun m s h => inv31 a b g m s h) ?_ a.l.length ⟨0, by omega, by omega, b0, b1, b5, rfl, fun j _ _ hj => by omega⟩
  rintro m s h ⟨k, hk, hm, c0, c1, c5, rfl, hinc⟩
  by_cases hlt : k < a.l.length
  case neg =>
    have hlt' : ¬ ((k : Int) < (a.l.length : Int)) := by omega
    have e := eq_true (show a.l = b.l from List.ext_getElem (by omega) (fun j h1 h2 => hinc j h1 h2 (by omega)))
    simp only [↓zp, zz, true_and, and_true, chkOk, Nat.reduceEqDiff, Nat.reduceAdd, Nat.reduceSub, Nat.reduceMul, Nat.reduceLT, Nat.reduceLeDiff, Int.reduceLT, Int.reduceLE, Int.reduceEq, Int.reduceAdd, Int.reduceNeg, if_false, if_true, reduceIte, List.getElem?_cons_succ, List.getElem?_cons_zero, Option.getD_some, r_mv, r_pick, r_box, r_alloc, r_un, r_eqb, r_ext, r_mkf, r_cnv, r_st, r_nck, r_ix, r_iaa, takeN, List.cons_append, List.nil_append, VE.store, over, cellsAt, VE.part, Option.map_some, Option.bind_some, blkX, gEval, cond_true, cond_false, r_build, r_bsl, fill, VE.unOp, r_bin, List.drop_zero, List.drop_succ_cons, resOf, resVs, resV, List.length_cons, List.length_nil, reduceCtorEq, or_true, true_or, false_or, or_false, eq_self, exists_eq_left', Option.some.injEq, c0, c1, c5, hlt', e, frzB]
  have hlt' : (k : Int) < (a.l.length : Int) := by omega
  have hltb : k < b.l.length := by omega
  have ws := wr_succ (k := k) (by omega)
  have ia1 : ∀ h, r_ia 7 (a.v encH) (.int .i64 (k : Int)) h = some (.iptr (encH a.l[k] ++ (a.l.drop (k + 1)).flatMap encH), h) := fun h => r_ia_v encH_len (by decide) hlt rfl
  have ia2 : ∀ h, r_ia 7 (b.v encH) (.int .i64 (k : Int)) h = some (.iptr (encH b.l[k] ++ (b.l.drop (k + 1)).flatMap encH), h) := fun h => r_ia_v encH_len (by decide) hltb rfl
  by_cases hq : a.l[k] = b.l[k]
  case neg =>
    have e := no (fun q => hq (by simp only [q]))
    simp only [↓zp, zz, true_and, and_true, chkOk, Nat.reduceEqDiff, Nat.reduceAdd, Nat.reduceSub, Nat.reduceMul, Nat.reduceLT, Nat.reduceLeDiff, Int.reduceLT, Int.reduceLE, Int.reduceEq, Int.reduceAdd, Int.reduceNeg, if_false, if_true, reduceIte, List.getElem?_cons_succ, List.getElem?_cons_zero, Option.getD_some, r_mv, r_pick, r_box, r_alloc, r_un, r_eqb, r_ext, r_mkf, r_cnv, r_st, r_nck, r_ix, r_iaa, takeN, List.cons_append, List.nil_append, VE.store, over, cellsAt, VE.part, Option.map_some, Option.bind_some, blkX, gEval, cond_true, cond_false, r_build, r_bsl, fill, VE.unOp, r_bin, List.drop_zero, List.drop_succ_cons, resOf, resVs, resV, List.length_cons, List.length_nil, reduceCtorEq, or_true, true_or, false_or, or_false, eq_self, exists_eq_left', Option.some.injEq, c0, c1, c5, hlt', ia1, ia2, take7, eqH, hq, ← e, frzB]
  have hq' := eq_true hq
  simp only [↓zp, zz, true_and, and_true, chkOk, Nat.reduceEqDiff, Nat.reduceAdd, Nat.reduceSub, Nat.reduceMul, Nat.reduceLT, Nat.reduceLeDiff, Int.reduceLT, Int.reduceLE, Int.reduceEq, Int.reduceAdd, Int.reduceNeg, if_false, if_true, reduceIte, List.getElem?_cons_succ, List.getElem?_cons_zero, Option.getD_some, r_mv, r_pick, r_box, r_alloc, r_un, r_eqb, r_ext, r_mkf, r_cnv, r_st, r_nck, r_ix, r_iaa, takeN, List.cons_append, List.nil_append, VE.store, over, cellsAt, VE.part, Option.map_some, Option.bind_some, blkX, gEval, cond_true, cond_false, r_build, r_bsl, fill, VE.unOp, r_bin, List.drop_zero, List.drop_succ_cons, resOf, resVs, resV, List.length_cons, List.length_nil, reduceCtorEq, or_true, true_or, false_or, or_false, eq_self, exists_eq_left', Option.some.injEq, c0, c1, c5, hlt', ia1, ia2, take7, eqH, hq', ws]
  refine ⟨_, by omega, k + 1, by omega, rfl, by simp only [Slots.at_set, Nat.reduceEqDiff, if_false, if_true, reduceIte, argSlots_at, List.getElem?_cons_succ, List.getElem?_cons_zero, Option.getD_some, c0], by simp only [Slots.at_set, Nat.reduceEqDiff, if_false, if_true, reduceIte, argSlots_at, List.getElem?_cons_succ, List.getElem?_cons_zero, Option.getD_some, c1], by simp only [Slots.at_set, Nat.reduceEqDiff, if_false, if_true, reduceIte, argSlots_at, List.getElem?_cons_succ, List.getElem?_cons_zero, Option.getD_some], rfl, fun j hj hj' hj2 => ?_⟩
  rcases Nat.lt_or_ge j k with r | r
  · exact hinc j hj hj' r
  · have : j = k := by omega
    subst this
    exact hq
def inv21 (x y : Acct) (b : Nat) (H : Heap) (m : Nat) (s : Slots) (h : Heap) : Prop :=
  ∃ k, k ≤ x.rev.l.length ∧ m = x.rev.l.length - k ∧ s.at 2 = .ptr b 0 ∧ s.at 3 = .ptr (b + 1) 0 ∧ s.at 5 = .int .i64 (k : Int) ∧ h = H ∧ ∀ j (hj : j < x.rev.l.length) (hj' : j < y.rev.l.length), j < k → x.rev.l[j] = y.rev.l[j]
theorem sameA_spec {f c1 : Nat} (hf : vp f = some (B_spigotref25_SameAccount c1)) (h1 : vp c1 = some B_spigotref25_SameHeld) (x y : Acct) (h : Heap) (n1 : x.users.l.length < 4611686018427387904) (n2 : x.ends.l.length < 4611686018427387904) (n3 : x.rev.l.length < 4611686018427387904) :
    callRes vp f [.agg (encA x), .agg (encA y)] h = some (.bool (decide (SameA x y)), h) := by
  have m1 : modeOf vp c1 = some 1 := by simp [modeOf, h1, B_spigotref25_SameHeld]
  have su := fun h => sameH_spec h1 x.users y.users h n1
  have se := fun h => sameH_spec h1 x.ends y.ends h n2
  refine res_pure hf rfl rfl (fun g hg => ?_)
  have no : ∀ (P : Prop), ¬ P → (SameA x y → P) → (.bool false : V) = .bool (decide (SameA x y)) := fun P hn hv => by
    rw [decide_eq_false (fun q => hn (hv q))]
  unfold B_spigotref25_SameAccount
  by_cases hl : (x.rev.l.length : Int) = (y.rev.l.length : Int)
  case neg =>
    have e := no _ hl (fun q => by rw [q.len])
    simp only [↓zp, zz, true_and, and_true, chkOk, Nat.reduceEqDiff, Nat.reduceAdd, Nat.reduceSub, Nat.reduceMul, Nat.reduceLT, Nat.reduceLeDiff, Int.reduceLT, Int.reduceLE, Int.reduceEq, Int.reduceAdd, Int.reduceNeg, if_false, if_true, reduceIte, List.getElem?_cons_succ, List.getElem?_cons_zero, Option.getD_some, r_mv, r_pick, r_box, r_alloc, r_un, r_eqb, r_ext, r_mkf, r_cnv, r_st, r_nck, r_ix, r_iaa, takeN, List.cons_append, List.nil_append, VE.store, over, cellsAt, VE.part, Option.map_some, Option.bind_some, blkX, gEval, cond_true, cond_false, r_build, r_bsl, fill, VE.unOp, r_bin, List.drop_zero, List.drop_succ_cons, resOf, resVs, resV, List.length_cons, List.length_nil, reduceCtorEq, or_true, true_or, false_or, or_false, eq_self, exists_eq_left', Option.some.injEq, encA, hl, frzB, ← e]
  have hl' := eq_true hl
  simp only [↓zp, zz, true_and, and_true, chkOk, Nat.reduceEqDiff, Nat.reduceAdd, Nat.reduceSub, Nat.reduceMul, Nat.reduceLT, Nat.reduceLeDiff, Int.reduceLT, Int.reduceLE, Int.reduceEq, Int.reduceAdd, Int.reduceNeg, if_false, if_true, reduceIte, List.getElem?_cons_succ, List.getElem?_cons_zero, Option.getD_some, r_mv, r_pick, r_box, r_alloc, r_un, r_eqb, r_ext, r_mkf, r_cnv, r_st, r_nck, r_ix, r_iaa, takeN, List.cons_append, List.nil_append, VE.store, over, cellsAt, VE.part, Option.map_some, Option.bind_some, blkX, gEval, cond_true, cond_false, r_build, r_bsl, fill, VE.unOp, r_bin, List.drop_zero, List.drop_succ_cons, resOf, resVs, resV, List.length_cons, List.length_nil, reduceCtorEq, or_true, true_or, false_or, or_false, eq_self, exists_eq_left', Option.some.injEq, encA, hl']
  generalize hS : Tr.set _ 5 _ = S
  have b2 : Slots.at S 2 = .ptr g.nx 0 := by rw [← hS]; simp only [Slots.at_set, Nat.reduceEqDiff, if_false, if_true, reduceIte, argSlots_at, List.getElem?_cons_succ, List.getElem?_cons_zero, Option.getD_some]
  have b3 : Slots.at S 3 = .ptr (g.nx + 1) 0 := by rw [← hS]; simp only [Slots.at_set, Nat.reduceEqDiff, if_false, if_true, reduceIte, argSlots_at, List.getElem?_cons_succ, List.getElem?_cons_zero, Option.getD_some]
  have b5 : Slots.at S 5 = .int .i64 ((0 : Nat) : Int) := by rw [← hS]; simp only [Slots.at_set, Nat.reduceEqDiff, if_false, if_true, reduceIte, argSlots_at, List.getElem?_cons_succ, List.getElem?_cons_zero, Option.getD_some]; rfl
  clear hS
  generalize hH : Heap.new _ _ = H
  obtain ⟨hx, hy⟩ : H.get g.nx = .cells (encA x) .cl ∧ H.get (g.nx + 1) = .cells (encA y) .cl := by
    subst hH
    exact ⟨by simp only [↓zp, zz, true_and, and_true, chkOk, Nat.reduceEqDiff, Nat.reduceAdd, Nat.reduceSub, Nat.reduceMul, Nat.reduceLT, Nat.reduceLeDiff, Int.reduceLT, Int.reduceLE, Int.reduceEq, Int.reduceAdd, Int.reduceNeg, if_false, if_true, reduceIte, List.getElem?_cons_succ, List.getElem?_cons_zero, Option.getD_some, r_mv, r_pick, r_box, r_alloc, r_un, r_eqb, r_ext, r_mkf, r_cnv, r_st, r_nck, r_ix, r_iaa, takeN, List.cons_append, List.nil_append, VE.store, over, cellsAt, VE.part, Option.map_some, Option.bind_some, blkX, gEval, cond_true, cond_false, r_build, r_bsl, fill, VE.unOp, r_bin, List.drop_zero, List.drop_succ_cons, resOf, resVs, resV, List.length_cons, List.length_nil, reduceCtorEq, or_true, true_or, false_or, or_false, eq_self, exists_eq_left', Option.some.injEq, encA], by simp only [↓zp, zz, true_and, and_true, chkOk, Nat.reduceEqDiff, Nat.reduceAdd, Nat.reduceSub, Nat.reduceMul, Nat.reduceLT, Nat.reduceLeDiff, Int.reduceLT, Int.reduceLE, Int.reduceEq, Int.reduceAdd, Int.reduceNeg, if_false, if_true, reduceIte, List.getElem?_cons_succ, List.getElem?_cons_zero, Option.getD_some, r_mv, r_pick, r_box, r_alloc, r_un, r_eqb, r_ext, r_mkf, r_cnv, r_st, r_nck, r_ix, r_iaa, takeN, List.cons_append, List.nil_append, VE.store, over, cellsAt, VE.part, Option.map_some, Option.bind_some, blkX, gEval, cond_true, cond_false, r_build, r_bsl, fill, VE.unOp, r_bin, List.drop_zero, List.drop_succ_cons, resOf, resVs, resV, List.length_cons, List.length_nil, reduceCtorEq, or_true, true_or, false_or, or_false, eq_self, exists_eq_left', Option.some.injEq, encA]⟩
  clear hH
  refine loop_ind (fun m s h => inv21 x y g.nx H m s h) ?_ x.rev.l.length ⟨0, by omega, by omega, b2, b3, b5, rfl, fun j _ _ hj => by omega⟩
  rintro m s h ⟨k, hk, hm, c2, c3, c5, rfl, hinc⟩
  by_cases hlt : k < x.rev.l.length
  case pos =>
    have hlt' : (k : Int) < (x.rev.l.length : Int) := by omega
    have hltb : k < y.rev.l.length := by omega
    have ws := wr_succ (k := k) (by omega)
    have ia1 : ∀ h, r_ia 1 (x.rev.v e32) (.int .i64 (k : Int)) h = some (.iptr (e32 x.rev.l[k] ++ (x.rev.l.drop (k + 1)).flatMap e32), h) := fun h => r_ia_v e32_len (by decide) hlt rfl
    have ia2 : ∀ h, r_ia 1 (y.rev.v e32) (.int .i64 (k : Int)) h = some (.iptr (e32 y.rev.l[k] ++ (y.rev.l.drop (k + 1)).flatMap e32), h) := fun h => r_ia_v e32_len (by decide) hltb rfl
    by_cases hq : x.rev.l[k] = y.rev.l[k]
    case neg =>
      have e := no _ hq (fun q => q.rev k hlt hltb)
      simp only [↓zp, zz, true_and, and_true, chkOk, Nat.reduceEqDiff, Nat.reduceAdd, Nat.reduceSub, Nat.reduceMul, Nat.reduceLT, Nat.reduceLeDiff, Int.reduceLT, Int.reduceLE, Int.reduceEq, Int.reduceAdd, Int.reduceNeg, if_false, if_true, reduceIte, List.getElem?_cons_succ, List.getElem?_cons_zero, Option.getD_some, r_mv, r_pick, r_box, r_alloc, r_un, r_eqb, r_ext, r_mkf, r_cnv, r_st, r_nck, r_ix, r_iaa, takeN, List.cons_append, List.nil_append, VE.store, over, cellsAt, VE.part, Option.map_some, Option.bind_some, blkX, gEval, cond_true, cond_false, r_build, r_bsl, fill, VE.unOp, r_bin, List.drop_zero, List.drop_succ_cons, resOf, resVs, resV, List.length_cons, List.length_nil, reduceCtorEq, or_true, true_or, false_or, or_false, eq_self, exists_eq_left', Option.some.injEq, c2, c3, c5, hx, hy, encA, hlt', ia1, ia2, e32, hq, ← e, frzB]
    have hq' := eq_true hq
    simp only [↓zp, zz, true_and, and_true, chkOk, Nat.reduceEqDiff, Nat.reduceAdd, Nat.reduceSub, Nat.reduceMul, Nat.reduceLT, Nat.reduceLeDiff, Int.reduceLT, Int.reduceLE, Int.reduceEq, Int.reduceAdd, Int.reduceNeg, if_false, if_true, reduceIte, List.getElem?_cons_succ, List.getElem?_cons_zero, Option.getD_some, r_mv, r_pick, r_box, r_alloc, r_un, r_eqb, r_ext, r_mkf, r_cnv, r_st, r_nck, r_ix, r_iaa, takeN, List.cons_append, List.nil_append, VE.store, over, cellsAt, VE.part, Option.map_some, Option.bind_some, blkX, gEval, cond_true, cond_false, r_build, r_bsl, fill, VE.unOp, r_bin, List.drop_zero, List.drop_succ_cons, resOf, resVs, resV, List.length_cons, List.length_nil, reduceCtorEq, or_true, true_or, false_or, or_false, eq_self, exists_eq_left', Option.some.injEq, c2, c3, c5, hx, hy, encA, hlt', ia1, ia2, e32, hq', ws]
    refine ⟨_, by omega, k + 1, by omega, rfl, by simp only [Slots.at_set, Nat.reduceEqDiff, if_false, if_true, reduceIte, argSlots_at, List.getElem?_cons_succ, List.getElem?_cons_zero, Option.getD_some, c2], by simp only [Slots.at_set, Nat.reduceEqDiff, if_false, if_true, reduceIte, argSlots_at, List.getElem?_cons_succ, List.getElem?_cons_zero, Option.getD_some, c3], by simp only [Slots.at_set, Nat.reduceEqDiff, if_false, if_true, reduceIte, argSlots_at, List.getElem?_cons_succ, List.getElem?_cons_zero, Option.getD_some], rfl, fun j hj hj' hj2 => ?_⟩
    rcases Nat.lt_or_ge j k with r | r
    · exact hinc j hj hj' r
    · have : j = k := by omega
      subst this
      exact hq
  have hlt' : ¬ ((k : Int) < (x.rev.l.length : Int)) := by omega
  by_cases q1 : x.t = y.t
  case neg =>
    have e := no _ q1 (·.t)
    simp only [↓zp, zz, true_and, and_true, chkOk, Nat.reduceEqDiff, Nat.reduceAdd, Nat.reduceSub, Nat.reduceMul, Nat.reduceLT, Nat.reduceLeDiff, Int.reduceLT, Int.reduceLE, Int.reduceEq, Int.reduceAdd, Int.reduceNeg, if_false, if_true, reduceIte, List.getElem?_cons_succ, List.getElem?_cons_zero, Option.getD_some, r_mv, r_pick, r_box, r_alloc, r_un, r_eqb, r_ext, r_mkf, r_cnv, r_st, r_nck, r_ix, r_iaa, takeN, List.cons_append, List.nil_append, VE.store, over, cellsAt, VE.part, Option.map_some, Option.bind_some, blkX, gEval, cond_true, cond_false, r_build, r_bsl, fill, VE.unOp, r_bin, List.drop_zero, List.drop_succ_cons, resOf, resVs, resV, List.length_cons, List.length_nil, reduceCtorEq, or_true, true_or, false_or, or_false, eq_self, exists_eq_left', Option.some.injEq, c2, c3, c5, hx, hy, encA, hlt', q1, ← e, frzB]
  have q1' := eq_true q1
  by_cases q2 : x.l0 = y.l0 ∧ x.l1 = y.l1 ∧ x.l2 = y.l2
  case neg =>
    have e := no _ q2 (·.ls)
    simp only [↓zp, zz, true_and, and_true, chkOk, Nat.reduceEqDiff, Nat.reduceAdd, Nat.reduceSub, Nat.reduceMul, Nat.reduceLT, Nat.reduceLeDiff, Int.reduceLT, Int.reduceLE, Int.reduceEq, Int.reduceAdd, Int.reduceNeg, if_false, if_true, reduceIte, List.getElem?_cons_succ, List.getElem?_cons_zero, Option.getD_some, r_mv, r_pick, r_box, r_alloc, r_un, r_eqb, r_ext, r_mkf, r_cnv, r_st, r_nck, r_ix, r_iaa, takeN, List.cons_append, List.nil_append, VE.store, over, cellsAt, VE.part, Option.map_some, Option.bind_some, blkX, gEval, cond_true, cond_false, r_build, r_bsl, fill, VE.unOp, r_bin, List.drop_zero, List.drop_succ_cons, resOf, resVs, resV, List.length_cons, List.length_nil, reduceCtorEq, or_true, true_or, false_or, or_false, eq_self, exists_eq_left', Option.some.injEq, c2, c3, c5, hx, hy, encA, hlt', q1', eq9, q2, ← e, frzB]
  have q2' := eq_true q2
  by_cases q3 : x.c0 = y.c0 ∧ x.c1 = y.c1
  case neg =>
    have e := no _ q3 (·.cs)
    simp only [↓zp, zz, true_and, and_true, chkOk, Nat.reduceEqDiff, Nat.reduceAdd, Nat.reduceSub, Nat.reduceMul, Nat.reduceLT, Nat.reduceLeDiff, Int.reduceLT, Int.reduceLE, Int.reduceEq, Int.reduceAdd, Int.reduceNeg, if_false, if_true, reduceIte, List.getElem?_cons_succ, List.getElem?_cons_zero, Option.getD_some, r_mv, r_pick, r_box, r_alloc, r_un, r_eqb, r_ext, r_mkf, r_cnv, r_st, r_nck, r_ix, r_iaa, takeN, List.cons_append, List.nil_append, VE.store, over, cellsAt, VE.part, Option.map_some, Option.bind_some, blkX, gEval, cond_true, cond_false, r_build, r_bsl, fill, VE.unOp, r_bin, List.drop_zero, List.drop_succ_cons, resOf, resVs, resV, List.length_cons, List.length_nil, reduceCtorEq, or_true, true_or, false_or, or_false, eq_self, exists_eq_left', Option.some.injEq, c2, c3, c5, hx, hy, encA, hlt', q1', eq9, q2', eq2, q3, ← e, frzB]
  have q3' := eq_true q3
  by_cases q4 : x.own = y.own
  case neg =>
    have e := no _ q4 (·.own)
    simp only [↓zp, zz, true_and, and_true, chkOk, Nat.reduceEqDiff, Nat.reduceAdd, Nat.reduceSub, Nat.reduceMul, Nat.reduceLT, Nat.reduceLeDiff, Int.reduceLT, Int.reduceLE, Int.reduceEq, Int.reduceAdd, Int.reduceNeg, if_false, if_true, reduceIte, List.getElem?_cons_succ, List.getElem?_cons_zero, Option.getD_some, r_mv, r_pick, r_box, r_alloc, r_un, r_eqb, r_ext, r_mkf, r_cnv, r_st, r_nck, r_ix, r_iaa, takeN, List.cons_append, List.nil_append, VE.store, over, cellsAt, VE.part, Option.map_some, Option.bind_some, blkX, gEval, cond_true, cond_false, r_build, r_bsl, fill, VE.unOp, r_bin, List.drop_zero, List.drop_succ_cons, resOf, resVs, resV, List.length_cons, List.length_nil, reduceCtorEq, or_true, true_or, false_or, or_false, eq_self, exists_eq_left', Option.some.injEq, c2, c3, c5, hx, hy, encA, hlt', q1', eq9, q2', eq2, q3', eqB, q4, ← e, frzB]
  have q4' := eq_true q4
  by_cases q5 : x.users.l = y.users.l
  case neg =>
    have e := no _ q5 (·.us)
    simp only [↓zp, zz, true_and, and_true, chkOk, Nat.reduceEqDiff, Nat.reduceAdd, Nat.reduceSub, Nat.reduceMul, Nat.reduceLT, Nat.reduceLeDiff, Int.reduceLT, Int.reduceLE, Int.reduceEq, Int.reduceAdd, Int.reduceNeg, if_false, if_true, reduceIte, List.getElem?_cons_succ, List.getElem?_cons_zero, Option.getD_some, r_mv, r_pick, r_box, r_alloc, r_un, r_eqb, r_ext, r_mkf, r_cnv, r_st, r_nck, r_ix, r_iaa, takeN, List.cons_append, List.nil_append, VE.store, over, cellsAt, VE.part, Option.map_some, Option.bind_some, blkX, gEval, cond_true, cond_false, r_build, r_bsl, fill, VE.unOp, r_bin, List.drop_zero, List.drop_succ_cons, resOf, resVs, resV, List.length_cons, List.length_nil, reduceCtorEq, or_true, true_or, false_or, or_false, eq_self, exists_eq_left', Option.some.injEq, c2, c3, c5, hx, hy, encA, hlt', q1', eq9, q2', eq2, q3', eqB, q4', m1, su, q5, ← e, frzB]
  have q5' := eq_true q5
  by_cases q6 : x.ends.l = y.ends.l
  case neg =>
    have e := no _ q6 (·.en)
    simp only [↓zp, zz, true_and, and_true, chkOk, Nat.reduceEqDiff, Nat.reduceAdd, Nat.reduceSub, Nat.reduceMul, Nat.reduceLT, Nat.reduceLeDiff, Int.reduceLT, Int.reduceLE, Int.reduceEq, Int.reduceAdd, Int.reduceNeg, if_false, if_true, reduceIte, List.getElem?_cons_succ, List.getElem?_cons_zero, Option.getD_some, r_mv, r_pick, r_box, r_alloc, r_un, r_eqb, r_ext, r_mkf, r_cnv, r_st, r_nck, r_ix, r_iaa, takeN, List.cons_append, List.nil_append, VE.store, over, cellsAt, VE.part, Option.map_some, Option.bind_some, blkX, gEval, cond_true, cond_false, r_build, r_bsl, fill, VE.unOp, r_bin, List.drop_zero, List.drop_succ_cons, resOf, resVs, resV, List.length_cons, List.length_nil, reduceCtorEq, or_true, true_or, false_or, or_false, eq_self, exists_eq_left', Option.some.injEq, c2, c3, c5, hx, hy, encA, hlt', q1', eq9, q2', eq2, q3', eqB, q4', m1, su, q5', se, q6, ← e, frzB]
  have q6' := eq_true q6
  by_cases q7 : x.n0 = y.n0 ∧ x.n1 = y.n1 ∧ x.n2 = y.n2
  case neg =>
    have e := no _ q7 (·.ta)
    simp only [↓zp, zz, true_and, and_true, chkOk, Nat.reduceEqDiff, Nat.reduceAdd, Nat.reduceSub, Nat.reduceMul, Nat.reduceLT, Nat.reduceLeDiff, Int.reduceLT, Int.reduceLE, Int.reduceEq, Int.reduceAdd, Int.reduceNeg, if_false, if_true, reduceIte, List.getElem?_cons_succ, List.getElem?_cons_zero, Option.getD_some, r_mv, r_pick, r_box, r_alloc, r_un, r_eqb, r_ext, r_mkf, r_cnv, r_st, r_nck, r_ix, r_iaa, takeN, List.cons_append, List.nil_append, VE.store, over, cellsAt, VE.part, Option.map_some, Option.bind_some, blkX, gEval, cond_true, cond_false, r_build, r_bsl, fill, VE.unOp, r_bin, List.drop_zero, List.drop_succ_cons, resOf, resVs, resV, List.length_cons, List.length_nil, reduceCtorEq, or_true, true_or, false_or, or_false, eq_self, exists_eq_left', Option.some.injEq, c2, c3, c5, hx, hy, encA, hlt', q1', eq9, q2', eq2, q3', eqB, q4', m1, su, q5', se, q6', eq3, q7, ← e, frzB]
  have q7' := eq_true q7
  have e : SameA x y := ⟨by omega, fun j h1 h2 => hinc j h1 h2 (by omega), q1, q2, q3, q4, q5, q6, q7⟩
  simp only [↓zp, zz, true_and, and_true, chkOk, Nat.reduceEqDiff, Nat.reduceAdd, Nat.reduceSub, Nat.reduceMul, Nat.reduceLT, Nat.reduceLeDiff, Int.reduceLT, Int.reduceLE, Int.reduceEq, Int.reduceAdd, Int.reduceNeg, if_false, if_true, reduceIte, List.getElem?_cons_succ, List.getElem?_cons_zero, Option.getD_some, r_mv, r_pick, r_box, r_alloc, r_un, r_eqb, r_ext, r_mkf, r_cnv, r_st, r_nck, r_ix, r_iaa, takeN, List.cons_append, List.nil_append, VE.store, over, cellsAt, VE.part, Option.map_some, Option.bind_some, blkX, gEval, cond_true, cond_false, r_build, r_bsl, fill, VE.unOp, r_bin, List.drop_zero, List.drop_succ_cons, resOf, resVs, resV, List.length_cons, List.length_nil, reduceCtorEq, or_true, true_or, false_or, or_false, eq_self, exists_eq_left', Option.some.injEq, c2, c3, c5, hx, hy, encA, hlt', q1', eq9, q2', eq2, q3', eqB, q4', m1, su, q5', se, q6', eq3, q7', e, frzB]
end
end Go.VE.LB
