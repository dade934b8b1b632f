/- What the functions of the law DifferChecks compute, on typed arguments (part 11). -/
import Derived.Test.YtlomleifnbpghabDifferChecksA10
set_option linter.all false
namespace Go.VE.LB
open Go Go.VE Classical
set_option maxRecDepth 100000
set_option maxHeartbeats 2000000
set_option linter.all false
def zL : Limit := ⟨0, 0, 0⟩
def zB : Bucket := ⟨zL, 0, 0, 0, by decide⟩
def zA : Acct := ⟨0, zL, zL, zL, 0, 0, zB, .nil, .nil, .nil, 0, 0, 0⟩
theorem eq9z {x : Acct} {h : Heap} : r_eqa false [0, 0, 0, 0, 0, 0, 0, 0, 0] (.agg [.int .i64 x.l0.b, .int .i64 x.l0.r, .int .i64 x.l0.p, .int .i64 x.l1.b, .int .i64 x.l1.r, .int .i64 x.l1.p, .int .i64 x.l2.b, .int .i64 x.l2.r, .int .i64 x.l2.p])
    (.agg [.int .i64 0, .int .i64 0, .int .i64 0, .int .i64 0, .int .i64 0, .int .i64 0, .int .i64 0, .int .i64 0, .int .i64 0]) h = some (.bool (decide (x.l0 = zL ∧ x.l1 = zL ∧ x.l2 = zL)), h) := eq9 (y := zA)
theorem eqBz {x : Bucket} {h : Heap} : r_eqa false [0, 0, 0, 0, 0, 0] (.agg [.int .i64 x.l.b, .int .i64 x.l.r, .int .i64 x.l.p, .int .i64 x.lv, .int .i64 x.pt, .int .u64 x.t]) (.agg [.int .i64 0, .int .i64 0, .int .i64 0, .int .i64 0, .int .i64 0, .int .u64 0]) h = some (.bool (decide (x = zB)), h) := eqB (y := zB)
theorem rep9 : rep 9 [V.int .i64 0] = [.int .i64 0, .int .i64 0, .int .i64 0, .int .i64 0, .int .i64 0, .int .i64 0, .int .i64 0, .int .i64 0, .int .i64 0] := rfl
def lateH (now : Int) (y : Held) : Bool := decide (now < y.b.t)
def lateA (now : Int) (x : Acct) : Bool := decide (now < x.own.t) || x.users.l.any (lateH now) || x.ends.l.any (lateH now)
theorem any_snoc {α : Type} {q : α → Bool} {l : List α} {k : Nat} (hk : k < l.length) : (l.take (k + 1)).any q = ((l.take k).any q || q l[k]) := by
  rw [List.take_succ_eq_append_getElem hk, List.any_append]; simp
section
variable {vp : Nat → Option VFn}
theorem zero_spec {f c1 c2 : Nat} (hf : vp f = some (B_spigotref34_zero c1)) (h1 : vp c1 = some (B_spigotref25_SameAccount c2)) (h2 : vp c2 = some B_spigotref25_SameHeld) (x : Acct) (sh : Short x) (h : Heap) : callRes vp f [.agg (encA x)] h = some (.bool (decide (SameA x zA)), h) := by
  have m1 : modeOf vp c1 = some 1 := by simp [modeOf, h1, B_spigotref25_SameAccount]
  have hu := sh.u
  have he := sh.e
  have hr := sh.r
  have e : ∀ h, callRes vp c1 [.agg (encA x), .agg [.int .u32 0, .int .i64 0, .int .i64 0, .int .i64 0, .int .i64 0, .int .i64 0, .int .i64 0, .int .i64 0, .int .i64 0, .int .i64 0, .int .i64 0, .int .i64 0, .int .i64 0, .int .i64 0, .int .i64 0, .int .i64 0, .int .i64 0, .int .u64 0, .nils, .nils, .nils, .int .u64 0, .int .u64 0, .int .u64 0]] h = some (.bool (decide (SameA x zA)), h) := fun h => sameA_spec h1 h2 x zA h (by omega) (by omega) (by omega)
  refine res_pure hf rfl rfl (fun g hg => ?_)
  have e := e (g.new (.cells (encA x) .cl))
  simp only [encA] at e
  unfold B_spigotref34_zero
  simp only [↓zp, zz, true_and, and_true, chkOk, Nat.reduceEqDiff, Nat.reduceAdd, Nat.reduceSub, Nat.reduceMul, Nat.reduceLT, Nat.reduceLeDiff, Int.reduceLT, Int.reduceLE, Int.reduceEq, Int.reduceAdd, Int.reduceNeg, if_false, if_true, reduceIte, List.getElem?_cons_succ, List.getElem?_cons_zero, Option.getD_some, r_mv, r_pick, r_box, r_alloc, r_un, r_eqb, r_ext, r_mkf, r_cnv, r_st, r_nck, r_ix, r_iaa, takeN, List.cons_append, List.nil_append, VE.store, over, cellsAt, VE.part, Option.map_some, Option.bind_some, blkX, gEval, cond_true, cond_false, r_build, r_bsl, fill, VE.unOp, r_bin, List.drop_zero, List.drop_succ_cons, resOf, resVs, resV, List.length_cons, List.length_nil, reduceCtorEq, or_true, true_or, false_or, or_false, eq_self, exists_eq_left', Option.some.injEq, encA, m1, e, frzB]
theorem sameA_z {x : Acct} : SameA x zA ↔ (x.users.l.length + x.ends.l.length + x.rev.l.length = 0 ∧ x.t = 0 ∧ (x.l0 = zL ∧ x.l1 = zL ∧ x.l2 = zL) ∧ (x.c0 = 0 ∧ x.c1 = 0) ∧ x.own = zB ∧ (x.n0 = 0 ∧ x.n1 = 0 ∧ x.n2 = 0)) := by
  constructor
  · intro q
    have h1 : x.rev.l.length = 0 := q.len
    have h2 : x.users.l = [] := q.us
    have h3 : x.ends.l = [] := q.en
    exact ⟨by rw [h1, h2, h3]; rfl, q.t, q.ls, q.cs, q.own, q.ta⟩
  · rintro ⟨h0, h1, h2, h3, h4, h5⟩
    exact ⟨by show x.rev.l.length = 0; omega, fun k hk _ => by omega, h1, h2, h3, h4, List.eq_nil_of_length_eq_zero (by omega), List.eq_nil_of_length_eq_zero (by omega), h5⟩
theorem empty_spec {f : Nat} (hf : vp f = some B_differ_empty) (x : Acct) (sh : Short x) (h : Heap) : callRes vp f [.agg (encA x)] h = some (.bool (decide (SameA x zA)), h) := by
  have hu := sh.u
  have he := sh.e
  have hr := sh.r
  refine res_pure hf rfl rfl (fun g hg => ?_)
  have no : ∀ (P : Prop), ¬ P → (SameA x zA → P) → (.bool false : V) = .bool (decide (SameA x zA)) := fun P hn hv => by rw [decide_eq_false (fun q => hn (hv q))]
  have w1 : wr .i64 ((x.users.l.length : Int) + (x.ends.l.length : Int)) = (x.users.l.length : Int) + (x.ends.l.length : Int) := wr_i64 (by omega) (by omega)
  have w2 : wr .i64 ((x.users.l.length : Int) + (x.ends.l.length : Int) + (x.rev.l.length : Int)) = (x.users.l.length : Int) + (x.ends.l.length : Int) + (x.rev.l.length : Int) := wr_i64 (by omega) (by omega)
  unfold B_differ_empty
  by_cases q1 : (x.users.l.length : Int) + (x.ends.l.length : Int) + (x.rev.l.length : Int) = 0
  case neg =>
    have e := no _ q1 (fun q => by have := (sameA_z.1 q).1; omega)
    simp only [↓zp, zz, true_and, and_true, chkOk, Nat.reduceEqDiff, Nat.reduceAdd, Nat.reduceSub, Nat.reduceMul, Nat.reduceLT, Nat.reduceLeDiff, Int.reduceLT, Int.reduceLE, Int.reduceEq, Int.reduceAdd, Int.reduceNeg, if_false, if_true, reduceIte, List.getElem?_cons_succ, List.getElem?_cons_zero, Option.getD_some, r_mv, r_pick, r_box, r_alloc, r_un, r_eqb, r_ext, r_mkf, r_cnv, r_st, r_nck, r_ix, r_iaa, takeN, List.cons_append, List.nil_append, VE.store, over, cellsAt, VE.part, Option.map_some, Option.bind_some, blkX, gEval, cond_true, cond_false, r_build, r_bsl, fill, VE.unOp, r_bin, List.drop_zero, List.drop_succ_cons, resOf, resVs, resV, List.length_cons, List.length_nil, reduceCtorEq, or_true, true_or, false_or, or_false, eq_self, exists_eq_left', Option.some.injEq, encA, w1, w2, q1, ← e, frzB]
  have q1' := eq_true q1
  by_cases q2 : x.t = 0
  case neg =>
    have e := no _ q2 (fun q => (sameA_z.1 q).2.1)
    simp only [↓zp, zz, true_and, and_true, chkOk, Nat.reduceEqDiff, Nat.reduceAdd, Nat.reduceSub, Nat.reduceMul, Nat.reduceLT, Nat.reduceLeDiff, Int.reduceLT, Int.reduceLE, Int.reduceEq, Int.reduceAdd, Int.reduceNeg, if_false, if_true, reduceIte, List.getElem?_cons_succ, List.getElem?_cons_zero, Option.getD_some, r_mv, r_pick, r_box, r_alloc, r_un, r_eqb, r_ext, r_mkf, r_cnv, r_st, r_nck, r_ix, r_iaa, takeN, List.cons_append, List.nil_append, VE.store, over, cellsAt, VE.part, Option.map_some, Option.bind_some, blkX, gEval, cond_true, cond_false, r_build, r_bsl, fill, VE.unOp, r_bin, List.drop_zero, List.drop_succ_cons, resOf, resVs, resV, List.length_cons, List.length_nil, reduceCtorEq, or_true, true_or, false_or, or_false, eq_self, exists_eq_left', Option.some.injEq, encA, w1, w2, q1', q2, ← e, frzB]
  have q2' := eq_true q2
  by_cases q3 : x.l0 = zL ∧ x.l1 = zL ∧ x.l2 = zL
  case neg =>
    have e := no _ q3 (fun q => (sameA_z.1 q).2.2.1)
    simp only [↓zp, zz, true_and, and_true, chkOk, Nat.reduceEqDiff, Nat.reduceAdd, Nat.reduceSub, Nat.reduceMul, Nat.reduceLT, Nat.reduceLeDiff, Int.reduceLT, Int.reduceLE, Int.reduceEq, Int.reduceAdd, Int.reduceNeg, if_false, if_true, reduceIte, List.getElem?_cons_succ, List.getElem?_cons_zero, Option.getD_some, r_mv, r_pick, r_box, r_alloc, r_un, r_eqb, r_ext, r_mkf, r_cnv, r_st, r_nck, r_ix, r_iaa, takeN, List.cons_append, List.nil_append, VE.store, over, cellsAt, VE.part, Option.map_some, Option.bind_some, blkX, gEval, cond_true, cond_false, r_build, r_bsl, fill, VE.unOp, r_bin, List.drop_zero, List.drop_succ_cons, resOf, resVs, resV, List.length_cons, List.length_nil, reduceCtorEq, or_true, true_or, false_or, or_false, eq_self, exists_eq_left', Option.some.injEq, encA, w1, w2, q1', q2', rep9, eq9z, q3, ← e, frzB]
  have q3' := eq_true q3
  by_cases q4 : x.c0 = 0 ∧ x.c1 = 0
  case neg =>
    have e := no _ q4 (fun q => (sameA_z.1 q).2.2.2.1)
    simp only [↓zp, zz, true_and, and_true, chkOk, Nat.reduceEqDiff, Nat.reduceAdd, Nat.reduceSub, Nat.reduceMul, Nat.reduceLT, Nat.reduceLeDiff, Int.reduceLT, Int.reduceLE, Int.reduceEq, Int.reduceAdd, Int.reduceNeg, if_false, if_true, reduceIte, List.getElem?_cons_succ, List.getElem?_cons_zero, Option.getD_some, r_mv, r_pick, r_box, r_alloc, r_un, r_eqb, r_ext, r_mkf, r_cnv, r_st, r_nck, r_ix, r_iaa, takeN, List.cons_append, List.nil_append, VE.store, over, cellsAt, VE.part, Option.map_some, Option.bind_some, blkX, gEval, cond_true, cond_false, r_build, r_bsl, fill, VE.unOp, r_bin, List.drop_zero, List.drop_succ_cons, resOf, resVs, resV, List.length_cons, List.length_nil, reduceCtorEq, or_true, true_or, false_or, or_false, eq_self, exists_eq_left', Option.some.injEq, encA, w1, w2, q1', q2', rep9, eq9z, q3', eq2, q4, ← e, frzB]
  have q4' := eq_true q4
  by_cases q5 : x.own = zB
  case neg =>
    have e := no _ q5 (fun q => (sameA_z.1 q).2.2.2.2.1)
    simp only [↓zp, zz, true_and, and_true, chkOk, Nat.reduceEqDiff, Nat.reduceAdd, Nat.reduceSub, Nat.reduceMul, Nat.reduceLT, Nat.reduceLeDiff, Int.reduceLT, Int.reduceLE, Int.reduceEq, Int.reduceAdd, Int.reduceNeg, if_false, if_true, reduceIte, List.getElem?_cons_succ, List.getElem?_cons_zero, Option.getD_some, r_mv, r_pick, r_box, r_alloc, r_un, r_eqb, r_ext, r_mkf, r_cnv, r_st, r_nck, r_ix, r_iaa, takeN, List.cons_append, List.nil_append, VE.store, over, cellsAt, VE.part, Option.map_some, Option.bind_some, blkX, gEval, cond_true, cond_false, r_build, r_bsl, fill, VE.unOp, r_bin, List.drop_zero, List.drop_succ_cons, resOf, resVs, resV, List.length_cons, List.length_nil, reduceCtorEq, or_true, true_or, false_or, or_false, eq_self, exists_eq_left', Option.some.injEq, encA, w1, w2, q1', q2', rep9, eq9z, q3', eq2, q4', eqBz, q5, ← e, frzB]
  have q5' := eq_true q5
  by_cases q6 : x.n0 = 0 ∧ x.n1 = 0 ∧ x.n2 = 0
  case neg =>
    have e := no _ q6 (fun q => (sameA_z.1 q).2.2.2.2.2)
    simp only [↓zp, zz, true_and, and_true, chkOk, Nat.reduceEqDiff, Nat.reduceAdd, Nat.reduceSub, Nat.reduceMul, Nat.reduceLT, Nat.reduceLeDiff, Int.reduceLT, Int.reduceLE, Int.reduceEq, Int.reduceAdd, Int.reduceNeg, if_false, if_true, reduceIte, List.getElem?_cons_succ, List.getElem?_cons_zero, Option.getD_some, r_mv, r_pick, r_box, r_alloc, r_un, r_eqb, r_ext, r_mkf, r_cnv, r_st, r_nck, r_ix, r_iaa, takeN, List.cons_append, List.nil_append, VE.store, over, cellsAt, VE.part, Option.map_some, Option.bind_some, blkX, gEval, cond_true, cond_false, r_build, r_bsl, fill, VE.unOp, r_bin, List.drop_zero, List.drop_succ_cons, resOf, resVs, resV, List.length_cons, List.length_nil, reduceCtorEq, or_true, true_or, false_or, or_false, eq_self, exists_eq_left', Option.some.injEq, encA, w1, w2, q1', q2', rep9, eq9z, q3', eq2, q4', eqBz, q5', eq3, q6, ← e, frzB]
  have q6' := eq_true q6
  have e : SameA x zA := sameA_z.2 ⟨by omega, q2, q3, q4, q5, q6⟩
  simp only [↓zp, zz, true_and, and_true, chkOk, Nat.reduceEqDiff, Nat.reduceAdd, Nat.reduceSub, Nat.reduceMul, Nat.reduceLT, Nat.reduceLeDiff, Int.reduceLT, Int.reduceLE, Int.reduceEq, Int.reduceAdd, Int.reduceNeg, if_false, if_true, reduceIte, List.getElem?_cons_succ, List.getElem?_cons_zero, Option.getD_some, r_mv, r_pick, r_box, r_alloc, r_un, r_eqb, r_ext, r_mkf, r_cnv, r_st, r_nck, r_ix, r_iaa, takeN, List.cons_append, List.nil_append, VE.store, over, cellsAt, VE.part, Option.map_some, Option.bind_some, blkX, gEval, cond_true, cond_false, r_build, r_bsl, fill, VE.unOp, r_bin, List.drop_zero, List.drop_succ_cons, resOf, resVs, resV, List.length_cons, List.length_nil, reduceCtorEq, or_true, true_or, false_or, or_false, eq_self, exists_eq_left', Option.some.injEq, encA, w1, w2, q1', q2', rep9, eq9z, q3', eq2, q4', eqBz, q5', eq3, q6', e, frzB]
theorem fnlate_spec {f : Nat} (hf : vp f = some B_model_Check_fn2) (x : Held) (now : Int) (b : Nat) (r : List V) (tag : Tag) (h : Heap) (hb : h.get b = .cells (.int .u64 now :: r) tag) (hlt : b < h.nx) : callRes vp f [.agg (encH x), .ptr b 0] h = some (.bool (lateH now x), h) := by
  refine res_pure hf rfl rfl (fun g hg => ?_)
  have hb' : g.get b = .cells (.int .u64 now :: r) tag := by
    rcases hg with ⟨_, q⟩ | ⟨_, _, q⟩
    · exact absurd q (by intro q; cases q)
    · rw [q, hb]
  have hne : ¬ b = g.nx := by
    rcases hg with ⟨_, q⟩ | ⟨q, _, _⟩
    · exact absurd q (by intro q; cases q)
    · omega
  unfold B_model_Check_fn2 encH lateH
  simp only [↓zp, zz, true_and, and_true, chkOk, Nat.reduceEqDiff, Nat.reduceAdd, Nat.reduceSub, Nat.reduceMul, Nat.reduceLT, Nat.reduceLeDiff, Int.reduceLT, Int.reduceLE, Int.reduceEq, Int.reduceAdd, Int.reduceNeg, if_false, if_true, reduceIte, List.getElem?_cons_succ, List.getElem?_cons_zero, Option.getD_some, r_mv, r_pick, r_box, r_alloc, r_un, r_eqb, r_ext, r_mkf, r_cnv, r_st, r_nck, r_ix, r_iaa, takeN, List.cons_append, List.nil_append, VE.store, over, cellsAt, VE.part, Option.map_some, Option.bind_some, blkX, gEval, cond_true, cond_false, r_build, r_bsl, fill, VE.unOp, r_bin, List.drop_zero, List.drop_succ_cons, resOf, resVs, resV, List.length_cons, List.length_nil, reduceCtorEq, or_true, true_or, false_or, or_false, eq_self, exists_eq_left', Option.some.injEq, hb', hne, frzB]
theorem anyH_spec {f c1 : Nat} (hf : vp f = some (B_slices_ContainsFunc_api_Held c1)) (h1 : vp c1 = some B_slices_IndexFunc_api_Held) (F : V) (q : Held → Bool) (c : Sl Held) (h : Heap) (hn : c.l.length < 4611686018427387904)
    (hq : ∀ g, hgOk h [c.v encH, F] g → ∀ g', hgOk g [c.v encH, F] g' → ∀ x ∈ c.l, callVRes vp F [.agg (encH x)] g' = some (.bool (q x), g')) : callRes vp f [c.v encH, F] h = some (.bool (c.l.any q), h) := by
  have m1 : modeOf vp c1 = some 1 := by simp [modeOf, h1, B_slices_IndexFunc_api_Held]
  refine res_pure hf rfl rfl (fun g hg => ?_)
  have e := idxH_spec h1 F q c g hn (hq g hg)
  unfold B_slices_ContainsFunc_api_Held
  simp only [↓zp, zz, true_and, and_true, chkOk, Nat.reduceEqDiff, Nat.reduceAdd, Nat.reduceSub, Nat.reduceMul, Nat.reduceLT, Nat.reduceLeDiff, Int.reduceLT, Int.reduceLE, Int.reduceEq, Int.reduceAdd, Int.reduceNeg, if_false, if_true, reduceIte, List.getElem?_cons_succ, List.getElem?_cons_zero, Option.getD_some, r_mv, r_pick, r_box, r_alloc, r_un, r_eqb, r_ext, r_mkf, r_cnv, r_st, r_nck, r_ix, r_iaa, takeN, List.cons_append, List.nil_append, VE.store, over, cellsAt, VE.part, Option.map_some, Option.bind_some, blkX, gEval, cond_true, cond_false, r_build, r_bsl, fill, VE.unOp, r_bin, List.drop_zero, List.drop_succ_cons, resOf, resVs, resV, List.length_cons, List.length_nil, reduceCtorEq, or_true, true_or, false_or, or_false, eq_self, exists_eq_left', Option.some.injEq, m1, e, fidx_any, frzB]
/-- is somebody later? (model.Check's closure over the model) -/
theorem anyLate {f c1 c2 : Nat} (hf : vp f = some (B_slices_ContainsFunc_api_Held c1)) (h1 : vp c1 = some B_slices_IndexFunc_api_Held) (h2 : vp c2 = some B_model_Check_fn2) (now : Int) (c : Sl Held) (hn : c.l.length < 4611686018427387904) (b : Nat) (r : List V) (tag : Tag) (h : Heap) (hb : h.get b = .cells (.int .u64 now :: r) tag) (hlt : b < h.nx) :
    callRes vp f [c.v encH, .fn c2 [.ptr b 0]] h = some (.bool (c.l.any (lateH now)), h) :=
  anyH_spec hf h1 _ (lateH now) c h hn (fun g hg g' hg' x _ => callVRes_fn (fnlate_spec h2 x now b r tag g' (by rw [hg_get hg', hg_get hg, hb]) (by
    rcases hg with ⟨_, q⟩ | ⟨q, _, _⟩
    · rw [iso_none] at q; cases q
    rcases hg' with ⟨_, q'⟩ | ⟨q', _, _⟩
    · rw [iso_none] at q'; cases q'
    omega)))
def inv38 (x : Acct) (now : Int) (b : Nat) (H : Heap) (m : Nat) (s : Slots) (h : Heap) : Prop :=
  ∃ k, k ≤ x.users.l.length ∧ m = x.users.l.length - k ∧ s.at 1 = .int .u64 now ∧ s.at 2 = .ptr b 0 ∧ s.at 5 = .bool (decide (now < x.own.t) || (x.users.l.take k).any (lateH now)) ∧ s.at 6 = .int .i64 (k : Int) ∧ h = H
def inv38b (x : Acct) (now : Int) (b : Nat) (H : Heap) (m : Nat) (s : Slots) (h : Heap) : Prop :=
  ∃ k, k ≤ x.ends.l.length ∧ m = x.ends.l.length - k ∧ s.at 1 = .int .u64 now ∧ s.at 2 = .ptr b 0 ∧ s.at 5 = .bool (decide (now < x.own.t) || x.users.l.any (lateH now) || (x.ends.l.take k).any (lateH now)) ∧ s.at 7 = .int .i64 (k : Int) ∧ h = H
theorem late_spec {f : Nat} (hf : vp f = some B_spigotref25_late) (x : Acct) (now : Int) (h : Heap) (n1 : x.users.l.length < 4611686018427387904) (n2 : x.ends.l.length < 4611686018427387904) : callRes vp f [.agg (encA x), .int .u64 now] h = some (.bool (lateA now x), h) := by
  refine res_pure hf rfl rfl (fun g hg => ?_)
  unfold B_spigotref25_late
  simp only [↓zp, zz, true_and, and_true, chkOk, Nat.reduceEqDiff, Nat.reduceAdd, Nat.reduceSub, Nat.reduceMul, Nat.reduceLT, Nat.reduceLeDiff, Int.reduceLT, Int.reduceLE, Int.reduceEq, Int.reduceAdd, Int.reduceNeg, if_false, if_true, reduceIte, List.getElem?_cons_succ, List.getElem?_cons_zero, Option.getD_some, r_mv, r_pick, r_box, r_alloc, r_un, r_eqb, r_ext, r_mkf, r_cnv, r_st, r_nck, r_ix, r_iaa, takeN, List.cons_append, List.nil_append, VE.store, over, cellsAt, VE.part, Option.map_some, Option.bind_some, blkX, gEval, cond_true, cond_false, r_build, r_bsl, fill, VE.unOp, r_bin, List.drop_zero, List.drop_succ_cons, resOf, resVs, resV, List.length_cons, List.length_nil, reduceCtorEq, or_true, true_or, false_or, or_false, eq_self, exists_eq_left', Option.some.injEq, encA]
  generalize hS : Tr.set _ 6 _ = S
  have b1 : Slots.at S 1 = .int .u64 now := by rw [← hS]; simp only [Slots.at_set, Nat.reduceEqDiff, if_false, if_true, reduceIte, argSlots_at, List.getElem?_cons_succ, List.getElem?_cons_zero, Option.getD_some]
  have b2 : Slots.at S 2 = .ptr g.nx 0 := by rw [← hS]; simp only [Slots.at_set, Nat.reduceEqDiff, if_false, if_true, reduceIte, argSlots_at, List.getElem?_cons_succ, List.getElem?_cons_zero, Option.getD_some]
  have b5 : Slots.at S 5 = .bool (decide (now < x.own.t) || (x.users.l.take 0).any (lateH now)) := by rw [← hS]; simp only [Slots.at_set, Nat.reduceEqDiff, if_false, if_true, reduceIte, argSlots_at, List.getElem?_cons_succ, List.getElem?_cons_zero, Option.getD_some, List.take_zero, List.any_nil, Bool.or_false]
  have b6 : Slots.at S 6 = .int .i64 ((0 : Nat) : Int) := by rw [← hS]; simp only [Slots.at_set, Nat.reduceEqDiff, if_false, if_true, reduceIte, argSlots_at, List.getElem?_cons_succ, List.getElem?_cons_zero, Option.getD_some]; rfl
  clear hS
  generalize hH : Heap.new g _ = H
  have hb : H.get g.nx = .cells (encA x) .cl := by rw [← hH, Heap.get_new, if_pos rfl]; rfl
  clear hH
  refine loop_ind (fun m s h => inv38 x now g.nx H m s h) ?_ x.users.l.length ⟨0, by omega, by omega, b1, b2, b5, b6, rfl⟩
  rintro m s h ⟨k, hk, hm, c1, c2, c5, c6, rfl⟩
  by_cases hlt : k < x.users.l.length
  case pos =>
    have hlt' : (k : Int) < (x.users.l.length : Int) := by omega
    have ws := wr_succ (k := k) (by omega)
    have ia1 : ∀ h, r_ia 7 (x.users.v encH) (.int .i64 (k : Int)) h = some (.iptr (encH x.users.l[k] ++ (x.users.l.drop (k + 1)).flatMap encH), h) := fun h => r_ia_v encH_len (by decide) hlt rfl
    have sn := any_snoc (q := lateH now) hlt
    cases q : (decide (now < x.own.t) || (x.users.l.take k).any (lateH now)) with
    | true =>
      rw [q] at c5
      simp only [↓zp, zz, true_and, and_true, chkOk, Nat.reduceEqDiff, Nat.reduceAdd, Nat.reduceSub, Nat.reduceMul, Nat.reduceLT, Nat.reduceLeDiff, Int.reduceLT, Int.reduceLE, Int.reduceEq, Int.reduceAdd, Int.reduceNeg, if_false, if_true, reduceIte, List.getElem?_cons_succ, List.getElem?_cons_zero, Option.getD_some, r_mv, r_pick, r_box, r_alloc, r_un, r_eqb, r_ext, r_mkf, r_cnv, r_st, r_nck, r_ix, r_iaa, takeN, List.cons_append, List.nil_append, VE.store, over, cellsAt, VE.part, Option.map_some, Option.bind_some, blkX, gEval, cond_true, cond_false, r_build, r_bsl, fill, VE.unOp, r_bin, List.drop_zero, List.drop_succ_cons, resOf, resVs, resV, List.length_cons, List.length_nil, reduceCtorEq, or_true, true_or, false_or, or_false, eq_self, exists_eq_left', Option.some.injEq, c1, c2, c5, c6, hb, encA, hlt', ws]
      exact ⟨_, by omega, k + 1, by omega, rfl, by simp only [Slots.at_set, Nat.reduceEqDiff, if_false, if_true, reduceIte, argSlots_at, List.getElem?_cons_succ, List.getElem?_cons_zero, Option.getD_some, c1], by simp only [Slots.at_set, Nat.reduceEqDiff, if_false, if_true, reduceIte, argSlots_at, List.getElem?_cons_succ, List.getElem?_cons_zero, Option.getD_some, c2], by simp only [Slots.at_set, Nat.reduceEqDiff, if_false, if_true, reduceIte, argSlots_at, List.getElem?_cons_succ, List.getElem?_cons_zero, Option.getD_some, sn, ← Bool.or_assoc, q, Bool.true_or], by simp only [Slots.at_set, Nat.reduceEqDiff, if_false, if_true, reduceIte, argSlots_at, List.getElem?_cons_succ, List.getElem?_cons_zero, Option.getD_some], rfl⟩
    | false =>
      rw [q] at c5
      simp only [↓zp, zz, true_and, and_true, chkOk, Nat.reduceEqDiff, Nat.reduceAdd, Nat.reduceSub, Nat.reduceMul, Nat.reduceLT, Nat.reduceLeDiff, Int.reduceLT, Int.reduceLE, Int.reduceEq, Int.reduceAdd, Int.reduceNeg, if_false, if_true, reduceIte, List.getElem?_cons_succ, List.getElem?_cons_zero, Option.getD_some, r_mv, r_pick, r_box, r_alloc, r_un, r_eqb, r_ext, r_mkf, r_cnv, r_st, r_nck, r_ix, r_iaa, takeN, List.cons_append, List.nil_append, VE.store, over, cellsAt, VE.part, Option.map_some, Option.bind_some, blkX, gEval, cond_true, cond_false, r_build, r_bsl, fill, VE.unOp, r_bin, List.drop_zero, List.drop_succ_cons, resOf, resVs, resV, List.length_cons, List.length_nil, reduceCtorEq, or_true, true_or, false_or, or_false, eq_self, exists_eq_left', Option.some.injEq, c1, c2, c5, c6, hb, encA, hlt', ws, ia1, encH]
      exact ⟨_, by omega, k + 1, by omega, rfl, by simp only [Slots.at_set, Nat.reduceEqDiff, if_false, if_true, reduceIte, argSlots_at, List.getElem?_cons_succ, List.getElem?_cons_zero, Option.getD_some, c1], by simp only [Slots.at_set, Nat.reduceEqDiff, if_false, if_true, reduceIte, argSlots_at, List.getElem?_cons_succ, List.getElem?_cons_zero, Option.getD_some, c2], by simp only [Slots.at_set, Nat.reduceEqDiff, if_false, if_true, reduceIte, argSlots_at, List.getElem?_cons_succ, List.getElem?_cons_zero, Option.getD_some, sn, ← Bool.or_assoc, q, Bool.false_or]; rfl, by simp only [Slots.at_set, Nat.reduceEqDiff, if_false, if_true, reduceIte, argSlots_at, List.getElem?_cons_succ, List.getElem?_cons_zero, Option.getD_some], rfl⟩
  have hlt' : ¬ ((k : Int) < (x.users.l.length : Int)) := by omega
  obtain rfl : k = x.users.l.length := by omega
  rw [List.take_length] at c5
  simp only [↓zp, zz, true_and, and_true, chkOk, Nat.reduceEqDiff, Nat.reduceAdd, Nat.reduceSub, Nat.reduceMul, Nat.reduceLT, Nat.reduceLeDiff, Int.reduceLT, Int.reduceLE, Int.reduceEq, Int.reduceAdd, Int.reduceNeg, if_false, if_true, reduceIte, List.getElem?_cons_succ, List.getElem?_cons_zero, Option.getD_some, r_mv, r_pick, r_box, r_alloc, r_un, r_eqb, r_ext, r_mkf, r_cnv, r_st, r_nck, r_ix, r_iaa, takeN, List.cons_append, List.nil_append, VE.store, over, cellsAt, VE.part, Option.map_some, Option.bind_some, blkX, gEval, cond_true, cond_false, r_build, r_bsl, fill, VE.unOp, r_bin, List.drop_zero, List.drop_succ_cons, resOf, resVs, resV, List.length_cons, List.length_nil, reduceCtorEq, or_true, true_or, false_or, or_false, eq_self, exists_eq_left', Option.some.injEq, c1, c2, c5, c6, hb, encA, hlt']
  generalize hS : Tr.set _ 7 _ = S
  have b1 : Slots.at S 1 = .int .u64 now := by rw [← hS]; simp only [Slots.at_set, Nat.reduceEqDiff, if_false, if_true, reduceIte, argSlots_at, List.getElem?_cons_succ, List.getElem?_cons_zero, Option.getD_some, c1]
  have b2 : Slots.at S 2 = .ptr g.nx 0 := by rw [← hS]; simp only [Slots.at_set, Nat.reduceEqDiff, if_false, if_true, reduceIte, argSlots_at, List.getElem?_cons_succ, List.getElem?_cons_zero, Option.getD_some, c2]
  have b5 : Slots.at S 5 = .bool (decide (now < x.own.t) || x.users.l.any (lateH now) || (x.ends.l.take 0).any (lateH now)) := by rw [← hS]; simp only [Slots.at_set, Nat.reduceEqDiff, if_false, if_true, reduceIte, argSlots_at, List.getElem?_cons_succ, List.getElem?_cons_zero, Option.getD_some, c5, List.take_zero, List.any_nil, Bool.or_false]
  have b7 : Slots.at S 7 = .int .i64 ((0 : Nat) : Int) := by rw [← hS]; simp only [Slots.at_set, Nat.reduceEqDiff, if_false, if_true, reduceIte, argSlots_at, List.getElem?_cons_succ, List.getElem?_cons_zero, Option.getD_some]; rfl
  clear hS
  refine loop_ind (fun m s h' => inv38b x now g.nx h m s h') ?_ x.ends.l.length ⟨0, by omega, by omega, b1, b2, b5, b7, rfl⟩
  rintro m s h ⟨k, hk, hm, c1, c2, c5, c7, rfl⟩
  by_cases hlt : k < x.ends.l.length
  case neg =>
    have hlt' : ¬ ((k : Int) < (x.ends.l.length : Int)) := by omega
    obtain rfl : k = x.ends.l.length := by omega
    rw [List.take_length] at c5
    simp only [↓zp, zz, true_and, and_true, chkOk, Nat.reduceEqDiff, Nat.reduceAdd, Nat.reduceSub, Nat.reduceMul, Nat.reduceLT, Nat.reduceLeDiff, Int.reduceLT, Int.reduceLE, Int.reduceEq, Int.reduceAdd, Int.reduceNeg, if_false, if_true, reduceIte, List.getElem?_cons_succ, List.getElem?_cons_zero, Option.getD_some, r_mv, r_pick, r_box, r_alloc, r_un, r_eqb, r_ext, r_mkf, r_cnv, r_st, r_nck, r_ix, r_iaa, takeN, List.cons_append, List.nil_append, VE.store, over, cellsAt, VE.part, Option.map_some, Option.bind_some, blkX, gEval, cond_true, cond_false, r_build, r_bsl, fill, VE.unOp, r_bin, List.drop_zero, List.drop_succ_cons, resOf, resVs, resV, List.length_cons, List.length_nil, reduceCtorEq, or_true, true_or, false_or, or_false, eq_self, exists_eq_left', Option.some.injEq, c1, c2, c5, c7, hb, encA, hlt', frzB, lateA]
  have hlt' : (k : Int) < (x.ends.l.length : Int) := by omega
  have ws := wr_succ (k := k) (by omega)
  have ia1 : ∀ h, r_ia 7 (x.ends.v encH) (.int .i64 (k : Int)) h = some (.iptr (encH x.ends.l[k] ++ (x.ends.l.drop (k + 1)).flatMap encH), h) := fun h => r_ia_v encH_len (by decide) hlt rfl
  have sn := any_snoc (q := lateH now) hlt
  cases q : (decide (now < x.own.t) || x.users.l.any (lateH now) || (x.ends.l.take k).any (lateH now)) with
  | true =>
    rw [q] at c5
    simp only [↓zp, zz, true_and, and_true, chkOk, Nat.reduceEqDiff, Nat.reduceAdd, Nat.reduceSub, Nat.reduceMul, Nat.reduceLT, Nat.reduceLeDiff, Int.reduceLT, Int.reduceLE, Int.reduceEq, Int.reduceAdd, Int.reduceNeg, if_false, if_true, reduceIte, List.getElem?_cons_succ, List.getElem?_cons_zero, Option.getD_some, r_mv, r_pick, r_box, r_alloc, r_un, r_eqb, r_ext, r_mkf, r_cnv, r_st, r_nck, r_ix, r_iaa, takeN, List.cons_append, List.nil_append, VE.store, over, cellsAt, VE.part, Option.map_some, Option.bind_some, blkX, gEval, cond_true, cond_false, r_build, r_bsl, fill, VE.unOp, r_bin, List.drop_zero, List.drop_succ_cons, resOf, resVs, resV, List.length_cons, List.length_nil, reduceCtorEq, or_true, true_or, false_or, or_false, eq_self, exists_eq_left', Option.some.injEq, c1, c2, c5, c7, hb, encA, hlt', ws]
    exact ⟨_, by omega, k + 1, by omega, rfl, by simp only [Slots.at_set, Nat.reduceEqDiff, if_false, if_true, reduceIte, argSlots_at, List.getElem?_cons_succ, List.getElem?_cons_zero, Option.getD_some, c1], by simp only [Slots.at_set, Nat.reduceEqDiff, if_false, if_true, reduceIte, argSlots_at, List.getElem?_cons_succ, List.getElem?_cons_zero, Option.getD_some, c2], by simp only [Slots.at_set, Nat.reduceEqDiff, if_false, if_true, reduceIte, argSlots_at, List.getElem?_cons_succ, List.getElem?_cons_zero, Option.getD_some, sn, ← Bool.or_assoc, q, Bool.true_or], by simp only [Slots.at_set, Nat.reduceEqDiff, if_false, if_true, reduceIte, argSlots_at, List.getElem?_cons_succ, List.getElem?_cons_zero, Option.getD_some], rfl⟩
  | false =>
    rw [q] at c5
    simp only [↓zp, zz, true_and, and_true, chkOk, Nat.reduceEqDiff, Nat.reduceAdd, Nat.reduceSub, Nat.reduceMul, Nat.reduceLT, Nat.reduceLeDiff, Int.reduceLT, Int.reduceLE, Int.reduceEq, Int.reduceAdd, Int.reduceNeg, if_false, if_true, reduceIte, List.getElem?_cons_succ, List.getElem?_cons_zero, Option.getD_some, r_mv, r_pick, r_box, r_alloc, r_un, r_eqb, r_ext, r_mkf, r_cnv, r_st, r_nck, r_ix, r_iaa, takeN, List.cons_append, List.nil_append, VE.store, over, cellsAt, VE.part, Option.map_some, Option.bind_some, blkX, gEval, cond_true, cond_false, r_build, r_bsl, fill, VE.unOp, r_bin, List.drop_zero, List.drop_succ_cons, resOf, resVs, resV, List.length_cons, List.length_nil, reduceCtorEq, or_true, true_or, false_or, or_false, eq_self, exists_eq_left', Option.some.injEq, c1, c2, c5, c7, hb, encA, hlt', ws, ia1, encH]
    exact ⟨_, by omega, k + 1, by omega, rfl, by simp only [Slots.at_set, Nat.reduceEqDiff, if_false, if_true, reduceIte, argSlots_at, List.getElem?_cons_succ, List.getElem?_cons_zero, Option.getD_some, c1], by simp only [Slots.at_set, Nat.reduceEqDiff, if_false, if_true, reduceIte, argSlots_at, List.getElem?_cons_succ, List.getElem?_cons_zero, Option.getD_some, c2], by simp only [Slots.at_set, Nat.reduceEqDiff, if_false, if_true, reduceIte, argSlots_at, List.getElem?_cons_succ, List.getElem?_cons_zero, Option.getD_some, sn, ← Bool.or_assoc, q, Bool.false_or]; rfl, by simp only [Slots.at_set, Nat.reduceEqDiff, if_false, if_true, reduceIte, argSlots_at, List.getElem?_cons_succ, List.getElem?_cons_zero, Option.getD_some], rfl⟩
end
end Go.VE.LB
