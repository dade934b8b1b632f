/- What the functions of the law DifferChecks compute, on typed arguments (part 13). -/
import Derived.Test.YtlomleifnbpghabDifferChecksA12
import Derived.Test.YtlomleifnbpghabDifferChecksA8
set_option linter.all false
namespace Go.VE.LB
open Go Go.VE Classical
set_option maxRecDepth 100000
set_option maxHeartbeats 4000000
set_option linter.all false
theorem take1 (x : Int) (r : List V) : takeN 1 (e32 x ++ r) = some (e32 x) := rfl
def encM (now : Int) (sd ep : List Int) (v : V) : List V := .int .u64 now :: (sd.map (V.int .u8) ++ (ep.map (V.int .u32) ++ [v]))
section
variable {now : Int} {sd ep : List Int} {v : V}
theorem M_len (h1 : sd.length = 32) (h2 : ep.length = 16) : (encM now sd ep v).length = 50 := by simp [encM, h1, h2]
theorem M33 (h1 : sd.length = 32) : (encM now sd ep v).drop 33 = ep.map (V.int .u32) ++ [v] := by
  show (sd.map (V.int .u8) ++ _).drop 32 = _
  rw [List.drop_append, List.drop_eq_nil_of_le (by simp; omega)]
  simp [h1]
theorem M49 (h1 : sd.length = 32) (h2 : ep.length = 16) : (encM now sd ep v).drop 49 = [v] := by
  have e : (encM now sd ep v).drop 49 = ((encM now sd ep v).drop 33).drop 16 := by rw [List.drop_drop]
  rw [e, M33 h1, List.drop_append, List.drop_eq_nil_of_le (by simp; omega)]
  simp [h2]
theorem Mk (h1 : sd.length = 32) {k : Nat} (hk : k < ep.length) : (encM now sd ep v).drop (33 + k * 1) = .int .u32 ep[k] :: ((ep.drop (k + 1)).map (V.int .u32) ++ [v]) := by
  have e : (encM now sd ep v).drop (33 + k * 1) = ((encM now sd ep v).drop 33).drop k := by rw [List.drop_drop, Nat.mul_one]
  rw [e, M33 h1, List.drop_append_of_le_length (by simp; omega), ← List.map_drop, List.drop_eq_getElem_cons hk]
  rfl
end
theorem map_flat (l : List Int) : l.map (V.int .u32) = l.flatMap e32 := by
  induction l with
  | nil => rfl
  | cons x l ih => simp [e32, ih]
section
variable {vp : Nat → Option VFn}
def invI (F : V) (q : Int → Bool) (v : V) (l : List Int) (H : Heap) (m : Nat) (s : Slots) (h : Heap) : Prop :=
  ∃ k, k ≤ l.length ∧ m = l.length - k ∧ s.at 0 = v ∧ s.at 1 = F ∧ s.at 7 = .int .i64 (l.length : Int) ∧ s.at 8 = .int .i64 (k : Int) ∧ h = H ∧ ∀ j (hj : j < l.length), j < k → q l[j] = false
theorem idx32_spec {f : Nat} (hf : vp f = some B_slices_IndexFunc_uint32) (F : V) (q : Int → Bool) (v : V) (l : List Int) (h : Heap) (hv : Rd e32 1 h v l) (hi : ∀ b o n c, isoArgs 1 [.sl b o n c 1, F] = none) (hn : l.length < 4611686018427387904)
    (hq : ∀ g x, callVRes vp F [.int .u32 x] g = some (.bool (q x), g)) : callRes vp f [v, F] h = some (.int .i64 (fidx q l), h) := by
  refine res_pure hf rfl rfl (fun g hg => ?_)
  have hv := hv.enter (A := fun v => [v, F]) hg hi
  have ln := hv.len
  unfold B_slices_IndexFunc_uint32
  simp only [↓zp, zz, true_and, and_true, chkOk, Nat.reduceEqDiff, Nat.reduceAdd, Nat.reduceSub, Nat.reduceMul, Nat.reduceLT, Nat.reduceLeDiff, Int.reduceLT, Int.reduceLE, Int.reduceEq, Int.reduceAdd, Int.reduceNeg, if_false, if_true, reduceIte, List.getElem?_cons_succ, List.getElem?_cons_zero, Option.getD_some, r_mv, r_pick, r_box, r_alloc, r_un, r_eqb, r_ext, r_mkf, r_cnv, r_st, r_nck, r_ix, r_iaa, takeN, List.cons_append, List.nil_append, VE.store, over, cellsAt, VE.part, Option.map_some, Option.bind_some, blkX, gEval, cond_true, cond_false, r_build, r_bsl, fill, VE.unOp, r_bin, List.drop_zero, List.drop_succ_cons, resOf, resVs, resV, List.length_cons, List.length_nil, reduceCtorEq, or_true, true_or, false_or, or_false, eq_self, exists_eq_left', Option.some.injEq, ln]
  generalize hS : Tr.set _ 8 _ = S
  have b0 : Slots.at S 0 = v := by rw [← hS]; simp only [Slots.at_set, Nat.reduceEqDiff, if_false, if_true, reduceIte, argSlots_at, List.getElem?_cons_succ, List.getElem?_cons_zero, Option.getD_some]
  have b1 : Slots.at S 1 = F := by rw [← hS]; simp only [Slots.at_set, Nat.reduceEqDiff, if_false, if_true, reduceIte, argSlots_at, List.getElem?_cons_succ, List.getElem?_cons_zero, Option.getD_some]
  have b7 : Slots.at S 7 = .int .i64 (l.length : Int) := by rw [← hS]; simp only [Slots.at_set, Nat.reduceEqDiff, if_false, if_true, reduceIte, argSlots_at, List.getElem?_cons_succ, List.getElem?_cons_zero, Option.getD_some]
  have b8 : Slots.at S 8 = .int .i64 ((0 : Nat) : Int) := by rw [← hS]; simp only [Slots.at_set, Nat.reduceEqDiff, if_false, if_true, reduceIte, argSlots_at, List.getElem?_cons_succ, List.getElem?_cons_zero, Option.getD_some]; rfl
  clear hS
  refine loop_ind (fun m s h => invI F q v l g m s h) ?_ l.length ⟨0, by omega, by omega, b0, b1, b7, b8, rfl, fun j _ hj => by omega⟩
  rintro m s h ⟨k, hk, hm, c0, c1, c7, c8, rfl, hinc⟩
  by_cases hlt : k < l.length
  case neg =>
    have hlt' : ¬ ((k : Int) < (l.length : Int)) := by omega
    have e := fidx_none (q := q) (l := l) (fun j hj => hinc j hj (by omega))
    simp only [↓zp, zz, true_and, and_true, chkOk, Nat.reduceEqDiff, Nat.reduceAdd, Nat.reduceSub, Nat.reduceMul, Nat.reduceLT, Nat.reduceLeDiff, Int.reduceLT, Int.reduceLE, Int.reduceEq, Int.reduceAdd, Int.reduceNeg, if_false, if_true, reduceIte, List.getElem?_cons_succ, List.getElem?_cons_zero, Option.getD_some, r_mv, r_pick, r_box, r_alloc, r_un, r_eqb, r_ext, r_mkf, r_cnv, r_st, r_nck, r_ix, r_iaa, takeN, List.cons_append, List.nil_append, VE.store, over, cellsAt, VE.part, Option.map_some, Option.bind_some, blkX, gEval, cond_true, cond_false, r_build, r_bsl, fill, VE.unOp, r_bin, List.drop_zero, List.drop_succ_cons, resOf, resVs, resV, List.length_cons, List.length_nil, reduceCtorEq, or_true, true_or, false_or, or_false, eq_self, exists_eq_left', Option.some.injEq, c0, c1, c7, c8, hlt', e, frzI]
  have hlt' : (k : Int) < (l.length : Int) := by omega
  have ws := wr_succ (k := k) (by omega)
  obtain ⟨a, ia, el⟩ := hv.ia e32_len (by decide) hlt
  have ld := El.ld1 (cs := []) el (Kp.refl h)
  have hc := hq h l[k]
  cases hqk : q l[k] with
  | true =>
    rw [hqk] at hc
    have e := fidx_at hlt hqk hinc
    simp only [↓zp, zz, true_and, and_true, chkOk, Nat.reduceEqDiff, Nat.reduceAdd, Nat.reduceSub, Nat.reduceMul, Nat.reduceLT, Nat.reduceLeDiff, Int.reduceLT, Int.reduceLE, Int.reduceEq, Int.reduceAdd, Int.reduceNeg, if_false, if_true, reduceIte, List.getElem?_cons_succ, List.getElem?_cons_zero, Option.getD_some, r_mv, r_pick, r_box, r_alloc, r_un, r_eqb, r_ext, r_mkf, r_cnv, r_st, r_nck, r_ix, r_iaa, takeN, List.cons_append, List.nil_append, VE.store, over, cellsAt, VE.part, Option.map_some, Option.bind_some, blkX, gEval, cond_true, cond_false, r_build, r_bsl, fill, VE.unOp, r_bin, List.drop_zero, List.drop_succ_cons, resOf, resVs, resV, List.length_cons, List.length_nil, reduceCtorEq, or_true, true_or, false_or, or_false, eq_self, exists_eq_left', Option.some.injEq, c0, c1, c7, c8, hlt', ia, ld, hc, e, frzI]
  | false =>
    rw [hqk] at hc
    simp only [↓zp, zz, true_and, and_true, chkOk, Nat.reduceEqDiff, Nat.reduceAdd, Nat.reduceSub, Nat.reduceMul, Nat.reduceLT, Nat.reduceLeDiff, Int.reduceLT, Int.reduceLE, Int.reduceEq, Int.reduceAdd, Int.reduceNeg, if_false, if_true, reduceIte, List.getElem?_cons_succ, List.getElem?_cons_zero, Option.getD_some, r_mv, r_pick, r_box, r_alloc, r_un, r_eqb, r_ext, r_mkf, r_cnv, r_st, r_nck, r_ix, r_iaa, takeN, List.cons_append, List.nil_append, VE.store, over, cellsAt, VE.part, Option.map_some, Option.bind_some, blkX, gEval, cond_true, cond_false, r_build, r_bsl, fill, VE.unOp, r_bin, List.drop_zero, List.drop_succ_cons, resOf, resVs, resV, List.length_cons, List.length_nil, reduceCtorEq, or_true, true_or, false_or, or_false, eq_self, exists_eq_left', Option.some.injEq, c0, c1, c7, c8, hlt', ia, ld, hc, ws]
    refine ⟨_, by omega, k + 1, by omega, rfl, by simp only [Slots.at_set, Nat.reduceEqDiff, if_false, if_true, reduceIte, argSlots_at, List.getElem?_cons_succ, List.getElem?_cons_zero, Option.getD_some, c0], by simp only [Slots.at_set, Nat.reduceEqDiff, if_false, if_true, reduceIte, argSlots_at, List.getElem?_cons_succ, List.getElem?_cons_zero, Option.getD_some, c1], by simp only [Slots.at_set, Nat.reduceEqDiff, if_false, if_true, reduceIte, argSlots_at, List.getElem?_cons_succ, List.getElem?_cons_zero, Option.getD_some, c7], by simp only [Slots.at_set, Nat.reduceEqDiff, if_false, if_true, reduceIte, argSlots_at, List.getElem?_cons_succ, List.getElem?_cons_zero, Option.getD_some], rfl, fun j hj hj2 => ?_⟩
    rcases Nat.lt_or_ge j k with r | r
    · exact hinc j hj r
    · have : j = k := by omega
      subst this
      exact hqk
theorem any32_spec {f c1 : Nat} (hf : vp f = some (B_slices_ContainsFunc_uint32 c1)) (h1 : vp c1 = some B_slices_IndexFunc_uint32) (F : V) (q : Int → Bool) (v : V) (l : List Int) (h : Heap) (hv : Rd e32 1 h v l) (hi : ∀ b o n c, isoArgs 1 [.sl b o n c 1, F] = none) (hn : l.length < 4611686018427387904)
    (hq : ∀ g x, callVRes vp F [.int .u32 x] g = some (.bool (q x), g)) : callRes vp f [v, F] h = some (.bool (l.any q), h) := by
  have m1 : modeOf vp c1 = some 1 := by simp [modeOf, h1, B_slices_IndexFunc_uint32]
  refine res_pure hf rfl rfl (fun g hg => ?_)
  have hv := hv.enter (A := fun v => [v, F]) hg hi
  have e := idx32_spec h1 F q v l g hv hi hn hq
  unfold B_slices_ContainsFunc_uint32
  simp only [↓zp, zz, true_and, and_true, chkOk, Nat.reduceEqDiff, Nat.reduceAdd, Nat.reduceSub, Nat.reduceMul, Nat.reduceLT, Nat.reduceLeDiff, Int.reduceLT, Int.reduceLE, Int.reduceEq, Int.reduceAdd, Int.reduceNeg, if_false, if_true, reduceIte, List.getElem?_cons_succ, List.getElem?_cons_zero, Option.getD_some, r_mv, r_pick, r_box, r_alloc, r_un, r_eqb, r_ext, r_mkf, r_cnv, r_st, r_nck, r_ix, r_iaa, takeN, List.cons_append, List.nil_append, VE.store, over, cellsAt, VE.part, Option.map_some, Option.bind_some, blkX, gEval, cond_true, cond_false, r_build, r_bsl, fill, VE.unOp, r_bin, List.drop_zero, List.drop_succ_cons, resOf, resVs, resV, List.length_cons, List.length_nil, reduceCtorEq, or_true, true_or, false_or, or_false, eq_self, exists_eq_left', Option.some.injEq, m1, e, fidx_any, frzB]
def bigE (x : Int) : Bool := decide (1000000 < x)
theorem fnbig_spec {f : Nat} (hf : vp f = some B_model_Check_fn1) (x : Int) (h : Heap) : callRes vp f [.int .u32 x] h = some (.bool (bigE x), h) := by
  refine res_pure hf rfl rfl (fun g hg => ?_)
  unfold B_model_Check_fn1 bigE
  simp only [↓zp, zz, true_and, and_true, chkOk, Nat.reduceEqDiff, Nat.reduceAdd, Nat.reduceSub, Nat.reduceMul, Nat.reduceLT, Nat.reduceLeDiff, Int.reduceLT, Int.reduceLE, Int.reduceEq, Int.reduceAdd, Int.reduceNeg, if_false, if_true, reduceIte, List.getElem?_cons_succ, List.getElem?_cons_zero, Option.getD_some, r_mv, r_pick, r_box, r_alloc, r_un, r_eqb, r_ext, r_mkf, r_cnv, r_st, r_nck, r_ix, r_iaa, takeN, List.cons_append, List.nil_append, VE.store, over, cellsAt, VE.part, Option.map_some, Option.bind_some, blkX, gEval, cond_true, cond_false, r_build, r_bsl, fill, VE.unOp, r_bin, List.drop_zero, List.drop_succ_cons, resOf, resVs, resV, List.length_cons, List.length_nil, reduceCtorEq, or_true, true_or, false_or, or_false, eq_self, exists_eq_left', Option.some.injEq, frzB]
structure MOk (now : Int) (ep : List Int) (l : List Acct) : Prop where
  len : ¬ 8 < (l.length : Int)
  ep : ep.any bigE = false
  ok : ∀ k (h : k < l.length), AOk l[k]
  late : ∀ k (h : k < l.length), lateA now l[k] = false
  inc : ∀ k (h : k + 1 < l.length), ¬ l[k + 1].t ≤ l[k].t
def inv30 (now : Int) (ep : List Int) (v : V) (l : List Acct) (b : Nat) (H : Heap) (m : Nat) (s : Slots) (h : Heap) : Prop :=
  ∃ k, k ≤ l.length ∧ m = l.length - k ∧ s.at 1 = .ptr b 0 ∧ s.at 3 = .int .i64 (k : Int) ∧ h = H ∧ (∀ j (hj : j < l.length), j < k → AOk l[j] ∧ lateA now l[j] = false) ∧ ∀ j (hj : j + 1 < l.length), j + 1 < k → ¬ l[j + 1].t ≤ l[j].t
def inv30b (ep : List Int) (b : Nat) (H : Heap) (m : Nat) (s : Slots) (h : Heap) : Prop :=
  ∃ k, k ≤ 16 ∧ m = 16 - k ∧ s.at 1 = .ptr b 0 ∧ s.at 4 = .int .i64 (k : Int) ∧ h = H ∧ ∀ j (hj : j < ep.length), j < k → bigE ep[j] = false
theorem rcheck_spec {f c1 c2 c3 c4 c5 c6 : Nat} (hf : vp f = some (B_spigotref25_Check c1 c2)) (h1 : vp c1 = some (B_spigotref25_Valid c3 c4 c5)) (h2 : vp c2 = some B_spigotref25_late) (h3 : vp c3 = some B_spigotref03_CheckLimit) (h4 : vp c4 = some (B_spigotref03_Check c3)) (h5 : vp c5 = some (B_spigotref25_held c6 c4)) (h6 : vp c6 = some B_spigotref25_At)
    (now : Int) (sd ep : List Int) (hsd : sd.length = 32) (hep : ep.length = 16) (v : V) (l : List Acct) (h : Heap) (hv : Rd encA 24 h v l) (hone : oneCell v = true) (hi : ∀ b o n c, isoArgs 1 [.agg (encM now sd ep (.sl b o n c 24))] = none) (sm : ∀ x ∈ l, Small x) (hn : l.length < 4611686018427387904) :
    callRes vp f [.agg (encM now sd ep v)] h = some (.int .i64 (if MOk now ep l then 0 else 8), h) := by
  have m1 : modeOf vp c1 = some 1 := by simp [modeOf, h1, B_spigotref25_Valid]
  have m2 : modeOf vp c2 = some 1 := by simp [modeOf, h2, B_spigotref25_late]
  refine res_pure hf rfl rfl (fun g hg => ?_)
  have hv := hv.enter (A := fun v => [.agg (encM now sd ep v)]) hg hi
  have no : ∀ (P : Prop), ¬ P → (MOk now ep l → P) → (.int .i64 8 : V) = .int .i64 (if MOk now ep l then 0 else 8) := fun P hn hv => by
    rw [if_neg (fun q => hn (hv q))]
  obtain ⟨R, er⟩ : ∃ R, encM now sd ep v = .int .u64 now :: R := ⟨_, rfl⟩
  have lM := M_len (now := now) (v := v) hsd hep
  have d49 := M49 (now := now) (v := v) hsd hep
  have d33 := M33 (now := now) (ep := ep) (v := v) hsd
  have dk := fun (k : Nat) hk => Mk (now := now) (v := v) hsd (ep := ep) (k := k) hk
  rw [er] at lM d49 d33 hg ⊢
  simp only [er] at dk
  simp only [List.length_cons, List.drop_succ_cons, Nat.add_right_cancel_iff, Nat.reduceEqDiff] at lM d49 d33
  have ln := hv.len
  unfold B_spigotref25_Check
  by_cases q1 : 8 < (l.length : Int)
  · have e := no _ (not_not_intro q1) (·.len)
    simp only [↓zp, zz, true_and, and_true, chkOk, Nat.reduceEqDiff, Nat.reduceAdd, Nat.reduceSub, Nat.reduceMul, Nat.reduceLT, Nat.reduceLeDiff, Int.reduceLT, Int.reduceLE, Int.reduceEq, Int.reduceAdd, Int.reduceNeg, if_false, if_true, reduceIte, List.getElem?_cons_succ, List.getElem?_cons_zero, Option.getD_some, r_mv, r_pick, r_box, r_alloc, r_un, r_eqb, r_ext, r_mkf, r_cnv, r_st, r_nck, r_ix, r_iaa, takeN, List.cons_append, List.nil_append, VE.store, over, cellsAt, VE.part, Option.map_some, Option.bind_some, blkX, gEval, cond_true, cond_false, r_build, r_bsl, fill, VE.unOp, r_bin, List.drop_zero, List.drop_succ_cons, resOf, resVs, resV, List.length_cons, List.length_nil, reduceCtorEq, or_true, true_or, false_or, or_false, eq_self, exists_eq_left', Option.some.injEq, lM, d49, ln, q1, ← e, frzI]
  simp only [↓zp, zz, true_and, and_true, chkOk, Nat.reduceEqDiff, Nat.reduceAdd, Nat.reduceSub, Nat.reduceMul, Nat.reduceLT, Nat.reduceLeDiff, Int.reduceLT, Int.reduceLE, Int.reduceEq, Int.reduceAdd, Int.reduceNeg, if_false, if_true, reduceIte, List.getElem?_cons_succ, List.getElem?_cons_zero, Option.getD_some, r_mv, r_pick, r_box, r_alloc, r_un, r_eqb, r_ext, r_mkf, r_cnv, r_st, r_nck, r_ix, r_iaa, takeN, List.cons_append, List.nil_append, VE.store, over, cellsAt, VE.part, Option.map_some, Option.bind_some, blkX, gEval, cond_true, cond_false, r_build, r_bsl, fill, VE.unOp, r_bin, List.drop_zero, List.drop_succ_cons, resOf, resVs, resV, List.length_cons, List.length_nil, reduceCtorEq, or_true, true_or, false_or, or_false, eq_self, exists_eq_left', Option.some.injEq, lM, d49, ln, q1]
  generalize hS : Tr.set _ 3 _ = S
  have b1 : Slots.at S 1 = .ptr g.nx 0 := by rw [← hS]; simp only [Slots.at_set, Nat.reduceEqDiff, if_false, if_true, reduceIte, argSlots_at, List.getElem?_cons_succ, List.getElem?_cons_zero, Option.getD_some]
  have b3 : Slots.at S 3 = .int .i64 ((0 : Nat) : Int) := by rw [← hS]; simp only [Slots.at_set, Nat.reduceEqDiff, if_false, if_true, reduceIte, argSlots_at, List.getElem?_cons_succ, List.getElem?_cons_zero, Option.getD_some]; rfl
  clear hS
  generalize hH : Heap.new g _ = H
  have hb : H.get g.nx = .cells (.int .u64 now :: R) .cl := by rw [← hH, Heap.get_new, if_pos rfl]
  have kp : Kp g H := by rw [← hH]; exact (Kp.refl g).new _
  clear hH
  have hv := hv.keep kp
  refine loop_ind (fun m s h => inv30 now ep v l g.nx H m s h) ?_ l.length ⟨0, by omega, by omega, b1, b3, rfl, fun j _ hj => by omega, fun j _ hj => by omega⟩
  rintro m s h ⟨k, hk, hm, c1', c3', rfl, hok, hinc⟩
  by_cases hlt : k < l.length
  case neg =>
    have hlt' : ¬ ((k : Int) < (l.length : Int)) := by omega
    simp only [↓zp, zz, true_and, and_true, chkOk, Nat.reduceEqDiff, Nat.reduceAdd, Nat.reduceSub, Nat.reduceMul, Nat.reduceLT, Nat.reduceLeDiff, Int.reduceLT, Int.reduceLE, Int.reduceEq, Int.reduceAdd, Int.reduceNeg, if_false, if_true, reduceIte, List.getElem?_cons_succ, List.getElem?_cons_zero, Option.getD_some, r_mv, r_pick, r_box, r_alloc, r_un, r_eqb, r_ext, r_mkf, r_cnv, r_st, r_nck, r_ix, r_iaa, takeN, List.cons_append, List.nil_append, VE.store, over, cellsAt, VE.part, Option.map_some, Option.bind_some, blkX, gEval, cond_true, cond_false, r_build, r_bsl, fill, VE.unOp, r_bin, List.drop_zero, List.drop_succ_cons, resOf, resVs, resV, List.length_cons, List.length_nil, reduceCtorEq, or_true, true_or, false_or, or_false, eq_self, exists_eq_left', Option.some.injEq, c1', c3', hb, d49, ln, hlt']
    generalize hS : Tr.set _ 4 _ = S
    have b1 : Slots.at S 1 = .ptr g.nx 0 := by rw [← hS]; simp only [Slots.at_set, Nat.reduceEqDiff, if_false, if_true, reduceIte, argSlots_at, List.getElem?_cons_succ, List.getElem?_cons_zero, Option.getD_some, c1']
    have b4 : Slots.at S 4 = .int .i64 ((0 : Nat) : Int) := by rw [← hS]; simp only [Slots.at_set, Nat.reduceEqDiff, if_false, if_true, reduceIte, argSlots_at, List.getElem?_cons_succ, List.getElem?_cons_zero, Option.getD_some]; rfl
    clear hS
    refine loop_ind (fun m s h' => inv30b ep g.nx h m s h') ?_ 16 ⟨0, by omega, by omega, b1, b4, rfl, fun j _ hj => by omega⟩
    rintro m s h ⟨i, hi', hm', c1'', c4, rfl, hbig⟩
    by_cases hi2 : i < 16
    case neg =>
      have hi3 : ¬ ((i : Int) < 16) := by omega
      have e : MOk now ep l := ⟨q1, by
        rw [List.any_eq_false]
        intro x hx
        obtain ⟨j, hj, rfl⟩ := List.mem_iff_getElem.1 hx
        rw [hbig j hj (by omega)]
        simp, fun j hj => (hok j hj (by omega)).1, fun j hj => (hok j hj (by omega)).2, fun j hj => hinc j hj (by omega)⟩
      simp only [↓zp, zz, true_and, and_true, chkOk, Nat.reduceEqDiff, Nat.reduceAdd, Nat.reduceSub, Nat.reduceMul, Nat.reduceLT, Nat.reduceLeDiff, Int.reduceLT, Int.reduceLE, Int.reduceEq, Int.reduceAdd, Int.reduceNeg, if_false, if_true, reduceIte, List.getElem?_cons_succ, List.getElem?_cons_zero, Option.getD_some, r_mv, r_pick, r_box, r_alloc, r_un, r_eqb, r_ext, r_mkf, r_cnv, r_st, r_nck, r_ix, r_iaa, takeN, List.cons_append, List.nil_append, VE.store, over, cellsAt, VE.part, Option.map_some, Option.bind_some, blkX, gEval, cond_true, cond_false, r_build, r_bsl, fill, VE.unOp, r_bin, List.drop_zero, List.drop_succ_cons, resOf, resVs, resV, List.length_cons, List.length_nil, reduceCtorEq, or_true, true_or, false_or, or_false, eq_self, exists_eq_left', Option.some.injEq, c1'', c4, hi3, e, frzI]
    have hi3 : (i : Int) < 16 := by omega
    have ws := wr_succ (k := i) (by omega)
    have dk := dk i (by omega)
    by_cases q : 1000000 < ep[i]
    · have e := no (ep.any bigE = false) (fun q' => by
        rw [List.any_eq_false] at q'
        exact q' ep[i] (List.getElem_mem _) (by simp [bigE, q])) (·.ep)
      simp only [↓zp, zz, true_and, and_true, chkOk, Nat.reduceEqDiff, Nat.reduceAdd, Nat.reduceSub, Nat.reduceMul, Nat.reduceLT, Nat.reduceLeDiff, Int.reduceLT, Int.reduceLE, Int.reduceEq, Int.reduceAdd, Int.reduceNeg, if_false, if_true, reduceIte, List.getElem?_cons_succ, List.getElem?_cons_zero, Option.getD_some, r_mv, r_pick, r_box, r_alloc, r_un, r_eqb, r_ext, r_mkf, r_cnv, r_st, r_nck, r_ix, r_iaa, takeN, List.cons_append, List.nil_append, VE.store, over, cellsAt, VE.part, Option.map_some, Option.bind_some, blkX, gEval, cond_true, cond_false, r_build, r_bsl, fill, VE.unOp, r_bin, List.drop_zero, List.drop_succ_cons, resOf, resVs, resV, List.length_cons, List.length_nil, reduceCtorEq, or_true, true_or, false_or, or_false, eq_self, exists_eq_left', Option.some.injEq, c1'', c4, hi3, hi2, hb, d33, dk, q, ← e, frzI]
    · simp only [↓zp, zz, true_and, and_true, chkOk, Nat.reduceEqDiff, Nat.reduceAdd, Nat.reduceSub, Nat.reduceMul, Nat.reduceLT, Nat.reduceLeDiff, Int.reduceLT, Int.reduceLE, Int.reduceEq, Int.reduceAdd, Int.reduceNeg, if_false, if_true, reduceIte, List.getElem?_cons_succ, List.getElem?_cons_zero, Option.getD_some, r_mv, r_pick, r_box, r_alloc, r_un, r_eqb, r_ext, r_mkf, r_cnv, r_st, r_nck, r_ix, r_iaa, takeN, List.cons_append, List.nil_append, VE.store, over, cellsAt, VE.part, Option.map_some, Option.bind_some, blkX, gEval, cond_true, cond_false, r_build, r_bsl, fill, VE.unOp, r_bin, List.drop_zero, List.drop_succ_cons, resOf, resVs, resV, List.length_cons, List.length_nil, reduceCtorEq, or_true, true_or, false_or, or_false, eq_self, exists_eq_left', Option.some.injEq, c1'', c4, hi3, hi2, hb, d33, dk, q, ws]
      refine ⟨_, by omega, i + 1, by omega, rfl, by simp only [Slots.at_set, Nat.reduceEqDiff, if_false, if_true, reduceIte, argSlots_at, List.getElem?_cons_succ, List.getElem?_cons_zero, Option.getD_some, c1''], by simp only [Slots.at_set, Nat.reduceEqDiff, if_false, if_true, reduceIte, argSlots_at, List.getElem?_cons_succ, List.getElem?_cons_zero, Option.getD_some], rfl, fun j hj hj2 => ?_⟩
      rcases Nat.lt_or_ge j i with r | r
      · exact hbig j hj r
      · have : j = i := by omega
        subst this
        simp [bigE, q]
  have hlt' : (k : Int) < (l.length : Int) := by omega
  have ws := wr_succ (k := k) (by omega)
  obtain ⟨a, ia, el⟩ := hv.ia encA_len (by decide) hlt
  have ld := El.ld el (Kp.refl h) (encA_len l[k])
  have vs := fun h => Valid_spec h1 h3 h4 h5 h6 l[k] (sm _ (List.getElem_mem hlt)) h
  have ls := fun h => late_spec h2 l[k] now h (sm _ (List.getElem_mem hlt)).u (sm _ (List.getElem_mem hlt)).e
  by_cases q2 : AOk l[k]
  case neg =>
    have e := no _ q2 (·.ok k hlt)
    simp only [↓zp, zz, true_and, and_true, chkOk, Nat.reduceEqDiff, Nat.reduceAdd, Nat.reduceSub, Nat.reduceMul, Nat.reduceLT, Nat.reduceLeDiff, Int.reduceLT, Int.reduceLE, Int.reduceEq, Int.reduceAdd, Int.reduceNeg, if_false, if_true, reduceIte, List.getElem?_cons_succ, List.getElem?_cons_zero, Option.getD_some, r_mv, r_pick, r_box, r_alloc, r_un, r_eqb, r_ext, r_mkf, r_cnv, r_st, r_nck, r_ix, r_iaa, takeN, List.cons_append, List.nil_append, VE.store, over, cellsAt, VE.part, Option.map_some, Option.bind_some, blkX, gEval, cond_true, cond_false, r_build, r_bsl, fill, VE.unOp, r_bin, List.drop_zero, List.drop_succ_cons, resOf, resVs, resV, List.length_cons, List.length_nil, reduceCtorEq, or_true, true_or, false_or, or_false, eq_self, exists_eq_left', Option.some.injEq, c1', c3', hb, d49, ln, hlt', ia, ld, m1, vs, q2, ← e, frzI]
  cases q3 : lateA now l[k] with
  | true =>
    have e := no (lateA now l[k] = false) (by rw [q3]; simp) (·.late k hlt)
    simp only [↓zp, zz, true_and, and_true, chkOk, Nat.reduceEqDiff, Nat.reduceAdd, Nat.reduceSub, Nat.reduceMul, Nat.reduceLT, Nat.reduceLeDiff, Int.reduceLT, Int.reduceLE, Int.reduceEq, Int.reduceAdd, Int.reduceNeg, if_false, if_true, reduceIte, List.getElem?_cons_succ, List.getElem?_cons_zero, Option.getD_some, r_mv, r_pick, r_box, r_alloc, r_un, r_eqb, r_ext, r_mkf, r_cnv, r_st, r_nck, r_ix, r_iaa, takeN, List.cons_append, List.nil_append, VE.store, over, cellsAt, VE.part, Option.map_some, Option.bind_some, blkX, gEval, cond_true, cond_false, r_build, r_bsl, fill, VE.unOp, r_bin, List.drop_zero, List.drop_succ_cons, resOf, resVs, resV, List.length_cons, List.length_nil, reduceCtorEq, or_true, true_or, false_or, or_false, eq_self, exists_eq_left', Option.some.injEq, c1', c3', hb, d49, ln, hlt', ia, ld, m1, vs, q2, m2, ls, q3, ← e, frzI]
  | false =>
  by_cases hz : 0 < k
  case neg =>
    have hz' : ¬ ((0 : Int) < (k : Int)) := by omega
    simp only [↓zp, zz, true_and, and_true, chkOk, Nat.reduceEqDiff, Nat.reduceAdd, Nat.reduceSub, Nat.reduceMul, Nat.reduceLT, Nat.reduceLeDiff, Int.reduceLT, Int.reduceLE, Int.reduceEq, Int.reduceAdd, Int.reduceNeg, if_false, if_true, reduceIte, List.getElem?_cons_succ, List.getElem?_cons_zero, Option.getD_some, r_mv, r_pick, r_box, r_alloc, r_un, r_eqb, r_ext, r_mkf, r_cnv, r_st, r_nck, r_ix, r_iaa, takeN, List.cons_append, List.nil_append, VE.store, over, cellsAt, VE.part, Option.map_some, Option.bind_some, blkX, gEval, cond_true, cond_false, r_build, r_bsl, fill, VE.unOp, r_bin, List.drop_zero, List.drop_succ_cons, resOf, resVs, resV, List.length_cons, List.length_nil, reduceCtorEq, or_true, true_or, false_or, or_false, eq_self, exists_eq_left', Option.some.injEq, c1', c3', hb, d49, ln, hlt', ia, ld, m1, vs, q2, m2, ls, q3, hz', ws]
    refine ⟨_, by omega, k + 1, by omega, rfl, by simp only [Slots.at_set, Nat.reduceEqDiff, if_false, if_true, reduceIte, argSlots_at, List.getElem?_cons_succ, List.getElem?_cons_zero, Option.getD_some, c1'], by simp only [Slots.at_set, Nat.reduceEqDiff, if_false, if_true, reduceIte, argSlots_at, List.getElem?_cons_succ, List.getElem?_cons_zero, Option.getD_some], rfl, fun j hj hj2 => ?_, fun j hj hj2 => by omega⟩
    obtain rfl : j = k := by omega
    exact ⟨q2, q3⟩
  have hz' : (0 : Int) < (k : Int) := by omega
  have wp := wr_pred (k := k) hz (by omega)
  obtain ⟨a2, ia2, el2⟩ := hv.ia encA_len (by decide) (k := k - 1) (by omega)
  obtain ⟨a3, fa3, el3⟩ := el2.fa (n := 0) (by omega)
  have ld3 := El.ld1 el3 (Kp.refl h)
  obtain ⟨a4, fa4, el4⟩ := el.fa (n := 0) (by omega)
  have ld4 := El.ld1 el4 (Kp.refl h)
  by_cases hle : l[k].t ≤ l[k - 1].t
  · have e := no (∀ k (h : k + 1 < l.length), ¬ l[k + 1].t ≤ l[k].t) (fun q => by have := q (k - 1) (by omega); have e1 : k - 1 + 1 = k := by omega
                                                                                  simp only [e1] at this; omega) (·.inc)
    simp only [↓zp, zz, true_and, and_true, chkOk, Nat.reduceEqDiff, Nat.reduceAdd, Nat.reduceSub, Nat.reduceMul, Nat.reduceLT, Nat.reduceLeDiff, Int.reduceLT, Int.reduceLE, Int.reduceEq, Int.reduceAdd, Int.reduceNeg, if_false, if_true, reduceIte, List.getElem?_cons_succ, List.getElem?_cons_zero, Option.getD_some, r_mv, r_pick, r_box, r_alloc, r_un, r_eqb, r_ext, r_mkf, r_cnv, r_st, r_nck, r_ix, r_iaa, takeN, List.cons_append, List.nil_append, VE.store, over, cellsAt, VE.part, Option.map_some, Option.bind_some, blkX, gEval, cond_true, cond_false, r_build, r_bsl, fill, VE.unOp, r_bin, List.drop_zero, List.drop_succ_cons, resOf, resVs, resV, List.length_cons, List.length_nil, reduceCtorEq, or_true, true_or, false_or, or_false, eq_self, exists_eq_left', Option.some.injEq, c1', c3', hb, d49, ln, hlt', ia, ld, m1, vs, q2, m2, ls, q3, hz', ws, wp, ia2, fa3, ld3, fa4, ld4, hle, ← e, frzI]
  · simp only [↓zp, zz, true_and, and_true, chkOk, Nat.reduceEqDiff, Nat.reduceAdd, Nat.reduceSub, Nat.reduceMul, Nat.reduceLT, Nat.reduceLeDiff, Int.reduceLT, Int.reduceLE, Int.reduceEq, Int.reduceAdd, Int.reduceNeg, if_false, if_true, reduceIte, List.getElem?_cons_succ, List.getElem?_cons_zero, Option.getD_some, r_mv, r_pick, r_box, r_alloc, r_un, r_eqb, r_ext, r_mkf, r_cnv, r_st, r_nck, r_ix, r_iaa, takeN, List.cons_append, List.nil_append, VE.store, over, cellsAt, VE.part, Option.map_some, Option.bind_some, blkX, gEval, cond_true, cond_false, r_build, r_bsl, fill, VE.unOp, r_bin, List.drop_zero, List.drop_succ_cons, resOf, resVs, resV, List.length_cons, List.length_nil, reduceCtorEq, or_true, true_or, false_or, or_false, eq_self, exists_eq_left', Option.some.injEq, c1', c3', hb, d49, ln, hlt', ia, ld, m1, vs, q2, m2, ls, q3, hz', ws, wp, ia2, fa3, ld3, fa4, ld4, hle]
    refine ⟨_, by omega, k + 1, by omega, rfl, by simp only [Slots.at_set, Nat.reduceEqDiff, if_false, if_true, reduceIte, argSlots_at, List.getElem?_cons_succ, List.getElem?_cons_zero, Option.getD_some, c1'], by simp only [Slots.at_set, Nat.reduceEqDiff, if_false, if_true, reduceIte, argSlots_at, List.getElem?_cons_succ, List.getElem?_cons_zero, Option.getD_some], rfl, fun j hj hj2 => ?_, fun j hj hj2 => ?_⟩
    · rcases Nat.lt_or_ge j k with r | r
      · exact hok j hj r
      · have : j = k := by omega
        subst this
        exact ⟨q2, q3⟩
    · rcases Nat.lt_or_ge (j + 1) k with r | r
      · exact hinc j hj r
      · have e1 : j = k - 1 := by omega
        subst e1
        have e2 : k - 1 + 1 = k := by omega
        simp only [e2]
        exact hle
end
end Go.VE.LB
