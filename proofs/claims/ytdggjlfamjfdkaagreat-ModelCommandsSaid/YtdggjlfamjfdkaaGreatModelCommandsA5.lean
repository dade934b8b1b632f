/- What the functions of the law ModelCommands compute, on typed arguments (part 5). -/
import Derived.Test.YtdggjlfamjfdkaaGreatModelCommandsA4
import Derived.Test.YtdggjlfamjfdkaaGreatModelCommandsA2
set_option linter.all false
namespace Go.VE.LB
section
open Go Go.VE
set_option maxRecDepth 100000
set_option linter.all false
set_option maxHeartbeats 1000000
section
variable {vp : Nat → Option VFn}
theorem res_own {f : Nat} {fn : VFn} {args : List V} {h : Heap} {P : V → Heap → Prop} (hf : vp f = some fn) (hp : fn.prim = none) (hm : fn.mode = 2)
  (w : wp vp fn.body (argSlots args) { h with lo := h.nx } fun x s' h' => (x = .norm ∨ x = .ret) ∧ ∃ v, resOf s' h' fn.res = some v ∧ P v { h' with lo := h.lo }) : ∃ v h', callRes vp f args h = some (v, h') ∧ P v h' := by
 obtain ⟨n, x, s', h', e, hx, v, hv, k⟩ := wp_sound w
 refine ⟨v, { h' with lo := h.lo }, callRes_of (n := n + 1) ?_, k⟩
 have hi : isoArgs 2 args = none := rfl
 rcases hx with rfl | rfl
 ·simp only [callF, hf, hp, hm, hi, enterH, e, hv, finish]
 ·simp only [callF, hf, hp, hm, hi, enterH, e, hv, finish]
end
def Own {α : Type} (enc : α → List V) (sz : Nat) (h : Heap) (v : V) (l : List α) (lo hi : Nat) : Prop :=
 (v = .nils ∧ l = []) ∨ ∃ b tag, v = .sl b 0 l.length l.length sz ∧ lo ≤ b ∧ b < hi ∧ h.get b = .cells (l.flatMap enc) tag
theorem Own.keep {α : Type} {enc : α → List V} {sz : Nat} {h h' : Heap} {v : V} {l : List α} {lo hi : Nat} (o : Own enc sz h v l lo hi) (k : ∀ b, lo ≤ b → b < hi → h'.get b = h.get b) : Own enc sz h' v l lo hi := by
 rcases o with o | ⟨b, tag, e, h1, h2, h3⟩
 ·exact .inl o
 ·exact .inr ⟨b, tag, e, h1, h2, by rw [k b h1 h2, h3]⟩
section
variable {α : Type} {enc : α → List V} {sz bytes : Nat}
theorem app_own (he : ∀ x, (enc x).length = sz) {b : Nat} {h : Heap} {l : List α} {cap : Option Nat} (hb : h.get b = .cells [] .cl) (hn : l.length * bytes ≤ 140737488355328) (hne : l ≠ []) :
  r_app sz bytes (.sl b 0 0 0 sz) (.isl (l.flatMap enc) l.length cap) h = some (.sl h.nx 0 l.length l.length sz, h.new (.cells (l.flatMap enc) .op)) := by
 have hr : rowOf h sz (.isl (l.flatMap enc) l.length cap) = some (l.flatMap enc) := by
  simp only [rowOf, flat_len2 he, beq_dec, decide_true, cond_true]
 have h0 : 0 < l.length := List.length_pos_iff.2 hne
 obtain ⟨n, hn'⟩ : ∃ n, l.length = n + 1 := ⟨l.length - 1, by omega⟩
 have h1 : Nat.ble (n + 1) 0 = false := by rw [ble_dec]; simp
 have h2 : Nat.blt 140737488355328 ((n + 1) * bytes) = false := by rw [blt_dec]; simp; rw [← hn']; omega
 have e1 : lenOf (.isl (l.flatMap enc) l.length cap) = some (n + 1) := by simp only [lenOf, hn']
 unfold r_app
 rw [e1, hr, hn']
 simp only [appendV, beq_dec, decide_true, cond_true, hb, h1, cond_false, h2, Nat.zero_mul, takeN, Tag.opn, Bool.false_and, List.nil_append, Nat.zero_add, tagN, h1, h2, cond_false]
theorem app_own0 {b : Nat} {h : Heap} {cap : Option Nat} : r_app sz bytes (.sl b 0 0 0 sz) (.isl [] 0 cap) h = some (.sl b 0 0 0 sz, h) := by
 simp only [r_app, lenOf, rowOf, Nat.zero_mul, List.length_nil, beq_dec, decide_true, cond_true, appendV]
theorem eqn_nils {h : Heap} : r_eqn false 1 .nils .nils h = some (.bool true, h) := rfl
theorem eqn_isl {l : List V} {n : Nat} {c : Option Nat} {h : Heap} : r_eqn false 1 (.isl l n c) .nils h = some (.bool false, h) := rfl
end
section
variable {vp : Nat → Option VFn}
theorem cloneHo_spec {f : Nat} (hf : vp f = some B_slices_Clone_api_Held_v2) (c : Sl Held) (h : Heap) (hn : c.l.length ≤ 100000) (hlo : h.lo ≤ h.nx) :
  ∃ v h', callRes vp f [c.v encH] h = some (v, h') ∧ Own encH 7 h' v c.l h.nx h'.nx ∧ Kp h h' := by
 refine res_own hf rfl rfl ?_
 unfold B_slices_Clone_api_Held_v2
 cases c with
 | nil =>
  simp only [↓zp, zz, zy, chkOk, Nat.reduceEqDiff, Nat.reduceAdd, Nat.reduceSub, Nat.reduceMul, Nat.reduceLT, Nat.reduceLeDiff, Int.reduceLT, Int.reduceLE, Int.reduceEq, Int.reduceAdd, Int.reduceNeg, reduceIte, r_st, r_nck, r_ix, r_iaa, takeN, VE.store, over, cellsAt, VE.part, blkX, gEval, fill, VE.unOp, resVs, resV, reduceCtorEq, Sl.v, eqn_nils, exists_eq_left']
  exact ⟨.inl ⟨rfl, rfl⟩, .refl h⟩
 | mk l cap =>
  by_cases hl : l = []
  ·subst hl
   simp only [↓zp, zz, zy, chkOk, Nat.reduceEqDiff, Nat.reduceAdd, Nat.reduceSub, Nat.reduceMul, Nat.reduceLT, Nat.reduceLeDiff, Int.reduceLT, Int.reduceLE, Int.reduceEq, Int.reduceAdd, Int.reduceNeg, reduceIte, r_st, r_nck, r_ix, r_iaa, takeN, VE.store, over, cellsAt, VE.part, blkX, gEval, fill, VE.unOp, resVs, resV, reduceCtorEq, Sl.v, eqn_isl, app_own0, List.flatMap_nil]
   refine ⟨.inr ⟨h.nx, .cl, rfl, by omega, by simp [Heap.new], ?_⟩, rfl, by simp [Heap.new], fun b hb => ?_⟩
   ·show ((Heap.new { h with lo := h.nx } _).get _) = _
    rw [Heap.get_new]
    exact if_pos rfl
   ·show ((Heap.new { h with lo := h.nx } _).get _) = _
    rw [Heap.get_new, if_neg (by show ¬ b = h.nx; omega)]
    rfl
  ·have hn : l.length ≤ 100000 := hn
   have ap : ∀ h : Heap, ∀ b, h.get b = .cells [] .cl → _ := fun h b hb => app_own (bytes := 56) encH_len (b := b) (h := h) (l := l) (cap := cap) hb (by omega) hl
   have ap2 := ap (Heap.new { h with lo := h.nx } (.cells [] .cl)) h.nx (by rw [Heap.get_new, if_pos rfl])
   simp only [↓zp, zz, zy, chkOk, Nat.reduceEqDiff, Nat.reduceAdd, Nat.reduceSub, Nat.reduceMul, Nat.reduceLT, Nat.reduceLeDiff, Int.reduceLT, Int.reduceLE, Int.reduceEq, Int.reduceAdd, Int.reduceNeg, reduceIte, r_st, r_nck, r_ix, r_iaa, takeN, VE.store, over, cellsAt, VE.part, blkX, gEval, fill, VE.unOp, resVs, resV, reduceCtorEq, Sl.v, eqn_isl, ap2]
   refine ⟨.inr ⟨h.nx + 1, .op, rfl, by omega, by simp [Heap.new], ?_⟩, rfl, by simp [Heap.new], fun b hb => ?_⟩
   ·show ((Heap.new (Heap.new { h with lo := h.nx } _) _).get _) = _
    rw [Heap.get_new]
    exact if_pos rfl
   ·show ((Heap.new (Heap.new { h with lo := h.nx } _) _).get _) = _
    rw [Heap.get_new, if_neg (by show ¬ b = h.nx + 1; omega), Heap.get_new, if_neg (by show ¬ b = h.nx; omega)]
    rfl
theorem cloneU_spec {f : Nat} (hf : vp f = some B_slices_Clone_uint32_v2) (c : Sl Int) (h : Heap) (hn : c.l.length ≤ 100000) (hlo : h.lo ≤ h.nx) :
  ∃ v h', callRes vp f [c.v e32] h = some (v, h') ∧ Own e32 1 h' v c.l h.nx h'.nx ∧ Kp h h' := by
 refine res_own hf rfl rfl ?_
 unfold B_slices_Clone_uint32_v2
 cases c with
 | nil =>
  simp only [↓zp, zz, zy, chkOk, Nat.reduceEqDiff, Nat.reduceAdd, Nat.reduceSub, Nat.reduceMul, Nat.reduceLT, Nat.reduceLeDiff, Int.reduceLT, Int.reduceLE, Int.reduceEq, Int.reduceAdd, Int.reduceNeg, reduceIte, r_st, r_nck, r_ix, r_iaa, takeN, VE.store, over, cellsAt, VE.part, blkX, gEval, fill, VE.unOp, resVs, resV, reduceCtorEq, Sl.v, eqn_nils, exists_eq_left']
  exact ⟨.inl ⟨rfl, rfl⟩, .refl h⟩
 | mk l cap =>
  by_cases hl : l = []
  ·subst hl
   simp only [↓zp, zz, zy, chkOk, Nat.reduceEqDiff, Nat.reduceAdd, Nat.reduceSub, Nat.reduceMul, Nat.reduceLT, Nat.reduceLeDiff, Int.reduceLT, Int.reduceLE, Int.reduceEq, Int.reduceAdd, Int.reduceNeg, reduceIte, r_st, r_nck, r_ix, r_iaa, takeN, VE.store, over, cellsAt, VE.part, blkX, gEval, fill, VE.unOp, resVs, resV, reduceCtorEq, Sl.v, eqn_isl, app_own0, List.flatMap_nil]
   refine ⟨.inr ⟨h.nx, .cl, rfl, by omega, by simp [Heap.new], ?_⟩, rfl, by simp [Heap.new], fun b hb => ?_⟩
   ·show ((Heap.new { h with lo := h.nx } _).get _) = _
    rw [Heap.get_new]
    exact if_pos rfl
   ·show ((Heap.new { h with lo := h.nx } _).get _) = _
    rw [Heap.get_new, if_neg (by show ¬ b = h.nx; omega)]
    rfl
  ·have hn : l.length ≤ 100000 := hn
   have ap : ∀ h : Heap, ∀ b, h.get b = .cells [] .cl → _ := fun h b hb => app_own (bytes := 4) e32_len (b := b) (h := h) (l := l) (cap := cap) hb (by omega) hl
   have ap2 := ap (Heap.new { h with lo := h.nx } (.cells [] .cl)) h.nx (by rw [Heap.get_new, if_pos rfl])
   simp only [↓zp, zz, zy, chkOk, Nat.reduceEqDiff, Nat.reduceAdd, Nat.reduceSub, Nat.reduceMul, Nat.reduceLT, Nat.reduceLeDiff, Int.reduceLT, Int.reduceLE, Int.reduceEq, Int.reduceAdd, Int.reduceNeg, reduceIte, r_st, r_nck, r_ix, r_iaa, takeN, VE.store, over, cellsAt, VE.part, blkX, gEval, fill, VE.unOp, resVs, resV, reduceCtorEq, Sl.v, eqn_isl, ap2]
   refine ⟨.inr ⟨h.nx + 1, .op, rfl, by omega, by simp [Heap.new], ?_⟩, rfl, by simp [Heap.new], fun b hb => ?_⟩
   ·show ((Heap.new (Heap.new { h with lo := h.nx } _) _).get _) = _
    rw [Heap.get_new]
    exact if_pos rfl
   ·show ((Heap.new (Heap.new { h with lo := h.nx } _) _).get _) = _
    rw [Heap.get_new, if_neg (by show ¬ b = h.nx + 1; omega), Heap.get_new, if_neg (by show ¬ b = h.nx; omega)]
    rfl
def isU (key : Int) (x : Int) : Bool := decide (x = key)
def invRv (key : Int) (a : Acct) (H : Heap) (m : Nat) (s : Slots) (h : Heap) : Prop :=
 ∃ k, k ≤ a.rev.l.length ∧ m = a.rev.l.length - k ∧ s.at 1 = .int .u32 key ∧ s.at 2 = .ptr H.nx 0 ∧ s.at 5 = .int .i64 (k : Int) ∧ h = H.new (.cells (encA a) .cl) ∧ ∀ j (hj : j < a.rev.l.length), j < k → isU key a.rev.l[j] = false
theorem anyU {key : Int} {l : List Int} (h : ∀ j (hj : j < l.length), isU key l[j] = false) : l.any (isU key) = false := by
 rw [List.any_eq_false]
 intro x hx
 obtain ⟨j, hj, rfl⟩ := List.mem_iff_getElem.1 hx
 simp [h j hj]
theorem isRev_spec {f : Nat} (hf : vp f = some B_spigotref25_IsRevoked) (a : Acct) (key : Int) (h : Heap) (hn : a.rev.l.length < 4611686018427387904) : callRes vp f [.agg (encA a), .int .u32 key] h = some (.bool (a.rev.l.any (isU key)), h) := by
 refine res_pure hf rfl rfl (fun g hg => ?_)
 unfold B_spigotref25_IsRevoked
 unfold encA
 simp only [↓zp, zz, zy, chkOk, Nat.reduceEqDiff, Nat.reduceAdd, Nat.reduceSub, Nat.reduceMul, Nat.reduceLT, Nat.reduceLeDiff, Int.reduceLT, Int.reduceLE, Int.reduceEq, Int.reduceAdd, Int.reduceNeg, reduceIte, r_st, r_nck, r_ix, r_iaa, takeN, VE.store, over, cellsAt, VE.part, blkX, gEval, fill, VE.unOp, resVs, resV, reduceCtorEq]
 generalize hS : Tr.set _ 5 _ = S
 have b1 : Slots.at S 1 = .int .u32 key := by rw [← hS]; simp only [zs, Nat.reduceEqDiff]
 have b2 : Slots.at S 2 = .ptr g.nx 0 := by rw [← hS]; simp only [zs, Nat.reduceEqDiff]
 have b5 : Slots.at S 5 = .int .i64 ((0 : Nat) : Int) := by rw [← hS]; simp only [zs, Nat.reduceEqDiff]; rfl
 clear hS
 refine loop_ind (fun m s h => invRv key a g m s h) ?_ a.rev.l.length ⟨0, by omega, by omega, b1, b2, b5, rfl, fun j _ hj => by omega⟩
 rintro m s h ⟨k, hk, hm, c1, c2, c5, rfl, hinc⟩
 unfold encA
 by_cases hlt : k < a.rev.l.length
 case neg =>
  have hlt' : ¬ ((k : Int) < (a.rev.l.length : Int)) := by omega
  have e := anyU (key := key) (l := a.rev.l) (fun j hj => hinc j hj (by omega))
  simp only [↓zp, zz, zy, chkOk, Nat.reduceEqDiff, Nat.reduceAdd, Nat.reduceSub, Nat.reduceMul, Nat.reduceLT, Nat.reduceLeDiff, Int.reduceLT, Int.reduceLE, Int.reduceEq, Int.reduceAdd, Int.reduceNeg, reduceIte, r_st, r_nck, r_ix, r_iaa, takeN, VE.store, over, cellsAt, VE.part, blkX, gEval, fill, VE.unOp, resVs, resV, reduceCtorEq, c1, c2, c5, hlt', e, frzB]
 have hlt' : (k : Int) < (a.rev.l.length : Int) := by omega
 have ws := wr_succ (k := k) (by omega)
 have ia1 : ∀ h, r_ia 1 (a.rev.v e32) (.int .i64 (k : Int)) h = some (.iptr (e32 a.rev.l[k] ++ (a.rev.l.drop (k + 1)).flatMap e32), h) := fun h => r_ia_v e32_len (by decide) hlt rfl
 by_cases hqk : a.rev.l[k] = key
 ·have e : a.rev.l.any (isU key) = true := List.any_eq_true.2 ⟨a.rev.l[k], List.getElem_mem hlt, by simp [isU, hqk]⟩
  have hq' := eq_true hqk
  simp only [↓zp, zz, zy, chkOk, Nat.reduceEqDiff, Nat.reduceAdd, Nat.reduceSub, Nat.reduceMul, Nat.reduceLT, Nat.reduceLeDiff, Int.reduceLT, Int.reduceLE, Int.reduceEq, Int.reduceAdd, Int.reduceNeg, reduceIte, r_st, r_nck, r_ix, r_iaa, takeN, VE.store, over, cellsAt, VE.part, blkX, gEval, fill, VE.unOp, resVs, resV, reduceCtorEq, c1, c2, c5, hlt', ia1, e32, hq', e, frzB]
 ·simp only [↓zp, zz, zy, chkOk, Nat.reduceEqDiff, Nat.reduceAdd, Nat.reduceSub, Nat.reduceMul, Nat.reduceLT, Nat.reduceLeDiff, Int.reduceLT, Int.reduceLE, Int.reduceEq, Int.reduceAdd, Int.reduceNeg, reduceIte, r_st, r_nck, r_ix, r_iaa, takeN, VE.store, over, cellsAt, VE.part, blkX, gEval, fill, VE.unOp, resVs, resV, reduceCtorEq, c1, c2, c5, hlt', ia1, e32, hqk, ws]
  refine ⟨_, by omega, k + 1, by omega, rfl, by simp only [zs, Nat.reduceEqDiff, c1], by simp only [zs, Nat.reduceEqDiff, c2], by simp only [zs, Nat.reduceEqDiff], rfl, fun j hj hj2 => ?_⟩
  rcases Nat.lt_or_ge j k with r | r
  ·exact hinc j hj r
  ·have : j = k := by omega
   subst this
   simp [isU, hqk]
end
end
section
open Go Go.VE
set_option maxRecDepth 100000
set_option linter.all false
set_option maxHeartbeats 2000000
def encS (a : Acct) (u e r : V) (own : Bucket) (n0 n1 n2 : Int) : List V := [.int .u32 a.t, .int .i64 a.l0.b, .int .i64 a.l0.r, .int .i64 a.l0.p, .int .i64 a.l1.b, .int .i64 a.l1.r, .int .i64 a.l1.p, .int .i64 a.l2.b, .int .i64 a.l2.r, .int .i64 a.l2.p, .int .i64 a.c0, .int .i64 a.c1,
 .int .i64 own.l.b, .int .i64 own.l.r, .int .i64 own.l.p, .int .i64 own.lv, .int .i64 own.pt, .int .u64 own.t, u, e, r, .int .u64 n0, .int .u64 n1, .int .u64 n2]
end
section
open Go Go.VE
set_option maxRecDepth 100000
set_option linter.all false
set_option maxHeartbeats 2000000
theorem bk_ok {b : Bucket} : bkBad b = false ↔ limBad b.l = false ∧ 0 ≤ b.lv ∧ b.lv ≤ b.l.b ∧ 0 ≤ b.pt ∧ b.pt < b.l.p ∧ (b.lv = b.l.b → b.pt = 0) := by
 simp only [bkBad, Bool.or_eq_false_iff, Bool.and_eq_false_iff, decide_eq_false_iff_not, Bool.not_eq_false', decide_eq_true_eq]
 constructor
 ·rintro ⟨h1, h2, h3, h4, h5, h6⟩
  exact ⟨h1, by omega, by omega, by omega, by omega, fun e => h6.resolve_left (fun n => n e)⟩
 ·rintro ⟨h1, h2, h3, h4, h5, h6⟩
  refine ⟨h1, by omega, by omega, by omega, by omega, ?_⟩
  by_cases q : b.lv = b.l.b
  ·exact .inr (h6 q)
  ·exact .inl q
theorem lim_ok {l : Limit} : limBad l = false ↔ 1 ≤ l.b ∧ l.b ≤ 1000000000 ∧ 0 ≤ l.r ∧ l.r ≤ 1000000000 ∧ 1 ≤ l.p ∧ l.p ≤ 1000000000 := by
 simp only [limBad, Bool.or_eq_false_iff, decide_eq_false_iff_not]
 omega
theorem mkB_ok {l : Limit} {lv pt t : Int} (hl : limBad l = false) (h0 : 0 ≤ lv) (h1 : lv ≤ l.b) (h2 : 0 ≤ pt) (h3 : pt < l.p) (h4 : lv = l.b → pt = 0) : bkBad (mkB l lv pt t) = false := by
 have := lim_ok.1 hl
 have e : (mkB l lv pt t).lv = lv := mkB_lv (by omega)
 rw [bk_ok, e]
 exact ⟨hl, h0, h1, h2, h3, h4⟩
theorem fillB_ok {b : Bucket} {t : Int} (hb : bkBad b = false) (hbt : u64 b.t) (ht : u64 t) : bkBad (fillB b t) = false ∧ u64 (fillB b t).t ∧ (fillB b t).l = b.l := by
 unfold fillB
 split
 ·exact ⟨hb, hbt, rfl⟩
 ·have hb' := bk_ok.1 hb
  have hl := lim_ok.1 hb'.1
  split
  ·exact ⟨mkB_ok hb'.1 (by omega) (by omega) (by omega) (by omega) (fun _ => rfl), ht, rfl⟩
  ·rename_i hq
   have hm : ((t - b.t).toNat * b.l.r.toNat + b.pt.toNat) % b.l.p.toNat < b.l.p.toNat := Nat.mod_lt _ (by omega)
   generalize ((t - b.t).toNat * b.l.r.toNat + b.pt.toNat) % b.l.p.toNat = m at *
   generalize ((t - b.t).toNat * b.l.r.toNat + b.pt.toNat) / b.l.p.toNat = q at *
   exact ⟨mkB_ok hb'.1 (by omega) (by omega) (by omega) (by omega) (fun h => by omega), ht, rfl⟩
section
variable {vp : Nat → Option VFn}
def mx (a b : Int) : Int := bif ltI a b then b else a
end
end
section
open Go Go.VE
set_option maxRecDepth 100000
set_option linter.all false
set_option maxHeartbeats 2000000
theorem over_mid : ∀ (p : List V) (new mid r : List V), new.length = mid.length → new.all oneCell = true → over p.length (p ++ (mid ++ r)) new = some (p ++ (new ++ r))
 | [], [], [], r, _, _ => by cases r <;> rfl
 | [], x :: new, y :: mid, r, hl, hn => by
  simp only [List.all_cons, Bool.and_eq_true] at hn
  have ih := over_mid [] new mid r (by simpa using hl) hn.2
  simp only [List.length_nil, List.nil_append] at ih
  simp only [List.length_nil, List.nil_append, List.cons_append, over, hn.1, cond_true, ih]
 | z :: p, [], mid, r, hl, _ => by
  have : mid = [] := List.length_eq_zero_iff.1 (by simpa using hl.symm)
  subst this
  cases h : (z :: p) ++ ([] ++ r) with
  | nil => simp at h
  | cons a b => simp only [over]
 | z :: p, x :: new, mid, r, hl, hn => by
  have ih := over_mid p (x :: new) mid r hl hn
  simp only [List.length_cons, List.cons_append, over, ih]
section
variable {vp : Nat → Option VFn}
structure AtOk (vp : Nat → Option VFn) (f : Nat) : Prop where
 a : ∃ c1 c2, vp f = some (B_model_at c1 c2) ∧ vp c1 = some B_model_at_fn1 ∧ vp c2 = some B_slices_IndexFunc_api_Held
theorem AtOk.mode {f : Nat} (w : AtOk vp f) : modeOf vp f = some 1 := by
 obtain ⟨c1, c2, h, _⟩ := w
 simp [modeOf, h, B_model_at]
end
end
section
open Go Go.VE
set_option maxRecDepth 100000
set_option linter.all false
set_option maxHeartbeats 2000000
theorem Own.one {α : Type} {enc : α → List V} {sz : Nat} {h : Heap} {v : V} {l : List α} {lo hi : Nat} (o : Own enc sz h v l lo hi) : oneCell v = true ∧ cellsO v = some [v] := by
 rcases o with ⟨rfl, _⟩ | ⟨b, tag, rfl, _⟩ <;> exact ⟨rfl, rfl⟩
end
end Go.VE.LB
