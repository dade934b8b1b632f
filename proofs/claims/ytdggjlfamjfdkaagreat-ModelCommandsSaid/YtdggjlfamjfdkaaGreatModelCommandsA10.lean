/- What the functions of the law ModelCommands compute, on typed arguments (part 10). -/
import Derived.Test.YtdggjlfamjfdkaaGreatModelCommandsA9
import Derived.Test.YtdggjlfamjfdkaaGreatModelCommandsA7
set_option linter.all false
namespace Go.VE.LB
section
open Go Go.VE
set_option maxRecDepth 100000
set_option linter.all false
set_option maxHeartbeats 4000000
section
variable {vp : Nat → Option VFn}
def invFd (t : Int) (L : List Rw) (bm : Nat) (H : Heap) (m : Nat) (s : Slots) (h : Heap) : Prop :=
 ∃ k, k ≤ L.length ∧ m = L.length - k ∧ s.at 0 = .ptr bm 0 ∧ s.at 1 = .int .u32 t ∧ s.at 10 = .int .i64 (L.length : Int) ∧ s.at 11 = .int .i64 (k : Int) ∧ h = H ∧ ∀ j (hj : j < L.length), j < k → isT t L[j] = false
def FindP (t : Int) (L : List Rw) (bA : Nat) (r : V) : Prop :=
 (fidx (isT t) L = -1 ∧ r = .nilp) ∨ ∃ (k : Nat) (hk : k < L.length), fidx (isT t) L = (k : Int) ∧ L[k].a.t = t ∧ r = .ptr bA (k * 24)
theorem find_spec {f : Nat} (hf : vp f = some B_model_find) (bm : Nat) (now t : Int) (sd ep : List Int) (w : MW sd ep) (v : V) (L : List Rw) (bA cap : Nat) (rest : List V) (tag tm : Tag) (h : Heap) (hm : h.get bm = .cells (.int .u64 now :: mT sd ep v) tm) (aM : AccM h v L bA cap rest tag) (hn : L.length ≤ 100000) :
  ∃ r h', callRes vp f [.ptr bm 0, .int .u32 t] h = some (r, h') ∧ h' = h ∧ FindP t L bA r := by
 refine res_raw hf rfl rfl ?_
 have d48 := w.d48 (v := v)
 have ln := fun g => aM.len g
 unfold B_model_find
 simp only [↓zp, zz, zy, chkOk, Nat.reduceEqDiff, Nat.reduceAdd, Nat.reduceSub, Nat.reduceMul, Nat.reduceLT, Nat.reduceLeDiff, Int.reduceLT, Int.reduceLE, Int.reduceEq, Int.reduceAdd, Int.reduceNeg, reduceIte, r_st, r_nck, r_ix, r_iaa, takeN, VE.store, over, cellsAt, VE.part, blkX, gEval, fill, VE.unOp, resVs, resV, reduceCtorEq, hm, d48, ln]
 generalize hS : Tr.set _ 11 _ = S
 have b0 : Slots.at S 0 = .ptr bm 0 := by rw [← hS]; simp only [zs, Nat.reduceEqDiff]
 have b1 : Slots.at S 1 = .int .u32 t := by rw [← hS]; simp only [zs, Nat.reduceEqDiff]
 have b10 : Slots.at S 10 = .int .i64 (L.length : Int) := by rw [← hS]; simp only [zs, Nat.reduceEqDiff]
 have b11 : Slots.at S 11 = .int .i64 ((0 : Nat) : Int) := by rw [← hS]; simp only [zs, Nat.reduceEqDiff]; rfl
 clear hS
 refine loop_ind (fun m s h' => invFd t L bm h m s h') ?_ L.length ⟨0, by omega, by omega, b0, b1, b10, b11, rfl, fun j _ hj => by omega⟩
 rintro m s h' ⟨k, hk, hm', c0, c1, c10, c11, rfl, hinc⟩
 by_cases hlt : k < L.length
 case neg =>
  have hlt' : ¬ ((k : Int) < (L.length : Int)) := by omega
  have e := fidx_none (q := isT t) (l := L) (fun j hj => hinc j hj (by omega))
  simp only [↓zp, zz, zy, chkOk, Nat.reduceEqDiff, Nat.reduceAdd, Nat.reduceSub, Nat.reduceMul, Nat.reduceLT, Nat.reduceLeDiff, Int.reduceLT, Int.reduceLE, Int.reduceEq, Int.reduceAdd, Int.reduceNeg, reduceIte, r_st, r_nck, r_ix, r_iaa, takeN, VE.store, over, cellsAt, VE.part, blkX, gEval, fill, VE.unOp, resVs, resV, reduceCtorEq, c0, c1, c10, c11, hlt']
  exact .inl ⟨e, rfl⟩
 have hlt' : (k : Int) < (L.length : Int) := by omega
 have ws := wr_succ (k := k) (by omega)
 rcases aM with ⟨_, rfl⟩ | ⟨rfl, hcap, gA⟩
 ·simp at hlt
 obtain ⟨p, hp⟩ := mr_pt bA k 24
 have i1 := hp.ia (n := L.length) (cap := cap) hlt
 have f1 := hp.fa
 have d1 := hp.ld1 encW_len gA hlt (j := 0) (c := .int .u32 L[k].a.t) (by omega) rfl
 by_cases q : L[k].a.t = t
 ·have e := fidx_at (q := isT t) hlt (by simp [isT, q]) hinc
  have q' := eq_true q
  simp only [↓zp, zz, zy, chkOk, Nat.reduceEqDiff, Nat.reduceAdd, Nat.reduceSub, Nat.reduceMul, Nat.reduceLT, Nat.reduceLeDiff, Int.reduceLT, Int.reduceLE, Int.reduceEq, Int.reduceAdd, Int.reduceNeg, reduceIte, r_st_p, r_nck_p, r_ix, r_iaa, takeN, VE.store, over, cellsAt, VE.part, blkX, gEval, fill, VE.unOp, resVs, resV, reduceCtorEq, c0, c1, c10, c11, hlt', hm, d48, i1, f1, d1, q']
  exact .inr ⟨k, hlt, e, q, hp 0⟩
 ·simp only [↓zp, zz, zy, chkOk, Nat.reduceEqDiff, Nat.reduceAdd, Nat.reduceSub, Nat.reduceMul, Nat.reduceLT, Nat.reduceLeDiff, Int.reduceLT, Int.reduceLE, Int.reduceEq, Int.reduceAdd, Int.reduceNeg, reduceIte, r_st_p, r_nck_p, r_ix, r_iaa, takeN, VE.store, over, cellsAt, VE.part, blkX, gEval, fill, VE.unOp, resVs, resV, reduceCtorEq, c0, c1, c10, c11, hlt', hm, d48, i1, f1, d1, q, ws]
  refine ⟨_, by omega, k + 1, by omega, rfl, by simp only [zs, Nat.reduceEqDiff, c0], by simp only [zs, Nat.reduceEqDiff, c1], by simp only [zs, Nat.reduceEqDiff, c10], by simp only [zs, Nat.reduceEqDiff], rfl, fun j hj hj2 => ?_⟩
  rcases Nat.lt_or_ge j k with r | r
  ·exact hinc j hj r
  ·have : j = k := by omega
   subst this
   simp [isT, q]
structure ChOk (vp : Nat → Option VFn) (c : Nat) : Prop where
 mode : modeOf vp c = some 1
 call : ∀ (b : Bucket) (l : Limit) (t : Int), bkBad b = false → u64 b.t → u64 t → limBad l = false → ∀ h, callRes vp c [.agg (encB b), .agg (encL l), .int .u64 t] h = some (.tup [.agg (encB (chgB b l t)), .int .i64 0], h)
def chgH (l : Limit) (t : Int) (x : Held) : Held := ⟨x.k, chgB x.b l t⟩
def chgA (a : Acct) (l0 l1 l2 : Limit) (t : Int) : Acct :=
 { a with l0 := l0, l1 := l1, l2 := l2, own := chgB a.own l0 t, users := .mk (a.users.l.map (chgH l1 t)) none, ends := .mk (a.ends.l.map (chgH l2 t)) none }
structure AR (a : Acct) : Prop where
 own : bkBad a.own = false ∧ u64 a.own.t
 us : ∀ x ∈ a.users.l, bkBad x.b = false ∧ u64 x.b.t
 es : ∀ x ∈ a.ends.l, bkBad x.b = false ∧ u64 x.b.t
 n : a.users.l.length ≤ 100000 ∧ a.ends.l.length ≤ 100000
def mapTo (g : Held → Held) (l : List Held) (i : Nat) : List Held := (l.take i).map g ++ l.drop i
theorem mapTo_len (g : Held → Held) (l : List Held) {i : Nat} (hi : i ≤ l.length) : (mapTo g l i).length = l.length := by simp [mapTo]; omega
theorem mapTo_at (g : Held → Held) (l : List Held) {i : Nat} (hi : i < l.length) (h : i < (mapTo g l i).length) : (mapTo g l i)[i] = l[i] := by
 have e : ((l.take i).map g).length = i := by rw [List.length_map, List.length_take]; omega
 simp only [mapTo]
 rw [List.getElem_append_right (by omega), List.getElem_drop]
 congr 1
 omega
theorem mapTo_set (g : Held → Held) (l : List Held) {i : Nat} (hi : i < l.length) : (mapTo g l i).set i (g l[i]) = mapTo g l (i + 1) := by
 have e : ((l.take i).map g).length = i := by rw [List.length_map, List.length_take]; omega
 simp only [mapTo]
 rw [List.set_append_right _ _ (by omega), e, Nat.sub_self, List.drop_eq_getElem_cons hi, List.set_cons_zero, List.take_succ_eq_append_getElem hi, List.map_append, List.append_assoc]
 rfl
theorem mapTo_0 (g : Held → Held) (l : List Held) : mapTo g l 0 = l := by simp [mapTo]
theorem mapTo_all (g : Held → Held) (l : List Held) : mapTo g l l.length = l.map g := by simp [mapTo]
def invCh (p0 v : V) (bl : Nat) (t : Int) (si : Nat) (sn : Nat) (g : Held → Held) (l : List Held) (bu : Nat) (tu : Tag) (H : Heap) (m : Nat) (s : Slots) (h : Heap) : Prop :=
 ∃ i, i ≤ l.length ∧ m = l.length - i ∧ s.at 0 = p0 ∧ s.at 2 = .int .u64 t ∧ s.at 4 = .ptr bl 0 ∧ s.at sn = .int .i64 (l.length : Int) ∧ s.at si = .int .i64 (i : Int) ∧ (v ≠ .nils → h.get bu = .cells ((mapTo g l i).flatMap encH) tu) ∧ (∀ c, c ≠ bu → h.get c = H.get c) ∧ h.lo = H.lo ∧ h.nx = H.nx
structure ChgP (L : List Rw) (k bA lo hi : Nat) (rest : List V) (tag : Tag) (l0 l1 l2 : Limit) (t : Int) (h h' : Heap) : Prop where
 ex : ∃ w : Rw, w.a = chgA (L[k]?.getD zW).a l0 l1 l2 t ∧ h'.get bA = .cells ((L.set k w).flatMap encW ++ rest) tag ∧ RowI h' w lo hi
 get : ∀ c, c < h.nx → c ≠ bA → ¬ (lo ≤ c ∧ c < hi) → h'.get c = h.get c
 lo' : h'.lo = h.lo
 nx : h.nx ≤ h'.nx
theorem chg_spec {f c1 : Nat} (hf : vp f = some (B_model_change c1)) (w1 : ChOk vp c1) (L : List Rw) (k : Nat) (hk : k < L.length) (bA lo hi : Nat) (rest : List V) (tag : Tag) (p : Nat → V) (hp : Pt bA k 24 p) (l0 l1 l2 : Limit) (k0 : limBad l0 = false) (k1 : limBad l1 = false) (k2 : limBad l2 = false) (t : Int) (ht : u64 t) (h : Heap)
  (gA : h.get bA = .cells (L.flatMap encW ++ rest) tag) (hr : RowI h L[k] lo hi) (ar : AR L[k].a) (hAl : bA < lo) (hhi : hi ≤ h.nx) (hlo : ¬ bA < h.lo) :
  ∃ v h', callRes vp f [p 0, .agg [.int .i64 l0.b, .int .i64 l0.r, .int .i64 l0.p, .int .i64 l1.b, .int .i64 l1.r, .int .i64 l1.p, .int .i64 l2.b, .int .i64 l2.r, .int .i64 l2.p], .int .u64 t] h = some (v, h') ∧ v = .tup [] ∧ ChgP L k bA lo hi rest tag l0 l1 l2 t h h' := by
 refine res_raw hf rfl rfl ?_
 obtain ⟨n1, n2, a1, a2, a3, ou, oe, orv⟩ := hr
 have m1 := w1.mode
 obtain ⟨w, hw⟩ : ∃ w, L[k] = w := ⟨_, rfl⟩
 rw [hw] at ou oe orv ar
 obtain ⟨H1, hH1⟩ : ∃ H, h.new (.cells [.int .i64 l0.b, .int .i64 l0.r, .int .i64 l0.p, .int .i64 l1.b, .int .i64 l1.r, .int .i64 l1.p, .int .i64 l2.b, .int .i64 l2.r, .int .i64 l2.p] .cl) = H := ⟨_, rfl⟩
 have gl1 : H1.get h.nx = .cells [.int .i64 l0.b, .int .i64 l0.r, .int .i64 l0.p, .int .i64 l1.b, .int .i64 l1.r, .int .i64 l1.p, .int .i64 l2.b, .int .i64 l2.r, .int .i64 l2.p] .cl := by rw [← hH1, Heap.get_new, if_pos rfl]
 have kp1 : Kp h H1 := by rw [← hH1]; exact (Kp.refl h).new _
 have nx1 : H1.nx = h.nx + 1 := by rw [← hH1]; rfl
 have gA1 := (kp1.get bA (by omega)).trans gA
 have nf := hp.nck
 have ff := hp.fa
 obtain ⟨wa, hwa⟩ : ∃ wa : Rw, wa = { w with a := { w.a with l0 := l0, l1 := l1, l2 := l2 } } := ⟨_, rfl⟩
 have st1 := hp.st encW_len gA1 hk (by rw [kp1.lo]; exact hlo) (j := 1) (n := 9) (v := .agg [.int .i64 l0.b, .int .i64 l0.r, .int .i64 l0.p, .int .i64 l1.b, .int .i64 l1.r, .int .i64 l1.p, .int .i64 l2.b, .int .i64 l2.r, .int .i64 l2.p]) wa rfl rfl (by omega) (by omega) rfl (by rw [hwa, hw]; rfl)
 obtain ⟨H2, hH2⟩ : ∃ H, H1.set bA (.cells ((L.set k wa).flatMap encW ++ rest) tag) = H := ⟨_, rfl⟩
 rw [hH2] at st1
 have gA2 : H2.get bA = .cells ((L.set k wa).flatMap encW ++ rest) tag := by rw [← hH2, Heap.get_set, if_pos rfl]
 have gk2 : ∀ c, c ≠ bA → H2.get c = H1.get c := fun c hc => by rw [← hH2, Heap.get_set, if_neg hc]
 have nx2 : H2.nx = h.nx + 1 := by rw [← hH2]; exact nx1
 have lo2 : H2.lo = h.lo := by rw [← hH2]; exact kp1.lo
 have gl2 := (gk2 h.nx (by omega)).trans gl1
 have hk2 : k < (L.set k wa).length := by rw [List.length_set]; exact hk
 have ldo := hp.ld encW_len gA2 hk2 (j := 12) (n := 6) (by omega) (cs := encB w.a.own) (by rw [List.getElem_set_self, hwa]; rfl)
 have co := w1.call w.a.own l0 t ar.own.1 ar.own.2 ht k0 H2
 obtain ⟨wb, hwb⟩ : ∃ wb : Rw, wb = { wa with a := { wa.a with own := chgB w.a.own l0 t } } := ⟨_, rfl⟩
 have st2 := hp.st encW_len gA2 hk2 (by rw [lo2]; exact hlo) (j := 12) (n := 6) (v := .agg (encB (chgB w.a.own l0 t))) wb rfl rfl (by omega) (by omega) rfl (by rw [List.getElem_set_self, hwb]; rfl)
 rw [List.set_set] at st2
 obtain ⟨H3, hH3⟩ : ∃ H, H2.set bA (.cells ((L.set k wb).flatMap encW ++ rest) tag) = H := ⟨_, rfl⟩
 rw [hH3] at st2
 have gA3 : H3.get bA = .cells ((L.set k wb).flatMap encW ++ rest) tag := by rw [← hH3, Heap.get_set, if_pos rfl]
 have gk3 : ∀ c, c ≠ bA → H3.get c = H2.get c := fun c hc => by rw [← hH3, Heap.get_set, if_neg hc]
 have nx3 : H3.nx = h.nx + 1 := by rw [← hH3]; exact nx2
 have lo3 : H3.lo = h.lo := by rw [← hH3]; exact lo2
 have gl3 := (gk3 h.nx (by omega)).trans gl2
 have hk3 : k < (L.set k wb).length := by rw [List.length_set]; exact hk
 have wbu : wb.u = w.u := by rw [hwb, hwa]
 have wbe : wb.e = w.e := by rw [hwb, hwa]
 have ldu := hp.ld1 encW_len gA3 hk3 (j := 18) (c := w.u) (by omega) (by rw [List.getElem_set_self, ← wbu]; rfl)
 have lnu : ∀ g, r_len w.u g = some (.int .i64 (w.a.users.l.length : Int), g) := fun g => by
  rcases ou with ⟨e, e2⟩ | ⟨b, tg, e, _⟩
  ·rw [e, e2]; rfl
  ·rw [e]; rfl
 have lne : ∀ g, r_len w.e g = some (.int .i64 (w.a.ends.l.length : Int), g) := fun g => by
  rcases oe with ⟨e, e2⟩ | ⟨b, tg, e, _⟩
  ·rw [e, e2]; rfl
  ·rw [e]; rfl
 unfold B_model_change
 unfold encL at co
 obtain ⟨ob, hob⟩ : ∃ ob, V.agg (encB (chgB w.a.own l0 t)) = ob := ⟨_, rfl⟩
 obtain ⟨ow, how⟩ : ∃ ow, V.agg (encB w.a.own) = ow := ⟨_, rfl⟩
 rw [hob] at co st2
 rw [how] at co ldo
 simp only [↓zp, zz, zy, chkOk, Nat.reduceEqDiff, Nat.reduceAdd, Nat.reduceSub, Nat.reduceMul, Nat.reduceLT, Nat.reduceLeDiff, Int.reduceLT, Int.reduceLE, Int.reduceEq, Int.reduceAdd, Int.reduceNeg, reduceIte, r_st_p, r_nck_p, r_ix, r_iaa, takeN, VE.store, over, cellsAt, VE.part, blkX, gEval, fill, VE.unOp, resVs, resV, reduceCtorEq, hH1, nf, ff, gl1, st1, ldo, gl2, m1, co, st2, ldu, lnu]
 have gBH3 : ∀ b, b ≠ bA → b < h.nx → H3.get b = h.get b := fun b h1 h2 => by rw [gk3 b h1, gk2 b h1, kp1.get b h2]
 have loH3 := lo3
 obtain ⟨ub, ut, u1, u2⟩ : ∃ bu tu, ((w.u = .nils ∧ w.a.users.l = [] ∨ w.u = .sl bu 0 w.a.users.l.length w.a.users.l.length 7) ∧ (w.u ≠ .nils → H3.get bu = .cells (w.a.users.l.flatMap encH) tu)) ∧ (lo ≤ bu ∧ bu < n1 ∨ h.nx + 1 ≤ bu) := by
  rcases ou with ⟨e1, e2⟩ | ⟨b, tg, e, q1, q2, q3⟩
  ·exact ⟨h.nx + 1, .cl, ⟨.inl ⟨e1, e2⟩, fun e => absurd e1 e⟩, .inr (Nat.le_refl _)⟩
  ·exact ⟨b, tg, ⟨.inr e, fun _ => (gBH3 b (by omega) (by omega)).trans q3⟩, .inl ⟨q1, q2⟩⟩
 generalize hS : Tr.set _ 31 _ = S
 have b0 : Slots.at S 0 = p 0 := by rw [← hS]; simp only [zs, Nat.reduceEqDiff]
 have b2 : Slots.at S 2 = .int .u64 t := by rw [← hS]; simp only [zs, Nat.reduceEqDiff]
 have b4 : Slots.at S 4 = .ptr h.nx 0 := by rw [← hS]; simp only [zs, Nat.reduceEqDiff]
 have bn : Slots.at S 30 = .int .i64 (w.a.users.l.length : Int) := by rw [← hS]; simp only [zs, Nat.reduceEqDiff]
 have bi : Slots.at S 31 = .int .i64 ((0 : Nat) : Int) := by rw [← hS]; simp only [zs, Nat.reduceEqDiff]; rfl
 clear hS
 refine loop_ind (fun m s h' => invCh (p 0) w.u h.nx t 31 30 (chgH l1 t) w.a.users.l ub ut H3 m s h') ?_ w.a.users.l.length ⟨0, by omega, by omega, b0, b2, b4, bn, bi, by rw [mapTo_0]; exact u1.2, fun _ _ => rfl, rfl, rfl⟩
 clear b0 b2 b4 bn bi
 rintro m s uh ⟨i, hi', hm, d0, d2, d4, dn, di, ug, uk, ul, un⟩
 have gA' := (uk bA (by omega)).trans gA3
 have gl' := (uk h.nx (by omega)).trans gl3
 by_cases hlt : i < w.a.users.l.length
 case pos =>
  have hlt' : (i : Int) < (w.a.users.l.length : Int) := by omega
  have ws := wr_succ (k := i) (by have := ar.n; omega)
  have hne : w.a.users.l ≠ [] := by intro e; rw [e] at hlt; simp at hlt
  have hu := u1.1.resolve_left (fun e => hne e.2)
  have gu := ug (by rw [hu]; intro e; cases e)
  have hbu := u2.resolve_right (by
   intro e
   rcases ou with ⟨e1, _⟩ | ⟨b, tg, e1, q1, q2, q3⟩
   ·rw [e1] at hu; cases hu
   ·rw [e1] at hu; injection hu; omega)
  obtain ⟨q, hq⟩ := mr_pt ub i 7
  have iaq := hq.ia (n := w.a.users.l.length) (cap := w.a.users.l.length) hlt
  rw [← hu] at iaq
  have faq := hq.fa
  have ldw := hp.ld1 encW_len gA' hk3 (j := 18) (c := w.u) (by omega) (by rw [List.getElem_set_self, ← wbu]; rfl)
  have hil : i < (mapTo (chgH l1 t) w.a.users.l i).length := by rw [mapTo_len _ _ hi']; exact hlt
  have ldq := hq.ld encH_len (rest := []) (by rw [List.append_nil]; exact gu) hil (j := 1) (n := 6) (by omega) (cs := encB w.a.users.l[i].b) (by rw [mapTo_at _ _ hlt]; rfl)
  have hx := ar.us _ (List.getElem_mem hlt)
  have cc := w1.call w.a.users.l[i].b l1 t hx.1 hx.2 ht k1 uh
  have stq := hq.st encH_len (rest := []) (by rw [List.append_nil]; exact gu) hil (by rw [ul, lo3]; omega) (j := 1) (n := 6) (v := .agg (encB (chgB w.a.users.l[i].b l1 t))) (chgH l1 t w.a.users.l[i]) rfl rfl (by omega) (by omega) rfl (by rw [mapTo_at _ _ hlt]; rfl)
  rw [List.append_nil, mapTo_set _ _ hlt] at stq
  unfold encL at cc
  obtain ⟨o1, ho1⟩ : ∃ o, V.agg (encB (chgB w.a.users.l[i].b l1 t)) = o := ⟨_, rfl⟩
  obtain ⟨o2, ho2⟩ : ∃ o, V.agg (encB w.a.users.l[i].b) = o := ⟨_, rfl⟩
  rw [ho1] at cc stq
  rw [ho2] at cc ldq
  simp only [↓zp, zz, zy, chkOk, Nat.reduceEqDiff, Nat.reduceAdd, Nat.reduceSub, Nat.reduceMul, Nat.reduceLT, Nat.reduceLeDiff, Int.reduceLT, Int.reduceLE, Int.reduceEq, Int.reduceAdd, Int.reduceNeg, reduceIte, r_st_p, r_nck_p, r_ix, r_iaa, takeN, VE.store, over, cellsAt, VE.part, blkX, gEval, fill, VE.unOp, resVs, resV, reduceCtorEq, d0, d2, d4, dn, di, hlt', nf, ff, ldw, iaq, faq, ldq, gl', m1, cc, stq, ws]
  refine ⟨_, by omega, i + 1, by omega, rfl, by simp only [zs, Nat.reduceEqDiff, d0], by simp only [zs, Nat.reduceEqDiff, d2], by simp only [zs, Nat.reduceEqDiff, d4], by simp only [zs, Nat.reduceEqDiff, dn], by simp only [zs, Nat.reduceEqDiff], fun _ => by rw [Heap.get_set, if_pos rfl], fun c hc => by rw [Heap.get_set, if_neg hc, uk c hc], ul, un⟩
 have hlt' : ¬ ((i : Int) < (w.a.users.l.length : Int)) := by omega
 obtain rfl : i = w.a.users.l.length := by omega
 rw [mapTo_all] at ug
 have gAu := gA'
 have glu := gl'
 have lde := hp.ld1 encW_len gAu hk3 (j := 19) (c := w.e) (by omega) (by rw [List.getElem_set_self, ← wbe]; rfl)
 simp only [↓zp, zz, zy, chkOk, Nat.reduceEqDiff, Nat.reduceAdd, Nat.reduceSub, Nat.reduceMul, Nat.reduceLT, Nat.reduceLeDiff, Int.reduceLT, Int.reduceLE, Int.reduceEq, Int.reduceAdd, Int.reduceNeg, reduceIte, r_st_p, r_nck_p, r_ix, r_iaa, takeN, VE.store, over, cellsAt, VE.part, blkX, gEval, fill, VE.unOp, resVs, resV, reduceCtorEq, d0, d2, d4, dn, di, hlt', nf, ff, lde, lne]
 have lou : uh.lo = h.lo := ul.trans lo3
 have gBuh : ∀ b, b ≠ bA → n1 ≤ b ∧ b < n2 → uh.get b = h.get b := fun b h1 h2 => by rw [uk b (by omega), gBH3 b h1 (by omega)]
 have lo' := lou
 have ee0 := True.intro
 obtain ⟨eb, et, e1, e2⟩ : ∃ bu tu, ((w.e = .nils ∧ w.a.ends.l = [] ∨ w.e = .sl bu 0 w.a.ends.l.length w.a.ends.l.length 7) ∧ (w.e ≠ .nils → uh.get bu = .cells (w.a.ends.l.flatMap encH) tu)) ∧ (n1 ≤ bu ∧ bu < n2 ∨ h.nx + 1 ≤ bu) := by
  rcases oe with ⟨e1, e2⟩ | ⟨b, tg, e, q1, q2, q3⟩
  ·exact ⟨h.nx + 1, .cl, ⟨.inl ⟨e1, e2⟩, fun e => absurd e1 e⟩, .inr (Nat.le_refl _)⟩
  ·exact ⟨b, tg, ⟨.inr e, fun _ => (gBuh b (by omega) (by omega)).trans q3⟩, .inl ⟨q1, q2⟩⟩
 generalize hS : Tr.set _ 62 _ = S
 have b0 : Slots.at S 0 = p 0 := by rw [← hS]; simp only [zs, Nat.reduceEqDiff, d0]
 have b2 : Slots.at S 2 = .int .u64 t := by rw [← hS]; simp only [zs, Nat.reduceEqDiff, d2]
 have b4 : Slots.at S 4 = .ptr h.nx 0 := by rw [← hS]; simp only [zs, Nat.reduceEqDiff, d4]
 have bn : Slots.at S 61 = .int .i64 (w.a.ends.l.length : Int) := by rw [← hS]; simp only [zs, Nat.reduceEqDiff]
 have bi : Slots.at S 62 = .int .i64 ((0 : Nat) : Int) := by rw [← hS]; simp only [zs, Nat.reduceEqDiff]; rfl
 clear hS
 refine loop_ind (fun m s h' => invCh (p 0) w.e h.nx t 62 61 (chgH l2 t) w.a.ends.l eb et uh m s h') ?_ w.a.ends.l.length ⟨0, by omega, by omega, b0, b2, b4, bn, bi, by rw [mapTo_0]; exact e1.2, fun _ _ => rfl, rfl, rfl⟩
 clear b0 b2 b4 bn bi
 rintro m s eh ⟨i, hi', hm, d0, d2, d4, dn, di, eg, ek, el, en⟩
 have gA' := (ek bA (by omega)).trans gAu
 have gl' := (ek h.nx (by omega)).trans glu
 by_cases hlt : i < w.a.ends.l.length
 case pos =>
  have hlt' : (i : Int) < (w.a.ends.l.length : Int) := by omega
  have ws := wr_succ (k := i) (by have := ar.n; omega)
  have hne : w.a.ends.l ≠ [] := by intro e; rw [e] at hlt; simp at hlt
  have hu := e1.1.resolve_left (fun e => hne e.2)
  have gu := eg (by rw [hu]; intro e; cases e)
  have hbu := e2.resolve_right (by
   intro e
   rcases oe with ⟨e1, _⟩ | ⟨b, tg, e1, q1, q2, q3⟩
   ·rw [e1] at hu; cases hu
   ·rw [e1] at hu; injection hu; omega)
  obtain ⟨q, hq⟩ := mr_pt eb i 7
  have iaq := hq.ia (n := w.a.ends.l.length) (cap := w.a.ends.l.length) hlt
  rw [← hu] at iaq
  have faq := hq.fa
  have ldw := hp.ld1 encW_len gA' hk3 (j := 19) (c := w.e) (by omega) (by rw [List.getElem_set_self, ← wbe]; rfl)
  have hil : i < (mapTo (chgH l2 t) w.a.ends.l i).length := by rw [mapTo_len _ _ hi']; exact hlt
  have ldq := hq.ld encH_len (rest := []) (by rw [List.append_nil]; exact gu) hil (j := 1) (n := 6) (by omega) (cs := encB w.a.ends.l[i].b) (by rw [mapTo_at _ _ hlt]; rfl)
  have hx := ar.es _ (List.getElem_mem hlt)
  have cc := w1.call w.a.ends.l[i].b l2 t hx.1 hx.2 ht k2 eh
  have stq := hq.st encH_len (rest := []) (by rw [List.append_nil]; exact gu) hil (by rw [el, lou]; omega) (j := 1) (n := 6) (v := .agg (encB (chgB w.a.ends.l[i].b l2 t))) (chgH l2 t w.a.ends.l[i]) rfl rfl (by omega) (by omega) rfl (by rw [mapTo_at _ _ hlt]; rfl)
  rw [List.append_nil, mapTo_set _ _ hlt] at stq
  unfold encL at cc
  obtain ⟨o1, ho1⟩ : ∃ o, V.agg (encB (chgB w.a.ends.l[i].b l2 t)) = o := ⟨_, rfl⟩
  obtain ⟨o2, ho2⟩ : ∃ o, V.agg (encB w.a.ends.l[i].b) = o := ⟨_, rfl⟩
  rw [ho1] at cc stq
  rw [ho2] at cc ldq
  simp only [↓zp, zz, zy, chkOk, Nat.reduceEqDiff, Nat.reduceAdd, Nat.reduceSub, Nat.reduceMul, Nat.reduceLT, Nat.reduceLeDiff, Int.reduceLT, Int.reduceLE, Int.reduceEq, Int.reduceAdd, Int.reduceNeg, reduceIte, r_st_p, r_nck_p, r_ix, r_iaa, takeN, VE.store, over, cellsAt, VE.part, blkX, gEval, fill, VE.unOp, resVs, resV, reduceCtorEq, d0, d2, d4, dn, di, hlt', nf, ff, ldw, iaq, faq, ldq, gl', m1, cc, stq, ws]
  refine ⟨_, by omega, i + 1, by omega, rfl, by simp only [zs, Nat.reduceEqDiff, d0], by simp only [zs, Nat.reduceEqDiff, d2], by simp only [zs, Nat.reduceEqDiff, d4], by simp only [zs, Nat.reduceEqDiff, dn], by simp only [zs, Nat.reduceEqDiff], fun _ => by rw [Heap.get_set, if_pos rfl], fun c hc => by rw [Heap.get_set, if_neg hc, ek c hc], el, en⟩
 have hlt' : ¬ ((i : Int) < (w.a.ends.l.length : Int)) := by omega
 obtain rfl : i = w.a.ends.l.length := by omega
 rw [mapTo_all] at eg
 simp only [↓zp, zz, zy, chkOk, Nat.reduceEqDiff, Nat.reduceAdd, Nat.reduceSub, Nat.reduceMul, Nat.reduceLT, Nat.reduceLeDiff, Int.reduceLT, Int.reduceLE, Int.reduceEq, Int.reduceAdd, Int.reduceNeg, reduceIte, r_st_p, r_nck_p, r_ix, r_iaa, takeN, VE.store, over, cellsAt, VE.part, blkX, gEval, fill, VE.unOp, resVs, resV, reduceCtorEq, d0, d2, d4, dn, di, hlt']
 obtain ⟨wc, hwc⟩ : ∃ wc : Rw, wc = { wb with a := chgA w.a l0 l1 l2 t } := ⟨_, rfl⟩
 have ec : encW wc = encW wb := by rw [hwc, hwb, hwa]; rfl
 have ef : (L.set k wc).flatMap encW = (L.set k wb).flatMap encW := by rw [mr_set L hk, mr_set L hk, ec]
 refine ⟨⟨wc, ?_, by rw [ef]; exact gA', ?_⟩, fun c hc hcA hcl => ?_, el.trans lou, by rw [en, un, nx3]; omega⟩
 ·rw [List.getElem?_eq_getElem hk, hw, hwc]; rfl
 ·have ee := e1
  have e1 : wc.a.users.l = w.a.users.l.map (chgH l1 t) := by rw [hwc]; rfl
  have e2 : wc.a.ends.l = w.a.ends.l.map (chgH l2 t) := by rw [hwc]; rfl
  have e3 : wc.a.rev = w.a.rev := by rw [hwc]; rfl
  have e4 : wc.u = w.u := by rw [hwc]; exact wbu
  have e5 : wc.e = w.e := by rw [hwc]; exact wbe
  have e6 : wc.r = w.r := by rw [hwc, hwb, hwa]
  refine ⟨n1, n2, a1, a2, a3, ?_, ?_, ?_⟩
  ·rw [e1, e4]
   rcases ou with ⟨q1, q2⟩ | ⟨b, tg, q1, q2, q3, q4⟩
   ·exact .inl ⟨q1, by rw [q2]; rfl⟩
   ·have hu := u1.1.resolve_left (fun e => by rw [q1] at e; cases e.1)
    have hb : b = ub := by rw [q1] at hu; injection hu
    have gu := ug (by rw [q1]; intro e; cases e)
    subst hb
    exact .inr ⟨b, ut, by rw [q1, List.length_map], q2, q3, by rw [ek b (by omega)]; exact gu⟩
  ·rw [e2, e5]
   rcases oe with ⟨q1, q2⟩ | ⟨b, tg, q1, q2, q3, q4⟩
   ·exact .inl ⟨q1, by rw [q2]; rfl⟩
   ·have hu := ee.1.resolve_left (fun e => by rw [q1] at e; cases e.1)
    have hb : b = eb := by rw [q1] at hu; injection hu
    have gu := eg (by rw [q1]; intro e; cases e)
    subst hb
    exact .inr ⟨b, et, by rw [q1, List.length_map], q2, q3, by exact gu⟩
  ·rw [e3, e6]
   exact orv.keep fun b h1 h2 => by rw [ek b (by omega), uk b (by omega), gBH3 b (by omega) (by omega)]
 ·rw [ek c (by omega), uk c (by omega), gBH3 c hcA hc]
end
end
section
open Go Go.VE
set_option maxRecDepth 100000
set_option linter.all false
set_option maxHeartbeats 4000000
section
variable {vp : Nat → Option VFn}
theorem app_acc {h : Heap} {v : V} {L : List Rw} {bA : Nat} {tag tr : Tag} {br : Nat} {x : Rw} (aM : AccM h v L bA L.length [] tag) (hr : h.get br = .cells (encW x) tr) (hlo : v = .nils ∨ ¬ bA < h.lo) (hbn : v = .nils ∨ bA < h.nx) (hn : L.length ≤ 100000) :
  ∃ h' tg, r_app 24 240 v (.sl br 0 1 1 24) h = some (.sl h.nx 0 (L.length + 1) (L.length + 1) 24, h') ∧ h'.get h.nx = .cells ((L ++ [x]).flatMap encW ++ []) tg ∧ h'.nx = h.nx + 1 ∧ h'.lo = h.lo ∧ ∀ c, c < h.nx → c ≠ bA → h'.get c = h.get c := by
 have hx : rowOf h 24 (.sl br 0 1 1 24) = some (encW x) := by
  simp only [rowOf, beq_dec, decide_true, cond_true, hr, List.drop_zero, Nat.one_mul]
  rw [show (24 : Nat) = (encW x).length from rfl, takeN_all]
 have e1 : (L ++ [x]).flatMap encW = L.flatMap encW ++ encW x := by simp [List.flatMap_append]
 have q4 : ¬ (140737488355328 < (L.length + 1) * 240) := by omega
 unfold r_app
 rw [hx]
 rcases aM with ⟨rfl, rfl⟩ | ⟨rfl, _, gA⟩
 ·refine ⟨h.new (.cells (encW x) .op), .op, rfl, ?_, rfl, rfl, fun c hc _ => by rw [Heap.get_new, if_neg (by omega)]⟩
  rw [Heap.get_new, if_pos rfl]
  simp
 ·have hlo := hlo.resolve_left (by intro q; cases q)
  have hbn := hbn.resolve_left (by intro q; cases q)
  have hl : (L.flatMap encW).length = L.length * 24 := flat_len2 encW_len L
  have tk : takeN (L.length * 24) (L.flatMap encW) = some (L.flatMap encW) := by rw [← hl]; exact takeN_all _
  have q1 : ¬ (L.length + (0 + 1) ≤ L.length) := by omega
  have q2 : ¬ (140737488355328 < (L.length + (0 + 1)) * 240) := by omega
  rw [List.append_nil] at gA
  simp only [lenOf, appendV, beq_dec, decide_true, cond_true, gA, ble_dec, q1, q2, decide_false, cond_false, blt_dec, List.drop_zero, tk, encW_one, Bool.not_true, Bool.or_false, hlo]
  rw [show 0 + L.length * 24 = (L.flatMap encW).length by rw [hl]; omega]
  simp only [decide_true, Bool.and_true]
  cases tag.opn with
  | true => exact ⟨_, _, rfl, by rw [Heap.get_new]; rw [List.append_nil, e1]; exact if_pos rfl, rfl, rfl, fun c hc hcb => by rw [Heap.get_new, if_neg (by show ¬ c = h.nx; omega), Heap.get_set, if_neg hcb]⟩
  | false => exact ⟨_, _, rfl, by rw [Heap.get_new]; rw [List.append_nil, e1]; exact if_pos rfl, rfl, rfl, fun c hc hcb => by rw [Heap.get_new, if_neg (by omega)]⟩
def newA (c : Cmd) (now : Int) : Acct := ⟨c.t, c.l0, c.l1, c.l2, c.us, c.es, fullB c.l0 now, .nil, .nil, .nil, 0, 0, 0⟩
def newW (c : Cmd) (now : Int) : Rw := ⟨newA c now, .nils, .nils, .nils, ⟨rfl, rfl⟩, ⟨rfl, rfl⟩, ⟨rfl, rfl⟩⟩
structure CreP (c : Cmd) (now : Int) (sd ep : List Int) (L : List Rw) (bm bA : Nat) (tm : Tag) (h : Heap) (r : V) (h' : Heap) : Prop where
 ex : (L.length = 8 ∧ r = .int .u8 5 ∧ h'.get bm = h.get bm ∧ h'.get bA = h.get bA) ∨ (L.length ≠ 8 ∧ r = .int .u8 4 ∧ ∃ bN p tN, h.nx ≤ bN ∧ bN < h'.nx ∧ h'.get bm = .cells (.int .u64 now :: mT sd ep (.sl bN 0 (L.length + 1) (L.length + 1) 24)) tm ∧
  p ≤ L.length ∧ h'.get bN = .cells ((insT L (newW c now) p).flatMap encW ++ []) tN ∧ (∀ i (hi : i < L.length), i + 1 = p → L[i].a.t ≤ c.t) ∧ ∀ i (hi : i < L.length), p ≤ i → c.t < L[i].a.t)
 get : ∀ b, b < h.nx → b ≠ bm → b ≠ bA → h'.get b = h.get b
 lo : h'.lo = h.lo
 nx : h.nx ≤ h'.nx
def SrtOk (vp : Nat → Option VFn) (f c : Nat) : Prop := ∀ (S : List Rw) (x : Rw) (b cap : Nat) (rest : List V) (tag : Tag) (h : Heap),
 h.get b = .cells ((S ++ [x]).flatMap encW ++ rest) tag → ¬ b < h.lo → S.length + 1 ≤ 12 → tOk x → (∀ w ∈ S, tOk w) → (∀ k (hk : k + 1 < S.length), S[k].a.t < S[k + 1].a.t) →
 ∃ v h', callRes vp f [.sl b 0 (S.length + 1) cap 24, .fn c []] h = some (v, h') ∧ v = .tup [] ∧ SortP S x b rest tag h h'
theorem create_spec {f c1 c2 c3 c4 t1 t2 : Nat} (hf : vp f = some (B_model_create c1 c2 c3 t1)) (h1 : vp c1 = some (B_bucket_Full c4 t2)) (h4 : vp c4 = some B_bucket_CheckLimit) (hS : SrtOk vp c2 c3)
  (bm : Nat) (now : Int) (sd ep : List Int) (w : MW sd ep) (v : V) (L : List Rw) (bA : Nat) (tag tm : Tag) (h : Heap) (hm : h.get bm = .cells (.int .u64 now :: mT sd ep v) tm) (aM : AccM h v L bA L.length [] tag) (hne : bm ≠ bA) (hbm : bm < h.nx) (hbA : bA < h.nx) (hlm : ¬ bm < h.lo) (hlA : ¬ bA < h.lo)
  (c : Cmd) (hc : c.tg.length = 32) (hct : 0 ≤ c.t) (ok : CmdOk c) (hop : c.op = 1) (hn : L.length ≤ 8) (hL : ∀ w ∈ L, tOk w) (hs : ∀ k (hk : k + 1 < L.length), L[k].a.t < L[k + 1].a.t) :
  ∃ r h', callRes vp f [.ptr bm 0, .agg (encC c)] h = some (r, h') ∧ CreP c now sd ep L bm bA tm h r h' := by
 have m1 : modeOf vp c1 = some 1 := by simp [modeOf, h1, B_bucket_Full]
 obtain ⟨k0, k1, k2⟩ := ok.ls (.inl hop)
 obtain ⟨u1, u2, u3, u4⟩ := ok.cs hop
 have kf := fun h => full_spec h1 h4 c.l0 now k0 h
 refine res_raw hf rfl rfl ?_
 obtain ⟨R, hR⟩ : ∃ R, c.tg.map (V.int .u8) = R := ⟨_, rfl⟩
 have lR : R.length = 32 := by rw [← hR, List.length_map, hc]
 have d48 := w.d48 (v := v)
 have ln := fun g => aM.len g
 unfold encC B_model_create
 rw [hR]
 by_cases q8 : L.length = 8
 ·have q8' : ((L.length : Int) = 8) = True := by simp; omega
  have hmx : ¬ bm = h.nx := by omega
  simp only [↓zp, zz, zy, chkOk, Nat.reduceEqDiff, Nat.reduceAdd, Nat.reduceSub, Nat.reduceMul, Nat.reduceLT, Nat.reduceLeDiff, Int.reduceLT, Int.reduceLE, Int.reduceEq, Int.reduceAdd, Int.reduceNeg, reduceIte, r_st, r_nck, r_ix, r_iaa, takeN, VE.store, over, cellsAt, VE.part, blkX, gEval, fill, VE.unOp, resVs, resV, reduceCtorEq, lR, hmx, hm, d48, ln, q8']
  refine ⟨.inl ⟨q8, rfl, ?_, ?_⟩, fun b hb _ _ => ?_, rfl, ?_⟩
  ·rw [Heap.get_new, if_neg (by omega)]
  ·rw [Heap.get_new, if_neg (by omega)]
  ·rw [Heap.get_new, if_neg (by omega)]
  ·simp [Heap.new]
 have q8' : ((L.length : Int) = 8) = False := by simp; omega
 have hmx : ¬ bm = h.nx := by omega
 have hmx1 : ¬ bm = h.nx + 1 := by omega
 have hmx2 : ¬ bm = h.nx + 2 := by omega
 have l1 : ¬ h.nx + 1 < h.lo := by omega
 have wu : wr .i64 c.us = c.us := wr_i64 (by omega) (by omega)
 have we : wr .i64 c.es = c.es := wr_i64 (by omega) (by omega)
 obtain ⟨fb, hfb⟩ : ∃ fb, fullB c.l0 now = fb := ⟨_, rfl⟩
 have ex : encW (newW c now) = [.int .u32 c.t, .int .i64 c.l0.b, .int .i64 c.l0.r, .int .i64 c.l0.p, .int .i64 c.l1.b, .int .i64 c.l1.r, .int .i64 c.l1.p, .int .i64 c.l2.b, .int .i64 c.l2.r, .int .i64 c.l2.p, .int .i64 c.us, .int .i64 c.es, .int .i64 fb.l.b, .int .i64 fb.l.r, .int .i64 fb.l.p, .int .i64 fb.lv, .int .i64 fb.pt, .int .u64 fb.t, .nils, .nils, .nils, .int .u64 0, .int .u64 0, .int .u64 0] := by rw [← hfb]; rfl
 rw [hfb] at kf
 obtain ⟨H3, hH3⟩ : ∃ H, ((((h.new (.cells (.int .u8 c.op :: .int .u32 c.t :: .int .u32 c.u :: .int .i64 c.l0.b :: .int .i64 c.l0.r :: .int .i64 c.l0.p :: .int .i64 c.l1.b :: .int .i64 c.l1.r :: .int .i64 c.l1.p :: .int .i64 c.l2.b :: .int .i64 c.l2.r :: .int .i64 c.l2.p :: .int .u8 c.us :: .int .u8 c.es :: .int .u64 c.ex :: R) .cl)).new (.cells [.int .u32 0, .int .i64 0, .int .i64 0, .int .i64 0, .int .i64 0, .int .i64 0, .int .i64 0, .int .i64 0, .int .i64 0, .int .i64 0, .int .i64 0, .int .i64 0, .int .i64 0, .int .i64 0, .int .i64 0, .int .i64 0, .int .i64 0, .int .u64 0, .nils, .nils, .nils, .int .u64 0, .int .u64 0, .int .u64 0] (.ct t1))).set (h.nx + 1) (.cells [.int .u32 c.t, .int .i64 c.l0.b, .int .i64 c.l0.r, .int .i64 c.l0.p, .int .i64 c.l1.b, .int .i64 c.l1.r, .int .i64 c.l1.p, .int .i64 c.l2.b, .int .i64 c.l2.r, .int .i64 c.l2.p, .int .i64 c.us, .int .i64 c.es, .int .i64 0, .int .i64 0, .int .i64 0, .int .i64 0, .int .i64 0, .int .u64 0, .nils, .nils, .nils, .int .u64 0, .int .u64 0, .int .u64 0] (.ct t1))).set (h.nx + 1) (.cells [.int .u32 c.t, .int .i64 c.l0.b, .int .i64 c.l0.r, .int .i64 c.l0.p, .int .i64 c.l1.b, .int .i64 c.l1.r, .int .i64 c.l1.p, .int .i64 c.l2.b, .int .i64 c.l2.r, .int .i64 c.l2.p, .int .i64 c.us, .int .i64 c.es, .int .i64 fb.l.b, .int .i64 fb.l.r, .int .i64 fb.l.p, .int .i64 fb.lv, .int .i64 fb.pt, .int .u64 fb.t, .nils, .nils, .nils, .int .u64 0, .int .u64 0, .int .u64 0] (.ct t1))).new (.cells [.int .u32 c.t, .int .i64 c.l0.b, .int .i64 c.l0.r, .int .i64 c.l0.p, .int .i64 c.l1.b, .int .i64 c.l1.r, .int .i64 c.l1.p, .int .i64 c.l2.b, .int .i64 c.l2.r, .int .i64 c.l2.p, .int .i64 c.us, .int .i64 c.es, .int .i64 fb.l.b, .int .i64 fb.l.r, .int .i64 fb.l.p, .int .i64 fb.lv, .int .i64 fb.pt, .int .u64 fb.t, .nils, .nils, .nils, .int .u64 0, .int .u64 0, .int .u64 0] .cl) = H := ⟨_, rfl⟩
 have nx3 : H3.nx = h.nx + 3 := by rw [← hH3]; rfl
 have lo3 : H3.lo = h.lo := by rw [← hH3]; rfl
 have gr3 : H3.get (h.nx + 2) = .cells (encW (newW c now)) .cl := by rw [← hH3, ex]; simp only [↓zp, zz, zy, chkOk, Nat.reduceEqDiff, Nat.reduceAdd, Nat.reduceSub, Nat.reduceMul, Nat.reduceLT, Nat.reduceLeDiff, Int.reduceLT, Int.reduceLE, Int.reduceEq, Int.reduceAdd, Int.reduceNeg, reduceIte, r_st, r_nck, r_ix, r_iaa, takeN, VE.store, over, cellsAt, VE.part, blkX, gEval, fill, VE.unOp, resVs, resV, reduceCtorEq]
 have gk3 : ∀ b, b < h.nx → H3.get b = h.get b := fun b hb => by
  have e0 : ¬ b = h.nx := by omega
  have e1 : ¬ b = h.nx + 1 := by omega
  have e2 : ¬ b = h.nx + 2 := by omega
  rw [← hH3]
  simp only [↓zp, zz, zy, chkOk, Nat.reduceEqDiff, Nat.reduceAdd, Nat.reduceSub, Nat.reduceMul, Nat.reduceLT, Nat.reduceLeDiff, Int.reduceLT, Int.reduceLE, Int.reduceEq, Int.reduceAdd, Int.reduceNeg, reduceIte, r_st, r_nck, r_ix, r_iaa, takeN, VE.store, over, cellsAt, VE.part, blkX, gEval, fill, VE.unOp, resVs, resV, reduceCtorEq, e0, e1, e2]
 obtain ⟨H4, tg, ap, gN, nx4, lo4, gk4⟩ := app_acc (x := newW c now) (aM.keep (gk3 bA hbA)) gr3 (.inr (by rw [lo3]; exact hlA)) (.inr (by omega)) (by omega)
 have gm4 : H4.get bm = .cells (.int .u64 now :: mT sd ep v) tm := by rw [gk4 bm (by omega) hne, gk3 bm hbm, hm]
 have stm := w.st (v := v) (v' := .sl H3.nx 0 (L.length + 1) (L.length + 1) 24) rfl
 have d48' := w.d48 (v := .sl H3.nx 0 (L.length + 1) (L.length + 1) 24)
 obtain ⟨H5, hH5⟩ : ∃ H, H4.set bm (.cells (.int .u64 now :: mT sd ep (.sl H3.nx 0 (L.length + 1) (L.length + 1) 24)) tm) = H := ⟨_, rfl⟩
 have gm5 : H5.get bm = .cells (.int .u64 now :: mT sd ep (.sl H3.nx 0 (L.length + 1) (L.length + 1) 24)) tm := by rw [← hH5, Heap.get_set, if_pos rfl]
 have gk5 : ∀ b, b ≠ bm → H5.get b = H4.get b := fun b hb => by rw [← hH5, Heap.get_set, if_neg hb]
 have nx5 : H5.nx = h.nx + 4 := by rw [← hH5]; show H4.nx = _; omega
 have lo5 : H5.lo = h.lo := by rw [← hH5]; exact lo4.trans lo3
 have gN5 := (gk5 H3.nx (by omega)).trans gN
 obtain ⟨_, H6, sc, rfl, sp⟩ := hS L (newW c now) H3.nx (L.length + 1) [] tg H5 gN5 (by omega) (by omega) ⟨hct, by show c.t < _; have := ok.t; omega⟩ hL hs
 rw [nx3] at stm d48' hH5 gm5 sc ap gN5 sp
 have lm4 : ¬ bm < H4.lo := by rw [lo4, lo3]; exact hlm
 unfold encB encL at kf
 unfold B_model_create at *
 clear ex
 simp only [↓zp, zz, zy, chkOk, Nat.reduceEqDiff, Nat.reduceAdd, Nat.reduceSub, Nat.reduceMul, Nat.reduceLT, Nat.reduceLeDiff, Int.reduceLT, Int.reduceLE, Int.reduceEq, Int.reduceAdd, Int.reduceNeg, reduceIte, r_st, r_nck, r_ix, r_iaa, takeN, VE.store, over, cellsAt, VE.part, blkX, gEval, fill, VE.unOp, resVs, resV, reduceCtorEq, lR, hmx, hmx1, hmx2, hm, d48, ln, q8', l1, wu, we, m1, kf, hH3, gk3, ap, nx3, gm4, lm4, stm, hH5, gm5, d48', sc]
 obtain ⟨⟨pp, pl, gp, po1, po2⟩, on⟩ := sp
 refine ⟨.inr ⟨q8, rfl, h.nx + 3, pp, tg, by omega, by rw [on.nx]; omega, by rw [on.get bm (by omega), gm5], pl, gp, po1, po2⟩, fun b hb hbm' hbA' => ?_, on.lo.trans lo5, by rw [on.nx]; omega⟩
 rw [on.get b (by omega), gk5 b hbm', gk4 b (by omega) hbA', gk3 b hb]
end
end
end Go.VE.LB
