/- What the functions of the law ModelCommands compute, on typed arguments (part 6). -/
import Derived.Test.YtdggjlfamjfdkaaGreatModelCommandsA5
import Derived.Test.YtdggjlfamjfdkaaGreatModelCommandsA1
import Derived.Test.YtdggjlfamjfdkaaGreatModelCommandsA3
set_option linter.all false
namespace Go.VE.LB
section
open Go Go.VE
set_option maxRecDepth 100000
set_option linter.all false
set_option maxHeartbeats 2000000
@[congr] theorem wp_cg {vp : Nat → Option VFn} {c : VCode} {s s' : Slots} {h h' : Heap} {Q : VX → Slots → Heap → Prop} (hs : s = s') (hh : h = h') : wp vp c s h Q = wp vp c s' h' Q := by rw [hs, hh]
@[congr] theorem wpOps_cg {vp : Nat → Option VFn} {c : List VOper} {s s' : Slots} {h h' : Heap} {K : Slots → Heap → Prop} (hs : s = s') (hh : h = h') : wpOps vp c s h K = wpOps vp c s' h' K := by rw [hs, hh]
theorem r_st_p {n b o : Nat} {x : V} {h : Heap} : r_st n (.ptr b o) x h = match cellsO x with
 | some l => bif Nat.beq l.length n then (VE.store h b o l).map fun h => (.tup [], h) else none
 | none => none := rfl
theorem r_nck_p {b o : Nat} {h : Heap} : r_nck (.ptr b o) h = some (.ptr b o, h) := rfl
section
variable {α : Type} {enc : α → List V} {sz : Nat}
theorem mr_drop (he : ∀ x, (enc x).length = sz) (L : List α) {k j : Nat} (hk : k < L.length) (hj : j ≤ sz) (rest : List V) :
  (L.flatMap enc ++ rest).drop (k * sz + j) = (enc L[k]).drop j ++ ((L.drop (k + 1)).flatMap enc ++ rest) := by
 have hl := he L[k]
 rw [← List.drop_drop, List.drop_append_of_le_length (by rw [flat_len2 he]; exact Nat.mul_le_mul_right _ (by omega)), flat_drop he L k hk, List.append_assoc, List.drop_append_of_le_length (by omega)]
theorem mr_split (L : List α) {k : Nat} (hk : k < L.length) : L.flatMap enc = (L.take k).flatMap enc ++ (enc L[k] ++ (L.drop (k + 1)).flatMap enc) := by
 conv => lhs; rw [← List.take_append_drop k L, List.flatMap_append, List.drop_eq_getElem_cons hk, List.flatMap_cons]
theorem mr_set (L : List α) {k : Nat} (hk : k < L.length) (w : α) : (L.set k w).flatMap enc = (L.take k).flatMap enc ++ (enc w ++ (L.drop (k + 1)).flatMap enc) := by
 rw [List.set_eq_take_append_cons_drop, if_pos hk, List.flatMap_append, List.flatMap_cons]
theorem mr_over (he : ∀ x, (enc x).length = sz) (L : List α) {k j : Nat} (hk : k < L.length) (w : α) (new rest : List V) (hj : j + new.length ≤ sz)
  (hw : enc w = (enc L[k]).take j ++ (new ++ (enc L[k]).drop (j + new.length))) (ho : new.all oneCell = true) :
  over (k * sz + j) (L.flatMap enc ++ rest) new = some ((L.set k w).flatMap enc ++ rest) := by
 have hl := he L[k]
 have e1 : L.flatMap enc ++ rest = ((L.take k).flatMap enc ++ (enc L[k]).take j) ++ (((enc L[k]).drop j).take new.length ++ ((enc L[k]).drop (j + new.length) ++ ((L.drop (k + 1)).flatMap enc ++ rest))) := by
  have e2 : ((enc L[k]).drop j).take new.length ++ (enc L[k]).drop (j + new.length) = (enc L[k]).drop j := by
   conv => lhs; rw [← List.drop_drop]
   exact List.take_append_drop _ _
  rw [mr_split L hk]
  simp only [List.append_assoc]
  rw [← List.append_assoc (((enc L[k]).drop j).take new.length), e2, ← List.append_assoc ((enc L[k]).take j), List.take_append_drop]
 have hp : ((L.take k).flatMap enc ++ (enc L[k]).take j).length = k * sz + j := by
  rw [List.length_append, flat_len2 he, List.length_take, List.length_take]
  rw [Nat.min_eq_left (by omega), Nat.min_eq_left (by omega)]
 rw [e1, ← hp, over_mid _ _ _ _ (by rw [List.length_take, List.length_drop]; omega) ho, mr_set L hk, hw]
 simp only [List.append_assoc]
def Pt (b k sz : Nat) (p : Nat → V) : Prop := ∀ j, p j = .ptr b (k * sz + j)
theorem mr_pt (b k sz : Nat) : ∃ p, Pt b k sz p := ⟨fun j => .ptr b (k * sz + j), fun _ => rfl⟩
section
variable {b k : Nat} {p : Nat → V} (hp : Pt b k sz p)
include hp
theorem Pt.fa (i j : Nat) (h : Heap) : r_fa j (p i) h = some (p (i + j), h) := by
 rw [hp i, hp (i + j)]
 show some (V.ptr b (k * sz + i + j), h) = _
 rw [Nat.add_assoc]
theorem Pt.nck (i : Nat) (h : Heap) : r_nck (p i) h = some (p i, h) := by rw [hp i]; rfl
theorem Pt.ia {n cap : Nat} (hk : k < n) (h : Heap) : r_ia sz (.sl b 0 n cap sz) (.int .i64 (k : Int)) h = some (p 0, h) := by
 rw [hp 0]
 simp only [r_ia, asNatN, blt_dec, hk, decide_true, cond_true, Nat.zero_add, Nat.add_zero]
theorem Pt.ld (he : ∀ x, (enc x).length = sz) {L : List α} {rest : List V} {tag : Tag} {h : Heap} (hb : h.get b = .cells (L.flatMap enc ++ rest) tag) (hk : k < L.length) {j n : Nat} {cs : List V} (hj : j + n ≤ sz) (hc : ((enc L[k]).drop j).take n = cs) :
  r_ld (some n) (p j) h = some (.agg cs, h) := by
 have hl := he L[k]
 have e : (enc L[k]).drop j = cs ++ ((enc L[k]).drop j).drop n := by rw [← hc, List.take_append_drop]
 have hn : cs.length = n := by rw [← hc, List.length_take, List.length_drop]; omega
 subst hn
 rw [hp j]
 simp only [r_ld, cellsAt, hb, VE.part]
 rw [mr_drop he L hk (by omega), e, List.append_assoc, takeN_app, Option.map_some]
 try rfl
theorem Pt.ld1 (he : ∀ x, (enc x).length = sz) {L : List α} {rest : List V} {tag : Tag} {h : Heap} (hb : h.get b = .cells (L.flatMap enc ++ rest) tag) (hk : k < L.length) {j : Nat} {c : V} {cs : List V} (hj : j < sz) (hc : (enc L[k]).drop j = c :: cs) :
  r_ld none (p j) h = some (c, h) := by
 rw [hp j]
 simp only [r_ld, cellsAt, hb, VE.part]
 rw [mr_drop he L hk (by omega), hc, List.cons_append, Option.map_some]
theorem Pt.st (he : ∀ x, (enc x).length = sz) {L : List α} {rest : List V} {tag : Tag} {h : Heap} (hb : h.get b = .cells (L.flatMap enc ++ rest) tag) (hk : k < L.length) (hlo : ¬ b < h.lo) {j n : Nat} {v : V} {new : List V} (w : α)
  (hv : cellsO v = some new) (hn : new.length = n) (hz : 0 < n) (hj : j + n ≤ sz) (ho : new.all oneCell = true) (hw : enc w = (enc L[k]).take j ++ (new ++ (enc L[k]).drop (j + n))) :
  r_st n (p j) v h = some (.tup [], h.set b (.cells ((L.set k w).flatMap enc ++ rest) tag)) := by
 subst hn
 rw [hp j]
 simp only [r_st, hv, beq_dec, decide_true, cond_true, VE.store, blt_dec, hlo, decide_false, cond_false, hb]
 cases new with
 | nil => simp at hz
 | cons y new =>
  simp only [mr_over he L hk w (y :: new) rest hj hw ho, Option.map_some]
end
end
def chgB (b : Bucket) (l : Limit) (t : Int) : Bucket := mkB l (if l.b < (fillB b t).lv then l.b else (fillB b t).lv) 0 (fillB b t).t
theorem mini_i {a b : Int} {h : Heap} : r_mini [.int .i64 a, .int .i64 b] h = some (.int .i64 (if b < a then b else a), h) := by
 show some (V.int .i64 (bif ltI b a then b else a), h) = _
 rw [ltI_dec, Bool.cond_eq_ite]
 simp only [decide_eq_true_eq]
theorem chgB_ok {b : Bucket} {l : Limit} {t : Int} (hb : bkBad b = false) (hbt : u64 b.t) (ht : u64 t) (hl : limBad l = false) : bkBad (chgB b l t) = false ∧ u64 (chgB b l t).t := by
 have v := fillB_ok hb hbt ht
 obtain ⟨B, R, P, L, T, eB, eR, eP, eL, eT, v1, v2, v3, v4, v5, v6, v7, v8⟩ := bk_nat v.1
 have := lim_ok.1 hl
 refine ⟨?_, v.2.1⟩
 exact mkB_ok hl (by split <;> omega) (by split <;> omega) (by omega) (by omega) (fun _ => rfl)
section
variable {vp : Nat → Option VFn}
theorem change_spec {f c1 c2 c3 cm co ca cd cs t1 t2 t3 : Nat} (hf : vp f = some (B_bucket_Change c1 c2 c3 t3)) (h1 : vp c1 = some (B_bucket_Check c2)) (hcl : vp c2 = some B_bucket_CheckLimit) (h2 : vp c3 = some (B_bucket_fill cm co ca cd cs t1 t2)) (w : WOk vp cm co ca cd cs)
  (b : Bucket) (l : Limit) (t : Int) (hb : bkBad b = false) (hbt : u64 b.t) (ht : u64 t) (hlim : limBad l = false) (h : Heap) :
  callRes vp f [.agg (encB b), .agg (encL l), .int .u64 t] h = some (.tup [.agg (encB (chgB b l t)), .int .i64 0], h) := by
 have m1 : modeOf vp c1 = some 1 := by simp [modeOf, h1, B_bucket_Check]
 have m2 : modeOf vp c2 = some 1 := by simp [modeOf, hcl, B_bucket_CheckLimit]
 have m3 : modeOf vp c3 = some 1 := by simp [modeOf, h2, B_bucket_fill]
 have k1 : ∀ h, callRes vp c1 [.agg (encB b)] h = some (.int .i64 0, h) := fun h => by rw [bk_spec h1 hcl, chkB_ok hb]
 have k2 : ∀ h, callRes vp c2 [.agg [.int .i64 l.b, .int .i64 l.r, .int .i64 l.p]] h = some (.int .i64 0, h) := fun h => by rw [lim_spec hcl, chkLim_ok hlim]
 have k3 := fun h => bfill_spec h2 w b t hb hbt ht h
 refine res_pure hf rfl rfl (fun g hg => ?_)
 have hl := hlo hg
 have l0 : ¬ (g.nx < g.lo) := by omega
 have l1 : ¬ (g.nx + 1 < g.lo) := by omega
 have l2 : ¬ (g.nx + 2 < g.lo) := by omega
 have e : encB (chgB b l t) = [.int .i64 l.b, .int .i64 l.r, .int .i64 l.p, .int .i64 (if l.b < (fillB b t).lv then l.b else (fillB b t).lv), .int .i64 0, .int .u64 (fillB b t).t] := encB_mk (by
  have := lim_b hlim
  split <;> omega)
 rw [e]
 unfold B_bucket_Change
 generalize fillB b t = b' at *
 generalize hX : (if l.b < b'.lv then l.b else b'.lv) = X
 have mn : ∀ h, r_mini [.int .i64 b'.lv, .int .i64 l.b] h = some (.int .i64 X, h) := fun h => by rw [mini_i, hX]
 unfold encB at *
 unfold encL
 simp only [↓zp, zz, zy, chkOk, Nat.reduceEqDiff, Nat.reduceAdd, Nat.reduceSub, Nat.reduceMul, Nat.reduceLT, Nat.reduceLeDiff, Int.reduceLT, Int.reduceLE, Int.reduceEq, Int.reduceAdd, Int.reduceNeg, reduceIte, r_st, r_nck, r_ix, r_iaa, takeN, VE.store, over, cellsAt, VE.part, blkX, gEval, fill, VE.unOp, resVs, resV, reduceCtorEq, l0, l1, l2, m1, m2, m3, k1, k2, k3, mn, apartV, frzTB6]
theorem cnan_spec {f : Nat} (hf : vp f = some B_cmp_isNaN_uint32) (x : Int) (h : Heap) : callRes vp f [.int .u32 x] h = some (.bool false, h) := by
 refine res_pure hf rfl rfl (fun g hg => ?_)
 unfold B_cmp_isNaN_uint32
 simp only [↓zp, zz, zy, chkOk, Nat.reduceEqDiff, Nat.reduceAdd, Nat.reduceSub, Nat.reduceMul, Nat.reduceLT, Nat.reduceLeDiff, Int.reduceLT, Int.reduceLE, Int.reduceEq, Int.reduceAdd, Int.reduceNeg, reduceIte, r_st, r_nck, r_ix, r_iaa, takeN, VE.store, over, cellsAt, VE.part, blkX, gEval, fill, VE.unOp, resVs, resV, reduceCtorEq, not_true, frzB]
theorem snan_spec {f : Nat} (hf : vp f = some B_slices_isNaN_uint32) (x : Int) (h : Heap) : callRes vp f [.int .u32 x] h = some (.bool false, h) := by
 refine res_pure hf rfl rfl (fun g hg => ?_)
 unfold B_slices_isNaN_uint32
 simp only [↓zp, zz, zy, chkOk, Nat.reduceEqDiff, Nat.reduceAdd, Nat.reduceSub, Nat.reduceMul, Nat.reduceLT, Nat.reduceLeDiff, Int.reduceLT, Int.reduceLE, Int.reduceEq, Int.reduceAdd, Int.reduceNeg, reduceIte, r_st, r_nck, r_ix, r_iaa, takeN, VE.store, over, cellsAt, VE.part, blkX, gEval, fill, VE.unOp, resVs, resV, reduceCtorEq, not_true, frzB]
theorem lessU_spec {f c1 : Nat} (hf : vp f = some (B_cmp_Less_uint32 c1)) (h1 : vp c1 = some B_cmp_isNaN_uint32) (x y : Int) (h : Heap) : callRes vp f [.int .u32 x, .int .u32 y] h = some (.bool (decide (x < y)), h) := by
 have m1 : modeOf vp c1 = some 1 := by simp [modeOf, h1, B_cmp_isNaN_uint32]
 have k1 := fun x h => cnan_spec h1 x h
 refine res_pure hf rfl rfl (fun g hg => ?_)
 unfold B_cmp_Less_uint32
 simp only [↓zp, zz, zy, chkOk, Nat.reduceEqDiff, Nat.reduceAdd, Nat.reduceSub, Nat.reduceMul, Nat.reduceLT, Nat.reduceLeDiff, Int.reduceLT, Int.reduceLE, Int.reduceEq, Int.reduceAdd, Int.reduceNeg, reduceIte, r_st, r_nck, r_ix, r_iaa, takeN, VE.store, over, cellsAt, VE.part, blkX, gEval, fill, VE.unOp, resVs, resV, reduceCtorEq, m1, k1, frzB]
theorem len_spec {f c1 c2 : Nat} (hf : vp f = some (B_math_bits_Len c1 c2)) (h2 : vp c2 = some B_math_bits_Len64) (x : Nat) (h0 : 0 < x) (hx : x < 4294967296) (h : Heap) : ∃ n : Int, callRes vp f [.int .u64 (x : Int)] h = some (.int .i64 n, h) := by
 obtain ⟨n, a1, a2, a3, a4, _⟩ := len64_spec h2 x h0 hx h
 have m2 : modeOf vp c2 = some 1 := by simp [modeOf, h2, B_math_bits_Len64]
 have call : ∀ h, callRes vp c2 [.int .u64 (x : Int)] h = some (.int .i64 (n : Int), h) := by
  intro h
  obtain ⟨m, b1, b2, b3, b4, e⟩ := len64_spec h2 x h0 hx h
  have : m = n := by
   rcases Nat.lt_trichotomy m n with q | q | q
   ·have := Nat.pow_le_pow_right (show 0 < 2 by decide) (show m ≤ n - 1 by omega); omega
   ·exact q
   ·have := Nat.pow_le_pow_right (show 0 < 2 by decide) (show n ≤ m - 1 by omega); omega
  rw [← this]
  exact e
 refine ⟨n, res_pure hf rfl rfl (fun g hg => ?_)⟩
 unfold B_math_bits_Len
 simp only [↓zp, zz, zy, chkOk, Nat.reduceEqDiff, Nat.reduceAdd, Nat.reduceSub, Nat.reduceMul, Nat.reduceLT, Nat.reduceLeDiff, Int.reduceLT, Int.reduceLE, Int.reduceEq, Int.reduceAdd, Int.reduceNeg, reduceIte, r_st, r_nck, r_ix, r_iaa, takeN, VE.store, over, cellsAt, VE.part, blkX, gEval, fill, VE.unOp, resVs, resV, reduceCtorEq, m2, call, frzI]
end
end
section
open Go Go.VE
set_option maxRecDepth 100000
set_option linter.all false
set_option maxHeartbeats 4000000
structure Rw where
 a : Acct
 u : V
 e : V
 r : V
 ou : oneCell u = true ∧ cellsO u = some [u]
 oe : oneCell e = true ∧ cellsO e = some [e]
 or : oneCell r = true ∧ cellsO r = some [r]
def encW (w : Rw) : List V := encS w.a w.u w.e w.r w.a.own w.a.n0 w.a.n1 w.a.n2
theorem encW_len (w : Rw) : (encW w).length = 24 := rfl
theorem encW_one (w : Rw) : (encW w).all oneCell = true := by
 simp only [encW, encS, List.all_cons, List.all_nil, w.ou.1, w.oe.1, w.or.1, one_int, Bool.and_self]
structure Only (b : Nat) (H h : Heap) : Prop where
 get : ∀ c, c ≠ b → h.get c = H.get c
 lo : h.lo = H.lo
 nx : h.nx = H.nx
theorem Only.refl (b : Nat) (H : Heap) : Only b H H := ⟨fun _ _ => rfl, rfl, rfl⟩
theorem Only.set {b : Nat} {H h : Heap} (k : Only b H h) (x : Blk) : Only b H (h.set b x) := ⟨fun c hc => by rw [Heap.get_set, if_neg hc, k.get c hc], k.lo, k.nx⟩
theorem Only.trans {b : Nat} {H h g : Heap} (k : Only b H h) (l : Only b h g) : Only b H g := ⟨fun c hc => (l.get c hc).trans (k.get c hc), l.lo.trans k.lo, l.nx.trans k.nx⟩
section
variable {vp : Nat → Option VFn}
def tOk (w : Rw) : Prop := 0 ≤ w.a.t ∧ w.a.t < 4294967296
def CmpF (vp : Nat → Option VFn) (F : V) : Prop := ∀ x y : Rw, tOk x → tOk y → ∀ h, callVRes vp F [.agg (encW x), .agg (encW y)] h = some (.int .i64 (x.a.t - y.a.t), h)
theorem cmpA_spec {c : Nat} (h1 : vp c = some B_model_create_fn1) : CmpF vp (.fn c []) := by
 intro x y hx hy h
 refine callVRes_fn (res_pure h1 rfl rfl (fun g hg => ?_))
 have a1 : wr .i64 x.a.t = x.a.t := wr_i64 (by have := hx.1; omega) (by have := hx.2; omega)
 have a2 : wr .i64 y.a.t = y.a.t := wr_i64 (by have := hy.1; omega) (by have := hy.2; omega)
 have a3 : wr .i64 (x.a.t - y.a.t) = x.a.t - y.a.t := wr_i64 (by have := hx.1; have := hy.2; omega) (by have := hx.2; have := hy.1; omega)
 unfold B_model_create_fn1 encW encS
 simp only [↓zp, zz, zy, chkOk, Nat.reduceEqDiff, Nat.reduceAdd, Nat.reduceSub, Nat.reduceMul, Nat.reduceLT, Nat.reduceLeDiff, Int.reduceLT, Int.reduceLE, Int.reduceEq, Int.reduceAdd, Int.reduceNeg, reduceIte, r_st, r_nck, r_ix, r_iaa, takeN, VE.store, over, cellsAt, VE.part, blkX, gEval, fill, VE.unOp, resVs, resV, reduceCtorEq, a1, a2, a3, frzI]
def insT (S : List Rw) (x : Rw) (j : Nat) : List Rw := S.take j ++ x :: S.drop j
theorem swap2 {α : Type} (A B : List α) (x y : α) : ((A ++ y :: x :: B).set (A.length + 1) y).set A.length x = A ++ x :: y :: B := by
 simp [List.set_append]
theorem insT_cut (S : List Rw) (x : Rw) {j : Nat} (hj : j < S.length) : insT S x (j + 1) = S.take j ++ S[j] :: x :: S.drop (j + 1) := by
 rw [insT, List.take_succ_eq_append_getElem hj, List.append_assoc]
 rfl
theorem insT_swap (S : List Rw) (x : Rw) {j : Nat} (hj : j < S.length) : ((insT S x (j + 1)).set (j + 1) S[j]).set j x = insT S x j := by
 have e : (S.take j).length = j := by rw [List.length_take]; omega
 rw [insT_cut S x hj]
 have := swap2 (S.take j) (S.drop (j + 1)) x S[j]
 rw [e] at this
 rw [this, insT, List.drop_eq_getElem_cons hj]
theorem insT_len (S : List Rw) (x : Rw) {j : Nat} (hj : j ≤ S.length) : (insT S x j).length = S.length + 1 := by
 simp [insT]; omega
theorem insT_at (S : List Rw) (x : Rw) {j : Nat} (hj : j ≤ S.length) (h : j < (insT S x j).length) : (insT S x j)[j] = x := by
 have e : (S.take j).length = j := by rw [List.length_take]; omega
 simp only [insT]
 rw [List.getElem_append_right (by omega)]
 simp [e]
theorem insT_pred (S : List Rw) (x : Rw) {j : Nat} (hj : j < S.length) (h : j < (insT S x (j + 1)).length) : (insT S x (j + 1))[j] = S[j] := by
 have e : (S.take j).length = j := by rw [List.length_take]; omega
 simp only [insT_cut S x hj]
 rw [List.getElem_append_right (by omega)]
 simp [e]
structure SortP (S : List Rw) (x : Rw) (b : Nat) (rest : List V) (tag : Tag) (H h : Heap) : Prop where
 ex : ∃ p, p ≤ S.length ∧ h.get b = .cells ((insT S x p).flatMap encW ++ rest) tag ∧ (∀ i (hi : i < S.length), i + 1 = p → S[i].a.t ≤ x.a.t) ∧ ∀ i (hi : i < S.length), p ≤ i → x.a.t < S[i].a.t
 only : Only b H h
def invSo (S : List Rw) (x : Rw) (F : V) (b cap : Nat) (rest : List V) (tag : Tag) (H : Heap) (m : Nat) (s : Slots) (h : Heap) : Prop :=
 ∃ k, k ≤ S.length + 1 ∧ m = S.length + 1 - k ∧ s.at 0 = .sl b 0 (S.length + 1) cap 24 ∧ s.at 1 = .int .i64 0 ∧ s.at 2 = .int .i64 ((S.length + 1 : Nat) : Int) ∧ s.at 3 = F ∧ s.at 8 = .int .i64 (k : Int) ∧ (1 ≤ k ∧ k < S.length + 1 ∧ h = H ∨ k = S.length + 1 ∧ SortP S x b rest tag H h)
def invSi (S : List Rw) (x : Rw) (F : V) (b cap : Nat) (rest : List V) (tag : Tag) (H : Heap) (m : Nat) (s : Slots) (h : Heap) : Prop :=
 ∃ j, j ≤ S.length ∧ m = j ∧ s.at 0 = .sl b 0 (S.length + 1) cap 24 ∧ s.at 1 = .int .i64 0 ∧ s.at 2 = .int .i64 ((S.length + 1 : Nat) : Int) ∧ s.at 3 = F ∧ s.at 8 = .int .i64 (S.length : Int) ∧ s.at 9 = .int .i64 (j : Int) ∧ h.get b = .cells ((insT S x j).flatMap encW ++ rest) tag ∧ Only b H h ∧ ∀ i (hi : i < S.length), j ≤ i → x.a.t < S[i].a.t
theorem isort_spec {f : Nat} (hf : vp f = some B_slices_insertionSortCmpFunc_api_Account) (F : V) (hF : CmpF vp F) (S : List Rw) (x : Rw) (b cap : Nat) (rest : List V) (tag : Tag) (h : Heap)
  (hb : h.get b = .cells ((S ++ [x]).flatMap encW ++ rest) tag) (hlo : ¬ b < h.lo) (hn : S.length ≤ 100000) (hx : tOk x) (hS : ∀ w ∈ S, tOk w) (hs : ∀ k (hk : k + 1 < S.length), S[k].a.t < S[k + 1].a.t) :
  ∃ v h', callRes vp f [.sl b 0 (S.length + 1) cap 24, .int .i64 0, .int .i64 ((S.length + 1 : Nat) : Int), F] h = some (v, h') ∧ v = .tup [] ∧ SortP S x b rest tag h h' := by
 refine res_raw hf rfl rfl ?_
 have e0 : S ++ [x] = insT S x S.length := by simp [insT]
 unfold B_slices_insertionSortCmpFunc_api_Account
 simp only [↓zp, zz, zy, chkOk, Nat.reduceEqDiff, Nat.reduceAdd, Nat.reduceSub, Nat.reduceMul, Nat.reduceLT, Nat.reduceLeDiff, Int.reduceLT, Int.reduceLE, Int.reduceEq, Int.reduceAdd, Int.reduceNeg, reduceIte, r_st, r_nck, r_ix, r_iaa, takeN, VE.store, over, cellsAt, VE.part, blkX, gEval, fill, VE.unOp, resVs, resV, reduceCtorEq]
 generalize hSl : Tr.set _ 8 _ = s0
 have b0 : Slots.at s0 0 = .sl b 0 (S.length + 1) cap 24 := by rw [← hSl]; simp only [zs, Nat.reduceEqDiff]
 have b1 : Slots.at s0 1 = .int .i64 0 := by rw [← hSl]; simp only [zs, Nat.reduceEqDiff]
 have b2 : Slots.at s0 2 = .int .i64 ((S.length + 1 : Nat) : Int) := by rw [← hSl]; simp only [zs, Nat.reduceEqDiff]
 have b3 : Slots.at s0 3 = F := by rw [← hSl]; simp only [zs, Nat.reduceEqDiff]
 have b8 : Slots.at s0 8 = .int .i64 ((1 : Nat) : Int) := by rw [← hSl]; simp only [zs, Nat.reduceEqDiff]; rfl
 clear hSl
 refine loop_ind (fun m s h' => invSo S x F b cap rest tag h m s h') ?_ S.length ⟨1, by omega, by omega, b0, b1, b2, b3, b8, ?_⟩
 rotate_left
 ·rcases Nat.eq_zero_or_pos S.length with q | q
  ·refine .inr ⟨by omega, ⟨0, by omega, ?_, fun i hi => by omega, fun i hi => by omega⟩, .refl _ _⟩
   rw [hb, e0, q]
  ·exact .inl ⟨by omega, by omega, rfl⟩
 rintro m s h' ⟨k, hk, hm, c0, c1, c2, c3, c8, hc⟩
 rcases hc with ⟨k1, k2, rfl⟩ | ⟨rfl, hc⟩
 case inr =>
  have q : ¬ (((S.length + 1 : Nat) : Int) < ((S.length + 1 : Nat) : Int)) := by omega
  simp only [↓zp, zz, zy, chkOk, Nat.reduceEqDiff, Nat.reduceAdd, Nat.reduceSub, Nat.reduceMul, Nat.reduceLT, Nat.reduceLeDiff, Int.reduceLT, Int.reduceLE, Int.reduceEq, Int.reduceAdd, Int.reduceNeg, reduceIte, r_st_p, r_nck_p, r_ix, r_iaa, takeN, VE.store, over, cellsAt, VE.part, blkX, gEval, fill, VE.unOp, resVs, resV, reduceCtorEq, c0, c1, c2, c3, c8, q]
  exact hc
 have hlt : ((k : Int) < ((S.length + 1 : Nat) : Int)) := by omega
 have wsk := wr_succ (k := k) (by omega)
 by_cases hk2 : k < S.length
 ·
  have wpk := wr_pred (k := k) (by omega) (by omega)
  obtain ⟨p, hp⟩ := mr_pt b k 24
  obtain ⟨q, hq⟩ := mr_pt b (k - 1) 24
  have L : (S ++ [x]).length = S.length + 1 := by simp
  have i1 := hp.ia (n := S.length + 1) (cap := cap) (by omega)
  have i2 := hq.ia (n := S.length + 1) (cap := cap) (by omega)
  have d1 := hp.ld encW_len hb (by omega) (j := 0) (n := 24) (by omega) (cs := encW S[k]) (by rw [List.getElem_append_left hk2]; rfl)
  have d2 := hq.ld encW_len hb (by omega) (j := 0) (n := 24) (by omega) (cs := encW S[k - 1]) (by rw [List.getElem_append_left (by omega)]; rfl)
  have cc := hF S[k] S[k - 1] (hS _ (List.getElem_mem _)) (hS _ (List.getElem_mem _))
  have hs' := hs (k - 1) (by omega)
  simp only [show k - 1 + 1 = k by omega] at hs'
  have ng : ¬ (S[k].a.t - S[k - 1].a.t < 0) := by omega
  have p0 : ((0 : Int) < (k : Int)) := by omega
  simp only [↓zp, zz, zy, chkOk, Nat.reduceEqDiff, Nat.reduceAdd, Nat.reduceSub, Nat.reduceMul, Nat.reduceLT, Nat.reduceLeDiff, Int.reduceLT, Int.reduceLE, Int.reduceEq, Int.reduceAdd, Int.reduceNeg, reduceIte, r_st_p, r_nck_p, r_ix, r_iaa, takeN, VE.store, over, cellsAt, VE.part, blkX, gEval, fill, VE.unOp, resVs, resV, reduceCtorEq, c0, c1, c2, c3, c8, hlt]
  refine w_loop1 ?_
  simp only [↓zp, zz, zy, chkOk, Nat.reduceEqDiff, Nat.reduceAdd, Nat.reduceSub, Nat.reduceMul, Nat.reduceLT, Nat.reduceLeDiff, Int.reduceLT, Int.reduceLE, Int.reduceEq, Int.reduceAdd, Int.reduceNeg, reduceIte, r_st_p, r_nck_p, r_ix, r_iaa, takeN, VE.store, over, cellsAt, VE.part, blkX, gEval, fill, VE.unOp, resVs, resV, reduceCtorEq, c0, c1, c2, c3, c8, p0, wpk, i1, i2, d1, d2, cc, ng, wsk]
  refine ⟨_, by omega, k + 1, by omega, rfl, by simp only [zs, Nat.reduceEqDiff, c0], by simp only [zs, Nat.reduceEqDiff, c1], by simp only [zs, Nat.reduceEqDiff, c2], by simp only [zs, Nat.reduceEqDiff, c3], by simp only [zs, Nat.reduceEqDiff], .inl ⟨by omega, by omega, rfl⟩⟩
 ·
  obtain rfl : k = S.length := by omega
  simp only [↓zp, zz, zy, chkOk, Nat.reduceEqDiff, Nat.reduceAdd, Nat.reduceSub, Nat.reduceMul, Nat.reduceLT, Nat.reduceLeDiff, Int.reduceLT, Int.reduceLE, Int.reduceEq, Int.reduceAdd, Int.reduceNeg, reduceIte, r_st_p, r_nck_p, r_ix, r_iaa, takeN, VE.store, over, cellsAt, VE.part, blkX, gEval, fill, VE.unOp, resVs, resV, reduceCtorEq, c0, c1, c2, c3, c8, hlt]
  generalize hSl : Tr.set _ 9 _ = s1
  have d0 : Slots.at s1 0 = .sl b 0 (S.length + 1) cap 24 := by rw [← hSl]; simp only [zs, Nat.reduceEqDiff, c0]
  have d1 : Slots.at s1 1 = .int .i64 0 := by rw [← hSl]; simp only [zs, Nat.reduceEqDiff, c1]
  have d2 : Slots.at s1 2 = .int .i64 ((S.length + 1 : Nat) : Int) := by rw [← hSl]; simp only [zs, Nat.reduceEqDiff, c2]
  have d3 : Slots.at s1 3 = F := by rw [← hSl]; simp only [zs, Nat.reduceEqDiff, c3]
  have d8 : Slots.at s1 8 = .int .i64 (S.length : Int) := by rw [← hSl]; simp only [zs, Nat.reduceEqDiff, c8]
  have d9 : Slots.at s1 9 = .int .i64 (S.length : Int) := by rw [← hSl]; simp only [zs, Nat.reduceEqDiff]
  clear hSl
  refine loop_ind (fun m s h'' => invSi S x F b cap rest tag h' m s h'') ?_ S.length ⟨S.length, by omega, rfl, d0, d1, d2, d3, d8, d9, by rw [hb, e0], .refl _ _, fun i hi => by omega⟩
  rintro m s h ⟨j, hj, rfl, a0, a1, a2, a3, a8, a9, hg, ho, hgt⟩
  have hloh : ¬ b < h.lo := by rw [ho.lo]; exact hlo
  rcases Nat.eq_zero_or_pos m with rfl | hpos
  ·have z : ¬ ((0 : Int) < ((0 : Nat) : Int)) := by omega
   simp only [↓zp, zz, zy, chkOk, Nat.reduceEqDiff, Nat.reduceAdd, Nat.reduceSub, Nat.reduceMul, Nat.reduceLT, Nat.reduceLeDiff, Int.reduceLT, Int.reduceLE, Int.reduceEq, Int.reduceAdd, Int.reduceNeg, reduceIte, r_st_p, r_nck_p, r_ix, r_iaa, takeN, VE.store, over, cellsAt, VE.part, blkX, gEval, fill, VE.unOp, resVs, resV, reduceCtorEq, a0, a1, a2, a3, a8, a9, z, wsk]
   exact ⟨_, by omega, S.length + 1, by omega, rfl, by simp only [zs, Nat.reduceEqDiff, a0], by simp only [zs, Nat.reduceEqDiff, a1], by simp only [zs, Nat.reduceEqDiff, a2], by simp only [zs, Nat.reduceEqDiff, a3], by simp only [zs, Nat.reduceEqDiff], .inr ⟨rfl, ⟨0, by omega, hg, fun i hi => by omega, hgt⟩, ho⟩⟩
  obtain ⟨j, rfl⟩ : ∃ j, m = j + 1 := ⟨m - 1, by omega⟩
  have p0 : ((0 : Int) < ((j + 1 : Nat) : Int)) := by omega
  have wpj := wr_pred (k := j + 1) (by omega) (by omega)
  simp only [Nat.add_sub_cancel] at wpj
  obtain ⟨p, hp⟩ := mr_pt b (j + 1) 24
  obtain ⟨q, hq⟩ := mr_pt b j 24
  have L := insT_len S x hj
  have i1 := hp.ia (n := S.length + 1) (cap := cap) (by omega)
  have i2 := hq.ia (n := S.length + 1) (cap := cap) (by omega)
  have l1 := hp.ld encW_len hg (by omega) (j := 0) (n := 24) (by omega) (cs := encW x) (by rw [insT_at S x hj]; rfl)
  have l2 := hq.ld encW_len hg (by omega) (j := 0) (n := 24) (by omega) (cs := encW S[j]) (by rw [insT_pred S x (by omega)]; rfl)
  have cc := hF x S[j] hx (hS _ (List.getElem_mem _))
  by_cases lt : x.a.t < S[j].a.t
  ·have lt' : x.a.t - S[j].a.t < 0 := by omega
   have s1 := hp.st encW_len hg (by omega) hloh (j := 0) (n := 24) (v := .agg (encW S[j])) S[j] rfl rfl (by omega) (by omega) (encW_one _) rfl
   have s2 := hq.st encW_len (h := h.set b (.cells (((insT S x (j + 1)).set (j + 1) S[j]).flatMap encW ++ rest) tag)) (L := (insT S x (j + 1)).set (j + 1) S[j]) (rest := rest) (tag := tag) (by rw [Heap.get_set, if_pos rfl]) (by rw [List.length_set]; omega) hloh (j := 0) (n := 24) (v := .agg (encW x)) x rfl rfl (by omega) (by omega) (encW_one _) rfl
   rw [insT_swap S x (by omega)] at s2
   simp only [↓zp, zz, zy, chkOk, Nat.reduceEqDiff, Nat.reduceAdd, Nat.reduceSub, Nat.reduceMul, Nat.reduceLT, Nat.reduceLeDiff, Int.reduceLT, Int.reduceLE, Int.reduceEq, Int.reduceAdd, Int.reduceNeg, reduceIte, r_st_p, r_nck_p, r_ix, r_iaa, takeN, VE.store, over, cellsAt, VE.part, blkX, gEval, fill, VE.unOp, resVs, resV, reduceCtorEq, a0, a1, a2, a3, a8, a9, p0, wpj, i1, i2, l1, l2, cc, lt', s1, s2]
   refine ⟨j, by omega, j, by omega, rfl, by simp only [zs, Nat.reduceEqDiff, a0], by simp only [zs, Nat.reduceEqDiff, a1], by simp only [zs, Nat.reduceEqDiff, a2], by simp only [zs, Nat.reduceEqDiff, a3], by simp only [zs, Nat.reduceEqDiff, a8], by simp only [zs, Nat.reduceEqDiff], by rw [Heap.get_set, if_pos rfl], (ho.set _).set _, fun i hi hji => ?_⟩
   rcases Nat.lt_or_ge j i with r | r
   ·exact hgt i hi (by omega)
   ·have : i = j := by omega
    subst this
    exact lt
  ·have lt' : ¬ (x.a.t - S[j].a.t < 0) := by omega
   simp only [↓zp, zz, zy, chkOk, Nat.reduceEqDiff, Nat.reduceAdd, Nat.reduceSub, Nat.reduceMul, Nat.reduceLT, Nat.reduceLeDiff, Int.reduceLT, Int.reduceLE, Int.reduceEq, Int.reduceAdd, Int.reduceNeg, reduceIte, r_st_p, r_nck_p, r_ix, r_iaa, takeN, VE.store, over, cellsAt, VE.part, blkX, gEval, fill, VE.unOp, resVs, resV, reduceCtorEq, a0, a1, a2, a3, a8, a9, p0, wpj, i1, i2, l1, l2, cc, lt', wsk]
   refine ⟨_, by omega, S.length + 1, by omega, rfl, by simp only [zs, Nat.reduceEqDiff, a0], by simp only [zs, Nat.reduceEqDiff, a1], by simp only [zs, Nat.reduceEqDiff, a2], by simp only [zs, Nat.reduceEqDiff, a3], by simp only [zs, Nat.reduceEqDiff], .inr ⟨rfl, ⟨j + 1, by omega, hg, fun i hi hi2 => ?_, hgt⟩, ho⟩⟩
   obtain rfl : i = j := by omega
   omega
theorem sort_spec {f c1 c2 c3 d1 d2 d3 d4 d5 d6 d7 d8 d9 e1 e2 : Nat} (hf : vp f = some (B_slices_SortFunc_api_Account c1 c2)) (h1 : vp c1 = some (B_math_bits_Len e1 e2)) (g2 : vp e2 = some B_math_bits_Len64) (h2 : vp c2 = some (B_slices_pdqsortCmpFunc_api_Account c3 d1 d2 d3 d4 d5 d6 d7 d8)) (h3 : vp c3 = some B_slices_insertionSortCmpFunc_api_Account)
  (F : V) (hF : CmpF vp F) (S : List Rw) (x : Rw) (b cap : Nat) (rest : List V) (tag : Tag) (h : Heap)
  (hb : h.get b = .cells ((S ++ [x]).flatMap encW ++ rest) tag) (hlo : ¬ b < h.lo) (hn : S.length + 1 ≤ 12) (hx : tOk x) (hS : ∀ w ∈ S, tOk w) (hs : ∀ k (hk : k + 1 < S.length), S[k].a.t < S[k + 1].a.t) :
  ∃ v h', callRes vp f [.sl b 0 (S.length + 1) cap 24, F] h = some (v, h') ∧ v = .tup [] ∧ SortP S x b rest tag h h' := by
 obtain ⟨v, h', e, rfl, P⟩ := isort_spec h3 F hF S x b cap rest tag h hb hlo (by omega) hx hS hs
 obtain ⟨n, en⟩ := len_spec h1 g2 (S.length + 1) (by omega) (by omega) h
 have m1 : modeOf vp c1 = some 1 := by simp [modeOf, h1, B_math_bits_Len]
 have w1 : wr .u64 ((S.length + 1 : Nat) : Int) = ((S.length + 1 : Nat) : Int) := wr_ul (by omega)
 have w2 : wr .i64 (((S.length + 1 : Nat) : Int) - 0) = ((S.length + 1 : Nat) : Int) := by rw [wr_i64 (by omega) (by omega)]; omega
 have le : (((S.length + 1 : Nat) : Int) ≤ 12) := by omega
 obtain ⟨v2, h2', e2', rfl, rfl⟩ : ∃ v2 h2', callRes vp c2 [.sl b 0 (S.length + 1) cap 24, .int .i64 0, .int .i64 ((S.length + 1 : Nat) : Int), .int .i64 n, F] h = some (v2, h2') ∧ v2 = .tup [] ∧ h2' = h' := by
  refine res_raw h2 rfl rfl ?_
  unfold B_slices_pdqsortCmpFunc_api_Account
  simp only [↓zp, zz, zy, chkOk, Nat.reduceEqDiff, Nat.reduceAdd, Nat.reduceSub, Nat.reduceMul, Nat.reduceLT, Nat.reduceLeDiff, Int.reduceLT, Int.reduceLE, Int.reduceEq, Int.reduceAdd, Int.reduceNeg, reduceIte, r_st_p, r_nck_p, r_ix, r_iaa, takeN, VE.store, over, cellsAt, VE.part, blkX, gEval, fill, VE.unOp, resVs, resV, reduceCtorEq]
  refine w_loop1 ?_
  simp only [↓zp, zz, zy, chkOk, Nat.reduceEqDiff, Nat.reduceAdd, Nat.reduceSub, Nat.reduceMul, Nat.reduceLT, Nat.reduceLeDiff, Int.reduceLT, Int.reduceLE, Int.reduceEq, Int.reduceAdd, Int.reduceNeg, reduceIte, r_st_p, r_nck_p, r_ix, r_iaa, takeN, VE.store, over, cellsAt, VE.part, blkX, gEval, fill, VE.unOp, resVs, resV, reduceCtorEq, w2, le, e]
 refine res_raw hf rfl rfl ?_
 have ln : ∀ h, r_len (.sl b 0 (S.length + 1) cap 24) h = some (.int .i64 ((S.length + 1 : Nat) : Int), h) := fun h => rfl
 unfold B_slices_SortFunc_api_Account
 simp only [↓zp, zz, zy, chkOk, Nat.reduceEqDiff, Nat.reduceAdd, Nat.reduceSub, Nat.reduceMul, Nat.reduceLT, Nat.reduceLeDiff, Int.reduceLT, Int.reduceLE, Int.reduceEq, Int.reduceAdd, Int.reduceNeg, reduceIte, r_st_p, r_nck_p, r_ix, r_iaa, takeN, VE.store, over, cellsAt, VE.part, blkX, gEval, fill, VE.unOp, resVs, resV, reduceCtorEq, ln, w1, m1, en, e2']
 exact P
end
end
section
open Go Go.VE
set_option maxRecDepth 100000
set_option linter.all false
set_option maxHeartbeats 4000000
theorem frzTIB {h : Heap} {b : Nat} {k : IntKind} {x : Int} {y : Bool} : frz frzFuel h b false (.tup [.int k x, .bool y]) = some (.tup [.int k x, .bool y]) := rfl
theorem iso_ptr {x : V} {b o : Nat} {as : List V} : isoArgs 1 [x, .ptr b o] = some as → False := by
 intro q
 have q' : (match frz 999999 h0 0 false x, frzs 999999 h0 0 false [.ptr b o] with | some x', some r' => some (x' :: r') | _, _ => none) = some as := q
 have e : frzs 999999 h0 0 false [.ptr b o] = none := rfl
 rw [e] at q'
 cases hx : frz 999999 h0 0 false x <;> rw [hx] at q' <;> cases q'
section
variable {vp : Nat → Option VFn}
def isT (t : Int) (w : Rw) : Bool := decide (w.a.t = t)
theorem isT_spec {c : Nat} (h1 : vp c = some B_model_do_fn1) (bc : Nat) (t : Int) (x : Rw) (h : Heap) (c0 : V) (cs : List V) (tag : Tag) (hc : h.get bc = .cells (c0 :: .int .u32 t :: cs) tag) (hlt : bc < h.nx) : callVRes vp (.fn c [.ptr bc 0]) [.agg (encW x)] h = some (.bool (isT t x), h) := by
 refine callVRes_fn (res_pure h1 rfl rfl (fun g hg => ?_))
 have hg' : g.get bc = .cells (c0 :: .int .u32 t :: cs) tag := by
  rcases hg with ⟨_, hi⟩ | ⟨_, _, hg⟩
  ·exact (iso_ptr hi).elim
  ·rw [hg, hc]
 have hne : ¬ bc = g.nx := by
  rcases hg with ⟨_, hi⟩ | ⟨hg, _, _⟩
  ·exact (iso_ptr hi).elim
  ·omega
 unfold B_model_do_fn1 encW encS isT
 simp only [↓zp, zz, zy, chkOk, Nat.reduceEqDiff, Nat.reduceAdd, Nat.reduceSub, Nat.reduceMul, Nat.reduceLT, Nat.reduceLeDiff, Int.reduceLT, Int.reduceLE, Int.reduceEq, Int.reduceAdd, Int.reduceNeg, reduceIte, r_st, r_nck, r_ix, r_iaa, takeN, VE.store, over, cellsAt, VE.part, blkX, gEval, fill, VE.unOp, resVs, resV, reduceCtorEq, hne, hg', frzB]
def invIA (F : V) (v : V) (q : Rw → Bool) (L : List Rw) (b cap bc : Nat) (rest : List V) (tag : Tag) (H : Heap) (m : Nat) (s : Slots) (h : Heap) : Prop :=
 ∃ k, k ≤ L.length ∧ m = L.length - k ∧ s.at 0 = .sl b 0 L.length cap 24 ∧ s.at 1 = F ∧ s.at 7 = .int .i64 (L.length : Int) ∧ s.at 8 = .int .i64 (k : Int) ∧ h = H ∧ ∀ j (hj : j < L.length), j < k → q L[j] = false
theorem idxA_spec {f : Nat} (hf : vp f = some B_slices_IndexFunc_api_Account) (c bc : Nat) (q : Rw → Bool) (L : List Rw) (b cap : Nat) (rest : List V) (tag : Tag) (X : Blk) (h : Heap) (hb : h.get b = .cells (L.flatMap encW ++ rest) tag) (hX : h.get bc = X) (hcn : bc < h.nx) (hn : L.length < 4611686018427387904)
  (hq : ∀ g x, g.get bc = X → bc < g.nx → callVRes vp (.fn c [.ptr bc 0]) [.agg (encW x)] g = some (.bool (q x), g)) : callRes vp f [.sl b 0 L.length cap 24, .fn c [.ptr bc 0]] h = some (.int .i64 (fidx q L), h) := by
 refine res_pure hf rfl rfl (fun g hg => ?_)
 have hg' : ∀ i, g.get i = h.get i := by
  rcases hg with ⟨_, hi⟩ | ⟨_, _, hg⟩
  ·cases hi
  ·exact hg
 have hb := (hg' b).trans hb
 have hX := (hg' bc).trans hX
 have hcg : bc < g.nx := by
  rcases hg with ⟨_, hi⟩ | ⟨hg, _, _⟩
  ·cases hi
  ·omega
 have ln : ∀ h, r_len (.sl b 0 L.length cap 24) h = some (.int .i64 (L.length : Int), h) := fun h => rfl
 unfold B_slices_IndexFunc_api_Account
 simp only [↓zp, zz, zy, chkOk, Nat.reduceEqDiff, Nat.reduceAdd, Nat.reduceSub, Nat.reduceMul, Nat.reduceLT, Nat.reduceLeDiff, Int.reduceLT, Int.reduceLE, Int.reduceEq, Int.reduceAdd, Int.reduceNeg, reduceIte, r_st, r_nck, r_ix, r_iaa, takeN, VE.store, over, cellsAt, VE.part, blkX, gEval, fill, VE.unOp, resVs, resV, reduceCtorEq, ln]
 generalize hS : Tr.set _ 8 _ = S
 have b0 : Slots.at S 0 = .sl b 0 L.length cap 24 := by rw [← hS]; simp only [zs, Nat.reduceEqDiff]
 have b1 : Slots.at S 1 = .fn c [.ptr bc 0] := by rw [← hS]; simp only [zs, Nat.reduceEqDiff]
 have b7 : Slots.at S 7 = .int .i64 (L.length : Int) := by rw [← hS]; simp only [zs, Nat.reduceEqDiff]
 have b8 : Slots.at S 8 = .int .i64 ((0 : Nat) : Int) := by rw [← hS]; simp only [zs, Nat.reduceEqDiff]; rfl
 clear hS
 refine loop_ind (fun m s h => invIA (.fn c [.ptr bc 0]) .nilp q L b cap bc rest tag g m s h) ?_ L.length ⟨0, by omega, by omega, b0, b1, b7, b8, rfl, fun j _ hj => by omega⟩
 rintro m s h ⟨k, hk, hm, c0, c1, c7, c8, rfl, hinc⟩
 by_cases hlt : k < L.length
 case neg =>
  have hlt' : ¬ ((k : Int) < (L.length : Int)) := by omega
  have e := fidx_none (q := q) (l := L) (fun j hj => hinc j hj (by omega))
  simp only [↓zp, zz, zy, chkOk, Nat.reduceEqDiff, Nat.reduceAdd, Nat.reduceSub, Nat.reduceMul, Nat.reduceLT, Nat.reduceLeDiff, Int.reduceLT, Int.reduceLE, Int.reduceEq, Int.reduceAdd, Int.reduceNeg, reduceIte, r_st, r_nck, r_ix, r_iaa, takeN, VE.store, over, cellsAt, VE.part, blkX, gEval, fill, VE.unOp, resVs, resV, reduceCtorEq, c0, c1, c7, c8, hlt', e, frzI]
 have hlt' : (k : Int) < (L.length : Int) := by omega
 have ws := wr_succ (k := k) (by omega)
 obtain ⟨p, hp⟩ := mr_pt b k 24
 have i1 := hp.ia (n := L.length) (cap := cap) hlt
 have l1 := hp.ld encW_len hb hlt (j := 0) (n := 24) (by omega) (cs := encW L[k]) rfl
 have hc := hq h L[k] hX hcg
 cases hqk : q L[k] with
 | true =>
  rw [hqk] at hc
  have e := fidx_at hlt hqk hinc
  simp only [↓zp, zz, zy, chkOk, Nat.reduceEqDiff, Nat.reduceAdd, Nat.reduceSub, Nat.reduceMul, Nat.reduceLT, Nat.reduceLeDiff, Int.reduceLT, Int.reduceLE, Int.reduceEq, Int.reduceAdd, Int.reduceNeg, reduceIte, r_st_p, r_nck_p, r_ix, r_iaa, takeN, VE.store, over, cellsAt, VE.part, blkX, gEval, fill, VE.unOp, resVs, resV, reduceCtorEq, c0, c1, c7, c8, hlt', i1, l1, hc, e, frzI]
 | false =>
  rw [hqk] at hc
  simp only [↓zp, zz, zy, chkOk, Nat.reduceEqDiff, Nat.reduceAdd, Nat.reduceSub, Nat.reduceMul, Nat.reduceLT, Nat.reduceLeDiff, Int.reduceLT, Int.reduceLE, Int.reduceEq, Int.reduceAdd, Int.reduceNeg, reduceIte, r_st_p, r_nck_p, r_ix, r_iaa, takeN, VE.store, over, cellsAt, VE.part, blkX, gEval, fill, VE.unOp, resVs, resV, reduceCtorEq, c0, c1, c7, c8, hlt', i1, l1, hc, ws]
  refine ⟨_, by omega, k + 1, by omega, rfl, by simp only [zs, Nat.reduceEqDiff, c0], by simp only [zs, Nat.reduceEqDiff, c1], by simp only [zs, Nat.reduceEqDiff, c7], by simp only [zs, Nat.reduceEqDiff], rfl, fun j hj hj2 => ?_⟩
  rcases Nat.lt_or_ge j k with r | r
  ·exact hinc j hj r
  ·have : j = k := by omega
   subst this
   exact hqk
def zLim : Limit := ⟨0, 0, 0⟩
def zBk : Bucket := ⟨zLim, 0, 0, 0, by decide⟩
def zW : Rw := ⟨⟨0, zLim, zLim, zLim, 0, 0, zBk, .nil, .nil, .nil, 0, 0, 0⟩, .nils, .nils, .nils, ⟨rfl, rfl⟩, ⟨rfl, rfl⟩, ⟨rfl, rfl⟩⟩
def delL (L : List Rw) (p k : Nat) : List Rw := L.take p ++ ((L.drop (p + 1)).take (k - p) ++ L.drop k)
theorem delL_0 (L : List Rw) (p : Nat) : delL L p p = L := by simp [delL]
theorem delL_len (L : List Rw) {p k : Nat} (h1 : p ≤ k) (h2 : k < L.length) : (delL L p k).length = L.length := by
 simp [delL]; omega
theorem delL_next (L : List Rw) {p k : Nat} (h1 : p ≤ k) (h2 : k + 1 < L.length) (h : k + 1 < (delL L p k).length) : (delL L p k)[k + 1] = L[k + 1] := by
 have e1 : (L.take p).length = p := by rw [List.length_take]; omega
 have e2 : ((L.drop (p + 1)).take (k - p)).length = k - p := by rw [List.length_take, List.length_drop]; omega
 simp only [delL]
 rw [List.getElem_append_right (by omega), List.getElem_append_right (by omega), List.getElem_drop]
 congr 1
 omega
theorem delL_set (L : List Rw) {p k : Nat} (h1 : p ≤ k) (h2 : k + 1 < L.length) : (delL L p k).set k L[k + 1] = delL L p (k + 1) := by
 have e1 : (L.take p).length = p := by rw [List.length_take]; omega
 have e2 : ((L.drop (p + 1)).take (k - p)).length = k - p := by rw [List.length_take, List.length_drop]; omega
 simp only [delL]
 rw [List.set_append_right _ _ (by omega), List.set_append_right _ _ (by omega), e1, e2, Nat.sub_self, show k + 1 - p = (k - p) + 1 by omega, List.take_succ_eq_append_getElem (by rw [List.length_drop]; omega), List.append_assoc, List.drop_eq_getElem_cons (show k < L.length by omega), List.set_cons_zero, List.getElem_drop]
 have e3 : p + 1 + (k - p) = k + 1 := by omega
 simp only [e3, List.singleton_append]
theorem delL_end (L : List Rw) {p : Nat} (h : p < L.length) : delL L p (L.length - 1) = L.eraseIdx p ++ [L[L.length - 1]] := by
 have e : (L.drop (p + 1)).take (L.length - 1 - p) = L.drop (p + 1) := by
  rw [List.take_of_length_le]
  rw [List.length_drop]; omega
 rw [delL, e, List.eraseIdx_eq_take_drop_succ, List.append_assoc, List.drop_eq_getElem_cons (show L.length - 1 < L.length by omega), List.drop_eq_nil_of_le (show L.length ≤ L.length - 1 + 1 by omega)]
def invDe (F : V) (L : List Rw) (p b cap : Nat) (rest : List V) (tag : Tag) (H : Heap) (m : Nat) (s : Slots) (h : Heap) : Prop :=
 ∃ k, p ≤ k ∧ k < L.length ∧ m = L.length - k ∧ s.at 0 = .sl b 0 L.length cap 24 ∧ s.at 1 = F ∧ s.at 5 = .int .i64 (k : Int) ∧ s.at 6 = .int .i64 ((k + 1 : Nat) : Int) ∧ h.get b = .cells ((delL L p k).flatMap encW ++ rest) tag ∧ (∀ c, c < H.nx → c ≠ b → h.get c = H.get c) ∧ h.lo = H.lo ∧ H.nx ≤ h.nx
structure DelP (L : List Rw) (p b : Nat) (H h : Heap) : Prop where
 at_ : ∃ rest tag, h.get b = .cells ((L.eraseIdx p).flatMap encW ++ rest) tag
 get : ∀ c, c < H.nx → c ≠ b → h.get c = H.get c
 lo : h.lo = H.lo
 nx : H.nx ≤ h.nx
theorem delF_spec {f c1 t1 : Nat} (hf : vp f = some (B_slices_DeleteFunc_api_Account c1 t1)) (h1 : vp c1 = some B_slices_IndexFunc_api_Account) (c bc : Nat) (q : Rw → Bool) (L : List Rw) (p b cap : Nat) (rest : List V) (tag : Tag) (X : Blk) (h : Heap) (hb : h.get b = .cells (L.flatMap encW ++ rest) tag) (hX : h.get bc = X) (hbc : bc ≠ b) (hbn : b < h.nx) (hcn : bc < h.nx) (hlo : ¬ b < h.lo) (hl : h.lo ≤ h.nx) (hn : L.length ≤ cap) (hn2 : cap < 100000)
  (hq : ∀ g x, g.get bc = X → bc < g.nx → callVRes vp (.fn c [.ptr bc 0]) [.agg (encW x)] g = some (.bool (q x), g)) (hp : p < L.length) (q1 : fidx q L = (p : Int)) (q2 : ∀ k (hk : k < L.length), p < k → q L[k] = false) :
  ∃ v h', callRes vp f [.sl b 0 L.length cap 24, .fn c [.ptr bc 0]] h = some (v, h') ∧ v = .sl b 0 (L.length - 1) cap 24 ∧ DelP L p b h h' := by
 have m1 : modeOf vp c1 = some 1 := by simp [modeOf, h1, B_slices_IndexFunc_api_Account]
 have k1 := idxA_spec h1 c bc q L b cap rest tag X h hb hX hcn (by omega) hq
 rw [q1] at k1
 refine res_raw hf rfl rfl ?_
 have ln : ∀ h, r_len (.sl b 0 L.length cap 24) h = some (.int .i64 (L.length : Int), h) := fun h => rfl
 have ne1 : ¬ ((p : Int) = -1) := by omega
 have ws := wr_succ (k := p) (by omega)
 unfold B_slices_DeleteFunc_api_Account
 simp only [↓zp, zz, zy, chkOk, Nat.reduceEqDiff, Nat.reduceAdd, Nat.reduceSub, Nat.reduceMul, Nat.reduceLT, Nat.reduceLeDiff, Int.reduceLT, Int.reduceLE, Int.reduceEq, Int.reduceAdd, Int.reduceNeg, reduceIte, r_st, r_nck, r_ix, r_iaa, takeN, VE.store, over, cellsAt, VE.part, blkX, gEval, fill, VE.unOp, resVs, resV, reduceCtorEq, ln, m1, k1, ne1, ws]
 generalize hS : Tr.set _ 6 _ = S
 have b0 : Slots.at S 0 = .sl b 0 L.length cap 24 := by rw [← hS]; simp only [zs, Nat.reduceEqDiff]
 have b1 : Slots.at S 1 = .fn c [.ptr bc 0] := by rw [← hS]; simp only [zs, Nat.reduceEqDiff]
 have b5 : Slots.at S 5 = .int .i64 (p : Int) := by rw [← hS]; simp only [zs, Nat.reduceEqDiff]
 have b6 : Slots.at S 6 = .int .i64 ((p + 1 : Nat) : Int) := by rw [← hS]; simp only [zs, Nat.reduceEqDiff]
 clear hS
 refine loop_ind (fun m s h' => invDe (.fn c [.ptr bc 0]) L p b cap rest tag h m s h') ?_ (L.length - p) ⟨p, by omega, hp, rfl, b0, b1, b5, b6, by rw [delL_0, hb], fun _ _ _ => rfl, rfl, Nat.le_refl _⟩
 rintro m s h' ⟨k, hpk, hk, hm, c0, c1', c5, c6, hg, hget, hlo', hnx⟩
 by_cases hlt : k + 1 < L.length
 case neg =>
  have hlt' : ¬ (((k + 1 : Nat) : Int) < (L.length : Int)) := by omega
  obtain rfl : k = L.length - 1 := by omega
  rw [delL_end L hp] at hg
  have s1 : ∀ h, r_slc 24 (.sl b 0 L.length cap 24) (some (.int .i64 ((L.length - 1 : Nat) : Int))) none none h = some (.sl b ((L.length - 1) * 24) 1 (cap - (L.length - 1)) 24, h) := fun h => by
   simp only [r_slc, sliceV, beq_dec, decide_true, cond_true, VE.bound, asNatN, ble_dec, show L.length - 1 ≤ L.length by omega, Nat.zero_add, Option.map_some, show L.length - (L.length - 1) = 1 by omega]
  have s2 : ∀ h, r_slc 24 (.sl b 0 L.length cap 24) none (some (.int .i64 ((L.length - 1 : Nat) : Int))) none h = some (.sl b 0 (L.length - 1) cap 24, h) := fun h => by
   simp only [r_slc, sliceV, beq_dec, decide_true, cond_true, VE.bound, asNatN, ble_dec, show L.length - 1 ≤ cap by omega, Nat.zero_le, Nat.zero_mul, Nat.add_zero, Nat.sub_zero, Option.map_some]
  have le := List.length_eraseIdx_of_lt hp
  have ov := mr_over encW_len (L.eraseIdx p ++ [L[L.length - 1]]) (k := L.length - 1) (j := 0) (by simp [le]) zW (encW zW) rest (by rw [encW_len]; omega) (by rw [encW_len]; rfl) (encW_one _)
  have es : (L.eraseIdx p ++ [L[L.length - 1]]).set (L.length - 1) zW = L.eraseIdx p ++ [zW] := by
   rw [List.set_append_right _ _ (by omega), le, Nat.sub_self]
   rfl
  rw [es, Nat.add_zero, show (L.eraseIdx p ++ [zW]).flatMap encW ++ rest = (L.eraseIdx p).flatMap encW ++ ([zW].flatMap encW ++ rest) by rw [List.flatMap_append, List.append_assoc]] at ov
  have cl : r_clr (.sl b ((L.length - 1) * 24) 1 (cap - (L.length - 1)) 24) (encW zW) h' = some (.tup [], h'.set b (.cells ((L.eraseIdx p).flatMap encW ++ ([zW].flatMap encW ++ rest)) tag)) := by
   have hz : VE.store h' b ((L.length - 1) * 24) (encW zW) = bif Nat.blt b h'.lo then none else match h'.get b with
    | .cells c o => match over ((L.length - 1) * 24) c (encW zW) with
     | some c' => some (h'.set b (.cells c' o))
     | none => none
    | _ => none := rfl
   have st : VE.store h' b ((L.length - 1) * 24) (rep 1 (encW zW)) = some (h'.set b (.cells ((L.eraseIdx p).flatMap encW ++ ([zW].flatMap encW ++ rest)) tag)) := by
    show VE.store h' b ((L.length - 1) * 24) (encW zW) = _
    rw [hz, hg, hlo', blt_dec, decide_eq_false hlo]
    simp only [cond_false, ov]
   simp only [r_clr, st, Option.bind_some, encW_len, beq_dec, decide_true, cond_true]
  have ez : encW zW = [.int .u32 0, .int .i64 0, .int .i64 0, .int .i64 0, .int .i64 0, .int .i64 0, .int .i64 0, .int .i64 0, .int .i64 0, .int .i64 0, .int .i64 0, .int .i64 0, .int .i64 0, .int .i64 0, .int .i64 0, .int .i64 0, .int .i64 0, .int .u64 0, .nils, .nils, .nils, .int .u64 0, .int .u64 0, .int .u64 0] := rfl
  obtain ⟨Z, hZ⟩ : ∃ Z, [zW].flatMap encW ++ rest = Z := ⟨_, rfl⟩
  rw [hZ, ez] at cl
  simp only [↓zp, zz, zy, chkOk, Nat.reduceEqDiff, Nat.reduceAdd, Nat.reduceSub, Nat.reduceMul, Nat.reduceLT, Nat.reduceLeDiff, Int.reduceLT, Int.reduceLE, Int.reduceEq, Int.reduceAdd, Int.reduceNeg, reduceIte, r_st_p, r_nck_p, r_ix, r_iaa, takeN, VE.store, over, cellsAt, VE.part, blkX, gEval, fill, VE.unOp, resVs, resV, reduceCtorEq, c0, c1', c5, c6, ln, hlt', s1, cl, s2]
  exact ⟨⟨_, _, by rw [Heap.get_set, if_pos rfl]⟩, fun c hc hcb => by rw [Heap.get_set, if_neg hcb, hget c hc hcb], hlo', hnx⟩
 have hlt' : (((k + 1 : Nat) : Int) < (L.length : Int)) := by omega
 have ws1 := wr_succ (k := k) (by omega)
 have ws2 := wr_succ (k := k + 1) (by omega)
 obtain ⟨p1, hp1⟩ := mr_pt b (k + 1) 24
 obtain ⟨p2, hp2⟩ := mr_pt b k 24
 have L1 := delL_len L hpk (by omega)
 have i1 := hp1.ia (n := L.length) (cap := cap) (by omega)
 have i2 := hp2.ia (n := L.length) (cap := cap) (by omega)
 have l1 := hp1.ld encW_len hg (by omega) (j := 0) (n := 24) (by omega) (cs := encW L[k + 1]) (by rw [delL_next L hpk hlt]; rfl)
 have qf := q2 (k + 1) hlt (by omega)
 obtain ⟨H, hH⟩ : ∃ H, (h'.new (.cells [.int .u32 0, .int .i64 0, .int .i64 0, .int .i64 0, .int .i64 0, .int .i64 0, .int .i64 0, .int .i64 0, .int .i64 0, .int .i64 0, .int .i64 0, .int .i64 0, .int .i64 0, .int .i64 0, .int .i64 0, .int .i64 0, .int .i64 0, .int .u64 0, .nils, .nils, .nils, .int .u64 0, .int .u64 0, .int .u64 0] (.ct t1))).set h'.nx (.cells (encW L[k + 1]) (.ct t1)) = H := ⟨_, rfl⟩
 have nb : b ≠ h'.nx := by omega
 have nl : ¬ h'.nx < h'.lo := by omega
 have gH : ∀ c, c < h'.nx → H.get c = h'.get c := fun c hc => by rw [← hH, Heap.get_set, if_neg (by omega), Heap.get_new, if_neg (by omega)]
 have gN : H.get h'.nx = .cells (encW L[k + 1]) (.ct t1) := by rw [← hH, Heap.get_set, if_pos rfl]
 have nxH : H.nx = h'.nx + 1 := by rw [← hH]; rfl
 have loH : H.lo = h'.lo := by rw [← hH]; rfl
 have cF := hq H L[k + 1] (by rw [gH bc (by omega), hget bc hcn hbc, hX]) (by omega)
 rw [qf] at cF
 have st := hp2.st encW_len (h := H) ((gH b (by omega)).trans hg) (by omega) (by rw [loH, hlo']; exact hlo) (j := 0) (n := 24) (v := .agg (encW L[k + 1])) L[k + 1] rfl rfl (by omega) (by omega) (encW_one _) rfl
 rw [delL_set L hpk hlt] at st
 have gN2 := gN
 have stn : r_st 24 (.ptr h'.nx 0) (.agg (encW L[k + 1])) (h'.new (.cells [.int .u32 0, .int .i64 0, .int .i64 0, .int .i64 0, .int .i64 0, .int .i64 0, .int .i64 0, .int .i64 0, .int .i64 0, .int .i64 0, .int .i64 0, .int .i64 0, .int .i64 0, .int .i64 0, .int .i64 0, .int .i64 0, .int .i64 0, .int .u64 0, .nils, .nils, .nils, .int .u64 0, .int .u64 0, .int .u64 0] (.ct t1))) = some (.tup [], H) := by
  rw [← hH]
  have one := encW_one L[k + 1]
  unfold encW encS at one ⊢
  simp only [List.all_cons, List.all_nil, Bool.and_eq_true] at one
  simp only [↓zp, zz, zy, chkOk, Nat.reduceEqDiff, Nat.reduceAdd, Nat.reduceSub, Nat.reduceMul, Nat.reduceLT, Nat.reduceLeDiff, Int.reduceLT, Int.reduceLE, Int.reduceEq, Int.reduceAdd, Int.reduceNeg, reduceIte, r_st, r_nck, r_ix, r_iaa, takeN, VE.store, over, cellsAt, VE.part, blkX, gEval, fill, VE.unOp, resVs, resV, reduceCtorEq, nl, one]
 obtain ⟨pn, hpn⟩ : ∃ pn, V.ptr h'.nx 0 = pn := ⟨_, rfl⟩
 have ldn : r_ld (some 24) pn H = some (.agg (encW L[k + 1]), H) := by
  rw [← hpn]
  simp only [r_ld, cellsAt, gN, List.drop_zero, VE.part]
  rw [show (24 : Nat) = (encW L[k + 1]).length from rfl, takeN_all]
  rfl
 rw [hpn] at stn
 simp only [↓zp, zz, zy, chkOk, Nat.reduceEqDiff, Nat.reduceAdd, Nat.reduceSub, Nat.reduceMul, Nat.reduceLT, Nat.reduceLeDiff, Int.reduceLT, Int.reduceLE, Int.reduceEq, Int.reduceAdd, Int.reduceNeg, reduceIte, r_st_p, r_nck_p, r_ix, r_iaa, takeN, VE.store, over, cellsAt, VE.part, blkX, gEval, fill, VE.unOp, resVs, resV, reduceCtorEq, c0, c1', c5, c6, ln, hlt', i1, i2, l1, hpn, stn, ldn, cF, st, ws1, ws2]
 refine ⟨_, by omega, k + 1, by omega, by omega, rfl, by simp only [zs, Nat.reduceEqDiff, c0], by simp only [zs, Nat.reduceEqDiff, c1'], by simp only [zs, Nat.reduceEqDiff], by simp only [zs, Nat.reduceEqDiff], by rw [Heap.get_set, if_pos rfl], fun c hc hcb => by rw [Heap.get_set, if_neg hcb, gH c (by omega), hget c hc hcb], loH.trans hlo', by show _ ≤ H.nx; omega⟩
end
end
section
open Go Go.VE
set_option maxRecDepth 100000
set_option linter.all false
set_option maxHeartbeats 4000000
section
variable {vp : Nat → Option VFn}
def invBs (t : Int) (v : V) (l : List Int) (H : Heap) (m : Nat) (s : Slots) (h : Heap) : Prop :=
 ∃ i j, i ≤ j ∧ j ≤ l.length ∧ m = j - i ∧ s.at 0 = v ∧ s.at 1 = .int .u32 t ∧ s.at 6 = .int .i64 (l.length : Int) ∧ s.at 7 = .int .i64 (i : Int) ∧ s.at 8 = .int .i64 (j : Int) ∧ h = H ∧ (∀ k (hk : k < l.length), k < i → l[k] < t) ∧ ∀ k (hk : k < l.length), j ≤ k → t ≤ l[k]
theorem bsearch_spec {f c1 c2 c3 : Nat} (hf : vp f = some (B_slices_BinarySearch_uint32 c1 c2)) (h1 : vp c1 = some (B_cmp_Less_uint32 c3)) (h3 : vp c3 = some B_cmp_isNaN_uint32) (h2 : vp c2 = some B_slices_isNaN_uint32)
  (t : Int) (v : V) (l : List Int) (h : Heap) (hv : Rd e32 1 h v l) (hn : l.length < 1000000) (hs : ∀ k (hk : k + 1 < l.length), l[k] < l[k + 1]) :
  ∃ i : Nat, ∃ fd : Bool, callRes vp f [v, .int .u32 t] h = some (.tup [.int .i64 (i : Int), .bool fd], h) ∧ i ≤ l.length ∧ (∀ k (hk : k < l.length), k < i → l[k] < t) ∧ (∀ k (hk : k < l.length), i ≤ k → t ≤ l[k]) ∧ (fd = true ↔ ∃ hi : i < l.length, l[i] = t) := by
 have m1 : modeOf vp c1 = some 1 := by simp [modeOf, h1, B_cmp_Less_uint32]
 have m2 : modeOf vp c2 = some 1 := by simp [modeOf, h2, B_slices_isNaN_uint32]
 have kl := fun x y h => lessU_spec h1 h3 x y h
 have kn := fun x h => snan_spec h2 x h
 have hmono : ∀ (d a : Nat) (ha : a < l.length) (hb : a + d < l.length), l[a] ≤ l[a + d] := by
  intro d
  induction d with
  | zero => intro a _ _; exact Int.le_refl _
  | succ d ih =>
   intro a ha hb
   have e1 := ih a ha (by omega)
   have e2 := hs (a + d) (by omega)
   have e3 : a + (d + 1) = a + d + 1 := by omega
   simp only [e3]
   omega
 suffices hgoal : ∃ r, callRes vp f [v, .int .u32 t] h = some (r, h) ∧ ∃ i : Nat, ∃ fd : Bool, r = .tup [.int .i64 (i : Int), .bool fd] ∧ i ≤ l.length ∧ (∀ k (hk : k < l.length), k < i → l[k] < t) ∧ (∀ k (hk : k < l.length), i ≤ k → t ≤ l[k]) ∧ (fd = true ↔ ∃ hi : i < l.length, l[i] = t) by
  obtain ⟨r, e, i, fd, rfl, k⟩ := hgoal
  exact ⟨i, fd, e, k⟩
 refine res_pure_ex hf rfl rfl (fun g hg => ?_)
 have hv := hv.enter (A := fun v => [v, .int .u32 t]) hg (fun _ _ _ _ => rfl)
 have ln := hv.len
 unfold B_slices_BinarySearch_uint32
 simp only [↓zp, zz, zy, chkOk, Nat.reduceEqDiff, Nat.reduceAdd, Nat.reduceSub, Nat.reduceMul, Nat.reduceLT, Nat.reduceLeDiff, Int.reduceLT, Int.reduceLE, Int.reduceEq, Int.reduceAdd, Int.reduceNeg, reduceIte, r_st, r_nck, r_ix, r_iaa, takeN, VE.store, over, cellsAt, VE.part, blkX, gEval, fill, VE.unOp, resVs, resV, reduceCtorEq, ln]
 generalize hS : Tr.set _ 8 _ = S
 have b0 : Slots.at S 0 = v := by rw [← hS]; simp only [zs, Nat.reduceEqDiff]
 have b1 : Slots.at S 1 = .int .u32 t := by rw [← hS]; simp only [zs, Nat.reduceEqDiff]
 have b6 : Slots.at S 6 = .int .i64 (l.length : Int) := by rw [← hS]; simp only [zs, Nat.reduceEqDiff]
 have b7 : Slots.at S 7 = .int .i64 ((0 : Nat) : Int) := by rw [← hS]; simp only [zs, Nat.reduceEqDiff]; rfl
 have b8 : Slots.at S 8 = .int .i64 (l.length : Int) := by rw [← hS]; simp only [zs, Nat.reduceEqDiff]
 clear hS
 refine loop_ind (fun m s h => invBs t v l g m s h) ?_ l.length ⟨0, l.length, by omega, by omega, by omega, b0, b1, b6, b7, b8, rfl, fun k _ hk => by omega, fun k _ hk => by omega⟩
 rintro m s h ⟨i, j, hij, hj, hm, c0, c1', c6, c7, c8, rfl, hlt, hge⟩
 by_cases q : i < j
 case neg =>
  have q' : ¬ ((i : Int) < (j : Int)) := by omega
  obtain rfl : i = j := by omega
  by_cases q2 : i < l.length
  ·have q2' : (i : Int) < (l.length : Int) := by omega
   obtain ⟨a, ia, el⟩ := hv.ia e32_len (by decide) q2
   have ld := El.ld1 (cs := []) el (Kp.refl h)
   by_cases q3 : l[i] = t
   ·have q3' := eq_true q3
    simp only [↓zp, zz, zy, chkOk, Nat.reduceEqDiff, Nat.reduceAdd, Nat.reduceSub, Nat.reduceMul, Nat.reduceLT, Nat.reduceLeDiff, Int.reduceLT, Int.reduceLE, Int.reduceEq, Int.reduceAdd, Int.reduceNeg, reduceIte, r_st, r_nck, r_ix, r_iaa, takeN, VE.store, over, cellsAt, VE.part, blkX, gEval, fill, VE.unOp, resVs, resV, reduceCtorEq, c0, c1', c6, c7, c8, q', q2', ia, ld, q3', m2, kn, frzTIB]
    exact ⟨i, true, rfl, hj, hlt, hge, by simp [q2, q3]⟩
   ·simp only [↓zp, zz, zy, chkOk, Nat.reduceEqDiff, Nat.reduceAdd, Nat.reduceSub, Nat.reduceMul, Nat.reduceLT, Nat.reduceLeDiff, Int.reduceLT, Int.reduceLE, Int.reduceEq, Int.reduceAdd, Int.reduceNeg, reduceIte, r_st, r_nck, r_ix, r_iaa, takeN, VE.store, over, cellsAt, VE.part, blkX, gEval, fill, VE.unOp, resVs, resV, reduceCtorEq, c0, c1', c6, c7, c8, q', q2', ia, ld, q3, m2, kn, frzTIB]
    exact ⟨i, false, rfl, hj, hlt, hge, by simp [q3]⟩
  ·have q2' : ¬ ((i : Int) < (l.length : Int)) := by omega
   simp only [↓zp, zz, zy, chkOk, Nat.reduceEqDiff, Nat.reduceAdd, Nat.reduceSub, Nat.reduceMul, Nat.reduceLT, Nat.reduceLeDiff, Int.reduceLT, Int.reduceLE, Int.reduceEq, Int.reduceAdd, Int.reduceNeg, reduceIte, r_st, r_nck, r_ix, r_iaa, takeN, VE.store, over, cellsAt, VE.part, blkX, gEval, fill, VE.unOp, resVs, resV, reduceCtorEq, c0, c1', c6, c7, c8, q', q2', frzTIB]
   exact ⟨i, false, rfl, hj, hlt, hge, by simp; omega⟩
 have q' : ((i : Int) < (j : Int)) := by omega
 obtain ⟨mid, hmid⟩ : ∃ mid, mid = (i + j) / 2 := ⟨_, rfl⟩
 have mid1 : i ≤ mid := by omega
 have mid2 : mid < j := by omega
 have w1 : wr .i64 ((i : Int) + (j : Int)) = ((i + j : Nat) : Int) := by rw [wr_i64 (by omega) (by omega)]; omega
 have w2 : wr .u64 ((i + j : Nat) : Int) = ((i + j : Nat) : Int) := wr_ul (by omega)
 have sh : VE.binOp .shr (.int .u64 ((i + j : Nat) : Int)) (.int .u64 1) = some (.int .u64 (mid : Int)) := by
  have := bn_shr (a := i + j) (y := 1) (k := .u64) (by decide)
  rw [hmid]
  exact this
 have w3 : wr .i64 (mid : Int) = (mid : Int) := wr_i64 (by omega) (by omega)
 have hml : mid < l.length := by omega
 obtain ⟨a, ia, el⟩ := hv.ia e32_len (by decide) hml
 have ld := El.ld1 (cs := []) el (Kp.refl h)
 have kk := fun h => kl l[mid] t h
 by_cases q3 : l[mid] < t
 ·have ws := wr_succ (k := mid) (by omega)
  simp only [q3, decide_true] at kk
  simp only [↓zp, zz, zy, chkOk, Nat.reduceEqDiff, Nat.reduceAdd, Nat.reduceSub, Nat.reduceMul, Nat.reduceLT, Nat.reduceLeDiff, Int.reduceLT, Int.reduceLE, Int.reduceEq, Int.reduceAdd, Int.reduceNeg, reduceIte, r_st, r_nck, r_ix, r_iaa, takeN, VE.store, over, cellsAt, VE.part, blkX, gEval, fill, VE.unOp, resVs, resV, reduceCtorEq, c0, c1', c6, c7, c8, q', w1, w2, sh, w3, ia, ld, m1, kk, ws]
  refine ⟨_, ?_, mid + 1, j, by omega, hj, rfl, by simp only [zs, Nat.reduceEqDiff, c0], by simp only [zs, Nat.reduceEqDiff, c1'], by simp only [zs, Nat.reduceEqDiff, c6], by simp only [zs, Nat.reduceEqDiff], by simp only [zs, Nat.reduceEqDiff, c8], rfl, fun k hk hk2 => ?_, hge⟩
  ·omega
  ·have := hmono (mid - k) k hk (by omega)
   have e : k + (mid - k) = mid := by omega
   simp only [e] at this
   omega
 ·simp only [q3, decide_false] at kk
  simp only [↓zp, zz, zy, chkOk, Nat.reduceEqDiff, Nat.reduceAdd, Nat.reduceSub, Nat.reduceMul, Nat.reduceLT, Nat.reduceLeDiff, Int.reduceLT, Int.reduceLE, Int.reduceEq, Int.reduceAdd, Int.reduceNeg, reduceIte, r_st, r_nck, r_ix, r_iaa, takeN, VE.store, over, cellsAt, VE.part, blkX, gEval, fill, VE.unOp, resVs, resV, reduceCtorEq, c0, c1', c6, c7, c8, q', w1, w2, sh, w3, ia, ld, m1, kk]
  refine ⟨_, ?_, i, mid, by omega, by omega, rfl, by simp only [zs, Nat.reduceEqDiff, c0], by simp only [zs, Nat.reduceEqDiff, c1'], by simp only [zs, Nat.reduceEqDiff, c6], by simp only [zs, Nat.reduceEqDiff, c7], by simp only [zs, Nat.reduceEqDiff], rfl, hlt, fun k hk hk2 => ?_⟩
  ·omega
  ·have := hmono (k - mid) mid hml (by omega)
   have e : mid + (k - mid) = k := by omega
   simp only [e] at this
   omega
def insI (l : List Int) (i : Nat) (x : Int) : List Int := l.take i ++ x :: l.drop i
theorem flat32_one (l : List Int) : (l.flatMap e32).all oneCell = true := all_flat (fun _ => rfl) l
structure InsU (l : List Int) (i : Nat) (x : Int) (lo hi : Nat) (h : Heap) (v : V) (h' : Heap) : Prop where
 own : Own e32 1 h' v (insI l i x) h.nx h'.nx
 get : ∀ c, c < h.nx → ¬ (lo ≤ c ∧ c < hi) → h'.get c = h.get c
 lo' : h'.lo = h.lo
 nx : h.nx ≤ h'.nx
theorem insU_spec {f : Nat} (hf : vp f = some B_slices_Insert_uint32) (v : V) (l : List Int) (i : Nat) (x : Int) (b2 lo hi : Nat) (h : Heap) (ho : Own e32 1 h v l lo hi) (hi' : i ≤ l.length) (h2 : h.get b2 = .cells (e32 x) .cl) (hb2 : hi ≤ b2) (hlo : h.lo ≤ lo) (hhi : hi ≤ h.nx) (hn : l.length ≤ 100000) :
  ∃ v' h', callRes vp f [v, .int .i64 (i : Int), .sl b2 0 1 1 1] h = some (v', h') ∧ InsU l i x lo hi h v' h' := by
 suffices hgoal : ∃ v' h', insertV h 1 4 v (.int .i64 (i : Int)) (.sl b2 0 1 1 1) = some (v', h') ∧ InsU l i x lo hi h v' h' by
  obtain ⟨v', h', e, k⟩ := hgoal
  exact ⟨v', h', callRes_of (n := 1) (by simp only [callF, hf, B_slices_Insert_uint32, e]), k⟩
 have hr : rowOf h 1 (.sl b2 0 1 1 1) = some (e32 x) := by
  simp only [rowOf, beq_dec, decide_true, cond_true, h2, List.drop_zero]
  rfl
 have hlen : (insI l i x).length = l.length + 1 := by simp [insI]; omega
 have z : (i : Int) = Int.ofNat i := rfl
 have new : ∀ t, InsU l i x lo hi h (.sl h.nx 0 (l.length + 1) (l.length + 1) 1) (h.new (.cells ((insI l i x).flatMap e32) t)) := fun t =>
  ⟨.inr ⟨h.nx, t, by rw [hlen], Nat.le_refl _, by simp [Heap.new], by rw [Heap.get_new, if_pos rfl]⟩, fun c hc _ => by rw [Heap.get_new, if_neg (by omega)], rfl, by simp [Heap.new]⟩
 rcases ho with ⟨rfl, rfl⟩ | ⟨b, tag, rfl, b1, b2', b3⟩
 ·obtain rfl : i = 0 := by simpa using hi'
  refine ⟨_, _, ?_, new .op⟩
  rw [z]
  unfold insertV
  rw [hr]
  rfl
 have newd : ∀ t, InsU l i x lo hi h (.sl h.nx 0 (l.length + 1) (l.length + 1) 1) ((h.set b .dead).new (.cells ((insI l i x).flatMap e32) t)) := fun t =>
  ⟨.inr ⟨h.nx, t, by rw [hlen], Nat.le_refl _, by simp [Heap.new, Heap.set], by rw [Heap.get_new]; exact if_pos rfl⟩, fun c hc hcb => by rw [Heap.get_new, if_neg (by show ¬ c = h.nx; omega), Heap.get_set, if_neg (by intro e; exact hcb (e ▸ ⟨b1, b2'⟩))], rfl, by simp [Heap.new, Heap.set]⟩
 have hne : ¬ b = b2 := by omega
 have hlb : ¬ b < h.lo := by omega
 have hcl : (l.flatMap e32).length = l.length := by rw [flat_len2 e32_len, Nat.mul_one]
 have ht : takeN l.length (l.flatMap e32) = some (l.flatMap e32) := by
  have := takeN_all (l.flatMap e32)
  rw [hcl] at this
  exact this
 have hr2 : rowOf h 1 (.sl b 0 l.length l.length 1) = some (l.flatMap e32) := by
  simp only [rowOf, beq_dec, decide_true, cond_true, b3, List.drop_zero, Nat.mul_one, ht]
 have e1 : e32 x ≠ [] := by simp [e32]
 have q3 : ¬ (140737488355328 < (l.length + 1) * 4) := by omega
 have fl : 0 + l.length * 1 = (l.flatMap e32).length := by rw [hcl]; omega
 have oe : (e32 x).all oneCell = true := rfl
 rw [z]
 unfold insertV
 rw [hr, hr2]
 simp only [lenOf, beq_dec, Nat.reduceEqDiff, decide_false, cond_false]
 by_cases q : i = l.length
 ·subst q
  have ei : (insI l l.length x).flatMap e32 = l.flatMap e32 ++ e32 x := by simp [insI, List.flatMap_append]
  rw [ei] at new newd
  have q2 : ¬ (l.length + (0 + 1) ≤ l.length) := by omega
  have q4 : ¬ (140737488355328 < (l.length + (0 + 1)) * 4) := by omega
  simp only [decide_true, cond_true, appendV, beq_dec, b3, ble_dec, q2, q4, decide_false, cond_false, blt_dec, List.drop_zero, Nat.mul_one, ht, hlb, oe, Bool.not_true, Bool.or_self]
  rw [show 0 + l.length = (l.flatMap e32).length by rw [hcl]; omega]
  simp only [decide_true, Bool.and_true]
  cases tag.opn with
  | true => exact ⟨_, _, rfl, newd _⟩
  | false => exact ⟨_, _, rfl, new _⟩
 ·have q2 : ¬ (l.length ≤ i) := by omega
  have q4 : ¬ (l.length + 1 ≤ l.length) := by omega
  have ei : (insI l i x).flatMap e32 = (l.flatMap e32).take (i * 1) ++ (e32 x ++ (l.flatMap e32).drop (i * 1)) := by
   have e2 : (l.take i).flatMap e32 = (l.flatMap e32).take i := by
    rw [← map_flat, ← map_flat, List.map_take]
   have e3 : (l.drop i).flatMap e32 = (l.flatMap e32).drop i := by
    rw [← map_flat, ← map_flat, List.map_drop]
   rw [insI, List.flatMap_append, List.flatMap_cons, Nat.mul_one, e2, e3]
  rw [ei] at new newd
  simp only [q, q2, q3, q4, decide_false, cond_false, ble_dec, blt_dec, oe, flat32_one, Bool.not_true, Bool.or_self, b3, hne, hlb, fl, decide_true, Bool.and_true]
  cases tag.opn with
  | true => exact ⟨_, _, rfl, newd _⟩
  | false => exact ⟨_, _, rfl, new _⟩
end
theorem over_all {R Z : List V} (hl : Z.length = R.length) (ho : Z.all oneCell = true) : over 0 R Z = some Z := by
 have := over_mid [] Z R [] hl ho
 simpa using this
end
end Go.VE.LB
