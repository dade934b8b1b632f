/- What the functions of the law ModelAdmits compute, on typed arguments (part 26). -/
import Derived.Test.YtnmneadmlcpaoaaModelAdmitsA25
set_option linter.all false
namespace Go.VE.LB
open Go Go.VE
set_option maxRecDepth 100000
set_option linter.all false
set_option maxHeartbeats 4000000
theorem FzV.rowr {α : Type} {enc : α → List V} {sz : Nat} {h : Heap} {base b n c : Nat} {l : List α} {r : List V} {tag : Tag} (he : ∀ x, (enc x).length = sz) (hs : ∀ x, (enc x).all VE.scal = true) (hb : base ≤ b) (hn : n = l.length) (hg : h.get b = .cells (l.flatMap enc ++ r) tag) : ∃ o : Sl α, o.l = l ∧ FzV h base (l.length * sz + 4) (.sl b 0 n c sz) (o.v enc) := by
  subst hn
  refine ⟨.mk l (bif tag.opn && Nat.beq (0 + c * sz) (l.flatMap enc ++ r).length then none else some c), rfl, fun n hn => ?_⟩
  obtain ⟨m, rfl⟩ : ∃ m, n = m + 1 := ⟨n - 1, by omega⟩
  have hcl : (l.flatMap enc).length = l.length * sz := flat_len2 he l
  have ht : takeN (l.length * sz) ((l.flatMap enc ++ r).drop 0) = some (l.flatMap enc) := by rw [List.drop_zero, ← hcl]; exact takeN_app _ _
  have hlb : Nat.blt b base = false := by rw [blt_dec]; simp; omega
  have hf : frzs m h base true (l.flatMap enc) = some (l.flatMap enc) := frzs_scal _ (all_flat hs l) (by omega)
  simp only [Go.VE.frz, hlb, cond_false, hg, ht, hf, Sl.v]
theorem Own.fz {α : Type} {enc : α → List V} {sz : Nat} {h : Heap} {v : V} {l : List α} {lo hi base : Nat} (o : Own enc sz h v l lo hi) (he : ∀ x, (enc x).length = sz) (hs : ∀ x, (enc x).all VE.scal = true) (hb : base ≤ lo) : ∃ o : Sl α, o.l = l ∧ FzV h base (l.length * sz + 4) v (o.v enc) := by
  rcases o with ⟨rfl, rfl⟩ | ⟨b, tag, rfl, h1, h2, h3⟩
  · exact ⟨.nil, rfl, FzV.le (.scal rfl) (by omega)⟩
  · exact FzV.rowr (r := []) he hs (by omega) rfl (by rw [List.append_nil]; exact h3)
theorem FzL.le {h : Heap} {base N M : Nat} {l l' : List V} (f : FzL h base N l l') (hm : N ≤ M) : FzL h base M l l' := fun n hn => f n (by omega)
theorem encH_scal (x : Held) : (encH x).all VE.scal = true := rfl
theorem e32_scal (x : Int) : (e32 x).all VE.scal = true := rfl
theorem FzL.tl {h : Heap} {base M : Nat} {v : V} {l l' : List V} (hs : scal v = true) (g : FzL h base M l l') (hm : 1 ≤ M) : FzL h base (M + 1) (v :: l) (v :: l') := .sc hs g hm
theorem fz_acct {a : Acct} {u e r : V} {own : Bucket} {n0 n1 n2 code t l0 l1 l2 w : Int} {h : Heap} {base N : Nat} {u' e' r' : V} (hu : FzV h base N u u') (he : FzV h base N e e') (hr : FzV h base N r r') (hN : 10 ≤ N) :
    FzV h base (N + 40) (.tup [.agg (encS a u e r own n0 n1 n2), .agg (encR code t l0 l1 l2 w), .int .i64 0]) (.tup [.agg (encS a u' e' r' own n0 n1 n2), .agg (encR code t l0 l1 l2 w), .int .i64 0]) := by
  have t3 : FzL h base N [.int .u64 n0, .int .u64 n1, .int .u64 n2] [.int .u64 n0, .int .u64 n1, .int .u64 n2] := (FzL.sc rfl (FzL.sc rfl (FzL.sc rfl .nil (by omega)) (by omega)) (by omega)).le (by omega)
  have tl := FzL.cons hu (FzL.cons (N := N) (M := N + 1) he (FzL.cons (M := N) hr t3 (Nat.le_refl _)) (by omega)) (by omega : N ≤ N + 2)
  have a24 : FzL h base (N + 21) (encS a u e r own n0 n1 n2) (encS a u' e' r' own n0 n1 n2) :=
    FzL.sc rfl (FzL.sc rfl (FzL.sc rfl (FzL.sc rfl (FzL.sc rfl (FzL.sc rfl (FzL.sc rfl (FzL.sc rfl (FzL.sc rfl (FzL.sc rfl (FzL.sc rfl (FzL.sc rfl (FzL.sc rfl (FzL.sc rfl (FzL.sc rfl (FzL.sc rfl (FzL.sc rfl (FzL.sc rfl tl (by omega)) (by omega)) (by omega)) (by omega)) (by omega)) (by omega)) (by omega)) (by omega)) (by omega)) (by omega)) (by omega)) (by omega)) (by omega)) (by omega)) (by omega)) (by omega)) (by omega)) (by omega)
  have r6 : FzL h base (N + 20) (encR code t l0 l1 l2 w) (encR code t l0 l1 l2 w) :=
    (FzL.sc rfl (FzL.sc rfl (FzL.sc rfl (FzL.sc rfl (FzL.sc rfl (FzL.sc rfl .nil (by omega)) (by omega)) (by omega)) (by omega)) (by omega)) (by omega)).le (by omega)
  have last : FzL h base 10 [V.int .i64 0] [V.int .i64 0] := (FzL.sc rfl .nil (by omega)).le (by omega)
  have two := FzL.cons (M := N + 21) (FzV.agg r6) (last.le (by omega)) (by omega)
  exact (FzV.tup (FzL.cons (FzV.agg a24) two (by omega))).le (by omega)
/-- what an asked account is -/
structure AskR (a b : Acct) (user ek cost tick : Int) (x y : Held) (U E : List Held) (ad : Bool) (o' x' y' : Bucket) : Prop where
  pad : ad = holds3 (fillB a.own tick) (fillB x.b tick) (fillB y.b tick) cost
  po : o' = chB ad (fillB a.own tick) cost
  px : x' = chB ad (fillB x.b tick) cost
  py : y' = chB ad (fillB y.b tick) cost
  pU : (useL a.users.l user a.l1 tick).take a.c0.toNat = x :: U
  pE : (useL a.ends.l ek a.l2 tick).take a.c1.toNat = y :: E
  t : b.t = a.t
  l0 : b.l0 = a.l0
  l1 : b.l1 = a.l1
  l2 : b.l2 = a.l2
  c0 : b.c0 = a.c0
  c1 : b.c1 = a.c1
  own : b.own = o'
  us : b.users.l = ⟨x.k, x'⟩ :: U
  es : b.ends.l = ⟨y.k, y'⟩ :: E
  rev : b.rev.l = a.rev.l
section
variable {vp : Nat → Option VFn}
/-- what the program's asking needs -/
structure PAsk (vp : Nat → Option VFn) (f : Nat) : Prop where
  ex : ∃ c1 c2 c3 c4 t1 t2, vp f = some (B_model_Ask c1 c2 c3 c4 t1 t2) ∧
    (∃ k1 k2 k3 k4 k5 k6 t3 t4, vp c1 = some (B_model_valid k1 k2 k3 t3) ∧ vp k1 = some B_bucket_CheckLimit ∧ vp k2 = some (B_bucket_Check k1) ∧ vp k3 = some (B_model_held k4 k2 t4) ∧ vp k4 = some (B_model_at k5 k6) ∧ vp k5 = some B_model_at_fn1 ∧ vp k6 = some B_slices_IndexFunc_api_Held) ∧
    (∃ k1, vp c2 = some (B_slices_Contains_uint32 k1) ∧ vp k1 = some B_slices_Index_uint32) ∧
    (∃ k1 k2 t3, vp c3 = some (B_model_clone k1 k2 t3) ∧ vp k1 = some B_slices_Clone_api_Held_v2 ∧ vp k2 = some B_slices_Clone_uint32_v2) ∧
    (∃ k1 k2 k3 k4 t3 t4 t5, vp c4 = some (B_model_ask k1 k2 k3 k4 t3 t4 t5) ∧ KOk vp k1 k2 k3 k4 ∧ modeOf vp k2 = some 1 ∧ modeOf vp k4 = some 1)
theorem Ask_spec {f : Nat} (w : PAsk vp f) (a : Acct) (ok : AOk a) (sm : Small a) (qk : QOk a) (user ep cost tick : Int) (hr : a.rev.l.any (isU user) = false) (hc : 0 ≤ cost ∧ cost < 4294967296) (ht : u64 tick) (h : Heap) :
    ∃ b x y U E ad o' x' y', AskR a b user (wr .u32 ep) cost tick x y U E ad o' x' y' ∧
      callRes vp f [.agg (encA a), .int .u32 user, .int .u16 ep, .int .u32 cost, .int .u64 tick] h = some (.tup [.agg (encA b), .agg (encR (if ad then 2 else 3) a.t (wr .u32 o'.lv) (wr .u32 x'.lv) (wr .u32 y'.lv) (if ad then 0 else wait3 o' x' y' cost)), .int .i64 0], h) := by
  obtain ⟨c1, c2, c3, c4, t1, t2, hf, ⟨v1, v2, v3, v4, v5, v6, t3, t4, hv, hv1, hv2, hv3, hv4, hv5, hv6⟩, ⟨i1, hi, hi1⟩, ⟨k1, k2, t5, hk, hk1, hk2⟩, ⟨q1, q2, q3, q4, t6, t7, t8, hq, hkk, hm2, hm4⟩⟩ := w
  have m1 : modeOf vp c1 = some 1 := by simp [modeOf, hv, B_model_valid]
  have m2 : modeOf vp c2 = some 1 := by simp [modeOf, hi, B_slices_Contains_uint32]
  have cv : ∀ h, callRes vp c1 [.agg (encA a)] h = some (.bool true, h) := fun h => (valid_spec hv hv1 hv2 hv3 hv4 hv5 hv6 a sm h).trans (by rw [@decide_eq_true _ (Classical.propDecidable _) ok])
  have ci : ∀ h, callRes vp c2 [a.rev.v e32, .int .u32 user] h = some (.bool false, h) := fun h => by rw [contU_spec hi hi1 a.rev user h sm.r, hr]
  have k := res_pure_ex (vp := vp) (args := [.agg (encA a), .int .u32 user, .int .u16 ep, .int .u32 cost, .int .u64 tick]) (h := h) (P := fun v => ∃ b x y U E ad o' x' y', AskR a b user (wr .u32 ep) cost tick x y U E ad o' x' y' ∧
      v = .tup [.agg (encA b), .agg (encR (if ad then 2 else 3) a.t (wr .u32 o'.lv) (wr .u32 x'.lv) (wr .u32 y'.lv) (if ad then 0 else wait3 o' x' y' cost)), .int .i64 0]) hf rfl rfl (fun g hg => by
    have hl := hlo hg
    have l0 : ¬ (g.nx < g.lo) := by omega
    have l1 : ¬ (g.nx + 1 < g.lo) := by omega
    have l2 : ¬ (g.nx + 2 < g.lo) := by omega
    obtain ⟨H0, hH0⟩ : ∃ H0, ((g.new (.cells (encA a) .cl)).new (.cells z24 (.ct t1))).new (.cells zR (.ct t2)) = H0 := ⟨_, rfl⟩
    have g0 : H0.get g.nx = .cells (encA a) .cl := by rw [← hH0]; simp only [↓zp, zz, true_and, and_true, chkOk, Nat.reduceEqDiff, Nat.reduceAdd, Nat.reduceSub, Nat.reduceMul, Nat.reduceLT, Nat.reduceLeDiff, Int.reduceLT, Int.reduceLE, Int.reduceEq, Int.reduceAdd, Int.reduceNeg, if_false, if_true, reduceIte, ags, LB.agz, agd, r_mv, r_pick, r_box, r_alloc, r_un, r_eqb, r_ext, r_mkf, r_cnv, r_st, r_nck, r_ix, r_iaa, takeN, agc, agn, VE.store, over, cellsAt, VE.part, agm, agb, blkX, gEval, cond_true, cond_false, r_build, r_bsl, fill, VE.unOp, r_bin, adz, ads, resOf, resVs, resV, alc, aln, reduceCtorEq, or_true, true_or, false_or, or_false, eq_self, exists_eq_left', Option.some.injEq]
    have g0b : H0.get (g.nx + 1) = .cells z24 (.ct t1) := by rw [← hH0]; simp only [↓zp, zz, true_and, and_true, chkOk, Nat.reduceEqDiff, Nat.reduceAdd, Nat.reduceSub, Nat.reduceMul, Nat.reduceLT, Nat.reduceLeDiff, Int.reduceLT, Int.reduceLE, Int.reduceEq, Int.reduceAdd, Int.reduceNeg, if_false, if_true, reduceIte, ags, LB.agz, agd, r_mv, r_pick, r_box, r_alloc, r_un, r_eqb, r_ext, r_mkf, r_cnv, r_st, r_nck, r_ix, r_iaa, takeN, agc, agn, VE.store, over, cellsAt, VE.part, agm, agb, blkX, gEval, cond_true, cond_false, r_build, r_bsl, fill, VE.unOp, r_bin, adz, ads, resOf, resVs, resV, alc, aln, reduceCtorEq, or_true, true_or, false_or, or_false, eq_self, exists_eq_left', Option.some.injEq]
    have g0c : H0.get (g.nx + 2) = .cells zR (.ct t2) := by rw [← hH0]; simp only [↓zp, zz, true_and, and_true, chkOk, Nat.reduceEqDiff, Nat.reduceAdd, Nat.reduceSub, Nat.reduceMul, Nat.reduceLT, Nat.reduceLeDiff, Int.reduceLT, Int.reduceLE, Int.reduceEq, Int.reduceAdd, Int.reduceNeg, if_false, if_true, reduceIte, ags, LB.agz, agd, r_mv, r_pick, r_box, r_alloc, r_un, r_eqb, r_ext, r_mkf, r_cnv, r_st, r_nck, r_ix, r_iaa, takeN, agc, agn, VE.store, over, cellsAt, VE.part, agm, agb, blkX, gEval, cond_true, cond_false, r_build, r_bsl, fill, VE.unOp, r_bin, adz, ads, resOf, resVs, resV, alc, aln, reduceCtorEq, or_true, true_or, false_or, or_false, eq_self, exists_eq_left', Option.some.injEq]
    have nx0 : H0.nx = g.nx + 3 := by rw [← hH0]; rfl
    have lo0 : H0.lo = g.lo := by rw [← hH0]; rfl
    obtain ⟨v, H1, cc, u, e, r, n0, n1, n2, n3, rfl, ou, oe, or', d1, d2, d3, d4, d5, K1⟩ := mclone_spec hk hk1 hk2 a H0 qk.un qk.en qk.rn (by omega)
    obtain ⟨v, H2, ca, ap⟩ := ask_spec hq hkk hm2 hm4 a qk u e r n0 n1 n2 n3 user ep cost tick hc ht H1 ou oe or' (by rw [K1.lo]; omega) d2 d3 d4 d5
    obtain ⟨⟨v1', v2', x, y, U, E, b1, b2, cap1, cap2, R1, R2, T1, T2, m0, m1', m2', ad, o', x', y', e1, e2, e3, e4, e5, e6, rfl, rfl, rfl, e7, e8, e9, e10, e11, e12⟩, kp, kr, lo2, nx2⟩ := ap
    have a1 := K1.nx
    have lo2' : H2.lo = g.lo := by rw [lo2, K1.lo, lo0]
    have g2 : H2.get g.nx = .cells (encA a) .cl := (kp _ (by omega)).trans ((K1.get _ (by omega)).trans g0)
    have g2b : H2.get (g.nx + 1) = .cells z24 (.ct t1) := (kp _ (by omega)).trans ((K1.get _ (by omega)).trans g0b)
    have g2c : H2.get (g.nx + 2) = .cells zR (.ct t2) := (kp _ (by omega)).trans ((K1.get _ (by omega)).trans g0c)
    have r1 := or'.one
    have n2x : g.nx + 3 ≤ H2.nx := by omega
    have l3 : ¬ (H2.nx < g.lo) := by omega
    have p1 : ¬ g.nx = H2.nx := by omega
    have p2 : ¬ g.nx + 1 = H2.nx := by omega
    have p3 : ¬ g.nx + 2 = H2.nx := by omega
    have p4 : ¬ H2.nx = g.nx := by omega
    have p5 : ¬ H2.nx = g.nx + 1 := by omega
    have p6 : ¬ H2.nx = g.nx + 2 := by omega
    -- the result, told whole
    have fin : ∀ Hf : Heap, Kq g.nx (g.nx + 3) H2.nx g.lo H2 Hf → ∃ r', frz frzFuel Hf g.nx false (.tup [.agg (encS a (.sl b1 0 (U.length + 1) cap1 7) (.sl b2 0 (E.length + 1) cap2 7) r o' m0 m1' m2'), .agg (encR (if ad then 2 else 3) a.t (wr .u32 o'.lv) (wr .u32 x'.lv) (wr .u32 y'.lv) (if ad then 0 else wait3 o' x' y' cost)), .int .i64 0]) = some r' ∧
        ∃ b x y U E ad o' x' y', AskR a b user (wr .u32 ep) cost tick x y U E ad o' x' y' ∧ r' = .tup [.agg (encA b), .agg (encR (if ad then 2 else 3) a.t (wr .u32 o'.lv) (wr .u32 x'.lv) (wr .u32 y'.lv) (if ad then 0 else wait3 o' x' y' cost)), .int .i64 0] := by
      intro Hf ⟨hk', hl', hn'⟩
      obtain ⟨ou', p1, p2⟩ := FzV.rowr (base := g.nx) (c := cap1) encH_len encH_scal (show g.nx ≤ b1 by omega) (show U.length + 1 = _ from rfl) ((hk' b1 (.inr ⟨by omega, e10⟩)).trans e7)
      obtain ⟨oe', p3, p4⟩ := FzV.rowr (base := g.nx) (c := cap2) encH_len encH_scal (show g.nx ≤ b2 by omega) (show E.length + 1 = _ from rfl) ((hk' b2 (.inr ⟨by omega, e12⟩)).trans e8)
      have or2 : Own e32 1 Hf r a.rev.l n2 n3 := or'.keep (fun b h1 h2 => (hk' b (.inr ⟨by omega, by omega⟩)).trans (kr b h1 h2))
      obtain ⟨orv, p5, p6⟩ := or2.fz (base := g.nx) e32_len e32_scal (by omega)
      have lu : (⟨x.k, x'⟩ :: U : List Held).length ≤ 100001 := by
        have := congrArg List.length e5
        rw [List.length_take] at this
        simp only [List.length_cons] at this ⊢
        have := qk.c0
        omega
      have le : (⟨y.k, y'⟩ :: E : List Held).length ≤ 100001 := by
        have := congrArg List.length e6
        rw [List.length_take] at this
        simp only [List.length_cons] at this ⊢
        have := qk.c1
        omega
      have lr := qk.rn
      have fz := fz_acct (a := a) (own := o') (n0 := m0) (n1 := m1') (n2 := m2') (code := if ad then 2 else 3) (t := a.t) (l0 := wr .u32 o'.lv) (l1 := wr .u32 x'.lv) (l2 := wr .u32 y'.lv) (w := if ad then 0 else wait3 o' x' y' cost) (p2.le (show _ ≤ 900000 by omega)) (p4.le (by omega)) (p6.le (by omega)) (by omega)
      refine ⟨_, fz frzFuel (by simp [frzFuel]), ⟨a.t, a.l0, a.l1, a.l2, a.c0, a.c1, o', ou', oe', orv, m0, m1', m2'⟩, x, y, U, E, ad, o', x', y', ⟨e1, e2, e3, e4, e5, e6, rfl, rfl, rfl, rfl, rfl, rfl, rfl, p1, p3, p5⟩, rfl⟩
    generalize (if ad then (2 : Int) else 3) = cd at *
    generalize (if ad then (0 : Int) else wait3 o' x' y' cost) = wt at *
    have o1 : ∀ n c, oneCell (.sl b1 0 n c 7) = true := fun _ _ => rfl
    unfold B_model_Ask
    unfold encS encR at ca
    unfold encS encR at fin
    unfold encS at cc
    unfold encA z24 zR at hH0
    unfold encA at cv cc g0 g2
    unfold z24 at g2b
    unfold zR at g2c
    simp only [↓zp, zz, true_and, and_true, chkOk, Nat.reduceEqDiff, Nat.reduceAdd, Nat.reduceSub, Nat.reduceMul, Nat.reduceLT, Nat.reduceLeDiff, Int.reduceLT, Int.reduceLE, Int.reduceEq, Int.reduceAdd, Int.reduceNeg, if_false, if_true, reduceIte, ags, LB.agz, agd, r_mv, r_pick, r_box, r_alloc, r_un, r_eqb, r_ext, r_mkf, r_cnv, r_st, r_nck, r_ix, r_iaa, takeN, agc, agn, VE.store, over, cellsAt, VE.part, agm, agb, blkX, gEval, cond_true, cond_false, r_build, r_bsl, fill, VE.unOp, r_bin, adz, ads, resOf, resVs, resV, alc, aln, reduceCtorEq, or_true, true_or, false_or, or_false, eq_self, exists_eq_left', Option.some.injEq, encA, hH0, nx0, lo0, l0, l1, l2, g0, m1, cv, m2, ci, cc, ca]
    simp only [↓zp, zz, true_and, and_true, chkOk, Nat.reduceEqDiff, Nat.reduceAdd, Nat.reduceSub, Nat.reduceMul, Nat.reduceLT, Nat.reduceLeDiff, Int.reduceLT, Int.reduceLE, Int.reduceEq, Int.reduceAdd, Int.reduceNeg, if_false, if_true, reduceIte, ags, LB.agz, agd, r_mv, r_pick, r_box, r_alloc, r_un, r_eqb, r_ext, r_mkf, r_cnv, r_st, r_nck, r_ix, r_iaa, takeN, agc, agn, VE.store, over, cellsAt, VE.part, agm, agb, blkX, gEval, cond_true, cond_false, r_build, r_bsl, fill, VE.unOp, r_bin, adz, ads, resOf, resVs, resV, alc, aln, reduceCtorEq, or_true, true_or, false_or, or_false, eq_self, exists_eq_left', Option.some.injEq, g2, g2b, g2c, lo2', l0, l1, l2, l3, p1, p2, p3, p4, p5, p6, one_sl, r1.1, apartV]
    refine fin _ ?_
    repeat first
      | exact ⟨fun _ _ => rfl, lo2', Nat.le_refl _⟩
      | refine Kq.set ?_ _ (by omega) (by omega)
      | refine Kq.new ?_ (by omega) (by omega) _)
  obtain ⟨v, e, b, x, y, U, E, ad, o', x', y', ar, rfl⟩ := k
  exact ⟨b, x, y, U, E, ad, o', x', y', ar, e⟩
end
end Go.VE.LB
