/- What the functions of the law ModelAdmits compute, on typed arguments (part 21). -/
import Derived.Test.YtnmneadmlcpaoaaModelAdmitsA20
set_option linter.all false
namespace Go.VE.LB
open Go Go.VE
set_option maxRecDepth 100000
set_option linter.all false
set_option maxHeartbeats 2000000
def takeB (b : Bucket) (c : Int) : Bucket := mkB b.l (b.lv - c) b.pt b.t
theorem bk_ok {b : Bucket} : bkBad b = false ↔ limBad b.l = false ∧ 0 ≤ b.lv ∧ b.lv ≤ b.l.b ∧ 0 ≤ b.pt ∧ b.pt < b.l.p ∧ (b.lv = b.l.b → b.pt = 0) := by
  simp only [bkBad, Bool.or_eq_false_iff, Bool.and_eq_false_iff, decide_eq_false_iff_not, Bool.not_eq_false', decide_eq_true_eq]
  constructor
  · rintro ⟨h1, h2, h3, h4, h5, h6⟩
    exact ⟨h1, by omega, by omega, by omega, by omega, fun e => h6.resolve_left (fun n => n e)⟩
  · rintro ⟨h1, h2, h3, h4, h5, h6⟩
    refine ⟨h1, by omega, by omega, by omega, by omega, ?_⟩
    by_cases q : b.lv = b.l.b
    · exact .inr (h6 q)
    · exact .inl q
theorem lim_ok {l : Limit} : limBad l = false ↔ 1 ≤ l.b ∧ l.b ≤ 1000000000 ∧ 0 ≤ l.r ∧ l.r ≤ 1000000000 ∧ 1 ≤ l.p ∧ l.p ≤ 1000000000 := by
  simp only [limBad, Bool.or_eq_false_iff, decide_eq_false_iff_not]
  omega
theorem mkB_ok {l : Limit} {lv pt t : Int} (hl : limBad l = false) (h0 : 0 ≤ lv) (h1 : lv ≤ l.b) (h2 : 0 ≤ pt) (h3 : pt < l.p) (h4 : lv = l.b → pt = 0) : bkBad (mkB l lv pt t) = false := by
  have := lim_ok.1 hl
  have e : (mkB l lv pt t).lv = lv := mkB_lv (by omega)
  rw [bk_ok, e]
  exact ⟨hl, h0, h1, h2, h3, h4⟩
theorem fillB_ok {b : Bucket} {t : Int} (hb : bkBad b = false) (hbt : u64 b.t) (ht : u64 t) : bkBad (fillB b t) = false ∧ u64 (fillB b t).t ∧ (fillB b t).l = b.l := by
  unfold fillB
  split
  · exact ⟨hb, hbt, rfl⟩
  · have hb' := bk_ok.1 hb
    have hl := lim_ok.1 hb'.1
    split
    · exact ⟨mkB_ok hb'.1 (by omega) (by omega) (by omega) (by omega) (fun _ => rfl), ht, rfl⟩
    · rename_i hq
      have hm : ((t - b.t).toNat * b.l.r.toNat + b.pt.toNat) % b.l.p.toNat < b.l.p.toNat := Nat.mod_lt _ (by omega)
      generalize ((t - b.t).toNat * b.l.r.toNat + b.pt.toNat) % b.l.p.toNat = m at *
      generalize ((t - b.t).toNat * b.l.r.toNat + b.pt.toNat) / b.l.p.toNat = q at *
      exact ⟨mkB_ok hb'.1 (by omega) (by omega) (by omega) (by omega) (fun h => by omega), ht, rfl⟩
theorem takeB_ok {b : Bucket} {c : Int} (hb : bkBad b = false) (h0 : 0 ≤ c) (h1 : c ≤ b.lv) : bkBad (takeB b c) = false := by
  have hb' := bk_ok.1 hb
  exact mkB_ok hb'.1 (by omega) (by omega) (by omega) (by omega) (fun h => hb'.2.2.2.2.2 (by omega))
/-- a bucket, charged or not -/
def chB (ad : Bool) (b : Bucket) (c : Int) : Bucket := if ad then takeB b c else b
section
variable {vp : Nat → Option VFn}
structure TOk (vp : Nat → Option VFn) (c1 c2 : Nat) : Prop where
  f : ∃ k1 k2, vp c1 = some (B_levels_fill k1 k2) ∧ FOk vp k1 k2
  h : ∃ k1 k2 k3, vp c2 = some (B_levels_holds k1 k2) ∧ vp k1 = some B_levels_holds_fn1 ∧ vp k2 = some (B_slices_ContainsFunc_api_Bucket k3) ∧ vp k3 = some B_slices_IndexFunc_api_Bucket
theorem ltake_spec {f c1 c2 : Nat} (hf : vp f = some (B_levels_take c1 c2)) (w : TOk vp c1 c2) (x y z : Bucket) (hx : bkBad x = false) (hy : bkBad y = false) (hz : bkBad z = false) (tx : u64 x.t) (ty : u64 y.t) (tz : u64 z.t) (t c : Int) (ht : u64 t) (hc0 : 0 ≤ c) (hc1 : c < 4294967296) (b : Nat) (tag : Tag) (h : Heap) (hb : h.get b = .cells (enc3 x y z) tag) (hlt : b < h.nx) (hlo : h.lo ≤ h.nx) :
    ∃ h', callRes vp f [.sl b 0 3 3 6, .int .u64 t, .int .i64 c] h = some (.tup [.sl (h.nx + 1) 0 3 3 6, .bool (holds3 (fillB x t) (fillB y t) (fillB z t) c)], h') ∧
      h'.get (h.nx + 1) = .cells (enc3 (chB (holds3 (fillB x t) (fillB y t) (fillB z t) c) (fillB x t) c) (chB (holds3 (fillB x t) (fillB y t) (fillB z t) c) (fillB y t) c) (chB (holds3 (fillB x t) (fillB y t) (fillB z t) c) (fillB z t) c)) .op ∧ h'.nx = h.nx + 2 ∧ Kp h h' := by
  obtain ⟨⟨k1, k2, hf1, hf2⟩, k3, k4, k5, hh1, hh2, hh3, hh4⟩ := w
  have m2 : modeOf vp c2 = some 1 := by simp [modeOf, hh1, B_levels_holds]
  obtain ⟨g, hcl, g1, g2, g3⟩ := lfill_spec hf1 hf2 x y z hx hy hz tx ty tz t ht b tag h hb hlt hlo
  have vx := fillB_ok hx tx ht
  have vy := fillB_ok hy ty ht
  have vz := fillB_ok hz tz ht
  generalize fillB x t = x' at *
  generalize fillB y t = y' at *
  generalize fillB z t = z' at *
  have bx := bk_ok.1 vx.1
  have by' := bk_ok.1 vy.1
  have bz := bk_ok.1 vz.1
  have lx := lim_ok.1 bx.1
  have ly := lim_ok.1 by'.1
  have lz := lim_ok.1 bz.1
  have hh := lholds_spec hh1 hh2 hh3 hh4 x' y' z' c (.sl (h.nx + 1) 0 3 3 6) g (rd3 g1 (by omega)) rfl
  have ln : ∀ h' : Heap, r_len (.sl (h.nx + 1) 0 3 3 6) h' = some (.int .i64 3, h') := fun h => rfl
  have i0 : ∀ h' : Heap, r_ia 6 (.sl (h.nx + 1) 0 3 3 6) (.int .i64 0) h' = some (.ptr (h.nx + 1) 0, h') := fun h => rfl
  have i1 : ∀ h' : Heap, r_ia 6 (.sl (h.nx + 1) 0 3 3 6) (.int .i64 1) h' = some (.ptr (h.nx + 1) 6, h') := fun h => rfl
  have i2 : ∀ h' : Heap, r_ia 6 (.sl (h.nx + 1) 0 3 3 6) (.int .i64 2) h' = some (.ptr (h.nx + 1) 12, h') := fun h => rfl
  have gl : ¬ (h.nx + 1 < g.lo) := by rw [g3.lo]; omega
  have k := res_raw (vp := vp) (args := [.sl b 0 3 3 6, .int .u64 t, .int .i64 c]) (h := h) (P := fun v h' => v = .tup [.sl (h.nx + 1) 0 3 3 6, .bool (holds3 x' y' z' c)] ∧ h'.get (h.nx + 1) = .cells (enc3 (chB (holds3 x' y' z' c) x' c) (chB (holds3 x' y' z' c) y' c) (chB (holds3 x' y' z' c) z' c)) .op ∧ h'.nx = h.nx + 2 ∧ Kp h h') hf rfl rfl (by
    unfold B_levels_take
    cases ha : holds3 x' y' z' c with
    | false =>
      rw [ha] at hh
      simp only [↓zp, zz, true_and, and_true, chkOk, Nat.reduceEqDiff, Nat.reduceAdd, Nat.reduceSub, Nat.reduceMul, Nat.reduceLT, Nat.reduceLeDiff, Int.reduceLT, Int.reduceLE, Int.reduceEq, Int.reduceAdd, Int.reduceNeg, if_false, if_true, reduceIte, ags, LB.agz, agd, r_mv, r_pick, r_box, r_alloc, r_un, r_eqb, r_ext, r_mkf, r_cnv, r_st, r_nck, r_ix, r_iaa, takeN, agc, agn, VE.store, over, cellsAt, VE.part, agm, agb, blkX, gEval, cond_true, cond_false, r_build, r_bsl, fill, VE.unOp, r_bin, adz, ads, resOf, resVs, resV, alc, aln, reduceCtorEq, or_true, true_or, false_or, or_false, eq_self, exists_eq_left', Option.some.injEq, hcl, m2, hh]
      exact ⟨g1, g2, g3⟩
    | true =>
      rw [ha] at hh
      have ha' := ha
      simp only [holds3, Bool.and_eq_true, decide_eq_true_eq] at ha'
      have wx : wr .i64 (x'.lv - c) = x'.lv - c := wr_i64 (by omega) (by omega)
      have wy : wr .i64 (y'.lv - c) = y'.lv - c := wr_i64 (by omega) (by omega)
      have wz : wr .i64 (z'.lv - c) = z'.lv - c := wr_i64 (by omega) (by omega)
      have e3 : enc3 (takeB x' c) (takeB y' c) (takeB z' c) = [.int .i64 x'.l.b, .int .i64 x'.l.r, .int .i64 x'.l.p, .int .i64 (x'.lv - c), .int .i64 x'.pt, .int .u64 x'.t, .int .i64 y'.l.b, .int .i64 y'.l.r, .int .i64 y'.l.p, .int .i64 (y'.lv - c), .int .i64 y'.pt, .int .u64 y'.t, .int .i64 z'.l.b, .int .i64 z'.l.r, .int .i64 z'.l.p, .int .i64 (z'.lv - c), .int .i64 z'.pt, .int .u64 z'.t] := by
        have e : ∀ b : Bucket, b.lv - c < 9223372036854775808 → encB (takeB b c) = [.int .i64 b.l.b, .int .i64 b.l.r, .int .i64 b.l.p, .int .i64 (b.lv - c), .int .i64 b.pt, .int .u64 b.t] := fun b hb => encB_mk hb
        rw [← enc3_flat]
        simp only [List.flatMap_cons, List.flatMap_nil]
        rw [e x' (by omega), e y' (by omega), e z' (by omega)]
        rfl
      unfold enc3 at g1
      simp only [chB, if_true]
      rw [e3]
      simp only [↓zp, zz, true_and, and_true, chkOk, Nat.reduceEqDiff, Nat.reduceAdd, Nat.reduceSub, Nat.reduceMul, Nat.reduceLT, Nat.reduceLeDiff, Int.reduceLT, Int.reduceLE, Int.reduceEq, Int.reduceAdd, Int.reduceNeg, if_false, if_true, reduceIte, ags, LB.agz, agd, r_mv, r_pick, r_box, r_alloc, r_un, r_eqb, r_ext, r_mkf, r_cnv, r_st, r_nck, r_ix, r_iaa, takeN, agc, agn, VE.store, over, cellsAt, VE.part, agm, agb, blkX, gEval, cond_true, cond_false, r_build, r_bsl, fill, VE.unOp, r_bin, adz, ads, resOf, resVs, resV, alc, aln, reduceCtorEq, or_true, true_or, false_or, or_false, eq_self, exists_eq_left', Option.some.injEq, hcl, m2, hh, ln]
      refine w_loop1 ?_
      simp only [↓zp, zz, true_and, and_true, chkOk, Nat.reduceEqDiff, Nat.reduceAdd, Nat.reduceSub, Nat.reduceMul, Nat.reduceLT, Nat.reduceLeDiff, Int.reduceLT, Int.reduceLE, Int.reduceEq, Int.reduceAdd, Int.reduceNeg, if_false, if_true, reduceIte, ags, LB.agz, agd, r_mv, r_pick, r_box, r_alloc, r_un, r_eqb, r_ext, r_mkf, r_cnv, r_st, r_nck, r_ix, r_iaa, takeN, agc, agn, VE.store, over, cellsAt, VE.part, agm, agb, blkX, gEval, cond_true, cond_false, r_build, r_bsl, fill, VE.unOp, r_bin, adz, ads, resOf, resVs, resV, alc, aln, reduceCtorEq, or_true, true_or, false_or, or_false, eq_self, exists_eq_left', Option.some.injEq, i0, g1, gl, wx]
      refine w_loop1 ?_
      simp only [↓zp, zz, true_and, and_true, chkOk, Nat.reduceEqDiff, Nat.reduceAdd, Nat.reduceSub, Nat.reduceMul, Nat.reduceLT, Nat.reduceLeDiff, Int.reduceLT, Int.reduceLE, Int.reduceEq, Int.reduceAdd, Int.reduceNeg, if_false, if_true, reduceIte, ags, LB.agz, agd, r_mv, r_pick, r_box, r_alloc, r_un, r_eqb, r_ext, r_mkf, r_cnv, r_st, r_nck, r_ix, r_iaa, takeN, agc, agn, VE.store, over, cellsAt, VE.part, agm, agb, blkX, gEval, cond_true, cond_false, r_build, r_bsl, fill, VE.unOp, r_bin, adz, ads, resOf, resVs, resV, alc, aln, reduceCtorEq, or_true, true_or, false_or, or_false, eq_self, exists_eq_left', Option.some.injEq, i1, g1, gl, wy]
      refine w_loop1 ?_
      simp only [↓zp, zz, true_and, and_true, chkOk, Nat.reduceEqDiff, Nat.reduceAdd, Nat.reduceSub, Nat.reduceMul, Nat.reduceLT, Nat.reduceLeDiff, Int.reduceLT, Int.reduceLE, Int.reduceEq, Int.reduceAdd, Int.reduceNeg, if_false, if_true, reduceIte, ags, LB.agz, agd, r_mv, r_pick, r_box, r_alloc, r_un, r_eqb, r_ext, r_mkf, r_cnv, r_st, r_nck, r_ix, r_iaa, takeN, agc, agn, VE.store, over, cellsAt, VE.part, agm, agb, blkX, gEval, cond_true, cond_false, r_build, r_bsl, fill, VE.unOp, r_bin, adz, ads, resOf, resVs, resV, alc, aln, reduceCtorEq, or_true, true_or, false_or, or_false, eq_self, exists_eq_left', Option.some.injEq, i2, g1, gl, wz]
      refine w_loop1 ?_
      simp only [↓zp, zz, true_and, and_true, chkOk, Nat.reduceEqDiff, Nat.reduceAdd, Nat.reduceSub, Nat.reduceMul, Nat.reduceLT, Nat.reduceLeDiff, Int.reduceLT, Int.reduceLE, Int.reduceEq, Int.reduceAdd, Int.reduceNeg, if_false, if_true, reduceIte, ags, LB.agz, agd, r_mv, r_pick, r_box, r_alloc, r_un, r_eqb, r_ext, r_mkf, r_cnv, r_st, r_nck, r_ix, r_iaa, takeN, agc, agn, VE.store, over, cellsAt, VE.part, agm, agb, blkX, gEval, cond_true, cond_false, r_build, r_bsl, fill, VE.unOp, r_bin, adz, ads, resOf, resVs, resV, alc, aln, reduceCtorEq, or_true, true_or, false_or, or_false, eq_self, exists_eq_left', Option.some.injEq, g2]
      exact ((g3.set _ (by omega)).set _ (by omega)).set _ (by omega))
  obtain ⟨v, h', e, rfl, k1, k2, k3⟩ := k
  exact ⟨h', e, k1, k2, k3⟩
theorem frz3 {x y z : Bucket} {b base : Nat} {ad : Bool} {h : Heap} (hb : h.get b = .cells (enc3 x y z) .op) (hlt : base ≤ b) : ∃ cap, frz frzFuel h base false (.tup [.sl b 0 3 3 6, .bool ad, .int .i64 0]) = some (.tup [.isl (enc3 x y z) 3 cap, .bool ad, .int .i64 0]) := by
  obtain ⟨o, ho, hz⟩ := FzV.row (l := [x, y, z]) (base := base) (c := 3) encB_len encB_scal hlt rfl hb
  have e : ∃ cap, o.v encB = .isl (enc3 x y z) 3 cap := by
    cases o with
    | nil => cases ho
    | mk l cap =>
      have ho : l = [x, y, z] := ho
      subst ho
      exact ⟨cap, rfl⟩
  obtain ⟨cap, e⟩ := e
  rw [e] at hz
  have tl : FzL h base 30 [.bool ad, .int .i64 0] [.bool ad, .int .i64 0] := fun n hn => (FzL.sc (v := .bool ad) (h := h) (base := base) rfl (FzL.sc (v := .int .i64 0) rfl .nil (by omega)) (by omega)) n (by omega)
  exact ⟨cap, FzV.tup (.cons hz tl (by simp)) frzFuel (by simp [frzFuel])⟩
theorem lTake_spec {f c1 c2 k1 k2 k3 k4 k5 : Nat} (hf : vp f = some (B_levels_Take c1 c2)) (h1 : vp c1 = some (B_levels_check k1 k2 k3)) (w1 : LOk vp k1 k2 k3) (h2 : vp c2 = some (B_levels_take k4 k5)) (w2 : TOk vp k4 k5)
    (x y z : Bucket) (hx : bkBad x = false) (hy : bkBad y = false) (hz : bkBad z = false) (tx : u64 x.t) (ty : u64 y.t) (tz : u64 z.t) (t c : Int) (ht : u64 t) (hc0 : 0 ≤ c) (hc1 : c < 4294967296) (b : Nat) (tag : Tag) (h : Heap) (hb : h.get b = .cells (enc3 x y z) tag) (hlt : b < h.nx) :
    ∃ cap, callRes vp f [.sl b 0 3 3 6, .int .u64 t, .int .i64 c] h = some (.tup [.isl (enc3 (chB (holds3 (fillB x t) (fillB y t) (fillB z t) c) (fillB x t) c) (chB (holds3 (fillB x t) (fillB y t) (fillB z t) c) (fillB y t) c) (chB (holds3 (fillB x t) (fillB y t) (fillB z t) c) (fillB z t) c)) 3 cap, .bool (holds3 (fillB x t) (fillB y t) (fillB z t) c), .int .i64 0], h) := by
  have m1 : modeOf vp c1 = some 1 := by simp [modeOf, h1, B_levels_check]
  have k := res_pure_ex (vp := vp) (args := [.sl b 0 3 3 6, .int .u64 t, .int .i64 c]) (h := h) (P := fun v => ∃ cap, v = .tup [.isl (enc3 (chB (holds3 (fillB x t) (fillB y t) (fillB z t) c) (fillB x t) c) (chB (holds3 (fillB x t) (fillB y t) (fillB z t) c) (fillB y t) c) (chB (holds3 (fillB x t) (fillB y t) (fillB z t) c) (fillB z t) c)) 3 cap, .bool (holds3 (fillB x t) (fillB y t) (fillB z t) c), .int .i64 0]) hf rfl rfl (fun g hg => by
    obtain ⟨g1, g2, g3⟩ := hg_keep hg (by rfl)
    have hb' : (g.new (.cells [.int .i64 c] .cl)).get b = .cells (enc3 x y z) tag := by rw [Heap.get_new, if_neg (by omega), g3, hb]
    have hlt' : b < (g.new (.cells [.int .i64 c] .cl)).nx := by simp [Heap.new]; omega
    have ck := lcheck_spec h1 w1 x y z hx hy hz c hc0 (.sl b 0 3 3 6) g.nx .cl (g.new (.cells [.int .i64 c] .cl)) (rd3 hb' hlt') (by rw [Heap.get_new, if_pos rfl])
    obtain ⟨h', tk, e1, e2, e3⟩ := ltake_spec h2 w2 x y z hx hy hz tx ty tz t c ht hc0 hc1 b tag (g.new (.cells [.int .i64 c] .cl)) hb' hlt' (by simp [Heap.new]; omega)
    obtain ⟨cap, fz⟩ := frz3 (base := g.nx) (ad := holds3 (fillB x t) (fillB y t) (fillB z t) c) e1 (by simp [Heap.new]; omega)
    unfold B_levels_Take
    simp only [↓zp, zz, true_and, and_true, chkOk, Nat.reduceEqDiff, Nat.reduceAdd, Nat.reduceSub, Nat.reduceMul, Nat.reduceLT, Nat.reduceLeDiff, Int.reduceLT, Int.reduceLE, Int.reduceEq, Int.reduceAdd, Int.reduceNeg, if_false, if_true, reduceIte, ags, LB.agz, agd, r_mv, r_pick, r_box, r_alloc, r_un, r_eqb, r_ext, r_mkf, r_cnv, r_st, r_nck, r_ix, r_iaa, takeN, agc, agn, VE.store, over, cellsAt, VE.part, agm, agb, blkX, gEval, cond_true, cond_false, r_build, r_bsl, fill, VE.unOp, r_bin, adz, ads, resOf, resVs, resV, alc, aln, reduceCtorEq, or_true, true_or, false_or, or_false, eq_self, exists_eq_left', Option.some.injEq, m1, ck, tk]
    simp only [Heap.new_nx] at fz
    exact ⟨_, fz, cap, rfl⟩)
  obtain ⟨v, e, cap, rfl⟩ := k
  exact ⟨cap, e⟩
def mx (a b : Int) : Int := bif ltI a b then b else a
theorem maxi2 {a b : Int} {h : Heap} : r_maxi [.int .u64 a, .int .u64 b] h = some (.int .u64 (mx a b), h) := rfl
/-- the wait of a row -/
def wait3 (x y z : Bucket) (c : Int) : Int := mx (mx (mx 0 (waitB x c)) (waitB y c)) (waitB z c)
theorem lWait_spec {f c1 c2 t1 k1 k2 k3 : Nat} (hf : vp f = some (B_levels_Wait c1 c2 t1)) (h1 : vp c1 = some (B_levels_check k1 k2 k3)) (w1 : LOk vp k1 k2 k3) (m2 : modeOf vp c2 = some 1)
    (h2 : ∀ (b : Bucket) (c : Int), bkBad b = false → u64 b.t → 0 ≤ c → ∀ h, callRes vp c2 [.agg (encB b), .int .i64 c] h = some (.tup [.int .u64 (waitB b c), .int .i64 0], h))
    (x y z : Bucket) (hx : bkBad x = false) (hy : bkBad y = false) (hz : bkBad z = false) (tx : u64 x.t) (ty : u64 y.t) (tz : u64 z.t) (c : Int) (hc0 : 0 ≤ c) (cap : Option Nat) (h : Heap) :
    callRes vp f [.isl (enc3 x y z) 3 cap, .int .i64 c] h = some (.tup [.int .u64 (wait3 x y z c), .int .i64 0], h) := by
  have m1 : modeOf vp c1 = some 1 := by simp [modeOf, h1, B_levels_check]
  have kx := h2 x c hx tx hc0
  have ky := h2 y c hy ty hc0
  have kz := h2 z c hz tz hc0
  refine res_pure hf rfl rfl (fun g hg => ?_)
  have hl := hlo hg
  have rv : ∀ g : Heap, Rd encB 6 g (.isl (enc3 x y z) 3 cap) [x, y, z] := fun g => .inl ⟨.mk [x, y, z] cap, rfl, rfl⟩
  have ck := lcheck_spec h1 w1 x y z hx hy hz c hc0 (.isl (enc3 x y z) 3 cap) g.nx .cl (g.new (.cells [.int .i64 c] .cl)) (rv _) (by rw [Heap.get_new, if_pos rfl])
  have ln : ∀ h' : Heap, r_len (.isl (enc3 x y z) 3 cap) h' = some (.int .i64 3, h') := fun h => rfl
  have i0 : ∀ h' : Heap, r_ia 6 (.isl (enc3 x y z) 3 cap) (.int .i64 0) h' = some (.iptr (encB x ++ (encB y ++ encB z)), h') := fun h => rfl
  have i1 : ∀ h' : Heap, r_ia 6 (.isl (enc3 x y z) 3 cap) (.int .i64 1) h' = some (.iptr (encB y ++ encB z), h') := fun h => rfl
  have i2 : ∀ h' : Heap, r_ia 6 (.isl (enc3 x y z) 3 cap) (.int .i64 2) h' = some (.iptr (encB z), h') := fun h => rfl
  clear hg rv
  generalize V.isl (enc3 x y z) 3 cap = v at *
  have l1 : ¬ (g.nx + 1 < g.lo) := by omega
  have l2 : ¬ (g.nx + 2 < g.lo) := by omega
  have l3 : ¬ (g.nx + 3 < g.lo) := by omega
  unfold wait3
  generalize waitB x c = wx at *
  generalize waitB y c = wy at *
  generalize waitB z c = wz at *
  unfold B_levels_Wait
  simp only [↓zp, zz, true_and, and_true, chkOk, Nat.reduceEqDiff, Nat.reduceAdd, Nat.reduceSub, Nat.reduceMul, Nat.reduceLT, Nat.reduceLeDiff, Int.reduceLT, Int.reduceLE, Int.reduceEq, Int.reduceAdd, Int.reduceNeg, if_false, if_true, reduceIte, ags, LB.agz, agd, r_mv, r_pick, r_box, r_alloc, r_un, r_eqb, r_ext, r_mkf, r_cnv, r_st, r_nck, r_ix, r_iaa, takeN, agc, agn, VE.store, over, cellsAt, VE.part, agm, agb, blkX, gEval, cond_true, cond_false, r_build, r_bsl, fill, VE.unOp, r_bin, adz, ads, resOf, resVs, resV, alc, aln, reduceCtorEq, or_true, true_or, false_or, or_false, eq_self, exists_eq_left', Option.some.injEq, m1, ck, ln]
  refine w_loop1 ?_
  unfold encB at kx ky kz
  simp only [↓zp, zz, true_and, and_true, chkOk, Nat.reduceEqDiff, Nat.reduceAdd, Nat.reduceSub, Nat.reduceMul, Nat.reduceLT, Nat.reduceLeDiff, Int.reduceLT, Int.reduceLE, Int.reduceEq, Int.reduceAdd, Int.reduceNeg, if_false, if_true, reduceIte, ags, LB.agz, agd, r_mv, r_pick, r_box, r_alloc, r_un, r_eqb, r_ext, r_mkf, r_cnv, r_st, r_nck, r_ix, r_iaa, takeN, agc, agn, VE.store, over, cellsAt, VE.part, agm, agb, blkX, gEval, cond_true, cond_false, r_build, r_bsl, fill, VE.unOp, r_bin, adz, ads, resOf, resVs, resV, alc, aln, reduceCtorEq, or_true, true_or, false_or, or_false, eq_self, exists_eq_left', Option.some.injEq, i0, l1, m2, maxi2, encB, kx]
  refine w_loop1 ?_
  simp only [↓zp, zz, true_and, and_true, chkOk, Nat.reduceEqDiff, Nat.reduceAdd, Nat.reduceSub, Nat.reduceMul, Nat.reduceLT, Nat.reduceLeDiff, Int.reduceLT, Int.reduceLE, Int.reduceEq, Int.reduceAdd, Int.reduceNeg, if_false, if_true, reduceIte, ags, LB.agz, agd, r_mv, r_pick, r_box, r_alloc, r_un, r_eqb, r_ext, r_mkf, r_cnv, r_st, r_nck, r_ix, r_iaa, takeN, agc, agn, VE.store, over, cellsAt, VE.part, agm, agb, blkX, gEval, cond_true, cond_false, r_build, r_bsl, fill, VE.unOp, r_bin, adz, ads, resOf, resVs, resV, alc, aln, reduceCtorEq, or_true, true_or, false_or, or_false, eq_self, exists_eq_left', Option.some.injEq, i1, l2, m2, maxi2, encB, ky]
  refine w_loop1 ?_
  simp only [↓zp, zz, true_and, and_true, chkOk, Nat.reduceEqDiff, Nat.reduceAdd, Nat.reduceSub, Nat.reduceMul, Nat.reduceLT, Nat.reduceLeDiff, Int.reduceLT, Int.reduceLE, Int.reduceEq, Int.reduceAdd, Int.reduceNeg, if_false, if_true, reduceIte, ags, LB.agz, agd, r_mv, r_pick, r_box, r_alloc, r_un, r_eqb, r_ext, r_mkf, r_cnv, r_st, r_nck, r_ix, r_iaa, takeN, agc, agn, VE.store, over, cellsAt, VE.part, agm, agb, blkX, gEval, cond_true, cond_false, r_build, r_bsl, fill, VE.unOp, r_bin, adz, ads, resOf, resVs, resV, alc, aln, reduceCtorEq, or_true, true_or, false_or, or_false, eq_self, exists_eq_left', Option.some.injEq, i2, l3, m2, maxi2, encB, kz]
  refine w_loop1 ?_
  simp only [↓zp, zz, true_and, and_true, chkOk, Nat.reduceEqDiff, Nat.reduceAdd, Nat.reduceSub, Nat.reduceMul, Nat.reduceLT, Nat.reduceLeDiff, Int.reduceLT, Int.reduceLE, Int.reduceEq, Int.reduceAdd, Int.reduceNeg, if_false, if_true, reduceIte, ags, LB.agz, agd, r_mv, r_pick, r_box, r_alloc, r_un, r_eqb, r_ext, r_mkf, r_cnv, r_st, r_nck, r_ix, r_iaa, takeN, agc, agn, VE.store, over, cellsAt, VE.part, agm, agb, blkX, gEval, cond_true, cond_false, r_build, r_bsl, fill, VE.unOp, r_bin, adz, ads, resOf, resVs, resV, alc, aln, reduceCtorEq, or_true, true_or, false_or, or_false, eq_self, exists_eq_left', Option.some.injEq, frzT2]
end
end Go.VE.LB
