/- What the functions of the law ModelAdmits compute, on typed arguments (part 6). -/
import Derived.Test.YtnmneadmlcpaoaaModelAdmitsA5
set_option linter.all false
namespace Go.VE.LB
open Go Go.VE Classical
set_option maxRecDepth 100000
set_option linter.all false
section
variable {α : Type}
theorem slc_take {enc : α → List V} {sz : Nat} (he : ∀ x, (enc x).length = sz) {c : Sl α} {k : Nat} (hk : k ≤ c.l.length) : ∃ c' : Sl α, c'.l = c.l.take k ∧ ∀ h, r_slc sz (c.v enc) none (some (.int .i64 (k : Int))) none h = some (c'.v enc, h) := by
  cases c with
  | nil =>
    obtain rfl : k = 0 := by simpa [Sl.l] using hk
    exact ⟨.nil, rfl, fun h => rfl⟩
  | mk l cap =>
    have hk' : k ≤ l.length := hk
    have e0 : (l.take k).length = k := by simp; omega
    have ht : takeN (k * sz) (l.flatMap enc) = some ((l.take k).flatMap enc) := by
      have e1 : l.flatMap enc = (l.take k).flatMap enc ++ (l.drop k).flatMap enc := by rw [← List.flatMap_append, List.take_append_drop]
      rw [e1, ← e0, ← flat_len2 he, e0]
      exact takeN_app _ _
    have hm : k ≤ Nat.min l.length l.length := by simp; omega
    refine ⟨.mk (l.take k) (cap.map (· - 0)), rfl, fun h => ?_⟩
    · simp only [r_slc, sliceV, Sl.v, bound, asNatN, ble_dec, hm, decide_true, cond_true, Nat.zero_le, Nat.sub_zero, Nat.zero_mul, List.drop_zero, ht, Option.map_some, e0]
end
theorem fidx_take {α : Type} {q : α → Bool} {l : List α} {k : Nat} (hk : k < l.length) (hq : q l[k] = true) : (fidx q l = (k : Int)) = ¬ 0 ≤ fidx q (l.take k) := by
  have el : ∀ j (hj : j < (l.take k).length), (l.take k)[j] = l[j]'(by simp at hj; omega) := fun j hj => by simp
  apply propext
  constructor
  · intro e h0
    obtain ⟨r1, r2⟩ := fidx_range (q := q) (l := l.take k)
    rcases fidx_find (q := q) (l.take k) with ⟨n, _⟩ | ⟨j, hj, e2, e3⟩
    · omega
    · have hj' : j < k := by simp at hj; omega
      have qj : q l[j] = true := by
        have := List.find?_some e3
        rwa [el j hj] at this
      have : ∀ (l : List α) (j : Nat) (hj : j < l.length), q l[j] = true → fidx q l ≤ j := by
        intro l
        induction l with
        | nil => intro j hj; simp at hj
        | cons x l ih =>
          intro j hj hq
          simp only [fidx]
          split
          · omega
          · cases j with
            | zero => simp_all
            | succ j =>
              have := ih j (by simpa using hj) (by simpa using hq)
              split <;> omega
      have := this l j (by omega) qj
      omega
  · intro h0
    refine fidx_at hk hq (fun j hj hjk => ?_)
    cases e : q l[j] with
    | false => rfl
    | true =>
      exfalso
      have hany : (l.take k).any q = true := List.any_eq_true.2 ⟨l[j], by rw [← el j (by simp; omega)]; exact List.getElem_mem _, e⟩
      rw [← fidx_any] at hany
      exact h0 (by simpa using hany)
def Good (l : List Held) (lim : Limit) (key : Int) (k : Nat) (hk : k < l.length) : Prop := ¬ key < l[k].k ∧ ¬ 0 ≤ fidx (isK l[k].k) (l.take k) ∧ l[k].b.l = lim ∧ bkBad l[k].b = false
structure HeldOk (l : List Held) (most : Int) (lim : Limit) (key : Int) : Prop where
  len : ¬ most < (l.length : Int)
  each : ∀ k (hk : k < l.length), Good l lim key k hk
theorem isK_self (x : Held) : isK x.k x = true := by simp [isK]
section
variable {vp : Nat → Option VFn}
def inv42 (c : Sl Held) (most : Int) (lim : Limit) (key : Int) (b : Nat) (H : Heap) (m : Nat) (s : Slots) (h : Heap) : Prop :=
  ∃ k, k ≤ c.l.length ∧ m = c.l.length - k ∧ s.at 0 = c.v encH ∧ s.at 1 = .int .i64 most ∧ s.at 3 = .int .u32 key ∧ s.at 6 = .ptr b 0 ∧ s.at 9 = .int .i64 (k : Int) ∧ h = H ∧ ∀ j (hj : j < c.l.length), j < k → Good c.l lim key j hj
theorem rheld_spec {f c1 c2 c3 : Nat} (hf : vp f = some (B_spigotref25_held c1 c2)) (h1 : vp c1 = some B_spigotref25_At) (h2 : vp c2 = some (B_spigotref03_Check c3)) (h3 : vp c3 = some B_spigotref03_CheckLimit) (c : Sl Held) (most : Int) (lim : Limit) (key : Int) (h : Heap) (hn : c.l.length < 4611686018427387904) :
    callRes vp f [c.v encH, .int .i64 most, .agg [.int .i64 lim.b, .int .i64 lim.r, .int .i64 lim.p], .int .u32 key] h = some (.bool (decide (HeldOk c.l most lim key)), h) := by
  have m1 : modeOf vp c1 = some 1 := by simp [modeOf, h1, B_spigotref25_At]
  have m2 : modeOf vp c2 = some 1 := by simp [modeOf, h2, B_spigotref03_Check]
  have bk : ∀ (y : Bucket) h, callRes vp c2 [.agg [.int .i64 y.l.b, .int .i64 y.l.r, .int .i64 y.l.p, .int .i64 y.lv, .int .i64 y.pt, .int .u64 y.t]] h = some (.int .i64 (chkB y), h) := fun y h => bk_spec2 h2 h3 y h
  have sat := fun k h => at_spec h1 c k h hn
  refine res_pure hf rfl rfl (fun g hg => ?_)
  have no : ∀ (P : Prop), ¬ P → (HeldOk c.l most lim key → P) → (.bool false : V) = .bool (decide (HeldOk c.l most lim key)) := fun P hn hv => by
    rw [decide_eq_false (fun q => hn (hv q))]
  unfold B_spigotref25_held
  simp only [↓zp, zz, true_and, and_true, chkOk, Nat.reduceEqDiff, Nat.reduceAdd, Nat.reduceSub, Nat.reduceMul, Nat.reduceLT, Nat.reduceLeDiff, Int.reduceLT, Int.reduceLE, Int.reduceEq, Int.reduceAdd, Int.reduceNeg, if_false, if_true, reduceIte, ags, LB.agz, agd, r_mv, r_pick, r_box, r_alloc, r_un, r_eqb, r_ext, r_mkf, r_cnv, r_st, r_nck, r_ix, r_iaa, takeN, agc, agn, VE.store, over, cellsAt, VE.part, agm, agb, blkX, gEval, cond_true, cond_false, r_build, r_bsl, fill, VE.unOp, r_bin, adz, ads, resOf, resVs, resV, alc, aln, reduceCtorEq, or_true, true_or, false_or, or_false, eq_self, exists_eq_left', Option.some.injEq]
  generalize hS : Tr.set _ 9 _ = S
  have b0 : Slots.at S 0 = c.v encH := by rw [← hS]; simp only [Slots.at_set, Nat.reduceEqDiff, if_false, if_true, reduceIte, argSlots_at, ags, agz, agd]
  have b1 : Slots.at S 1 = .int .i64 most := by rw [← hS]; simp only [Slots.at_set, Nat.reduceEqDiff, if_false, if_true, reduceIte, argSlots_at, ags, agz, agd]
  have b3 : Slots.at S 3 = .int .u32 key := by rw [← hS]; simp only [Slots.at_set, Nat.reduceEqDiff, if_false, if_true, reduceIte, argSlots_at, ags, agz, agd]
  have b6 : Slots.at S 6 = .ptr g.nx 0 := by rw [← hS]; simp only [Slots.at_set, Nat.reduceEqDiff, if_false, if_true, reduceIte, argSlots_at, ags, agz, agd]
  have b9 : Slots.at S 9 = .int .i64 ((0 : Nat) : Int) := by rw [← hS]; simp only [Slots.at_set, Nat.reduceEqDiff, if_false, if_true, reduceIte, argSlots_at, ags, agz, agd]; rfl
  clear hS
  generalize hH : Heap.new g _ = H
  have hb : H.get g.nx = .cells (encL lim) .cl := by rw [← hH, Heap.get_new, if_pos rfl]; rfl
  clear hH
  refine loop_ind (fun m s h => inv42 c most lim key g.nx H m s h) ?_ c.l.length ⟨0, by omega, by omega, b0, b1, b3, b6, b9, rfl, fun j _ hj => by omega⟩
  rintro m s h ⟨k, hk, hm, c0, c1, c3, c6, c9, rfl, hinc⟩
  by_cases hlt : k < c.l.length
  case neg =>
    have hlt' : ¬ ((k : Int) < (c.l.length : Int)) := by omega
    by_cases hl : most < (c.l.length : Int)
    · have e := no _ (not_not_intro hl) (·.len)
      have hl' : ¬ (c.l.length : Int) ≤ most := by omega
      simp only [↓zp, zz, true_and, and_true, chkOk, Nat.reduceEqDiff, Nat.reduceAdd, Nat.reduceSub, Nat.reduceMul, Nat.reduceLT, Nat.reduceLeDiff, Int.reduceLT, Int.reduceLE, Int.reduceEq, Int.reduceAdd, Int.reduceNeg, if_false, if_true, reduceIte, ags, LB.agz, agd, r_mv, r_pick, r_box, r_alloc, r_un, r_eqb, r_ext, r_mkf, r_cnv, r_st, r_nck, r_ix, r_iaa, takeN, agc, agn, VE.store, over, cellsAt, VE.part, agm, agb, blkX, gEval, cond_true, cond_false, r_build, r_bsl, fill, VE.unOp, r_bin, adz, ads, resOf, resVs, resV, alc, aln, reduceCtorEq, or_true, true_or, false_or, or_false, eq_self, exists_eq_left', Option.some.injEq, c0, c1, c3, c6, c9, hlt', hl', ← e, frzB]
    · have e : HeldOk c.l most lim key := ⟨hl, fun j hj => hinc j hj (by omega)⟩
      have hl' : (c.l.length : Int) ≤ most := by omega
      simp only [↓zp, zz, true_and, and_true, chkOk, Nat.reduceEqDiff, Nat.reduceAdd, Nat.reduceSub, Nat.reduceMul, Nat.reduceLT, Nat.reduceLeDiff, Int.reduceLT, Int.reduceLE, Int.reduceEq, Int.reduceAdd, Int.reduceNeg, if_false, if_true, reduceIte, ags, LB.agz, agd, r_mv, r_pick, r_box, r_alloc, r_un, r_eqb, r_ext, r_mkf, r_cnv, r_st, r_nck, r_ix, r_iaa, takeN, agc, agn, VE.store, over, cellsAt, VE.part, agm, agb, blkX, gEval, cond_true, cond_false, r_build, r_bsl, fill, VE.unOp, r_bin, adz, ads, resOf, resVs, resV, alc, aln, reduceCtorEq, or_true, true_or, false_or, or_false, eq_self, exists_eq_left', Option.some.injEq, c0, c1, c3, c6, c9, hlt', hl', e, frzB]
  have hlt' : (k : Int) < (c.l.length : Int) := by omega
  have ws := wr_succ (k := k) (by omega)
  have ia1 : ∀ h, r_ia 7 (c.v encH) (.int .i64 (k : Int)) h = some (.iptr (encH c.l[k] ++ (c.l.drop (k + 1)).flatMap encH), h) := fun h => r_ia_v encH_len (by decide) hlt rfl
  have ft := fidx_take hlt (isK_self c.l[k])
  by_cases g1 : 0 ≤ fidx (isK c.l[k].k) (c.l.take k)
  case pos =>
    have e := no _ (fun q : Good c.l lim key k hlt => q.2.1 g1) (fun q => q.each k hlt)
    have ft' : ¬ fidx (isK c.l[k].k) c.l = (k : Int) := by rw [ft]; exact not_not_intro g1
    simp only [↓zp, zz, true_and, and_true, chkOk, Nat.reduceEqDiff, Nat.reduceAdd, Nat.reduceSub, Nat.reduceMul, Nat.reduceLT, Nat.reduceLeDiff, Int.reduceLT, Int.reduceLE, Int.reduceEq, Int.reduceAdd, Int.reduceNeg, if_false, if_true, reduceIte, ags, LB.agz, agd, r_mv, r_pick, r_box, r_alloc, r_un, r_eqb, r_ext, r_mkf, r_cnv, r_st, r_nck, r_ix, r_iaa, takeN, agc, agn, VE.store, over, cellsAt, VE.part, agm, agb, blkX, gEval, cond_true, cond_false, r_build, r_bsl, fill, VE.unOp, r_bin, adz, ads, resOf, resVs, resV, alc, aln, reduceCtorEq, or_true, true_or, false_or, or_false, eq_self, exists_eq_left', Option.some.injEq, c0, c1, c3, c6, c9, hlt', ia1, encH, m1, sat, ft', ← e, frzB]
  have ft' : fidx (isK c.l[k].k) c.l = (k : Int) := by rw [ft]; exact g1
  by_cases g2 : key < c.l[k].k
  case pos =>
    have e := no _ (fun q : Good c.l lim key k hlt => q.1 g2) (fun q => q.each k hlt)
    simp only [↓zp, zz, true_and, and_true, chkOk, Nat.reduceEqDiff, Nat.reduceAdd, Nat.reduceSub, Nat.reduceMul, Nat.reduceLT, Nat.reduceLeDiff, Int.reduceLT, Int.reduceLE, Int.reduceEq, Int.reduceAdd, Int.reduceNeg, if_false, if_true, reduceIte, ags, LB.agz, agd, r_mv, r_pick, r_box, r_alloc, r_un, r_eqb, r_ext, r_mkf, r_cnv, r_st, r_nck, r_ix, r_iaa, takeN, agc, agn, VE.store, over, cellsAt, VE.part, agm, agb, blkX, gEval, cond_true, cond_false, r_build, r_bsl, fill, VE.unOp, r_bin, adz, ads, resOf, resVs, resV, alc, aln, reduceCtorEq, or_true, true_or, false_or, or_false, eq_self, exists_eq_left', Option.some.injEq, c0, c1, c3, c6, c9, hlt', ia1, encH, m1, sat, ft', g2, ← e, frzB]
  cases g3 : bkBad c.l[k].b with
  | true =>
    have e := no _ (fun q : Good c.l lim key k hlt => by have := q.2.2.2; rw [g3] at this; cases this) (fun q => q.each k hlt)
    simp only [↓zp, zz, true_and, and_true, chkOk, Nat.reduceEqDiff, Nat.reduceAdd, Nat.reduceSub, Nat.reduceMul, Nat.reduceLT, Nat.reduceLeDiff, Int.reduceLT, Int.reduceLE, Int.reduceEq, Int.reduceAdd, Int.reduceNeg, if_false, if_true, reduceIte, ags, LB.agz, agd, r_mv, r_pick, r_box, r_alloc, r_un, r_eqb, r_ext, r_mkf, r_cnv, r_st, r_nck, r_ix, r_iaa, takeN, agc, agn, VE.store, over, cellsAt, VE.part, agm, agb, blkX, gEval, cond_true, cond_false, r_build, r_bsl, fill, VE.unOp, r_bin, adz, ads, resOf, resVs, resV, alc, aln, reduceCtorEq, or_true, true_or, false_or, or_false, eq_self, exists_eq_left', Option.some.injEq, c0, c1, c3, c6, c9, hlt', ia1, encH, m1, m2, sat, bk, chkB, ft', g2, g3, ← e, frzB]
  | false =>
    by_cases g4 : c.l[k].b.l = lim
    case neg =>
      have e := no _ (fun q : Good c.l lim key k hlt => g4 q.2.2.1) (fun q => q.each k hlt)
      simp only [↓zp, zz, true_and, and_true, chkOk, Nat.reduceEqDiff, Nat.reduceAdd, Nat.reduceSub, Nat.reduceMul, Nat.reduceLT, Nat.reduceLeDiff, Int.reduceLT, Int.reduceLE, Int.reduceEq, Int.reduceAdd, Int.reduceNeg, if_false, if_true, reduceIte, ags, LB.agz, agd, r_mv, r_pick, r_box, r_alloc, r_un, r_eqb, r_ext, r_mkf, r_cnv, r_st, r_nck, r_ix, r_iaa, takeN, agc, agn, VE.store, over, cellsAt, VE.part, agm, agb, blkX, gEval, cond_true, cond_false, r_build, r_bsl, fill, VE.unOp, r_bin, adz, ads, resOf, resVs, resV, alc, aln, reduceCtorEq, or_true, true_or, false_or, or_false, eq_self, exists_eq_left', Option.some.injEq, c0, c1, c3, c6, c9, hlt', ia1, encH, m1, m2, sat, bk, chkB, ft', g2, g3, hb, encL, eqc3, g4, ← e, frzB]
    have g4' := eq_true g4
    simp only [↓zp, zz, true_and, and_true, chkOk, Nat.reduceEqDiff, Nat.reduceAdd, Nat.reduceSub, Nat.reduceMul, Nat.reduceLT, Nat.reduceLeDiff, Int.reduceLT, Int.reduceLE, Int.reduceEq, Int.reduceAdd, Int.reduceNeg, if_false, if_true, reduceIte, ags, LB.agz, agd, r_mv, r_pick, r_box, r_alloc, r_un, r_eqb, r_ext, r_mkf, r_cnv, r_st, r_nck, r_ix, r_iaa, takeN, agc, agn, VE.store, over, cellsAt, VE.part, agm, agb, blkX, gEval, cond_true, cond_false, r_build, r_bsl, fill, VE.unOp, r_bin, adz, ads, resOf, resVs, resV, alc, aln, reduceCtorEq, or_true, true_or, false_or, or_false, eq_self, exists_eq_left', Option.some.injEq, c0, c1, c3, c6, c9, hlt', ia1, encH, m1, m2, sat, bk, chkB, ft', g2, g3, hb, encL, eqc3, g4', ws]
    refine ⟨_, by omega, k + 1, by omega, rfl, by simp only [Slots.at_set, Nat.reduceEqDiff, if_false, if_true, reduceIte, argSlots_at, ags, agz, agd, c0], by simp only [Slots.at_set, Nat.reduceEqDiff, if_false, if_true, reduceIte, argSlots_at, ags, agz, agd, c1], by simp only [Slots.at_set, Nat.reduceEqDiff, if_false, if_true, reduceIte, argSlots_at, ags, agz, agd, c3], by simp only [Slots.at_set, Nat.reduceEqDiff, if_false, if_true, reduceIte, argSlots_at, ags, agz, agd, c6], by simp only [Slots.at_set, Nat.reduceEqDiff, if_false, if_true, reduceIte, argSlots_at, ags, agz, agd], rfl, fun j hj hj2 => ?_⟩
    rcases Nat.lt_or_ge j k with r | r
    · exact hinc j hj r
    · have : j = k := by omega
      subst this
      exact ⟨g2, g1, g4, g3⟩
def inv35 (c : Sl Held) (most : Int) (lim : Limit) (key : Int) (b lo : Nat) (m : Nat) (s : Slots) (h : Heap) : Prop :=
  ∃ k, k ≤ c.l.length ∧ m = c.l.length - k ∧ s.at 0 = c.v encH ∧ s.at 3 = .int .u32 key ∧ s.at 6 = .ptr b 0 ∧ s.at 15 = c.v encH ∧ s.at 16 = .int .i64 (c.l.length : Int) ∧ s.at 17 = .int .i64 (k : Int) ∧ (h.get b = .cells (encL lim) .cl ∧ b < h.nx ∧ h.lo ≤ b) ∧ ∀ j (hj : j < c.l.length), j < k → Good c.l lim key j hj
theorem mheld_spec {f c1 c2 c3 c4 c5 t1 : Nat} (hf : vp f = some (B_model_held c1 c2 t1)) (h1 : vp c1 = some (B_model_at c4 c5)) (h4 : vp c4 = some B_model_at_fn1) (h5 : vp c5 = some B_slices_IndexFunc_api_Held) (h2 : vp c2 = some (B_bucket_Check c3)) (h3 : vp c3 = some B_bucket_CheckLimit) (c : Sl Held) (most : Int) (lim : Limit) (key : Int) (h : Heap) (hn : c.l.length < 4611686018427387904) :
    callRes vp f [c.v encH, .int .i64 most, .agg [.int .i64 lim.b, .int .i64 lim.r, .int .i64 lim.p], .int .u32 key] h = some (.bool (decide (HeldOk c.l most lim key)), h) := by
  have m1 : modeOf vp c1 = some 1 := by simp [modeOf, h1, B_model_at]
  have m2 : modeOf vp c2 = some 1 := by simp [modeOf, h2, B_bucket_Check]
  have bk : ∀ (y : Bucket) h, callRes vp c2 [.agg [.int .i64 y.l.b, .int .i64 y.l.r, .int .i64 y.l.p, .int .i64 y.lv, .int .i64 y.pt, .int .u64 y.t]] h = some (.int .i64 (chkB y), h) := fun y h => bk_spec h2 h3 y h
  have sat := fun (c : Sl Held) hn k h => mat_spec h1 h4 h5 c k h hn
  refine res_pure hf rfl rfl (fun g hg => ?_)
  have hlo := hlo hg
  have no : ∀ (P : Prop), ¬ P → (HeldOk c.l most lim key → P) → (.bool false : V) = .bool (decide (HeldOk c.l most lim key)) := fun P hn hv => by
    rw [decide_eq_false (fun q => hn (hv q))]
  unfold B_model_held
  by_cases hl : most < (c.l.length : Int)
  · have e := no _ (not_not_intro hl) (·.len)
    simp only [↓zp, zz, true_and, and_true, chkOk, Nat.reduceEqDiff, Nat.reduceAdd, Nat.reduceSub, Nat.reduceMul, Nat.reduceLT, Nat.reduceLeDiff, Int.reduceLT, Int.reduceLE, Int.reduceEq, Int.reduceAdd, Int.reduceNeg, if_false, if_true, reduceIte, ags, LB.agz, agd, r_mv, r_pick, r_box, r_alloc, r_un, r_eqb, r_ext, r_mkf, r_cnv, r_st, r_nck, r_ix, r_iaa, takeN, agc, agn, VE.store, over, cellsAt, VE.part, agm, agb, blkX, gEval, cond_true, cond_false, r_build, r_bsl, fill, VE.unOp, r_bin, adz, ads, resOf, resVs, resV, alc, aln, reduceCtorEq, or_true, true_or, false_or, or_false, eq_self, exists_eq_left', Option.some.injEq, hl, ← e, frzB]
  simp only [↓zp, zz, true_and, and_true, chkOk, Nat.reduceEqDiff, Nat.reduceAdd, Nat.reduceSub, Nat.reduceMul, Nat.reduceLT, Nat.reduceLeDiff, Int.reduceLT, Int.reduceLE, Int.reduceEq, Int.reduceAdd, Int.reduceNeg, if_false, if_true, reduceIte, ags, LB.agz, agd, r_mv, r_pick, r_box, r_alloc, r_un, r_eqb, r_ext, r_mkf, r_cnv, r_st, r_nck, r_ix, r_iaa, takeN, agc, agn, VE.store, over, cellsAt, VE.part, agm, agb, blkX, gEval, cond_true, cond_false, r_build, r_bsl, fill, VE.unOp, r_bin, adz, ads, resOf, resVs, resV, alc, aln, reduceCtorEq, or_true, true_or, false_or, or_false, eq_self, exists_eq_left', Option.some.injEq, hl]
  generalize hS : Tr.set _ 17 _ = S
  have b0 : Slots.at S 0 = c.v encH := by rw [← hS]; simp only [Slots.at_set, Nat.reduceEqDiff, if_false, if_true, reduceIte, argSlots_at, ags, agz, agd]
  have b3 : Slots.at S 3 = .int .u32 key := by rw [← hS]; simp only [Slots.at_set, Nat.reduceEqDiff, if_false, if_true, reduceIte, argSlots_at, ags, agz, agd]
  have b6 : Slots.at S 6 = .ptr g.nx 0 := by rw [← hS]; simp only [Slots.at_set, Nat.reduceEqDiff, if_false, if_true, reduceIte, argSlots_at, ags, agz, agd]
  have b15 : Slots.at S 15 = c.v encH := by rw [← hS]; simp only [Slots.at_set, Nat.reduceEqDiff, if_false, if_true, reduceIte, argSlots_at, ags, agz, agd]
  have b16 : Slots.at S 16 = .int .i64 (c.l.length : Int) := by rw [← hS]; simp only [Slots.at_set, Nat.reduceEqDiff, if_false, if_true, reduceIte, argSlots_at, ags, agz, agd]
  have b17 : Slots.at S 17 = .int .i64 ((0 : Nat) : Int) := by rw [← hS]; simp only [Slots.at_set, Nat.reduceEqDiff, if_false, if_true, reduceIte, argSlots_at, ags, agz, agd]; rfl
  clear hS
  refine loop_ind (fun m s h => inv35 c most lim key g.nx g.lo m s h) ?_ c.l.length ⟨0, by omega, by omega, b0, b3, b6, b15, b16, b17, ⟨by rw [Heap.get_new, if_pos rfl]; rfl, by simp [Heap.new], hlo⟩, fun j _ hj => by omega⟩
  rintro m s h ⟨k, hk, hm, c0, c3, c6, c15, c16, c17, ⟨hb, hbn, hbl⟩, hinc⟩
  by_cases hlt : k < c.l.length
  case neg =>
    have hlt' : ¬ ((k : Int) < (c.l.length : Int)) := by omega
    have e : HeldOk c.l most lim key := ⟨hl, fun j hj => hinc j hj (by omega)⟩
    simp only [↓zp, zz, true_and, and_true, chkOk, Nat.reduceEqDiff, Nat.reduceAdd, Nat.reduceSub, Nat.reduceMul, Nat.reduceLT, Nat.reduceLeDiff, Int.reduceLT, Int.reduceLE, Int.reduceEq, Int.reduceAdd, Int.reduceNeg, if_false, if_true, reduceIte, ags, LB.agz, agd, r_mv, r_pick, r_box, r_alloc, r_un, r_eqb, r_ext, r_mkf, r_cnv, r_st, r_nck, r_ix, r_iaa, takeN, agc, agn, VE.store, over, cellsAt, VE.part, agm, agb, blkX, gEval, cond_true, cond_false, r_build, r_bsl, fill, VE.unOp, r_bin, adz, ads, resOf, resVs, resV, alc, aln, reduceCtorEq, or_true, true_or, false_or, or_false, eq_self, exists_eq_left', Option.some.injEq, c0, c3, c6, c15, c16, c17, hlt', e, frzB]
  have hlt' : (k : Int) < (c.l.length : Int) := by omega
  have ws := wr_succ (k := k) (by omega)
  have ia1 : ∀ h, r_ia 7 (c.v encH) (.int .i64 (k : Int)) h = some (.iptr (encH c.l[k] ++ (c.l.drop (k + 1)).flatMap encH), h) := fun h => r_ia_v encH_len (by decide) hlt rfl
  have hl0 : ¬ (h.nx < h.lo) := by omega
  have hne : ¬ g.nx = h.nx := by omega
  obtain ⟨c', e1, sl⟩ := slc_take encH_len (c := c) (k := k) hk
  have sat' := sat c' (by rw [e1]; simp; omega) c.l[k].k
  rw [e1] at sat'
  by_cases g2 : key < c.l[k].k
  case pos =>
    have e := no _ (fun q : Good c.l lim key k hlt => q.1 g2) (fun q => q.each k hlt)
    simp only [↓zp, zz, true_and, and_true, chkOk, Nat.reduceEqDiff, Nat.reduceAdd, Nat.reduceSub, Nat.reduceMul, Nat.reduceLT, Nat.reduceLeDiff, Int.reduceLT, Int.reduceLE, Int.reduceEq, Int.reduceAdd, Int.reduceNeg, if_false, if_true, reduceIte, ags, LB.agz, agd, r_mv, r_pick, r_box, r_alloc, r_un, r_eqb, r_ext, r_mkf, r_cnv, r_st, r_nck, r_ix, r_iaa, takeN, agc, agn, VE.store, over, cellsAt, VE.part, agm, agb, blkX, gEval, cond_true, cond_false, r_build, r_bsl, fill, VE.unOp, r_bin, adz, ads, resOf, resVs, resV, alc, aln, reduceCtorEq, or_true, true_or, false_or, or_false, eq_self, exists_eq_left', Option.some.injEq, c0, c3, c6, c15, c16, c17, hlt', ia1, take7, encH, hl0, g2, ← e, frzB]
  by_cases g1 : 0 ≤ fidx (isK c.l[k].k) (c.l.take k)
  case pos =>
    have e := no _ (fun q : Good c.l lim key k hlt => q.2.1 g1) (fun q => q.each k hlt)
    simp only [↓zp, zz, true_and, and_true, chkOk, Nat.reduceEqDiff, Nat.reduceAdd, Nat.reduceSub, Nat.reduceMul, Nat.reduceLT, Nat.reduceLeDiff, Int.reduceLT, Int.reduceLE, Int.reduceEq, Int.reduceAdd, Int.reduceNeg, if_false, if_true, reduceIte, ags, LB.agz, agd, r_mv, r_pick, r_box, r_alloc, r_un, r_eqb, r_ext, r_mkf, r_cnv, r_st, r_nck, r_ix, r_iaa, takeN, agc, agn, VE.store, over, cellsAt, VE.part, agm, agb, blkX, gEval, cond_true, cond_false, r_build, r_bsl, fill, VE.unOp, r_bin, adz, ads, resOf, resVs, resV, alc, aln, reduceCtorEq, or_true, true_or, false_or, or_false, eq_self, exists_eq_left', Option.some.injEq, c0, c3, c6, c15, c16, c17, hlt', ia1, take7, hl0, g2, sl, m1, encH, sat', g1, ← e, frzB]
  by_cases g4 : c.l[k].b.l = lim
  case neg =>
    have e := no _ (fun q : Good c.l lim key k hlt => g4 q.2.2.1) (fun q => q.each k hlt)
    simp only [↓zp, zz, true_and, and_true, chkOk, Nat.reduceEqDiff, Nat.reduceAdd, Nat.reduceSub, Nat.reduceMul, Nat.reduceLT, Nat.reduceLeDiff, Int.reduceLT, Int.reduceLE, Int.reduceEq, Int.reduceAdd, Int.reduceNeg, if_false, if_true, reduceIte, ags, LB.agz, agd, r_mv, r_pick, r_box, r_alloc, r_un, r_eqb, r_ext, r_mkf, r_cnv, r_st, r_nck, r_ix, r_iaa, takeN, agc, agn, VE.store, over, cellsAt, VE.part, agm, agb, blkX, gEval, cond_true, cond_false, r_build, r_bsl, fill, VE.unOp, r_bin, adz, ads, resOf, resVs, resV, alc, aln, reduceCtorEq, or_true, true_or, false_or, or_false, eq_self, exists_eq_left', Option.some.injEq, c0, c3, c6, c15, c16, c17, hlt', ia1, take7, hl0, g2, sl, m1, encH, sat', g1, hb, hne, encL, eqc3, g4, ← e, frzB]
  have g4' := eq_true g4
  cases g3 : bkBad c.l[k].b with
  | true =>
    have e := no _ (fun q : Good c.l lim key k hlt => by have := q.2.2.2; rw [g3] at this; cases this) (fun q => q.each k hlt)
    simp only [↓zp, zz, true_and, and_true, chkOk, Nat.reduceEqDiff, Nat.reduceAdd, Nat.reduceSub, Nat.reduceMul, Nat.reduceLT, Nat.reduceLeDiff, Int.reduceLT, Int.reduceLE, Int.reduceEq, Int.reduceAdd, Int.reduceNeg, if_false, if_true, reduceIte, ags, LB.agz, agd, r_mv, r_pick, r_box, r_alloc, r_un, r_eqb, r_ext, r_mkf, r_cnv, r_st, r_nck, r_ix, r_iaa, takeN, agc, agn, VE.store, over, cellsAt, VE.part, agm, agb, blkX, gEval, cond_true, cond_false, r_build, r_bsl, fill, VE.unOp, r_bin, adz, ads, resOf, resVs, resV, alc, aln, reduceCtorEq, or_true, true_or, false_or, or_false, eq_self, exists_eq_left', Option.some.injEq, c0, c3, c6, c15, c16, c17, hlt', ia1, take7, hl0, g2, sl, m1, m2, encH, sat', g1, hb, hne, encL, eqc3, g4', bk, chkB, g3, ← e, frzB]
  | false =>
    simp only [↓zp, zz, true_and, and_true, chkOk, Nat.reduceEqDiff, Nat.reduceAdd, Nat.reduceSub, Nat.reduceMul, Nat.reduceLT, Nat.reduceLeDiff, Int.reduceLT, Int.reduceLE, Int.reduceEq, Int.reduceAdd, Int.reduceNeg, if_false, if_true, reduceIte, ags, LB.agz, agd, r_mv, r_pick, r_box, r_alloc, r_un, r_eqb, r_ext, r_mkf, r_cnv, r_st, r_nck, r_ix, r_iaa, takeN, agc, agn, VE.store, over, cellsAt, VE.part, agm, agb, blkX, gEval, cond_true, cond_false, r_build, r_bsl, fill, VE.unOp, r_bin, adz, ads, resOf, resVs, resV, alc, aln, reduceCtorEq, or_true, true_or, false_or, or_false, eq_self, exists_eq_left', Option.some.injEq, c0, c3, c6, c15, c16, c17, hlt', ia1, take7, hl0, g2, sl, m1, m2, encH, sat', g1, hb, hne, encL, eqc3, g4', bk, chkB, g3, ws]
    refine ⟨_, by omega, k + 1, by omega, rfl, by simp only [Slots.at_set, Nat.reduceEqDiff, if_false, if_true, reduceIte, argSlots_at, ags, agz, agd, c0], by simp only [Slots.at_set, Nat.reduceEqDiff, if_false, if_true, reduceIte, argSlots_at, ags, agz, agd, c3], by simp only [Slots.at_set, Nat.reduceEqDiff, if_false, if_true, reduceIte, argSlots_at, ags, agz, agd, c6], by simp only [Slots.at_set, Nat.reduceEqDiff, if_false, if_true, reduceIte, argSlots_at, ags, agz, agd, c15], by simp only [Slots.at_set, Nat.reduceEqDiff, if_false, if_true, reduceIte, argSlots_at, ags, agz, agd, c16], by simp only [Slots.at_set, Nat.reduceEqDiff, if_false, if_true, reduceIte, argSlots_at, ags, agz, agd], ⟨?_, ?_, ?_⟩, fun j hj hj2 => ?_⟩
    · simp only [↓zp, zz, true_and, and_true, chkOk, Nat.reduceEqDiff, Nat.reduceAdd, Nat.reduceSub, Nat.reduceMul, Nat.reduceLT, Nat.reduceLeDiff, Int.reduceLT, Int.reduceLE, Int.reduceEq, Int.reduceAdd, Int.reduceNeg, if_false, if_true, reduceIte, ags, LB.agz, agd, r_mv, r_pick, r_box, r_alloc, r_un, r_eqb, r_ext, r_mkf, r_cnv, r_st, r_nck, r_ix, r_iaa, takeN, agc, agn, VE.store, over, cellsAt, VE.part, agm, agb, blkX, gEval, cond_true, cond_false, r_build, r_bsl, fill, VE.unOp, r_bin, adz, ads, resOf, resVs, resV, alc, aln, reduceCtorEq, or_true, true_or, false_or, or_false, eq_self, exists_eq_left', Option.some.injEq, hb, hne, encL]
    · simp only [↓zp, zz, true_and, and_true, chkOk, Nat.reduceEqDiff, Nat.reduceAdd, Nat.reduceSub, Nat.reduceMul, Nat.reduceLT, Nat.reduceLeDiff, Int.reduceLT, Int.reduceLE, Int.reduceEq, Int.reduceAdd, Int.reduceNeg, if_false, if_true, reduceIte, ags, LB.agz, agd, r_mv, r_pick, r_box, r_alloc, r_un, r_eqb, r_ext, r_mkf, r_cnv, r_st, r_nck, r_ix, r_iaa, takeN, agc, agn, VE.store, over, cellsAt, VE.part, agm, agb, blkX, gEval, cond_true, cond_false, r_build, r_bsl, fill, VE.unOp, r_bin, adz, ads, resOf, resVs, resV, alc, aln, reduceCtorEq, or_true, true_or, false_or, or_false, eq_self, exists_eq_left', Option.some.injEq]; omega
    · simp only [↓zp, zz, true_and, and_true, chkOk, Nat.reduceEqDiff, Nat.reduceAdd, Nat.reduceSub, Nat.reduceMul, Nat.reduceLT, Nat.reduceLeDiff, Int.reduceLT, Int.reduceLE, Int.reduceEq, Int.reduceAdd, Int.reduceNeg, if_false, if_true, reduceIte, ags, LB.agz, agd, r_mv, r_pick, r_box, r_alloc, r_un, r_eqb, r_ext, r_mkf, r_cnv, r_st, r_nck, r_ix, r_iaa, takeN, agc, agn, VE.store, over, cellsAt, VE.part, agm, agb, blkX, gEval, cond_true, cond_false, r_build, r_bsl, fill, VE.unOp, r_bin, adz, ads, resOf, resVs, resV, alc, aln, reduceCtorEq, or_true, true_or, false_or, or_false, eq_self, exists_eq_left', Option.some.injEq]; omega
    rcases Nat.lt_or_ge j k with r | r
    · exact hinc j hj r
    · have : j = k := by omega
      subst this
      exact ⟨g2, g1, g4, g3⟩
end
end Go.VE.LB
