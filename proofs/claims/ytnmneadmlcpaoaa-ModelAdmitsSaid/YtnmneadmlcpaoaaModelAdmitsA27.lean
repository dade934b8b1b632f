/- What the functions of the law ModelAdmits compute, on typed arguments (part 27). -/
import Derived.Test.YtnmneadmlcpaoaaModelAdmitsA26
set_option linter.all false
namespace Go.VE.LB
open Go Go.VE
set_option maxRecDepth 100000
set_option linter.all false
set_option maxHeartbeats 4000000
/-- the bucket of a key in a list, or a full one -/
def bkt (l : List Held) (key : Int) (lim : Limit) (t : Int) : Bucket := match l.find? (isK key) with
  | some h => h.b
  | none => fullB lim t
/-- the others of a list -/
def othL (l : List Held) (key : Int) : List Held := l.filter fun x => !isK key x
/-- what a valid list is -/
structure HL (l : List Held) (most : Int) (lim : Limit) (key : Int) : Prop where
  len : (l.length : Int) ≤ most
  each : ∀ x ∈ l, x.k ≤ key ∧ x.b.l = lim ∧ bkBad x.b = false
  un : l.Pairwise fun x y => x.k ≠ y.k
theorem any_take {α : Type} {q : α → Bool} {l : List α} {k : Nat} (h : ¬ 0 ≤ fidx q (l.take k)) {j : Nat} (hj : j < l.length) (hjk : j < k) : q l[j] = false := by
  have e := fidx_any (q := q) (l := l.take k)
  rw [decide_eq_false h] at e
  have := List.any_eq_false.1 e.symm l[j] (List.mem_take_iff_getElem.2 ⟨j, by omega, rfl⟩)
  simpa using this
theorem HL_of {l : List Held} {most : Int} {lim : Limit} {key : Int} (h : HeldOk l most lim key) : HL l most lim key where
  len := by have := h.len; omega
  each := fun x hx => by
    obtain ⟨k, hk, rfl⟩ := List.mem_iff_getElem.1 hx
    obtain ⟨h1, h2, h3, h4⟩ := h.each k hk
    exact ⟨by omega, h3, h4⟩
  un := by
    rw [List.pairwise_iff_getElem]
    intro i j hi hj hij
    obtain ⟨h1, h2, h3, h4⟩ := h.each j hj
    have := any_take h2 hi hij
    simpa [isK] using this
theorem of_HL {l : List Held} {most : Int} {lim : Limit} {key : Int} (h : HL l most lim key) : HeldOk l most lim key where
  len := by have := h.len; omega
  each := fun k hk => by
    obtain ⟨h1, h2, h3⟩ := h.each l[k] (List.getElem_mem hk)
    refine ⟨by omega, ?_, h2, h3⟩
    intro h0
    have e := fidx_any (q := isK l[k].k) (l := l.take k)
    rw [decide_eq_true h0] at e
    obtain ⟨x, hx, hq⟩ := List.any_eq_true.1 e.symm
    obtain ⟨j, hj, rfl⟩ := List.mem_take_iff_getElem.1 hx
    have := List.pairwise_iff_getElem.1 h.un j k (by omega) hk (by omega)
    exact this (by simpa [isK] using hq)
theorem erase_filter : ∀ (l : List Held) (key : Int), l.Pairwise (fun x y => x.k ≠ y.k) → 0 ≤ fidx (isK key) l → l.eraseIdx (fidx (isK key) l).toNat = othL l key
  | [], key, _, h => by simp [fidx] at h
  | x :: l, key, hp, h => by
    rw [List.pairwise_cons] at hp
    cases hq : isK key x with
    | true =>
      have e : fidx (isK key) (x :: l) = 0 := by simp [fidx, hq]
      rw [e]
      have : othL l key = l := List.filter_eq_self.2 fun y hy => by
        have h1 := hp.1 y hy
        simp only [isK, decide_eq_true_eq] at hq
        simp [isK, ← hq, Ne.symm h1]
      simp [othL, hq]
      exact this.symm
    | false =>
      have hx : ¬ fidx (isK key) l < 0 := by
        intro hx
        simp only [fidx, hq, hx] at h
        simp at h
      have e : fidx (isK key) (x :: l) = fidx (isK key) l + 1 := by simp [fidx, hq, hx]
      have ih := erase_filter l key hp.2 (by omega)
      rw [e, show (fidx (isK key) l + 1).toNat = (fidx (isK key) l).toNat + 1 by omega, List.eraseIdx_cons_succ, ih]
      simp [othL, hq]
theorem oth_none {l : List Held} {key : Int} (h : l.find? (isK key) = none) : othL l key = l := by
  rw [List.find?_eq_none] at h
  exact List.filter_eq_self.2 fun y hy => by simp [h y hy]
/-- what a list where a key is used is -/
theorem use_law {l : List Held} {most : Nat} {key kb : Int} {lim : Limit} {t : Int} {x : Held} {U : List Held} (hl : HL l most lim kb) (hkb : key ≤ kb) (hlim : limBad lim = false) (hm : 1 ≤ most) (hu : (useL l key lim t).take most = x :: U) :
    x.k = key ∧ x.b = bkt l key lim t ∧ x.b.l = lim ∧ U = (othL l key).take (most - 1) ∧ (∀ y ∈ U, y ∈ l ∧ y.k ≠ key) ∧ U.Pairwise (fun x y => x.k ≠ y.k) ∧ U.length + 1 ≤ most := by
  obtain ⟨m, rfl⟩ : ∃ m, most = m + 1 := ⟨most - 1, by omega⟩
  have hlen : U.length + 1 ≤ m + 1 := by
    have := congrArg List.length hu
    rw [List.length_take] at this
    simp only [List.length_cons] at this
    omega
  have key' : x.k = key ∧ x.b = bkt l key lim t ∧ x.b.l = lim ∧ U = (othL l key).take m := by
    unfold useL at hu
    unfold bkt
    split at hu
    · rename_i h0 hf
      have e1 := List.find?_some hf
      have e2 := List.mem_of_find?_eq_some hf
      rw [List.take_succ_cons] at hu
      injection hu with h1 h2
      subst h1
      rw [hf]
      refine ⟨by simpa [isK] using e1, rfl, (hl.each _ e2).2.1, ?_⟩
      rw [← h2]
      have h3 : 0 ≤ fidx (isK key) l := by
        have := fidx_any (q := isK key) (l := l)
        have h4 : l.any (isK key) = true := List.any_eq_true.2 ⟨_, e2, e1⟩
        rw [h4] at this
        simpa using this
      rw [erase_filter l key hl.un h3]
    · rename_i hf
      rw [List.take_succ_cons] at hu
      injection hu with h1 h2
      subst h1
      rw [hf]
      exact ⟨rfl, rfl, rfl, by rw [oth_none hf]; exact h2.symm⟩
  refine ⟨key'.1, key'.2.1, key'.2.2.1, key'.2.2.2, fun y hy => ?_, ?_, hlen⟩
  · rw [key'.2.2.2] at hy
    have := List.mem_of_mem_take hy
    simp only [othL, List.mem_filter, isK, Bool.not_eq_true', decide_eq_false_iff_not] at this
    exact this
  · rw [key'.2.2.2]
    exact ((hl.un.filter _).sublist (List.take_sublist _ _))
/-- the list with another bucket in front is valid -/
theorem use_ok {l : List Held} {most : Nat} {key kb : Int} {lim : Limit} {t : Int} {x : Held} {U : List Held} (hl : HL l most lim kb) (hkb : key ≤ kb) (hlim : limBad lim = false) (hm : 1 ≤ most) (hu : (useL l key lim t).take most = x :: U) {x' : Bucket} (h1 : x'.l = lim) (h2 : bkBad x' = false) : HL (⟨x.k, x'⟩ :: U) most lim kb := by
  obtain ⟨e1, e2, e3, e4, e5, e6, e7⟩ := use_law hl hkb hlim hm hu
  refine ⟨by simp only [List.length_cons]; omega, fun y hy => ?_, ?_⟩
  · rcases List.mem_cons.1 hy with rfl | hy
    · exact ⟨by simp only [e1]; exact hkb, h1, h2⟩
    · exact hl.each y (e5 y hy).1
  · rw [List.pairwise_cons]
    exact ⟨fun y hy h => (e5 y hy).2 (h.symm.trans e1), e6⟩
/-- the length of the list where a key is used -/
theorem use_len {l : List Held} {most : Nat} {key : Int} {lim : Limit} {t : Int} {x : Held} {U : List Held} (hlen : l.length ≤ most) (hm : 1 ≤ most) (hu : (useL l key lim t).take most = x :: U) :
    ((U.length + 1 : Nat) : Int) = if fidx (isK key) l < 0 then min ((l.length : Int) + 1) most else (l.length : Int) := by
  have hL := congrArg List.length hu
  rw [List.length_take] at hL
  simp only [List.length_cons] at hL
  rcases fidx_find (q := isK key) l with ⟨q1, q2⟩ | ⟨k, hk, q1, q2⟩
  · rw [if_pos q1]
    unfold useL at hL
    rw [q2] at hL
    simp only [List.length_cons] at hL
    omega
  · rw [if_neg (by omega)]
    unfold useL at hL
    rw [q2, q1] at hL
    simp only [List.length_cons, Int.toNat_natCast, List.length_eraseIdx_of_lt hk] at hL
    omega
section
variable {vp : Nat → Option VFn}
theorem lbkt_spec {f c1 c2 c3 t1 t2 : Nat} (hf : vp f = some (B_spigotlaw25_bucket c1 c2 t1)) (h1 : vp c1 = some B_spigotref25_At) (h2 : vp c2 = some (B_spigotref03_Full c3 t2)) (h3 : vp c3 = some B_spigotref03_CheckLimit) (c : Sl Held) (key : Int) (lim : Limit) (t : Int) (hlim : limBad lim = false) (hn : c.l.length < 4611686018427387904) (h : Heap) :
    callRes vp f [c.v encH, .int .u32 key, .agg (encL lim), .int .u64 t] h = some (.agg (encB (bkt c.l key lim t)), h) := by
  have m1 : modeOf vp c1 = some 1 := by simp [modeOf, h1, B_spigotref25_At]
  have m2 : modeOf vp c2 = some 1 := by simp [modeOf, h2, B_spigotref03_Full]
  have k1 := fun h => at_spec h1 c key h hn
  have k2 := fun h => full_spec2 h2 h3 lim t hlim h
  refine res_pure hf rfl rfl (fun g hg => ?_)
  have hl := hlo hg
  have l1 : ¬ (g.nx + 1 < g.lo) := by omega
  have l2 : ¬ (g.nx + 2 < g.lo) := by omega
  unfold B_spigotlaw25_bucket
  unfold bkt
  rcases fidx_find (q := isK key) c.l with ⟨q1, q2⟩ | ⟨k, hk, q1, q2⟩
  · have q1' : ¬ ((0 : Int) ≤ fidx (isK key) c.l) := by omega
    rw [q2]
    simp only
    generalize fullB lim t = fb at *
    unfold encL encB at *
    simp only [↓zp, zz, true_and, and_true, chkOk, Nat.reduceEqDiff, Nat.reduceAdd, Nat.reduceSub, Nat.reduceMul, Nat.reduceLT, Nat.reduceLeDiff, Int.reduceLT, Int.reduceLE, Int.reduceEq, Int.reduceAdd, Int.reduceNeg, if_false, if_true, reduceIte, ags, LB.agz, agd, r_mv, r_pick, r_box, r_alloc, r_un, r_eqb, r_ext, r_mkf, r_cnv, r_st, r_nck, r_ix, r_iaa, takeN, agc, agn, VE.store, over, cellsAt, VE.part, agm, agb, blkX, gEval, cond_true, cond_false, r_build, r_bsl, fill, VE.unOp, r_bin, adz, ads, resOf, resVs, resV, alc, aln, reduceCtorEq, or_true, true_or, false_or, or_false, eq_self, exists_eq_left', Option.some.injEq, m1, k1, q1', m2, k2, l1, l2, frzB6]
  · have q1' : (0 : Int) ≤ (k : Int) := by omega
    rw [q1] at k1
    rw [q2]
    simp only
    have ia : ∀ h, r_ia 7 (c.v encH) (.int .i64 (k : Int)) h = some (.iptr (encH c.l[k] ++ (c.l.drop (k + 1)).flatMap encH), h) := fun h => r_ia_v encH_len (by decide) hk rfl
    unfold encL encB at *
    simp only [↓zp, zz, true_and, and_true, chkOk, Nat.reduceEqDiff, Nat.reduceAdd, Nat.reduceSub, Nat.reduceMul, Nat.reduceLT, Nat.reduceLeDiff, Int.reduceLT, Int.reduceLE, Int.reduceEq, Int.reduceAdd, Int.reduceNeg, if_false, if_true, reduceIte, ags, LB.agz, agd, r_mv, r_pick, r_box, r_alloc, r_un, r_eqb, r_ext, r_mkf, r_cnv, r_st, r_nck, r_ix, r_iaa, takeN, agc, agn, VE.store, over, cellsAt, VE.part, agm, agb, blkX, gEval, cond_true, cond_false, r_build, r_bsl, fill, VE.unOp, r_bin, adz, ads, resOf, resVs, resV, alc, aln, reduceCtorEq, or_true, true_or, false_or, or_false, eq_self, exists_eq_left', Option.some.injEq, m1, k1, q1', ia, encH, l1, frzB6]
def invF (was is' : Sl Held) (key : Int) (most : Nat) (H : Heap) (m : Nat) (s : Slots) (h : Heap) : Prop :=
  ∃ k a : Nat, k ≤ was.l.length ∧ m = was.l.length - k ∧ s.at 0 = was.v encH ∧ s.at 1 = is'.v encH ∧ s.at 2 = .int .u32 key ∧ s.at 3 = .int .i64 (most : Int) ∧ s.at 9 = .int .i64 (a : Int) ∧ s.at 10 = .int .i64 (k : Int) ∧ h = H ∧ a = (othL (was.l.take k) key).length + 1 ∧ a ≤ is'.l.length
theorem eqH {x y : Held} {h : Heap} (e : x = y) : r_eqa true [0, 0, 0, 0, 0, 0, 0] (.agg (encH x)) (.agg (encH y)) h = some (.bool false, h) := by
  subst e
  simp only [r_eqa, encH, List.length_cons, List.length_nil, beq_dec, decide_true, Bool.and_self, cond_true, eqC, if_true]
  rfl
theorem fronted_spec {f c1 : Nat} (hf : vp f = some (B_spigotlaw25_fronted c1)) (h1 : vp c1 = some B_spigotref25_At) (was is' : Sl Held) (key : Int) (most : Nat) (y : Held) (U : List Held) (hi : is'.l = y :: U) (hy : y.k = key) (hU : U = (othL was.l key).take (most - 1)) (hm : U.length + 1 ≤ most)
    (hlen : ((U.length + 1 : Nat) : Int) = if fidx (isK key) was.l < 0 then min ((was.l.length : Int) + 1) most else (was.l.length : Int)) (hn : was.l.length < 1000000) (hmm : most < 1000000) (h : Heap) :
    callRes vp f [was.v encH, is'.v encH, .int .u32 key, .int .i64 (most : Int)] h = some (.bool true, h) := by
  have m1 : modeOf vp c1 = some 1 := by simp [modeOf, h1, B_spigotref25_At]
  have k1 := fun h => at_spec h1 was key h (by omega)
  have hil : is'.l.length = U.length + 1 := by rw [hi]; rfl
  refine res_pure hf rfl rfl (fun g hg => ?_)
  have e0 : ((is'.l.length : Int) = 0) = False := eq_false (by omega)
  have e1 : ¬ ((most : Int) < (is'.l.length : Int)) := by omega
  have ia0 : ∀ h, r_ia 7 (is'.v encH) (.int .i64 0) h = some (.iptr (encH y ++ U.flatMap encH), h) := fun h => by
    have := r_ia_v (c := is') (k := 0) (n := 0) (h := h) encH_len (by decide) (by omega) rfl
    rw [this]
    simp [hi]
  have hy' := eq_true hy
  unfold B_spigotlaw25_fronted
  simp only [↓zp, zz, true_and, and_true, chkOk, Nat.reduceEqDiff, Nat.reduceAdd, Nat.reduceSub, Nat.reduceMul, Nat.reduceLT, Nat.reduceLeDiff, Int.reduceLT, Int.reduceLE, Int.reduceEq, Int.reduceAdd, Int.reduceNeg, if_false, if_true, reduceIte, ags, LB.agz, agd, r_mv, r_pick, r_box, r_alloc, r_un, r_eqb, r_ext, r_mkf, r_cnv, r_st, r_nck, r_ix, r_iaa, takeN, agc, agn, VE.store, over, cellsAt, VE.part, agm, agb, blkX, gEval, cond_true, cond_false, r_build, r_bsl, fill, VE.unOp, r_bin, adz, ads, resOf, resVs, resV, alc, aln, reduceCtorEq, or_true, true_or, false_or, or_false, eq_self, exists_eq_left', Option.some.injEq, e0, e1, ia0, encH, hy']
  generalize hS : Tr.set _ 10 _ = S
  have b0 : Slots.at S 0 = was.v encH := by rw [← hS]; simp only [Slots.at_set, Nat.reduceEqDiff, if_false, if_true, reduceIte, argSlots_at, ags, agz, agd]
  have b1 : Slots.at S 1 = is'.v encH := by rw [← hS]; simp only [Slots.at_set, Nat.reduceEqDiff, if_false, if_true, reduceIte, argSlots_at, ags, agz, agd]
  have b2 : Slots.at S 2 = .int .u32 key := by rw [← hS]; simp only [Slots.at_set, Nat.reduceEqDiff, if_false, if_true, reduceIte, argSlots_at, ags, agz, agd]
  have b3 : Slots.at S 3 = .int .i64 (most : Int) := by rw [← hS]; simp only [Slots.at_set, Nat.reduceEqDiff, if_false, if_true, reduceIte, argSlots_at, ags, agz, agd]
  have b9 : Slots.at S 9 = .int .i64 ((1 : Nat) : Int) := by rw [← hS]; simp only [Slots.at_set, Nat.reduceEqDiff, if_false, if_true, reduceIte, argSlots_at, ags, agz, agd]; rfl
  have b10 : Slots.at S 10 = .int .i64 ((0 : Nat) : Int) := by rw [← hS]; simp only [Slots.at_set, Nat.reduceEqDiff, if_false, if_true, reduceIte, argSlots_at, ags, agz, agd]; rfl
  clear hS
  refine loop_ind (fun m s h => invF was is' key most g m s h) ?_ was.l.length ⟨0, 1, by omega, by omega, b0, b1, b2, b3, b9, b10, rfl, rfl, by omega⟩
  rintro m s h ⟨k, a, hk, hm', c0, c1, c2, c3, c9, c10, rfl, ha, hal⟩
  have hend : ∀ (fx : Int), (fx < 0) = (fidx (isK key) was.l < 0) → ((is'.l.length : Int) = if fx < 0 then min ((was.l.length : Int) + 1) most else (was.l.length : Int)) := fun fx e => by
    rw [hil, hlen]
    simp only [e]
  have wl : wr .i64 ((was.l.length : Int) + 1) = (was.l.length : Int) + 1 := wr_i64 (by omega) (by omega)
  have mn : ∀ h, r_mini [.int .i64 ((was.l.length : Int) + 1), .int .i64 (most : Int)] h = some (.int .i64 (min ((was.l.length : Int) + 1) most), h) := fun h => by
    have : (bif ltI (most : Int) ((was.l.length : Int) + 1) then (most : Int) else ((was.l.length : Int) + 1)) = min ((was.l.length : Int) + 1) most := by
      rw [ltI_dec, Bool.cond_eq_ite]
      split <;> rename_i q <;> simp only [decide_eq_true_eq] at q <;> omega
    show some (V.int .i64 (bif ltI (most : Int) ((was.l.length : Int) + 1) then (most : Int) else ((was.l.length : Int) + 1)), h) = _
    rw [this]
  have hfin : ∀ a : Nat, a = is'.l.length → ((a : Int) = (is'.l.length : Int)) = True := fun a e => by simp [e]
  by_cases hlt : k < was.l.length
  case neg =>
    have hlt' : ¬ ((k : Int) < (was.l.length : Int)) := by omega
    have hae : a = is'.l.length := by
      have hk' : k = was.l.length := by omega
      rw [hk', List.take_length] at ha
      rw [hU, List.length_take] at hil
      omega
    have hae' := hfin a hae
    by_cases q : fidx (isK key) was.l < 0
    · have hw := hend _ rfl
      rw [if_pos q] at hw
      have hw' := eq_true hw
      simp only [↓zp, zz, true_and, and_true, chkOk, Nat.reduceEqDiff, Nat.reduceAdd, Nat.reduceSub, Nat.reduceMul, Nat.reduceLT, Nat.reduceLeDiff, Int.reduceLT, Int.reduceLE, Int.reduceEq, Int.reduceAdd, Int.reduceNeg, if_false, if_true, reduceIte, ags, LB.agz, agd, r_mv, r_pick, r_box, r_alloc, r_un, r_eqb, r_ext, r_mkf, r_cnv, r_st, r_nck, r_ix, r_iaa, takeN, agc, agn, VE.store, over, cellsAt, VE.part, agm, agb, blkX, gEval, cond_true, cond_false, r_build, r_bsl, fill, VE.unOp, r_bin, adz, ads, resOf, resVs, resV, alc, aln, reduceCtorEq, or_true, true_or, false_or, or_false, eq_self, exists_eq_left', Option.some.injEq, c0, c1, c2, c3, c9, c10, hlt', m1, k1, q, wl, mn, hae', hw', frzB]
    · have hw := hend _ rfl
      rw [if_neg q] at hw
      have hw' := eq_true hw
      simp only [↓zp, zz, true_and, and_true, chkOk, Nat.reduceEqDiff, Nat.reduceAdd, Nat.reduceSub, Nat.reduceMul, Nat.reduceLT, Nat.reduceLeDiff, Int.reduceLT, Int.reduceLE, Int.reduceEq, Int.reduceAdd, Int.reduceNeg, if_false, if_true, reduceIte, ags, LB.agz, agd, r_mv, r_pick, r_box, r_alloc, r_un, r_eqb, r_ext, r_mkf, r_cnv, r_st, r_nck, r_ix, r_iaa, takeN, agc, agn, VE.store, over, cellsAt, VE.part, agm, agb, blkX, gEval, cond_true, cond_false, r_build, r_bsl, fill, VE.unOp, r_bin, adz, ads, resOf, resVs, resV, alc, aln, reduceCtorEq, or_true, true_or, false_or, or_false, eq_self, exists_eq_left', Option.some.injEq, c0, c1, c2, c3, c9, c10, hlt', m1, k1, q, hae', hw', frzB]
  have hlt' : (k : Int) < (was.l.length : Int) := by omega
  by_cases hal2 : a < is'.l.length
  case neg =>
    have hal2' : ¬ ((a : Int) < (is'.l.length : Int)) := by omega
    have hae' := hfin a (by omega)
    by_cases q : fidx (isK key) was.l < 0
    · have hw := hend _ rfl
      rw [if_pos q] at hw
      have hw' := eq_true hw
      simp only [↓zp, zz, true_and, and_true, chkOk, Nat.reduceEqDiff, Nat.reduceAdd, Nat.reduceSub, Nat.reduceMul, Nat.reduceLT, Nat.reduceLeDiff, Int.reduceLT, Int.reduceLE, Int.reduceEq, Int.reduceAdd, Int.reduceNeg, if_false, if_true, reduceIte, ags, LB.agz, agd, r_mv, r_pick, r_box, r_alloc, r_un, r_eqb, r_ext, r_mkf, r_cnv, r_st, r_nck, r_ix, r_iaa, takeN, agc, agn, VE.store, over, cellsAt, VE.part, agm, agb, blkX, gEval, cond_true, cond_false, r_build, r_bsl, fill, VE.unOp, r_bin, adz, ads, resOf, resVs, resV, alc, aln, reduceCtorEq, or_true, true_or, false_or, or_false, eq_self, exists_eq_left', Option.some.injEq, c0, c1, c2, c3, c9, c10, hlt', hal2', m1, k1, q, wl, mn, hae', hw', frzB]
    · have hw := hend _ rfl
      rw [if_neg q] at hw
      have hw' := eq_true hw
      simp only [↓zp, zz, true_and, and_true, chkOk, Nat.reduceEqDiff, Nat.reduceAdd, Nat.reduceSub, Nat.reduceMul, Nat.reduceLT, Nat.reduceLeDiff, Int.reduceLT, Int.reduceLE, Int.reduceEq, Int.reduceAdd, Int.reduceNeg, if_false, if_true, reduceIte, ags, LB.agz, agd, r_mv, r_pick, r_box, r_alloc, r_un, r_eqb, r_ext, r_mkf, r_cnv, r_st, r_nck, r_ix, r_iaa, takeN, agc, agn, VE.store, over, cellsAt, VE.part, agm, agb, blkX, gEval, cond_true, cond_false, r_build, r_bsl, fill, VE.unOp, r_bin, adz, ads, resOf, resVs, resV, alc, aln, reduceCtorEq, or_true, true_or, false_or, or_false, eq_self, exists_eq_left', Option.some.injEq, c0, c1, c2, c3, c9, c10, hlt', hal2', m1, k1, q, hae', hw', frzB]
  have hal2' : (a : Int) < (is'.l.length : Int) := by omega
  have ws := wr_succ (k := k) (by omega)
  have wa := wr_succ (k := a) (by omega)
  have ia1 : ∀ h, r_ia 7 (was.v encH) (.int .i64 (k : Int)) h = some (.iptr (encH was.l[k] ++ (was.l.drop (k + 1)).flatMap encH), h) := fun h => r_ia_v encH_len (by decide) hlt rfl
  have ia2 : ∀ h, r_ia 7 (is'.v encH) (.int .i64 (a : Int)) h = some (.iptr (encH is'.l[a] ++ (is'.l.drop (a + 1)).flatMap encH), h) := fun h => r_ia_v encH_len (by decide) hal2 rfl
  have tk : was.l.take (k + 1) = was.l.take k ++ [was.l[k]] := by rw [List.take_succ, List.getElem?_eq_getElem hlt]; rfl
  by_cases hqk : was.l[k].k = key
  · have hq' := eq_true hqk
    have hoth : (othL (was.l.take (k + 1)) key).length = (othL (was.l.take k) key).length := by
      have hf1 : (!isK key was.l[k]) = false := by simp [isK, hqk]
      unfold othL
      rw [tk, List.filter_append, List.length_append]
      simp only [List.filter_cons, hf1, List.filter_nil, Bool.false_eq_true, if_false, List.length_nil, Nat.add_zero]
    simp only [↓zp, zz, true_and, and_true, chkOk, Nat.reduceEqDiff, Nat.reduceAdd, Nat.reduceSub, Nat.reduceMul, Nat.reduceLT, Nat.reduceLeDiff, Int.reduceLT, Int.reduceLE, Int.reduceEq, Int.reduceAdd, Int.reduceNeg, if_false, if_true, reduceIte, ags, LB.agz, agd, r_mv, r_pick, r_box, r_alloc, r_un, r_eqb, r_ext, r_mkf, r_cnv, r_st, r_nck, r_ix, r_iaa, takeN, agc, agn, VE.store, over, cellsAt, VE.part, agm, agb, blkX, gEval, cond_true, cond_false, r_build, r_bsl, fill, VE.unOp, r_bin, adz, ads, resOf, resVs, resV, alc, aln, reduceCtorEq, or_true, true_or, false_or, or_false, eq_self, exists_eq_left', Option.some.injEq, c0, c1, c2, c3, c9, c10, hlt', hal2', ia1, encH, hq', ws]
    exact ⟨_, by omega, k + 1, a, by omega, rfl, by simp only [Slots.at_set, Nat.reduceEqDiff, if_false, if_true, reduceIte, argSlots_at, ags, agz, agd, c0], by simp only [Slots.at_set, Nat.reduceEqDiff, if_false, if_true, reduceIte, argSlots_at, ags, agz, agd, c1], by simp only [Slots.at_set, Nat.reduceEqDiff, if_false, if_true, reduceIte, argSlots_at, ags, agz, agd, c2], by simp only [Slots.at_set, Nat.reduceEqDiff, if_false, if_true, reduceIte, argSlots_at, ags, agz, agd, c3], by simp only [Slots.at_set, Nat.reduceEqDiff, if_false, if_true, reduceIte, argSlots_at, ags, agz, agd, c9], by simp only [Slots.at_set, Nat.reduceEqDiff, if_false, if_true, reduceIte, argSlots_at, ags, agz, agd], rfl, by rw [hoth]; exact ha, hal⟩
  · have hq' := eq_false hqk
    have hoth : (othL (was.l.take (k + 1)) key).length = (othL (was.l.take k) key).length + 1 := by
      have hf1 : (!isK key was.l[k]) = true := by simp [isK, hqk]
      unfold othL
      rw [tk, List.filter_append, List.length_append]
      simp only [List.filter_cons, hf1, List.filter_nil, if_true, List.length_nil, List.length_cons]
    have hsame : is'.l[a] = was.l[k] := by
      have e1 : othL was.l key = othL (was.l.take k) key ++ (was.l[k] :: othL (was.l.drop (k + 1)) key) := by
        have hf1 : (!isK key was.l[k]) = true := by simp [isK, hqk]
        unfold othL
        conv => lhs; rw [← List.take_append_drop k was.l, List.drop_eq_getElem_cons hlt]
        rw [List.filter_append, List.filter_cons]
        simp only [hf1, if_true]
      obtain ⟨p, hp⟩ : ∃ p, a = p + 1 := ⟨a - 1, by omega⟩
      have hpl : p = (othL (was.l.take k) key).length := by omega
      subst hp
      have : is'.l[p + 1] = U[p]'(by omega) := by simp [hi]
      rw [this]
      have h2 : U[p]? = some was.l[k] := by
        rw [hU, List.getElem?_take]
        have hpm : p < most - 1 := by
          have : U.length ≤ most - 1 := by rw [hU, List.length_take]; omega
          omega
        rw [if_pos hpm, e1, hpl, List.getElem?_append_right (Nat.le_refl _), Nat.sub_self]
        rfl
      rw [List.getElem?_eq_getElem (by omega)] at h2
      exact Option.some.inj h2
    have ee : ∀ h, r_eqa true [0, 0, 0, 0, 0, 0, 0] (.agg (encH is'.l[a])) (.agg (encH was.l[k])) h = some (.bool false, h) := fun h => eqH hsame
    unfold encH at ee
    simp only [↓zp, zz, true_and, and_true, chkOk, Nat.reduceEqDiff, Nat.reduceAdd, Nat.reduceSub, Nat.reduceMul, Nat.reduceLT, Nat.reduceLeDiff, Int.reduceLT, Int.reduceLE, Int.reduceEq, Int.reduceAdd, Int.reduceNeg, if_false, if_true, reduceIte, ags, LB.agz, agd, r_mv, r_pick, r_box, r_alloc, r_un, r_eqb, r_ext, r_mkf, r_cnv, r_st, r_nck, r_ix, r_iaa, takeN, agc, agn, VE.store, over, cellsAt, VE.part, agm, agb, blkX, gEval, cond_true, cond_false, r_build, r_bsl, fill, VE.unOp, r_bin, adz, ads, resOf, resVs, resV, alc, aln, reduceCtorEq, or_true, true_or, false_or, or_false, eq_self, exists_eq_left', Option.some.injEq, c0, c1, c2, c3, c9, c10, hlt', hal2', ia1, ia2, encH, hq', ee, ws, wa]
    exact ⟨_, by omega, k + 1, a + 1, by omega, rfl, by simp only [Slots.at_set, Nat.reduceEqDiff, if_false, if_true, reduceIte, argSlots_at, ags, agz, agd, c0], by simp only [Slots.at_set, Nat.reduceEqDiff, if_false, if_true, reduceIte, argSlots_at, ags, agz, agd, c1], by simp only [Slots.at_set, Nat.reduceEqDiff, if_false, if_true, reduceIte, argSlots_at, ags, agz, agd, c2], by simp only [Slots.at_set, Nat.reduceEqDiff, if_false, if_true, reduceIte, argSlots_at, ags, agz, agd, c3], by simp only [Slots.at_set, Nat.reduceEqDiff, if_false, if_true, reduceIte, argSlots_at, ags, agz, agd], by simp only [Slots.at_set, Nat.reduceEqDiff, if_false, if_true, reduceIte, argSlots_at, ags, agz, agd], rfl, by rw [hoth, ha], by omega⟩
end
end Go.VE.LB
