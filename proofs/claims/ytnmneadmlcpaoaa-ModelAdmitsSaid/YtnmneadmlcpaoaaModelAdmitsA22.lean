/- What the functions of the law ModelAdmits compute, on typed arguments (part 22). -/
import Derived.Test.YtnmneadmlcpaoaaModelAdmitsA21
set_option linter.all false
namespace Go.VE.LB
open Go Go.VE
set_option maxRecDepth 100000
set_option linter.all false
set_option maxHeartbeats 2000000
/-- cells over cells, in the midst -/
theorem over_mid : ∀ (p : List V) (new mid r : List V), new.length = mid.length → new.all oneCell = true → over p.length (p ++ (mid ++ r)) new = some (p ++ (new ++ r))
  | [], [], [], r, _, _ => by cases r <;> rfl
  | [], x :: new, y :: mid, r, hl, hn => by
    simp only [List.all_cons, Bool.and_eq_true] at hn
    have ih := over_mid [] new mid r (by simpa using hl) hn.2
    simp only [List.length_nil, List.nil_append] at ih
    simp only [List.length_nil, List.nil_append, List.cons_append, over, hn.1, cond_true, ih]
  | z :: p, [], mid, r, hl, _ => by
    have : mid = [] := List.length_eq_zero_iff.1 (by simpa using hl.symm)
    subst this
    cases h : (z :: p) ++ ([] ++ r) with
    | nil => simp at h
    | cons a b => simp only [over]
  | z :: p, x :: new, mid, r, hl, hn => by
    have ih := over_mid p (x :: new) mid r hl hn
    simp only [List.length_cons, List.cons_append, over, ih]
theorem encH_one (x : Held) : (encH x).all oneCell = true := rfl
theorem flat_one (l : List Held) : (l.flatMap encH).all oneCell = true := all_flat encH_one l
section
variable {vp : Nat → Option VFn}
def invIR (F : V) (q : Held → Bool) (v : V) (l : List Held) (H : Heap) (m : Nat) (s : Slots) (h : Heap) : Prop :=
  ∃ k, k ≤ l.length ∧ m = l.length - k ∧ s.at 0 = v ∧ s.at 1 = F ∧ s.at 7 = .int .i64 (l.length : Int) ∧ s.at 8 = .int .i64 (k : Int) ∧ h = H ∧ ∀ j (hj : j < l.length), j < k → q l[j] = false
theorem idxHR_spec {f : Nat} (hf : vp f = some B_slices_IndexFunc_api_Held) (F : V) (q : Held → Bool) (v : V) (l : List Held) (h : Heap) (hr : Rd encH 7 h v l) (hn : l.length < 4611686018427387904) (hi : ∀ b o n c, isoArgs 1 [.sl b o n c 7, F] = none)
    (hq : ∀ g, hgOk h [v, F] g → ∀ x ∈ l, callVRes vp F [.agg (encH x)] g = some (.bool (q x), g)) : callRes vp f [v, F] h = some (.int .i64 (fidx q l), h) := by
  refine res_pure hf rfl rfl (fun g hg => ?_)
  have hq := hq g hg
  have hv : Rd encH 7 g v l := hr.enter (A := fun v => [v, F]) hg hi
  have ln := hv.len
  unfold B_slices_IndexFunc_api_Held
  simp only [↓zp, zz, true_and, and_true, chkOk, Nat.reduceEqDiff, Nat.reduceAdd, Nat.reduceSub, Nat.reduceMul, Nat.reduceLT, Nat.reduceLeDiff, Int.reduceLT, Int.reduceLE, Int.reduceEq, Int.reduceAdd, Int.reduceNeg, if_false, if_true, reduceIte, ags, LB.agz, agd, r_mv, r_pick, r_box, r_alloc, r_un, r_eqb, r_ext, r_mkf, r_cnv, r_st, r_nck, r_ix, r_iaa, takeN, agc, agn, VE.store, over, cellsAt, VE.part, agm, agb, blkX, gEval, cond_true, cond_false, r_build, r_bsl, fill, VE.unOp, r_bin, adz, ads, resOf, resVs, resV, alc, aln, reduceCtorEq, or_true, true_or, false_or, or_false, eq_self, exists_eq_left', Option.some.injEq, ln]
  generalize hS : Tr.set _ 8 _ = S
  have b0 : Slots.at S 0 = v := by rw [← hS]; simp only [Slots.at_set, Nat.reduceEqDiff, if_false, if_true, reduceIte, argSlots_at, ags, agz, agd]
  have b1 : Slots.at S 1 = F := by rw [← hS]; simp only [Slots.at_set, Nat.reduceEqDiff, if_false, if_true, reduceIte, argSlots_at, ags, agz, agd]
  have b7 : Slots.at S 7 = .int .i64 (l.length : Int) := by rw [← hS]; simp only [Slots.at_set, Nat.reduceEqDiff, if_false, if_true, reduceIte, argSlots_at, ags, agz, agd]
  have b8 : Slots.at S 8 = .int .i64 ((0 : Nat) : Int) := by rw [← hS]; simp only [Slots.at_set, Nat.reduceEqDiff, if_false, if_true, reduceIte, argSlots_at, ags, agz, agd]; rfl
  clear hS
  refine loop_ind (fun m s h => invIR F q v l g m s h) ?_ l.length ⟨0, by omega, by omega, b0, b1, b7, b8, rfl, fun j _ hj => by omega⟩
  rintro m s h ⟨k, hk, hm, c0, c1, c7, c8, rfl, hinc⟩
  by_cases hlt : k < l.length
  case neg =>
    have hlt' : ¬ ((k : Int) < (l.length : Int)) := by omega
    have e := fidx_none (q := q) (l := l) (fun j hj => hinc j hj (by omega))
    simp only [↓zp, zz, true_and, and_true, chkOk, Nat.reduceEqDiff, Nat.reduceAdd, Nat.reduceSub, Nat.reduceMul, Nat.reduceLT, Nat.reduceLeDiff, Int.reduceLT, Int.reduceLE, Int.reduceEq, Int.reduceAdd, Int.reduceNeg, if_false, if_true, reduceIte, ags, LB.agz, agd, r_mv, r_pick, r_box, r_alloc, r_un, r_eqb, r_ext, r_mkf, r_cnv, r_st, r_nck, r_ix, r_iaa, takeN, agc, agn, VE.store, over, cellsAt, VE.part, agm, agb, blkX, gEval, cond_true, cond_false, r_build, r_bsl, fill, VE.unOp, r_bin, adz, ads, resOf, resVs, resV, alc, aln, reduceCtorEq, or_true, true_or, false_or, or_false, eq_self, exists_eq_left', Option.some.injEq, c0, c1, c7, c8, hlt', e, frzI]
  have hlt' : (k : Int) < (l.length : Int) := by omega
  have ws := wr_succ (k := k) (by omega)
  obtain ⟨a, ia1, el⟩ := hv.ia encH_len (by decide) hlt
  have ld1 := el.ld (.refl h) (n := 7) rfl
  have hc := hq l[k] (List.getElem_mem hlt)
  cases hqk : q l[k] with
  | true =>
    rw [hqk] at hc
    have e := fidx_at hlt hqk hinc
    simp only [↓zp, zz, true_and, and_true, chkOk, Nat.reduceEqDiff, Nat.reduceAdd, Nat.reduceSub, Nat.reduceMul, Nat.reduceLT, Nat.reduceLeDiff, Int.reduceLT, Int.reduceLE, Int.reduceEq, Int.reduceAdd, Int.reduceNeg, if_false, if_true, reduceIte, ags, LB.agz, agd, r_mv, r_pick, r_box, r_alloc, r_un, r_eqb, r_ext, r_mkf, r_cnv, r_st, r_nck, r_ix, r_iaa, takeN, agc, agn, VE.store, over, cellsAt, VE.part, agm, agb, blkX, gEval, cond_true, cond_false, r_build, r_bsl, fill, VE.unOp, r_bin, adz, ads, resOf, resVs, resV, alc, aln, reduceCtorEq, or_true, true_or, false_or, or_false, eq_self, exists_eq_left', Option.some.injEq, c0, c1, c7, c8, hlt', ia1, ld1, hc, e, frzI]
  | false =>
    rw [hqk] at hc
    simp only [↓zp, zz, true_and, and_true, chkOk, Nat.reduceEqDiff, Nat.reduceAdd, Nat.reduceSub, Nat.reduceMul, Nat.reduceLT, Nat.reduceLeDiff, Int.reduceLT, Int.reduceLE, Int.reduceEq, Int.reduceAdd, Int.reduceNeg, if_false, if_true, reduceIte, ags, LB.agz, agd, r_mv, r_pick, r_box, r_alloc, r_un, r_eqb, r_ext, r_mkf, r_cnv, r_st, r_nck, r_ix, r_iaa, takeN, agc, agn, VE.store, over, cellsAt, VE.part, agm, agb, blkX, gEval, cond_true, cond_false, r_build, r_bsl, fill, VE.unOp, r_bin, adz, ads, resOf, resVs, resV, alc, aln, reduceCtorEq, or_true, true_or, false_or, or_false, eq_self, exists_eq_left', Option.some.injEq, c0, c1, c7, c8, hlt', ia1, ld1, hc, ws]
    refine ⟨_, by omega, k + 1, by omega, rfl, by simp only [Slots.at_set, Nat.reduceEqDiff, if_false, if_true, reduceIte, argSlots_at, ags, agz, agd, c0], by simp only [Slots.at_set, Nat.reduceEqDiff, if_false, if_true, reduceIte, argSlots_at, ags, agz, agd, c1], by simp only [Slots.at_set, Nat.reduceEqDiff, if_false, if_true, reduceIte, argSlots_at, ags, agz, agd, c7], by simp only [Slots.at_set, Nat.reduceEqDiff, if_false, if_true, reduceIte, argSlots_at, ags, agz, agd], rfl, fun j hj hj2 => ?_⟩
    rcases Nat.lt_or_ge j k with r | r
    · exact hinc j hj r
    · have : j = k := by omega
      subst this
      exact hqk
structure AtOk (vp : Nat → Option VFn) (f : Nat) : Prop where
  a : ∃ c1 c2, vp f = some (B_model_at c1 c2) ∧ vp c1 = some B_model_at_fn1 ∧ vp c2 = some B_slices_IndexFunc_api_Held
theorem AtOk.mode {f : Nat} (w : AtOk vp f) : modeOf vp f = some 1 := by
  obtain ⟨c1, c2, h, _⟩ := w
  simp [modeOf, h, B_model_at]
theorem iso_rd {h : Heap} {v : V} {l : List Held} {f b : Nat} (hr : Rd encH 7 h v l) : isoArgs 1 [v, .fn f [.ptr b 0]] = none := by
  rcases hr with ⟨c, rfl, _⟩ | ⟨_, _, _, _, _, _, _, rfl, _⟩
  · cases c <;> rfl
  · rfl
theorem matR_spec {f : Nat} (w : AtOk vp f) (v : V) (l : List Held) (key : Int) (h : Heap) (hr : Rd encH 7 h v l) (hn : l.length < 4611686018427387904) : callRes vp f [v, .int .u32 key] h = some (.int .i64 (fidx (isK key) l), h) := by
  obtain ⟨c1, c2, hf, h1, h2⟩ := w
  have m2 : modeOf vp c2 = some 1 := by simp [modeOf, h2, B_slices_IndexFunc_api_Held]
  refine res_pure hf rfl rfl (fun g hg => ?_)
  have hv : Rd encH 7 g v l := hr.enter (A := fun v => [v, .int .u32 key]) hg (fun _ _ _ _ => rfl)
  have hv2 : Rd encH 7 (g.new (.cells [.int .u32 key] .cl)) v l := hv.keep ((Kp.refl g).new _)
  unfold B_model_at
  have e := idxHR_spec h2 (.fn c1 [.ptr g.nx 0]) (isK key) v l (g.new (.cells [.int .u32 key] .cl)) hv2 hn (fun _ _ _ _ => rfl) (fun g' hg' x _ => callVRes_fn (by
    obtain ⟨e1, e2, e3⟩ := hg_keep hg' (iso_rd hv2)
    exact atfn_spec h1 x key g.nx .cl g' (by rw [e3, Heap.get_new, if_pos rfl]) (by rw [e1]; simp [Heap.new])))
  simp only [↓zp, zz, true_and, and_true, chkOk, Nat.reduceEqDiff, Nat.reduceAdd, Nat.reduceSub, Nat.reduceMul, Nat.reduceLT, Nat.reduceLeDiff, Int.reduceLT, Int.reduceLE, Int.reduceEq, Int.reduceAdd, Int.reduceNeg, if_false, if_true, reduceIte, ags, LB.agz, agd, r_mv, r_pick, r_box, r_alloc, r_un, r_eqb, r_ext, r_mkf, r_cnv, r_st, r_nck, r_ix, r_iaa, takeN, agc, agn, VE.store, over, cellsAt, VE.part, agm, agb, blkX, gEval, cond_true, cond_false, r_build, r_bsl, fill, VE.unOp, r_bin, adz, ads, resOf, resVs, resV, alc, aln, reduceCtorEq, or_true, true_or, false_or, or_false, eq_self, exists_eq_left', Option.some.injEq, m2, e, frzI]
theorem flat_split (l : List Held) (k : Nat) (hk : k < l.length) : l.flatMap encH = (l.take k).flatMap encH ++ (encH l[k] ++ (l.drop (k + 1)).flatMap encH) := by
  conv => lhs; rw [← List.take_append_drop k l, List.flatMap_append, List.drop_eq_getElem_cons hk, List.flatMap_cons]
theorem take_drop_flat (l : List Held) (k : Nat) (hk : k ≤ l.length) : takeN ((l.length - k) * 7) ((l.flatMap encH).drop (k * 7)) = some ((l.drop k).flatMap encH) := by
  have h1 : (l.flatMap encH).drop (k * 7) = (l.drop k).flatMap encH := by
    conv => lhs; rw [← List.take_append_drop k l, List.flatMap_append]
    rw [List.drop_append, List.drop_eq_nil_of_le (by rw [flat_len2 encH_len, List.length_take]; omega), flat_len2 encH_len, List.length_take, Nat.min_eq_left hk, Nat.sub_self, List.drop_zero, List.nil_append]
  rw [h1]
  have : (l.length - k) * 7 = ((l.drop k).flatMap encH).length := by rw [flat_len2 encH_len, List.length_drop]
  rw [this]
  exact takeN_all _
def z7 : List V := [.int .u32 0, .int .i64 0, .int .i64 0, .int .i64 0, .int .i64 0, .int .i64 0, .int .u64 0]
theorem delete_spec {f : Nat} (hf : vp f = some B_slices_Delete_api_Held) (l : List Held) (k : Nat) (hk : k < l.length) (hn : l.length < 4611686018427387904) (b : Nat) (tag : Tag) (h : Heap) (hb : h.get b = .cells (l.flatMap encH) tag) (hlo : ¬ b < h.lo) :
    ∃ h', callRes vp f [.sl b 0 l.length l.length 7, .int .i64 (k : Int), .int .i64 ((k + 1 : Nat) : Int)] h = some (.sl b 0 (l.length - 1) l.length 7, h') ∧ h'.get b = .cells ((l.eraseIdx k).flatMap encH ++ z7) tag ∧ (∀ c, c ≠ b → h'.get c = h.get c) ∧ h'.lo = h.lo ∧ h'.nx = h.nx := by
  have n1 : l.length = (l.length - 1) + 1 := by omega
  -- the bounds
  have s0 : ∃ X, r_slc 7 (.sl b 0 l.length l.length 7) (some (.int .i64 (k : Int))) (some (.int .i64 ((k + 1 : Nat) : Int))) (some (.int .i64 (l.length : Int))) h = some (X, h) := by
    simp only [r_slc, sliceV, beq_dec, decide_true, cond_true, VE.bound, asNatN, ble_dec, Nat.le_refl, show k + 1 ≤ l.length by omega, show k ≤ k + 1 by omega, hb]
    cases (tag.opn && decide (0 + l.length * 7 = (List.flatMap encH l).length)) <;> exact ⟨_, rfl⟩
  obtain ⟨X, s0⟩ := s0
  have s1 : ∀ h, r_slc 7 (.sl b 0 l.length l.length 7) none (some (.int .i64 (k : Int))) none h = some (.sl b 0 k l.length 7, h) := fun h => by
    simp only [r_slc, sliceV, beq_dec, decide_true, cond_true, VE.bound, asNatN, ble_dec, show k ≤ l.length by omega, Nat.zero_le, Nat.zero_mul, Nat.add_zero, Nat.sub_zero, Option.map_some]
  have s2 : ∀ h, r_slc 7 (.sl b 0 l.length l.length 7) (some (.int .i64 ((k + 1 : Nat) : Int))) none none h = some (.sl b ((k + 1) * 7) (l.length - (k + 1)) (l.length - (k + 1)) 7, h) := fun h => by
    simp only [r_slc, sliceV, beq_dec, decide_true, cond_true, VE.bound, asNatN, ble_dec, show k + 1 ≤ l.length by omega, Nat.zero_add, Option.map_some]
  have ap : ∃ h1, r_app 7 56 (.sl b 0 k l.length 7) (.sl b ((k + 1) * 7) (l.length - (k + 1)) (l.length - (k + 1)) 7) h = some (.sl b 0 (l.length - 1) l.length 7, h1) ∧ (∃ y : Held, h1.get b = .cells ((l.eraseIdx k).flatMap encH ++ encH y) tag) ∧ (∀ c, c ≠ b → h1.get c = h.get c) ∧ h1.lo = h.lo ∧ h1.nx = h.nx := by
    have hr : rowOf h 7 (.sl b ((k + 1) * 7) (l.length - (k + 1)) (l.length - (k + 1)) 7) = some ((l.drop (k + 1)).flatMap encH) := by
      simp only [rowOf, beq_dec, decide_true, cond_true, hb]
      exact take_drop_flat l (k + 1) (by omega)
    unfold r_app
    rw [hr]
    simp only [lenOf]
    have he : l.eraseIdx k = l.take k ++ l.drop (k + 1) := List.eraseIdx_eq_take_drop_succ l k
    by_cases q : l.length - (k + 1) = 0
    · have hkl : k = l.length - 1 := by omega
      have hd : l.drop (k + 1) = [] := List.drop_eq_nil_of_le (by omega)
      refine ⟨h, by rw [q]; simp only [appendV]; rw [hkl], ⟨l[k], ?_⟩, fun _ _ => rfl, rfl, rfl⟩
      rw [hb, flat_split l k hk, he, hd]
      simp
    · obtain ⟨m, hm⟩ : ∃ m, l.length - (k + 1) = m + 1 := ⟨l.length - (k + 1) - 1, by omega⟩
      have hlast : ∃ y : Held, ∃ r : List V, l.flatMap encH = (l.take k).flatMap encH ++ (r ++ encH y) ∧ r.length = ((l.drop (k + 1)).flatMap encH).length := by
        have hne : l ≠ [] := by intro h; subst h; simp at hk
        have e1 : l = l.take k ++ l.drop k := (List.take_append_drop k l).symm
        have hd : l.drop k ≠ [] := by intro h; have := congrArg List.length h; simp at this; omega
        refine ⟨(l.drop k).getLast hd, ((l.drop k).dropLast).flatMap encH, ?_, ?_⟩
        · conv => lhs; rw [e1, ← List.dropLast_concat_getLast hd]
          simp [List.flatMap_append]
        · rw [flat_len2 encH_len, flat_len2 encH_len]
          simp
          omega
      obtain ⟨y, r, hr1, hr2⟩ := hlast
      have ov : over (0 + k * 7) (l.flatMap encH) ((l.drop (k + 1)).flatMap encH) = some ((l.eraseIdx k).flatMap encH ++ encH y) := by
        have : 0 + k * 7 = ((l.take k).flatMap encH).length := by rw [flat_len2 encH_len, List.length_take, Nat.min_eq_left (by omega)]; omega
        rw [this, hr1, over_mid _ _ r (encH y) hr2.symm (flat_one _), he, List.flatMap_append, List.append_assoc]
      refine ⟨h.set b (.cells ((l.eraseIdx k).flatMap encH ++ encH y) tag), ?_, ⟨y, by rw [Heap.get_set, if_pos rfl]⟩, fun c hc => by rw [Heap.get_set, if_neg hc], rfl, rfl⟩
      rw [hm]
      simp only [appendV, beq_dec, decide_true, cond_true, hb, ble_dec, show k + (m + 1) ≤ l.length by omega, blt_dec, hlo, decide_false, cond_false, ov]
      rw [show k + (m + 1) = l.length - 1 by omega]
  obtain ⟨h1, ap, ⟨y, e1⟩, e2, e3, e4⟩ := ap
  have s3 : ∀ h, r_slc 7 (.sl b 0 (l.length - 1) l.length 7) (some (.int .i64 ((l.length - 1 : Nat) : Int))) (some (.int .i64 (l.length : Int))) none h = some (.sl b ((l.length - 1) * 7) 1 1 7, h) := fun h => by
    simp only [r_slc, sliceV, beq_dec, decide_true, cond_true, VE.bound, asNatN, ble_dec, Nat.le_refl, show l.length - 1 ≤ l.length by omega, Nat.zero_add, Option.map_some, show l.length - (l.length - 1) = 1 by omega]
  have cl : r_clr (.sl b ((l.length - 1) * 7) 1 1 7) z7 h1 = some (.tup [], h1.set b (.cells ((l.eraseIdx k).flatMap encH ++ z7) tag)) := by
    have hl : (l.length - 1) * 7 = ((l.eraseIdx k).flatMap encH).length := by rw [flat_len2 encH_len, List.length_eraseIdx_of_lt hk]
    have ov := over_mid ((l.eraseIdx k).flatMap encH) z7 (encH y) [] rfl rfl
    rw [List.append_nil, List.append_nil] at ov
    have st : VE.store h1 b ((l.length - 1) * 7) (rep 1 z7) = some (h1.set b (.cells ((l.eraseIdx k).flatMap encH ++ z7) tag)) := by
      show VE.store h1 b ((l.length - 1) * 7) z7 = _
      have hz : ∀ (p : List V), VE.store h1 b ((l.length - 1) * 7) z7 = bif Nat.blt b h1.lo then none else match h1.get b with
        | .cells c o => match over ((l.length - 1) * 7) c z7 with
          | some c' => some (h1.set b (.cells c' o))
          | none => none
        | _ => none := fun _ => rfl
      rw [hz [], e1, hl, e3, blt_dec, decide_eq_false hlo]
      simp only [cond_false, ov]
    simp only [r_clr, st]
    rfl
  have k0 := res_raw (vp := vp) (args := [.sl b 0 l.length l.length 7, .int .i64 (k : Int), .int .i64 ((k + 1 : Nat) : Int)]) (h := h) (P := fun v h' => v = .sl b 0 (l.length - 1) l.length 7 ∧ h' = h1.set b (.cells ((l.eraseIdx k).flatMap encH ++ z7) tag)) hf rfl rfl (by
    have ne : ¬ (k : Int) = ((k + 1 : Nat) : Int) := by omega
    have ln : ∀ h', r_len (.sl b 0 l.length l.length 7) h' = some (.int .i64 (l.length : Int), h') := fun h => rfl
    have ln2 : ∀ h', r_len (.sl b 0 (l.length - 1) l.length 7) h' = some (.int .i64 ((l.length - 1 : Nat) : Int), h') := fun h => rfl
    unfold z7 at cl
    unfold z7
    unfold B_slices_Delete_api_Held
    simp only [↓zp, zz, true_and, and_true, chkOk, Nat.reduceEqDiff, Nat.reduceAdd, Nat.reduceSub, Nat.reduceMul, Nat.reduceLT, Nat.reduceLeDiff, Int.reduceLT, Int.reduceLE, Int.reduceEq, Int.reduceAdd, Int.reduceNeg, if_false, if_true, reduceIte, ags, LB.agz, agd, r_mv, r_pick, r_box, r_alloc, r_un, r_eqb, r_ext, r_mkf, r_cnv, r_st, r_nck, r_ix, r_iaa, takeN, agc, agn, VE.store, over, cellsAt, VE.part, agm, agb, blkX, gEval, cond_true, cond_false, r_build, r_bsl, fill, VE.unOp, r_bin, adz, ads, resOf, resVs, resV, alc, aln, reduceCtorEq, or_true, true_or, false_or, or_false, eq_self, exists_eq_left', Option.some.injEq, ln, ln2, s0, s1, s2, s3, ne, ap, cl])
  obtain ⟨v, h', e, rfl, rfl⟩ := k0
  exact ⟨_, e, by rw [Heap.get_set, if_pos rfl], fun c hc => by rw [Heap.get_set, if_neg hc, e2 c hc], e3, e4⟩
end
end Go.VE.LB
