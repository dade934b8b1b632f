/- What the functions of the law DifferChecks compute, on typed arguments (part 15). -/
import Derived.Test.YtlomleifnbpghabDifferChecksA14
set_option linter.all false
namespace Go.VE.LB
open Go Go.VE Classical
set_option maxRecDepth 100000
set_option maxHeartbeats 4000000
set_option linter.all false
def mz (now : Int) (v : V) : List V := [.int .u64 now, .int .u8 0, .int .u8 0, .int .u8 0, .int .u8 0, .int .u8 0, .int .u8 0, .int .u8 0, .int .u8 0, .int .u8 0, .int .u8 0, .int .u8 0, .int .u8 0, .int .u8 0, .int .u8 0, .int .u8 0, .int .u8 0, .int .u8 0, .int .u8 0, .int .u8 0, .int .u8 0, .int .u8 0, .int .u8 0, .int .u8 0, .int .u8 0, .int .u8 0, .int .u8 0, .int .u8 0, .int .u8 0, .int .u8 0, .int .u8 0, .int .u8 0, .int .u8 0, .int .u32 0, .int .u32 0, .int .u32 0, .int .u32 0, .int .u32 0, .int .u32 0, .int .u32 0, .int .u32 0, .int .u32 0, .int .u32 0, .int .u32 0, .int .u32 0, .int .u32 0, .int .u32 0, .int .u32 0, .int .u32 0, v]
def z32 : List Int := List.replicate 32 0
def z16 : List Int := List.replicate 16 0
theorem mz_eq (now : Int) (v : V) : encM now z32 z16 v = mz now v := rfl
def zk : List V := [.int .u32 0, .int .u32 0, .bool false, .int .u32 0, .int .i64 0, .int .i64 0, .int .i64 0, .int .i64 0, .int .i64 0, .int .i64 0, .int .i64 0, .int .i64 0, .int .i64 0, .int .i64 0, .int .i64 0, .int .i64 0, .int .i64 0, .int .i64 0, .int .i64 0, .int .i64 0, .int .u64 0, .nils, .nils, .nils, .int .u64 0, .int .u64 0, .int .u64 0]
theorem take27 (x : Lack) (r : List V) : takeN 27 (encK x ++ r) = some (encK x) := rfl
theorem Short.small {x : Acct} (s : Short x) : Small x := ⟨by have := s.u; omega, by have := s.e; omega, by have := s.r; omega⟩
def LackOk (now : Int) (x : Lack) : Prop := ¬ 16 ≤ x.t ∧ ¬ 1000000 < x.e ∧ (x.is = true → x.a.t = x.t ∧ MOk now z16 [x.a]) ∧ (x.is = false → SameA x.a zA)
structure DOk (now : Int) (l : List Lack) : Prop where
  each : ∀ k (h : k < l.length), LackOk now l[k]
  inc : ∀ k (h : k + 1 < l.length), ¬ l[k + 1].t ≤ l[k].t
noncomputable def chkD (now : Int) (l : List Lack) : Int := if 16 < l.length then 4 else if DOk now l then 0 else 8
theorem mz_iso (now : Int) (b o n c : Nat) : isoArgs 1 [.agg (encM now z32 z16 (.sl b o n c 24))] = none := rfl
section
variable {vp : Nat → Option VFn}
theorem alone_spec {f c0 c1 c2 c3 c4 c5 c6 : Nat} (hf : vp f = some (B_spigotref34_alone c0)) (h0 : vp c0 = some (B_spigotref25_Check c1 c2)) (h1 : vp c1 = some (B_spigotref25_Valid c3 c4 c5)) (h2 : vp c2 = some B_spigotref25_late) (h3 : vp c3 = some B_spigotref03_CheckLimit) (h4 : vp c4 = some (B_spigotref03_Check c3)) (h5 : vp c5 = some (B_spigotref25_held c6 c4)) (h6 : vp c6 = some B_spigotref25_At)
    (x : Acct) (sh : Short x) (now : Int) (h : Heap) : callRes vp f [.agg (encA x), .int .u64 now] h = some (.bool (decide (MOk now z16 [x])), h) := by
  have m0 : modeOf vp c0 = some 1 := by simp [modeOf, h0, B_spigotref25_Check]
  refine res_pure hf rfl rfl (fun g hg => ?_)
  have e := rcheck_spec h0 h1 h2 h3 h4 h5 h6 now z32 z16 rfl rfl (.sl (g.nx + 1) 0 1 1 24) [x] ((g.new (.cells (encA x) .cl)).new (.cells (encA x) .cl)) (.inr ⟨g.nx + 1, 0, 1, 1, .cl, _, [], rfl, rfl, by rw [Heap.get_new, if_pos (by simp only [Heap.new_nx])], by simp, by simp [Heap.new_nx]⟩) rfl (mz_iso now) (fun y hy => by
    obtain rfl : y = x := by simpa using hy
    exact sh.small) (by simp)
  rw [mz_eq] at e
  unfold B_spigotref34_alone
  simp only [mz, encA] at e
  by_cases q : MOk now z16 [x]
  · simp only [q, if_true] at e
    simp only [↓zp, zz, true_and, and_true, chkOk, Nat.reduceEqDiff, Nat.reduceAdd, Nat.reduceSub, Nat.reduceMul, Nat.reduceLT, Nat.reduceLeDiff, Int.reduceLT, Int.reduceLE, Int.reduceEq, Int.reduceAdd, Int.reduceNeg, if_false, if_true, reduceIte, List.getElem?_cons_succ, List.getElem?_cons_zero, Option.getD_some, r_mv, r_pick, r_box, r_alloc, r_un, r_eqb, r_ext, r_mkf, r_cnv, r_st, r_nck, r_ix, r_iaa, takeN, List.cons_append, List.nil_append, VE.store, over, cellsAt, VE.part, Option.map_some, Option.bind_some, blkX, gEval, cond_true, cond_false, r_build, r_bsl, fill, VE.unOp, r_bin, List.drop_zero, List.drop_succ_cons, resOf, resVs, resV, List.length_cons, List.length_nil, reduceCtorEq, or_true, true_or, false_or, or_false, eq_self, exists_eq_left', Option.some.injEq, encA, m0, e, q, frzB]
  · simp only [q, if_false] at e
    simp only [↓zp, zz, true_and, and_true, chkOk, Nat.reduceEqDiff, Nat.reduceAdd, Nat.reduceSub, Nat.reduceMul, Nat.reduceLT, Nat.reduceLeDiff, Int.reduceLT, Int.reduceLE, Int.reduceEq, Int.reduceAdd, Int.reduceNeg, if_false, if_true, reduceIte, List.getElem?_cons_succ, List.getElem?_cons_zero, Option.getD_some, r_mv, r_pick, r_box, r_alloc, r_un, r_eqb, r_ext, r_mkf, r_cnv, r_st, r_nck, r_ix, r_iaa, takeN, List.cons_append, List.nil_append, VE.store, over, cellsAt, VE.part, Option.map_some, Option.bind_some, blkX, gEval, cond_true, cond_false, r_build, r_bsl, fill, VE.unOp, r_bin, List.drop_zero, List.drop_succ_cons, resOf, resVs, resV, List.length_cons, List.length_nil, reduceCtorEq, or_true, true_or, false_or, or_false, eq_self, exists_eq_left', Option.some.injEq, encA, m0, e, q, frzB]
def hk (h : Heap) (x : Lack) (t1 : Nat) : Heap := (h.new (.cells zk (.ct t1))).set h.nx (.cells (encK x) (.ct t1))
theorem Kp.hk {H h : Heap} (k : Kp H h) (x : Lack) (t1 : Nat) : Kp H (hk h x t1) := (k.new _).set _ k.nx
def inv10 (now : Int) (v : V) (l : List Lack) (b : Nat) (H : Heap) (m : Nat) (s : Slots) (h : Heap) : Prop :=
  ∃ k, k ≤ l.length ∧ m = l.length - k ∧ s.at 1 = .ptr b 0 ∧ s.at 3 = .int .i64 (k : Int) ∧ Kp H h ∧ (∀ j (hj : j < l.length), j < k → LackOk now l[j]) ∧ ∀ j (hj : j + 1 < l.length), j + 1 < k → ¬ l[j + 1].t ≤ l[j].t
theorem check10_spec {f a0 c0 c1 c2 c3 c4 c5 c6 b0 b1 b2 t1 : Nat} (hf : vp f = some (B_spigotref34_Check a0 b0 t1)) (ha : vp a0 = some (B_spigotref34_alone c0)) (h0 : vp c0 = some (B_spigotref25_Check c1 c2)) (h1 : vp c1 = some (B_spigotref25_Valid c3 c4 c5)) (h2 : vp c2 = some B_spigotref25_late) (h3 : vp c3 = some B_spigotref03_CheckLimit) (h4 : vp c4 = some (B_spigotref03_Check c3)) (h5 : vp c5 = some (B_spigotref25_held c6 c4)) (h6 : vp c6 = some B_spigotref25_At)
    (hz0 : vp b0 = some (B_spigotref34_zero b1)) (hz1 : vp b1 = some (B_spigotref25_SameAccount b2)) (hz2 : vp b2 = some B_spigotref25_SameHeld)
    (now : Int) (v : V) (l : List Lack) (h : Heap) (hv : Rd encK 27 h v l) (sh : ∀ x ∈ l, Short x.a) (hn : l.length < 4611686018427387904) :
    callRes vp f [.agg [.int .u64 now, v]] h = some (.int .i64 (chkD now l), h) := by
  have ma : modeOf vp a0 = some 1 := by simp [modeOf, ha, B_spigotref34_alone]
  have mb : modeOf vp b0 = some 1 := by simp [modeOf, hz0, B_spigotref34_zero]
  refine res_pure hf rfl rfl (fun g hg => ?_)
  have hlo := hlo hg
  have hv := hv.enter (A := fun v => [.agg [.int .u64 now, v]]) hg (fun _ _ _ _ => rfl)
  have ln := hv.len
  unfold B_spigotref34_Check
  by_cases q1 : 16 < l.length
  · have q1' : (16 : Int) < (l.length : Int) := by omega
    have e : chkD now l = 4 := by simp [chkD, q1]
    simp only [↓zp, zz, true_and, and_true, chkOk, Nat.reduceEqDiff, Nat.reduceAdd, Nat.reduceSub, Nat.reduceMul, Nat.reduceLT, Nat.reduceLeDiff, Int.reduceLT, Int.reduceLE, Int.reduceEq, Int.reduceAdd, Int.reduceNeg, if_false, if_true, reduceIte, List.getElem?_cons_succ, List.getElem?_cons_zero, Option.getD_some, r_mv, r_pick, r_box, r_alloc, r_un, r_eqb, r_ext, r_mkf, r_cnv, r_st, r_nck, r_ix, r_iaa, takeN, List.cons_append, List.nil_append, VE.store, over, cellsAt, VE.part, Option.map_some, Option.bind_some, blkX, gEval, cond_true, cond_false, r_build, r_bsl, fill, VE.unOp, r_bin, List.drop_zero, List.drop_succ_cons, resOf, resVs, resV, List.length_cons, List.length_nil, reduceCtorEq, or_true, true_or, false_or, or_false, eq_self, exists_eq_left', Option.some.injEq, ln, q1', e, frzI]
  have q1' : ¬ (16 : Int) < (l.length : Int) := by omega
  have ce : chkD now l = if DOk now l then 0 else 8 := by simp [chkD, q1]
  rw [ce]
  have no : ∀ (P : Prop), ¬ P → (DOk now l → P) → (.int .i64 8 : V) = .int .i64 (if DOk now l then 0 else 8) := fun P hn hv => by
    rw [if_neg (fun q => hn (hv q))]
  simp only [↓zp, zz, true_and, and_true, chkOk, Nat.reduceEqDiff, Nat.reduceAdd, Nat.reduceSub, Nat.reduceMul, Nat.reduceLT, Nat.reduceLeDiff, Int.reduceLT, Int.reduceLE, Int.reduceEq, Int.reduceAdd, Int.reduceNeg, if_false, if_true, reduceIte, List.getElem?_cons_succ, List.getElem?_cons_zero, Option.getD_some, r_mv, r_pick, r_box, r_alloc, r_un, r_eqb, r_ext, r_mkf, r_cnv, r_st, r_nck, r_ix, r_iaa, takeN, List.cons_append, List.nil_append, VE.store, over, cellsAt, VE.part, Option.map_some, Option.bind_some, blkX, gEval, cond_true, cond_false, r_build, r_bsl, fill, VE.unOp, r_bin, List.drop_zero, List.drop_succ_cons, resOf, resVs, resV, List.length_cons, List.length_nil, reduceCtorEq, or_true, true_or, false_or, or_false, eq_self, exists_eq_left', Option.some.injEq, ln, q1']
  generalize hS : Tr.set _ 3 _ = S
  have b1' : Slots.at S 1 = .ptr g.nx 0 := by rw [← hS]; simp only [Slots.at_set, Nat.reduceEqDiff, if_false, if_true, reduceIte, argSlots_at, List.getElem?_cons_succ, List.getElem?_cons_zero, Option.getD_some]
  have b3 : Slots.at S 3 = .int .i64 ((0 : Nat) : Int) := by rw [← hS]; simp only [Slots.at_set, Nat.reduceEqDiff, if_false, if_true, reduceIte, argSlots_at, List.getElem?_cons_succ, List.getElem?_cons_zero, Option.getD_some]; rfl
  clear hS
  generalize hH : Heap.new g _ = H
  have hb : H.get g.nx = .cells [.int .u64 now, v] .cl := by rw [← hH, Heap.get_new, if_pos rfl]
  have kp : Kp g H := by rw [← hH]; exact (Kp.refl g).new _
  have hgn : g.nx < H.nx := by rw [← hH]; simp [Heap.new]
  clear hH
  have hv := hv.keep kp
  have hlH : H.lo = g.lo := kp.lo
  refine loop_ind (fun m s h => inv10 now v l g.nx H m s h) ?_ l.length ⟨0, by omega, by omega, b1', b3, Kp.refl H, fun j _ hj => by omega, fun j _ hj => by omega⟩
  rintro m s h ⟨k, hk', hm, a1, a3, kh, hok, hinc⟩
  have hbh : h.get g.nx = .cells [.int .u64 now, v] .cl := by rw [kh.get _ hgn, hb]
  by_cases hlt : k < l.length
  case neg =>
    have hlt' : ¬ ((k : Int) < (l.length : Int)) := by omega
    have e : DOk now l := ⟨fun j hj => hok j hj (by omega), fun j hj => hinc j hj (by omega)⟩
    simp only [↓zp, zz, true_and, and_true, chkOk, Nat.reduceEqDiff, Nat.reduceAdd, Nat.reduceSub, Nat.reduceMul, Nat.reduceLT, Nat.reduceLeDiff, Int.reduceLT, Int.reduceLE, Int.reduceEq, Int.reduceAdd, Int.reduceNeg, if_false, if_true, reduceIte, List.getElem?_cons_succ, List.getElem?_cons_zero, Option.getD_some, r_mv, r_pick, r_box, r_alloc, r_un, r_eqb, r_ext, r_mkf, r_cnv, r_st, r_nck, r_ix, r_iaa, takeN, List.cons_append, List.nil_append, VE.store, over, cellsAt, VE.part, Option.map_some, Option.bind_some, blkX, gEval, cond_true, cond_false, r_build, r_bsl, fill, VE.unOp, r_bin, List.drop_zero, List.drop_succ_cons, resOf, resVs, resV, List.length_cons, List.length_nil, reduceCtorEq, or_true, true_or, false_or, or_false, eq_self, exists_eq_left', Option.some.injEq, a1, a3, hbh, ln, hlt', e, frzI]
  have hlt' : (k : Int) < (l.length : Int) := by omega
  have ws := wr_succ (k := k) (by omega)
  obtain ⟨a, ia, el⟩ := hv.ia encK_len (by decide) hlt
  have ld := El.ld el kh (encK_len l[k])
  have shk := sh _ (List.getElem_mem hlt)
  have vs := fun h => alone_spec ha h0 h1 h2 h3 h4 h5 h6 l[k].a shk now h
  have zs := fun h => zero_spec hz0 hz1 hz2 l[k].a shk h
  have hl0 : ¬ (h.nx < h.lo) := by have := kh.lo; have := kh.nx; omega
  have hne : ¬ g.nx = h.nx := by have := kh.nx; omega
  have kp2 := kh.hk l[k] t1
  simp only [encK, encA] at ld
  simp only [encA] at vs zs
  simp only [hk, zk, encK, encA] at kp2
  have A : ∀ (P : Prop), P → P := fun _ h => h
  by_cases q2 : 16 ≤ l[k].t
  case pos =>
    have e := no (LackOk now l[k]) (fun q => q.1 q2) (·.each k hlt)
    simp only [↓zp, zz, true_and, and_true, chkOk, Nat.reduceEqDiff, Nat.reduceAdd, Nat.reduceSub, Nat.reduceMul, Nat.reduceLT, Nat.reduceLeDiff, Int.reduceLT, Int.reduceLE, Int.reduceEq, Int.reduceAdd, Int.reduceNeg, if_false, if_true, reduceIte, List.getElem?_cons_succ, List.getElem?_cons_zero, Option.getD_some, r_mv, r_pick, r_box, r_alloc, r_un, r_eqb, r_ext, r_mkf, r_cnv, r_st, r_nck, r_ix, r_iaa, takeN, List.cons_append, List.nil_append, VE.store, over, cellsAt, VE.part, Option.map_some, Option.bind_some, blkX, gEval, cond_true, cond_false, r_build, r_bsl, fill, VE.unOp, r_bin, List.drop_zero, List.drop_succ_cons, resOf, resVs, resV, List.length_cons, List.length_nil, reduceCtorEq, or_true, true_or, false_or, or_false, eq_self, exists_eq_left', Option.some.injEq, a1, a3, hbh, ln, hlt', ia, ld, hl0, hne, q2, ← e, frzI]
  by_cases q3 : 1000000 < l[k].e
  case pos =>
    have e := no (LackOk now l[k]) (fun q => q.2.1 q3) (·.each k hlt)
    simp only [↓zp, zz, true_and, and_true, chkOk, Nat.reduceEqDiff, Nat.reduceAdd, Nat.reduceSub, Nat.reduceMul, Nat.reduceLT, Nat.reduceLeDiff, Int.reduceLT, Int.reduceLE, Int.reduceEq, Int.reduceAdd, Int.reduceNeg, if_false, if_true, reduceIte, List.getElem?_cons_succ, List.getElem?_cons_zero, Option.getD_some, r_mv, r_pick, r_box, r_alloc, r_un, r_eqb, r_ext, r_mkf, r_cnv, r_st, r_nck, r_ix, r_iaa, takeN, List.cons_append, List.nil_append, VE.store, over, cellsAt, VE.part, Option.map_some, Option.bind_some, blkX, gEval, cond_true, cond_false, r_build, r_bsl, fill, VE.unOp, r_bin, List.drop_zero, List.drop_succ_cons, resOf, resVs, resV, List.length_cons, List.length_nil, reduceCtorEq, or_true, true_or, false_or, or_false, eq_self, exists_eq_left', Option.some.injEq, a1, a3, hbh, ln, hlt', ia, ld, hl0, hne, q2, q3, ← e, frzI]
  have fin : LackOk now l[k] → (∀ j (hj : j + 1 < l.length), j + 1 = k → ¬ l[j + 1].t ≤ l[j].t) → (∀ j (hj : j < l.length), j < k + 1 → LackOk now l[j]) ∧ ∀ j (hj : j + 1 < l.length), j + 1 < k + 1 → ¬ l[j + 1].t ≤ l[j].t := fun x y => ⟨fun j hj hj2 => by
    rcases Nat.lt_or_ge j k with r | r
    · exact hok j hj r
    · have : j = k := by omega
      subst this
      exact x, fun j hj hj2 => by
    rcases Nat.lt_or_ge (j + 1) k with r | r
    · exact hinc j hj r
    · exact y j hj (by omega)⟩
  by_cases hz : 0 < k
  case neg =>
    have hz' : ¬ ((0 : Int) < (k : Int)) := by omega
    cases q4 : l[k].is with
    | true =>
      rw [q4] at kp2
      by_cases q5 : l[k].a.t = l[k].t
      case neg =>
        have e := no (LackOk now l[k]) (fun q => q5 (q.2.2.1 q4).1) (·.each k hlt)
        simp only [↓zp, zz, true_and, and_true, chkOk, Nat.reduceEqDiff, Nat.reduceAdd, Nat.reduceSub, Nat.reduceMul, Nat.reduceLT, Nat.reduceLeDiff, Int.reduceLT, Int.reduceLE, Int.reduceEq, Int.reduceAdd, Int.reduceNeg, if_false, if_true, reduceIte, List.getElem?_cons_succ, List.getElem?_cons_zero, Option.getD_some, r_mv, r_pick, r_box, r_alloc, r_un, r_eqb, r_ext, r_mkf, r_cnv, r_st, r_nck, r_ix, r_iaa, takeN, List.cons_append, List.nil_append, VE.store, over, cellsAt, VE.part, Option.map_some, Option.bind_some, blkX, gEval, cond_true, cond_false, r_build, r_bsl, fill, VE.unOp, r_bin, List.drop_zero, List.drop_succ_cons, resOf, resVs, resV, List.length_cons, List.length_nil, reduceCtorEq, or_true, true_or, false_or, or_false, eq_self, exists_eq_left', Option.some.injEq, a1, a3, hbh, ln, hlt', ia, ld, hl0, hne, q2, q3, hz', q4, q5, ← e, frzI]
      have q5' := eq_true q5
      by_cases q6 : MOk now z16 [l[k].a]
      case neg =>
        have e := no (LackOk now l[k]) (fun q => q6 (q.2.2.1 q4).2) (·.each k hlt)
        simp only [↓zp, zz, true_and, and_true, chkOk, Nat.reduceEqDiff, Nat.reduceAdd, Nat.reduceSub, Nat.reduceMul, Nat.reduceLT, Nat.reduceLeDiff, Int.reduceLT, Int.reduceLE, Int.reduceEq, Int.reduceAdd, Int.reduceNeg, if_false, if_true, reduceIte, List.getElem?_cons_succ, List.getElem?_cons_zero, Option.getD_some, r_mv, r_pick, r_box, r_alloc, r_un, r_eqb, r_ext, r_mkf, r_cnv, r_st, r_nck, r_ix, r_iaa, takeN, List.cons_append, List.nil_append, VE.store, over, cellsAt, VE.part, Option.map_some, Option.bind_some, blkX, gEval, cond_true, cond_false, r_build, r_bsl, fill, VE.unOp, r_bin, List.drop_zero, List.drop_succ_cons, resOf, resVs, resV, List.length_cons, List.length_nil, reduceCtorEq, or_true, true_or, false_or, or_false, eq_self, exists_eq_left', Option.some.injEq, a1, a3, hbh, ln, hlt', ia, ld, hl0, hne, q2, q3, hz', q4, q5', ma, vs, q6, ← e, frzI]
      simp only [↓zp, zz, true_and, and_true, chkOk, Nat.reduceEqDiff, Nat.reduceAdd, Nat.reduceSub, Nat.reduceMul, Nat.reduceLT, Nat.reduceLeDiff, Int.reduceLT, Int.reduceLE, Int.reduceEq, Int.reduceAdd, Int.reduceNeg, if_false, if_true, reduceIte, List.getElem?_cons_succ, List.getElem?_cons_zero, Option.getD_some, r_mv, r_pick, r_box, r_alloc, r_un, r_eqb, r_ext, r_mkf, r_cnv, r_st, r_nck, r_ix, r_iaa, takeN, List.cons_append, List.nil_append, VE.store, over, cellsAt, VE.part, Option.map_some, Option.bind_some, blkX, gEval, cond_true, cond_false, r_build, r_bsl, fill, VE.unOp, r_bin, List.drop_zero, List.drop_succ_cons, resOf, resVs, resV, List.length_cons, List.length_nil, reduceCtorEq, or_true, true_or, false_or, or_false, eq_self, exists_eq_left', Option.some.injEq, a1, a3, hbh, ln, hlt', ia, ld, hl0, hne, q2, q3, hz', q4, q5', ma, vs, q6, ws]
      have fin := fin ⟨q2, q3, fun _ => ⟨q5, q6⟩, fun q => by rw [q4] at q; cases q⟩ (fun j hj h => by omega)
      exact ⟨_, by omega, k + 1, by omega, rfl, by simp only [Slots.at_set, Nat.reduceEqDiff, if_false, if_true, reduceIte, argSlots_at, List.getElem?_cons_succ, List.getElem?_cons_zero, Option.getD_some, a1], by simp only [Slots.at_set, Nat.reduceEqDiff, if_false, if_true, reduceIte, argSlots_at, List.getElem?_cons_succ, List.getElem?_cons_zero, Option.getD_some], kp2, fin.1, fin.2⟩
    | false =>
      rw [q4] at kp2
      by_cases q6 : SameA l[k].a zA
      case neg =>
        have e := no (LackOk now l[k]) (fun q => q6 (q.2.2.2 q4)) (·.each k hlt)
        simp only [↓zp, zz, true_and, and_true, chkOk, Nat.reduceEqDiff, Nat.reduceAdd, Nat.reduceSub, Nat.reduceMul, Nat.reduceLT, Nat.reduceLeDiff, Int.reduceLT, Int.reduceLE, Int.reduceEq, Int.reduceAdd, Int.reduceNeg, if_false, if_true, reduceIte, List.getElem?_cons_succ, List.getElem?_cons_zero, Option.getD_some, r_mv, r_pick, r_box, r_alloc, r_un, r_eqb, r_ext, r_mkf, r_cnv, r_st, r_nck, r_ix, r_iaa, takeN, List.cons_append, List.nil_append, VE.store, over, cellsAt, VE.part, Option.map_some, Option.bind_some, blkX, gEval, cond_true, cond_false, r_build, r_bsl, fill, VE.unOp, r_bin, List.drop_zero, List.drop_succ_cons, resOf, resVs, resV, List.length_cons, List.length_nil, reduceCtorEq, or_true, true_or, false_or, or_false, eq_self, exists_eq_left', Option.some.injEq, a1, a3, hbh, ln, hlt', ia, ld, hl0, hne, q2, q3, hz', q4, mb, zs, q6, ← e, frzI]
      simp only [↓zp, zz, true_and, and_true, chkOk, Nat.reduceEqDiff, Nat.reduceAdd, Nat.reduceSub, Nat.reduceMul, Nat.reduceLT, Nat.reduceLeDiff, Int.reduceLT, Int.reduceLE, Int.reduceEq, Int.reduceAdd, Int.reduceNeg, if_false, if_true, reduceIte, List.getElem?_cons_succ, List.getElem?_cons_zero, Option.getD_some, r_mv, r_pick, r_box, r_alloc, r_un, r_eqb, r_ext, r_mkf, r_cnv, r_st, r_nck, r_ix, r_iaa, takeN, List.cons_append, List.nil_append, VE.store, over, cellsAt, VE.part, Option.map_some, Option.bind_some, blkX, gEval, cond_true, cond_false, r_build, r_bsl, fill, VE.unOp, r_bin, List.drop_zero, List.drop_succ_cons, resOf, resVs, resV, List.length_cons, List.length_nil, reduceCtorEq, or_true, true_or, false_or, or_false, eq_self, exists_eq_left', Option.some.injEq, a1, a3, hbh, ln, hlt', ia, ld, hl0, hne, q2, q3, hz', q4, mb, zs, q6, ws]
      have fin := fin ⟨q2, q3, fun q => by (rw [q4] at q; cases q), fun _ => q6⟩ (fun j hj h => by omega)
      exact ⟨_, by omega, k + 1, by omega, rfl, by simp only [Slots.at_set, Nat.reduceEqDiff, if_false, if_true, reduceIte, argSlots_at, List.getElem?_cons_succ, List.getElem?_cons_zero, Option.getD_some, a1], by simp only [Slots.at_set, Nat.reduceEqDiff, if_false, if_true, reduceIte, argSlots_at, List.getElem?_cons_succ, List.getElem?_cons_zero, Option.getD_some], kp2, fin.1, fin.2⟩
  have hz' : (0 : Int) < (k : Int) := by omega
  have wp := wr_pred (k := k) hz (by omega)
  obtain ⟨a2, ia2, el2⟩ := hv.ia encK_len (by decide) (k := k - 1) (by omega)
  obtain ⟨a5, fa5, el5⟩ := el2.fa (n := 0) (by omega)
  have ld5 := El.ld1 el5 kp2
  have e21 : k - 1 + 1 = k := by omega
  by_cases hle : l[k].t ≤ l[k - 1].t
  case pos =>
    have e := no (∀ k (h : k + 1 < l.length), ¬ l[k + 1].t ≤ l[k].t) (fun q => by have := q (k - 1) (by omega); simp only [e21] at this; exact this hle) (·.inc)
    simp only [↓zp, zz, true_and, and_true, chkOk, Nat.reduceEqDiff, Nat.reduceAdd, Nat.reduceSub, Nat.reduceMul, Nat.reduceLT, Nat.reduceLeDiff, Int.reduceLT, Int.reduceLE, Int.reduceEq, Int.reduceAdd, Int.reduceNeg, if_false, if_true, reduceIte, List.getElem?_cons_succ, List.getElem?_cons_zero, Option.getD_some, r_mv, r_pick, r_box, r_alloc, r_un, r_eqb, r_ext, r_mkf, r_cnv, r_st, r_nck, r_ix, r_iaa, takeN, List.cons_append, List.nil_append, VE.store, over, cellsAt, VE.part, Option.map_some, Option.bind_some, blkX, gEval, cond_true, cond_false, r_build, r_bsl, fill, VE.unOp, r_bin, List.drop_zero, List.drop_succ_cons, resOf, resVs, resV, List.length_cons, List.length_nil, reduceCtorEq, or_true, true_or, false_or, or_false, eq_self, exists_eq_left', Option.some.injEq, a1, a3, hbh, ln, hlt', ia, ld, hl0, hne, q2, q3, hz', wp, ia2, fa5, ld5, hle, ← e, frzI]
  cases q4 : l[k].is with
  | true =>
    rw [q4] at kp2 ld5
    by_cases q5 : l[k].a.t = l[k].t
    case neg =>
      have e := no (LackOk now l[k]) (fun q => q5 (q.2.2.1 q4).1) (·.each k hlt)
      simp only [↓zp, zz, true_and, and_true, chkOk, Nat.reduceEqDiff, Nat.reduceAdd, Nat.reduceSub, Nat.reduceMul, Nat.reduceLT, Nat.reduceLeDiff, Int.reduceLT, Int.reduceLE, Int.reduceEq, Int.reduceAdd, Int.reduceNeg, if_false, if_true, reduceIte, List.getElem?_cons_succ, List.getElem?_cons_zero, Option.getD_some, r_mv, r_pick, r_box, r_alloc, r_un, r_eqb, r_ext, r_mkf, r_cnv, r_st, r_nck, r_ix, r_iaa, takeN, List.cons_append, List.nil_append, VE.store, over, cellsAt, VE.part, Option.map_some, Option.bind_some, blkX, gEval, cond_true, cond_false, r_build, r_bsl, fill, VE.unOp, r_bin, List.drop_zero, List.drop_succ_cons, resOf, resVs, resV, List.length_cons, List.length_nil, reduceCtorEq, or_true, true_or, false_or, or_false, eq_self, exists_eq_left', Option.some.injEq, a1, a3, hbh, ln, hlt', ia, ld, hl0, hne, q2, q3, hz', wp, ia2, fa5, ld5, hle, q4, q5, ← e, frzI]
    have q5' := eq_true q5
    by_cases q6 : MOk now z16 [l[k].a]
    case neg =>
      have e := no (LackOk now l[k]) (fun q => q6 (q.2.2.1 q4).2) (·.each k hlt)
      simp only [↓zp, zz, true_and, and_true, chkOk, Nat.reduceEqDiff, Nat.reduceAdd, Nat.reduceSub, Nat.reduceMul, Nat.reduceLT, Nat.reduceLeDiff, Int.reduceLT, Int.reduceLE, Int.reduceEq, Int.reduceAdd, Int.reduceNeg, if_false, if_true, reduceIte, List.getElem?_cons_succ, List.getElem?_cons_zero, Option.getD_some, r_mv, r_pick, r_box, r_alloc, r_un, r_eqb, r_ext, r_mkf, r_cnv, r_st, r_nck, r_ix, r_iaa, takeN, List.cons_append, List.nil_append, VE.store, over, cellsAt, VE.part, Option.map_some, Option.bind_some, blkX, gEval, cond_true, cond_false, r_build, r_bsl, fill, VE.unOp, r_bin, List.drop_zero, List.drop_succ_cons, resOf, resVs, resV, List.length_cons, List.length_nil, reduceCtorEq, or_true, true_or, false_or, or_false, eq_self, exists_eq_left', Option.some.injEq, a1, a3, hbh, ln, hlt', ia, ld, hl0, hne, q2, q3, hz', wp, ia2, fa5, ld5, hle, q4, q5', ma, vs, q6, ← e, frzI]
    simp only [↓zp, zz, true_and, and_true, chkOk, Nat.reduceEqDiff, Nat.reduceAdd, Nat.reduceSub, Nat.reduceMul, Nat.reduceLT, Nat.reduceLeDiff, Int.reduceLT, Int.reduceLE, Int.reduceEq, Int.reduceAdd, Int.reduceNeg, if_false, if_true, reduceIte, List.getElem?_cons_succ, List.getElem?_cons_zero, Option.getD_some, r_mv, r_pick, r_box, r_alloc, r_un, r_eqb, r_ext, r_mkf, r_cnv, r_st, r_nck, r_ix, r_iaa, takeN, List.cons_append, List.nil_append, VE.store, over, cellsAt, VE.part, Option.map_some, Option.bind_some, blkX, gEval, cond_true, cond_false, r_build, r_bsl, fill, VE.unOp, r_bin, List.drop_zero, List.drop_succ_cons, resOf, resVs, resV, List.length_cons, List.length_nil, reduceCtorEq, or_true, true_or, false_or, or_false, eq_self, exists_eq_left', Option.some.injEq, a1, a3, hbh, ln, hlt', ia, ld, hl0, hne, q2, q3, hz', wp, ia2, fa5, ld5, hle, q4, q5', ma, vs, q6, ws]
    have fin := fin ⟨q2, q3, fun _ => ⟨q5, q6⟩, fun q => by rw [q4] at q; cases q⟩ (fun j hj h => by (have : j = k - 1 := by omega); subst this; simpa only [e21] using hle)
    exact ⟨_, by omega, k + 1, by omega, rfl, by simp only [Slots.at_set, Nat.reduceEqDiff, if_false, if_true, reduceIte, argSlots_at, List.getElem?_cons_succ, List.getElem?_cons_zero, Option.getD_some, a1], by simp only [Slots.at_set, Nat.reduceEqDiff, if_false, if_true, reduceIte, argSlots_at, List.getElem?_cons_succ, List.getElem?_cons_zero, Option.getD_some], kp2, fin.1, fin.2⟩
  | false =>
    rw [q4] at kp2 ld5
    by_cases q6 : SameA l[k].a zA
    case neg =>
      have e := no (LackOk now l[k]) (fun q => q6 (q.2.2.2 q4)) (·.each k hlt)
      simp only [↓zp, zz, true_and, and_true, chkOk, Nat.reduceEqDiff, Nat.reduceAdd, Nat.reduceSub, Nat.reduceMul, Nat.reduceLT, Nat.reduceLeDiff, Int.reduceLT, Int.reduceLE, Int.reduceEq, Int.reduceAdd, Int.reduceNeg, if_false, if_true, reduceIte, List.getElem?_cons_succ, List.getElem?_cons_zero, Option.getD_some, r_mv, r_pick, r_box, r_alloc, r_un, r_eqb, r_ext, r_mkf, r_cnv, r_st, r_nck, r_ix, r_iaa, takeN, List.cons_append, List.nil_append, VE.store, over, cellsAt, VE.part, Option.map_some, Option.bind_some, blkX, gEval, cond_true, cond_false, r_build, r_bsl, fill, VE.unOp, r_bin, List.drop_zero, List.drop_succ_cons, resOf, resVs, resV, List.length_cons, List.length_nil, reduceCtorEq, or_true, true_or, false_or, or_false, eq_self, exists_eq_left', Option.some.injEq, a1, a3, hbh, ln, hlt', ia, ld, hl0, hne, q2, q3, hz', wp, ia2, fa5, ld5, hle, q4, mb, zs, q6, ← e, frzI]
    simp only [↓zp, zz, true_and, and_true, chkOk, Nat.reduceEqDiff, Nat.reduceAdd, Nat.reduceSub, Nat.reduceMul, Nat.reduceLT, Nat.reduceLeDiff, Int.reduceLT, Int.reduceLE, Int.reduceEq, Int.reduceAdd, Int.reduceNeg, if_false, if_true, reduceIte, List.getElem?_cons_succ, List.getElem?_cons_zero, Option.getD_some, r_mv, r_pick, r_box, r_alloc, r_un, r_eqb, r_ext, r_mkf, r_cnv, r_st, r_nck, r_ix, r_iaa, takeN, List.cons_append, List.nil_append, VE.store, over, cellsAt, VE.part, Option.map_some, Option.bind_some, blkX, gEval, cond_true, cond_false, r_build, r_bsl, fill, VE.unOp, r_bin, List.drop_zero, List.drop_succ_cons, resOf, resVs, resV, List.length_cons, List.length_nil, reduceCtorEq, or_true, true_or, false_or, or_false, eq_self, exists_eq_left', Option.some.injEq, a1, a3, hbh, ln, hlt', ia, ld, hl0, hne, q2, q3, hz', wp, ia2, fa5, ld5, hle, q4, mb, zs, q6, ws]
    have fin := fin ⟨q2, q3, fun q => by (rw [q4] at q; cases q), fun _ => q6⟩ (fun j hj h => by (have : j = k - 1 := by omega); subst this; simpa only [e21] using hle)
    exact ⟨_, by omega, k + 1, by omega, rfl, by simp only [Slots.at_set, Nat.reduceEqDiff, if_false, if_true, reduceIte, argSlots_at, List.getElem?_cons_succ, List.getElem?_cons_zero, Option.getD_some, a1], by simp only [Slots.at_set, Nat.reduceEqDiff, if_false, if_true, reduceIte, argSlots_at, List.getElem?_cons_succ, List.getElem?_cons_zero, Option.getD_some], kp2, fin.1, fin.2⟩
end
end Go.VE.LB
