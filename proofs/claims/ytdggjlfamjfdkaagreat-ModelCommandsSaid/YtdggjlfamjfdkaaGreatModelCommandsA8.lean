/- What the functions of the law ModelCommands compute, on typed arguments (part 8). -/
import Derived.Test.YtdggjlfamjfdkaaGreatModelCommandsA6
set_option linter.all false
namespace Go.VE.LB
section
open Go Go.VE
set_option maxRecDepth 100000
set_option linter.all false
set_option maxHeartbeats 4000000
def mT (sd ep : List Int) (v : V) : List V := sd.map (V.int .u8) ++ (ep.map (V.int .u32) ++ [v])
theorem encM_T (now : Int) (sd ep : List Int) (v : V) : encM now sd ep v = .int .u64 now :: mT sd ep v := rfl
def z49 : List V := [.int .u8 0, .int .u8 0, .int .u8 0, .int .u8 0, .int .u8 0, .int .u8 0, .int .u8 0, .int .u8 0, .int .u8 0, .int .u8 0, .int .u8 0, .int .u8 0, .int .u8 0, .int .u8 0, .int .u8 0, .int .u8 0, .int .u8 0, .int .u8 0, .int .u8 0, .int .u8 0, .int .u8 0, .int .u8 0, .int .u8 0, .int .u8 0, .int .u8 0, .int .u8 0, .int .u8 0, .int .u8 0, .int .u8 0, .int .u8 0, .int .u8 0, .int .u8 0, .int .u32 0, .int .u32 0, .int .u32 0, .int .u32 0, .int .u32 0, .int .u32 0, .int .u32 0, .int .u32 0, .int .u32 0, .int .u32 0, .int .u32 0, .int .u32 0, .int .u32 0, .int .u32 0, .int .u32 0, .int .u32 0, .nils]
structure MW (sd ep : List Int) : Prop where
 sd : sd.length = 32
 ep : ep.length = 16
section
variable {sd ep : List Int} {v : V} (w : MW sd ep)
include w
theorem MW.len : (mT sd ep v).length = 49 := by simp [mT, w.sd, w.ep]
theorem MW.d48 : (mT sd ep v).drop 48 = [v] := M49 (now := 0) w.sd w.ep
theorem MW.d32 : (mT sd ep v).drop 32 = ep.map (V.int .u32) ++ [v] := M33 (now := 0) w.sd
theorem MW.tk : takeN 49 (mT sd ep v) = some (mT sd ep v) := by
 have := takeN_all (mT sd ep v)
 rwa [w.len] at this
theorem MW.one (hv : oneCell v = true) : (mT sd ep v).all oneCell = true := by
 simp only [mT, List.all_append, List.all_map, List.all_cons, List.all_nil, hv, Bool.and_true, Bool.and_eq_true]
 exact ⟨List.all_eq_true.2 fun _ _ => rfl, List.all_eq_true.2 fun _ _ => rfl⟩
theorem MW.ov (hv : oneCell v = true) : over 0 [.int .u8 0, .int .u8 0, .int .u8 0, .int .u8 0, .int .u8 0, .int .u8 0, .int .u8 0, .int .u8 0, .int .u8 0, .int .u8 0, .int .u8 0, .int .u8 0, .int .u8 0, .int .u8 0, .int .u8 0, .int .u8 0, .int .u8 0, .int .u8 0, .int .u8 0, .int .u8 0, .int .u8 0, .int .u8 0, .int .u8 0, .int .u8 0, .int .u8 0, .int .u8 0, .int .u8 0, .int .u8 0, .int .u8 0, .int .u8 0, .int .u8 0, .int .u8 0, .int .u32 0, .int .u32 0, .int .u32 0, .int .u32 0, .int .u32 0, .int .u32 0, .int .u32 0, .int .u32 0, .int .u32 0, .int .u32 0, .int .u32 0, .int .u32 0, .int .u32 0, .int .u32 0, .int .u32 0, .int .u32 0, .nils] (mT sd ep v) = some (mT sd ep v) := over_all (by rw [w.len]; rfl) (w.one hv)
theorem MW.st {v' : V} (hv : oneCell v' = true) : over 48 (mT sd ep v) [v'] = some (mT sd ep v') := by
 have := over_mid (sd.map (V.int .u8) ++ ep.map (V.int .u32)) [v'] [v] [] rfl (by simp [hv])
 simp only [List.length_append, List.length_map, w.sd, w.ep, List.append_nil, List.append_assoc] at this
 exact this
theorem MW.dk {now : Int} {k : Nat} (hk : k < 16) : (V.int .u64 now :: mT sd ep v).drop (33 + k * 1) = .int .u32 (ep[k]'(by rw [w.ep]; exact hk)) :: ((ep.drop (k + 1)).map (V.int .u32) ++ [v]) := Mk (now := now) w.sd (by rw [w.ep]; exact hk)
theorem MW.stk {now x : Int} {k : Nat} (hk : k < 16) : over (33 + k * 1) (V.int .u64 now :: mT sd ep v) [.int .u32 x] = some (V.int .u64 now :: mT sd (ep.set k x) v) := by
 have hk' : k < ep.length := by rw [w.ep]; exact hk
 have e1 : ep = ep.take k ++ ep[k] :: ep.drop (k + 1) := by
  conv => lhs; rw [← List.take_append_drop k ep, List.drop_eq_getElem_cons hk']
 have e2 : ep.set k x = ep.take k ++ x :: ep.drop (k + 1) := by rw [List.set_eq_take_append_cons_drop, if_pos hk']
 have := over_mid (V.int .u64 now :: (sd.map (V.int .u8) ++ (ep.take k).map (V.int .u32))) [.int .u32 x] [.int .u32 ep[k]] ((ep.drop (k + 1)).map (V.int .u32) ++ [v]) rfl rfl
 have hl : (V.int .u64 now :: (sd.map (V.int .u8) ++ (ep.take k).map (V.int .u32))).length = 33 + k * 1 := by
  simp only [List.length_cons, List.length_append, List.length_map, w.sd, List.length_take]
  omega
 rw [hl] at this
 unfold mT
 rw [e2]
 conv => lhs; rw [e1]
 simp only [List.map_append, List.map_cons, List.append_assoc, List.cons_append, List.nil_append] at this ⊢
 exact this
theorem MW.set {k : Nat} {x : Int} : MW sd (ep.set k x) := ⟨w.sd, by rw [List.length_set]; exact w.ep⟩
end
theorem Own.mono {α : Type} {enc : α → List V} {sz : Nat} {h : Heap} {v : V} {l : List α} {lo hi lo' hi' : Nat} (o : Own enc sz h v l lo hi) (h1 : lo' ≤ lo) (h2 : hi ≤ hi') : Own enc sz h v l lo' hi' := by
 rcases o with o | ⟨b, tag, e, q1, q2, q3⟩
 ·exact .inl o
 ·exact .inr ⟨b, tag, e, by omega, by omega, q3⟩
section
variable {vp : Nat → Option VFn}
theorem mcloneO_spec {f c1 c2 t1 : Nat} (hf : vp f = some (B_model_clone_v2 c1 c2 t1)) (h1 : vp c1 = some B_slices_Clone_api_Held_v2) (h2 : vp c2 = some B_slices_Clone_uint32_v2) (a : Acct) (h : Heap) (hu : a.users.l.length ≤ 100000) (he : a.ends.l.length ≤ 100000) (hr : a.rev.l.length ≤ 100000) (hl : h.lo ≤ h.nx) :
  ∃ v h', callRes vp f [.agg (encA a)] h = some (v, h') ∧ ∃ u e r n0 n1 n2 n3, v = .agg (encS a u e r a.own a.n0 a.n1 a.n2) ∧ Own encH 7 h' u a.users.l n0 n1 ∧ Own encH 7 h' e a.ends.l n1 n2 ∧ Own e32 1 h' r a.rev.l n2 n3 ∧ h.nx ≤ n0 ∧ n0 ≤ n1 ∧ n1 ≤ n2 ∧ n2 ≤ n3 ∧ n3 ≤ h'.nx ∧ Kp h h' := by
 have main : ∀ h : Heap, h.lo ≤ h.nx → wp vp (B_model_clone_v2 c1 c2 t1).body (argSlots [.agg (encA a)]) h (fun x s' h' => (x = .norm ∨ x = .ret) ∧ ∃ v, resOf s' h' (B_model_clone_v2 c1 c2 t1).res = some v ∧ ∃ u e r n0 n1 n2 n3, v = .agg (encS a u e r a.own a.n0 a.n1 a.n2) ∧ Own encH 7 h' u a.users.l n0 n1 ∧ Own encH 7 h' e a.ends.l n1 n2 ∧ Own e32 1 h' r a.rev.l n2 n3 ∧ h.nx ≤ n0 ∧ n0 ≤ n1 ∧ n1 ≤ n2 ∧ n2 ≤ n3 ∧ n3 ≤ h'.nx ∧ Kp h h') := by
  intro h hl
  have m1 : modeOf vp c1 = some 2 := by simp [modeOf, h1, B_slices_Clone_api_Held_v2]
  have m2 : modeOf vp c2 = some 2 := by simp [modeOf, h2, B_slices_Clone_uint32_v2]
  have l0 : ¬ (h.nx < h.lo) := by omega
  have l1 : ¬ (h.nx + 1 < h.lo) := by omega
  have K0 : Kp h ((h.new (.cells (encA a) .cl)).new (.cells [.int .u32 0, .int .i64 0, .int .i64 0, .int .i64 0, .int .i64 0, .int .i64 0, .int .i64 0, .int .i64 0, .int .i64 0, .int .i64 0, .int .i64 0, .int .i64 0, .int .i64 0, .int .i64 0, .int .i64 0, .int .i64 0, .int .i64 0, .int .u64 0, .nils, .nils, .nils, .int .u64 0, .int .u64 0, .int .u64 0] (.ct t1))) := ((Kp.refl h).new _).new _
  have g0 : ((h.new (.cells (encA a) .cl)).new (.cells [.int .u32 0, .int .i64 0, .int .i64 0, .int .i64 0, .int .i64 0, .int .i64 0, .int .i64 0, .int .i64 0, .int .i64 0, .int .i64 0, .int .i64 0, .int .i64 0, .int .i64 0, .int .i64 0, .int .i64 0, .int .i64 0, .int .i64 0, .int .u64 0, .nils, .nils, .nils, .int .u64 0, .int .u64 0, .int .u64 0] (.ct t1))).get h.nx = .cells (encA a) .cl := by simp only [↓zp, zz, zy, chkOk, Nat.reduceEqDiff, Nat.reduceAdd, Nat.reduceSub, Nat.reduceMul, Nat.reduceLT, Nat.reduceLeDiff, Int.reduceLT, Int.reduceLE, Int.reduceEq, Int.reduceAdd, Int.reduceNeg, reduceIte, r_st, r_nck, r_ix, r_iaa, takeN, VE.store, over, cellsAt, VE.part, blkX, gEval, fill, VE.unOp, resVs, resV, reduceCtorEq]
  have g0' : ((h.new (.cells (encA a) .cl)).new (.cells [.int .u32 0, .int .i64 0, .int .i64 0, .int .i64 0, .int .i64 0, .int .i64 0, .int .i64 0, .int .i64 0, .int .i64 0, .int .i64 0, .int .i64 0, .int .i64 0, .int .i64 0, .int .i64 0, .int .i64 0, .int .i64 0, .int .i64 0, .int .u64 0, .nils, .nils, .nils, .int .u64 0, .int .u64 0, .int .u64 0] (.ct t1))).get (h.nx + 1) = .cells [.int .u32 0, .int .i64 0, .int .i64 0, .int .i64 0, .int .i64 0, .int .i64 0, .int .i64 0, .int .i64 0, .int .i64 0, .int .i64 0, .int .i64 0, .int .i64 0, .int .i64 0, .int .i64 0, .int .i64 0, .int .i64 0, .int .i64 0, .int .u64 0, .nils, .nils, .nils, .int .u64 0, .int .u64 0, .int .u64 0] (.ct t1) := by simp only [↓zp, zz, zy, chkOk, Nat.reduceEqDiff, Nat.reduceAdd, Nat.reduceSub, Nat.reduceMul, Nat.reduceLT, Nat.reduceLeDiff, Int.reduceLT, Int.reduceLE, Int.reduceEq, Int.reduceAdd, Int.reduceNeg, reduceIte, r_st, r_nck, r_ix, r_iaa, takeN, VE.store, over, cellsAt, VE.part, blkX, gEval, fill, VE.unOp, resVs, resV, reduceCtorEq]
  have nx0 : ((h.new (.cells (encA a) .cl)).new (.cells [.int .u32 0, .int .i64 0, .int .i64 0, .int .i64 0, .int .i64 0, .int .i64 0, .int .i64 0, .int .i64 0, .int .i64 0, .int .i64 0, .int .i64 0, .int .i64 0, .int .i64 0, .int .i64 0, .int .i64 0, .int .i64 0, .int .i64 0, .int .u64 0, .nils, .nils, .nils, .int .u64 0, .int .u64 0, .int .u64 0] (.ct t1))).nx = h.nx + 2 := rfl
  unfold B_model_clone_v2
  unfold encA at *
  simp only [↓zp, zz, zy, chkOk, Nat.reduceEqDiff, Nat.reduceAdd, Nat.reduceSub, Nat.reduceMul, Nat.reduceLT, Nat.reduceLeDiff, Int.reduceLT, Int.reduceLE, Int.reduceEq, Int.reduceAdd, Int.reduceNeg, reduceIte, r_st, r_nck, r_ix, r_iaa, takeN, VE.store, over, cellsAt, VE.part, blkX, gEval, fill, VE.unOp, resVs, resV, reduceCtorEq, m1]
  generalize Heap.new _ _ = H0 at *
  obtain ⟨u, H1, cu, ou, K1⟩ := cloneHo_spec h1 a.users H0 hu (by rw [K0.lo]; omega)
  obtain ⟨e, H2, ce, oe, K2⟩ := cloneHo_spec h1 a.ends H1 he (by rw [K1.lo, K0.lo]; have := K1.nx; omega)
  obtain ⟨r, H3, cr, or', K3⟩ := cloneU_spec h2 a.rev H2 hr (by rw [K2.lo, K1.lo, K0.lo]; have := K1.nx; have := K2.nx; omega)
  have a1 := K1.nx
  have a2 := K2.nx
  have a3 := K3.nx
  have g1 : H1.get h.nx = _ := (K1.get h.nx (by omega)).trans g0
  have g2 : H2.get h.nx = _ := (K2.get h.nx (by omega)).trans g1
  have g3 : H3.get h.nx = _ := (K3.get h.nx (by omega)).trans g2
  have g3' : H3.get (h.nx + 1) = _ := (K3.get _ (by omega)).trans ((K2.get _ (by omega)).trans ((K1.get _ (by omega)).trans g0'))
  have lo3 : H3.lo = h.lo := by rw [K3.lo, K2.lo, K1.lo, K0.lo]
  have u1 := ou.one
  have e1 := oe.one
  have r1 := or'.one
  simp only [↓zp, zz, zy, chkOk, Nat.reduceEqDiff, Nat.reduceAdd, Nat.reduceSub, Nat.reduceMul, Nat.reduceLT, Nat.reduceLeDiff, Int.reduceLT, Int.reduceLE, Int.reduceEq, Int.reduceAdd, Int.reduceNeg, reduceIte, r_st, r_nck, r_ix, r_iaa, takeN, VE.store, over, cellsAt, VE.part, blkX, gEval, fill, VE.unOp, resVs, resV, reduceCtorEq, g0, cu, m1, g1, ce, m2, g2, cr, g3, g3', lo3, l0, l1, u1.1, u1.2, e1.1, e1.2, r1.1, r1.2]
  have kk : Kp h H3 := K0.trans (K1.trans (K2.trans K3))
  refine ⟨u, e, r, H0.nx, H1.nx, H2.nx, H3.nx, rfl, ?_, ?_, ?_, by omega, by omega, by omega, by omega, Nat.le_refl _, (((kk.set _ (Nat.le_refl _)).set _ (Nat.le_refl _)).set _ (Nat.le_refl _)).set _ (by omega)⟩
  ·exact ou.keep (fun b h1 h2 => by
    simp only [Heap.get_set]
    rw [if_neg (by omega), if_neg (by omega), if_neg (by omega), if_neg (by omega), K3.get b (by omega), K2.get b (by omega)])
  ·exact oe.keep (fun b h1 h2 => by
    simp only [Heap.get_set]
    rw [if_neg (by omega), if_neg (by omega), if_neg (by omega), if_neg (by omega), K3.get b (by omega)])
  ·exact or'.keep (fun b h1 h2 => by
    simp only [Heap.get_set]
    rw [if_neg (by omega), if_neg (by omega), if_neg (by omega), if_neg (by omega)])
 refine res_own hf rfl rfl ?_
 refine wp_mono (fun x s' h' k => ?_) (main { h with lo := h.nx } (Nat.le_refl _))
 obtain ⟨hx, v, hv, u, e, r, n0, n1, n2, n3, q1, q2, q3, q4, q5, q6, q7, q8, q9, kp⟩ := k
 exact ⟨hx, v, hv, u, e, r, n0, n1, n2, n3, q1, q2, q3, q4, q5, q6, q7, q8, q9, rfl, kp.nx, kp.get⟩
end
end
end Go.VE.LB
