/- What the functions of the law ModelCommands compute, on typed arguments (part 9). -/
import Derived.Test.YtdggjlfamjfdkaaGreatModelCommandsA8
set_option linter.all false
namespace Go.VE.LB
section
open Go Go.VE
set_option maxRecDepth 100000
set_option linter.all false
set_option maxHeartbeats 4000000
section
variable {vp : Nat → Option VFn}
def rwOf (a : Acct) : Rw := ⟨a, a.users.v encH, a.ends.v encH, a.rev.v e32, ⟨oneCell_v, cellsO_v⟩, ⟨oneCell_v, cellsO_v⟩, ⟨oneCell_v, cellsO_v⟩⟩
theorem rwOf_enc (a : Acct) : encW (rwOf a) = encA a := rfl
theorem rwOf_flat (l : List Acct) : (l.map rwOf).flatMap encW = l.flatMap encA := by
 induction l with
 | nil => rfl
 | cons a l ih => rw [List.map_cons, List.flatMap_cons, List.flatMap_cons, ih, rwOf_enc]
def AccM (h : Heap) (v : V) (L : List Rw) (bA cap : Nat) (rest : List V) (tag : Tag) : Prop :=
 (v = .nils ∧ L = []) ∨ (v = .sl bA 0 L.length cap 24 ∧ L.length ≤ cap ∧ h.get bA = .cells (L.flatMap encW ++ rest) tag)
theorem AccM.one {h : Heap} {v : V} {L : List Rw} {bA cap : Nat} {rest : List V} {tag : Tag} (a : AccM h v L bA cap rest tag) : oneCell v = true ∧ cellsO v = some [v] := by
 rcases a with ⟨rfl, _⟩ | ⟨rfl, _⟩ <;> exact ⟨rfl, rfl⟩
theorem AccM.len {h : Heap} {v : V} {L : List Rw} {bA cap : Nat} {rest : List V} {tag : Tag} (a : AccM h v L bA cap rest tag) (g : Heap) : r_len v g = some (.int .i64 (L.length : Int), g) := by
 rcases a with ⟨rfl, rfl⟩ | ⟨rfl, _⟩ <;> rfl
theorem AccM.keep {h h' : Heap} {v : V} {L : List Rw} {bA cap : Nat} {rest : List V} {tag : Tag} (a : AccM h v L bA cap rest tag) (k : h'.get bA = h.get bA) : AccM h' v L bA cap rest tag := by
 rcases a with a | ⟨q1, q2, q3⟩
 ·exact .inl a
 ·exact .inr ⟨q1, q2, by rw [k, q3]⟩
def CloA (l : List Acct) (h : Heap) (v : V) (h' : Heap) : Prop := ∃ bA tag, AccM h' v (l.map rwOf) bA l.length [] tag ∧ h.nx ≤ bA ∧ (v = .nils ∨ bA < h'.nx) ∧ Kp h h'
theorem cloneA_spec {f : Nat} (hf : vp f = some B_slices_Clone_api_Account) (c : Sl Acct) (h : Heap) (hn : c.l.length ≤ 100000) (hlo : h.lo ≤ h.nx) :
  ∃ v h', callRes vp f [c.v encA] h = some (v, h') ∧ CloA c.l h v h' := by
 refine res_own hf rfl rfl ?_
 unfold B_slices_Clone_api_Account
 cases c with
 | nil =>
  simp only [↓zp, zz, zy, chkOk, Nat.reduceEqDiff, Nat.reduceAdd, Nat.reduceSub, Nat.reduceMul, Nat.reduceLT, Nat.reduceLeDiff, Int.reduceLT, Int.reduceLE, Int.reduceEq, Int.reduceAdd, Int.reduceNeg, reduceIte, r_st, r_nck, r_ix, r_iaa, takeN, VE.store, over, cellsAt, VE.part, blkX, gEval, fill, VE.unOp, resVs, resV, reduceCtorEq, Sl.v, eqn_nils, exists_eq_left']
  exact ⟨h.nx, .cl, .inl ⟨rfl, rfl⟩, Nat.le_refl _, .inl rfl, .refl h⟩
 | mk l cap =>
  by_cases hl : l = []
  ·subst hl
   simp only [↓zp, zz, zy, chkOk, Nat.reduceEqDiff, Nat.reduceAdd, Nat.reduceSub, Nat.reduceMul, Nat.reduceLT, Nat.reduceLeDiff, Int.reduceLT, Int.reduceLE, Int.reduceEq, Int.reduceAdd, Int.reduceNeg, reduceIte, r_st, r_nck, r_ix, r_iaa, takeN, VE.store, over, cellsAt, VE.part, blkX, gEval, fill, VE.unOp, resVs, resV, reduceCtorEq, Sl.v, eqn_isl, app_own0, List.flatMap_nil]
   refine ⟨h.nx, .cl, .inr ⟨rfl, Nat.le_refl _, ?_⟩, Nat.le_refl _, .inr (by simp [Heap.new]), rfl, by simp [Heap.new], fun b hb => ?_⟩
   ·show ((Heap.new { h with lo := h.nx } _).get _) = _
    rw [Heap.get_new]
    exact if_pos rfl
   ·show ((Heap.new { h with lo := h.nx } _).get _) = _
    rw [Heap.get_new, if_neg (by show ¬ b = h.nx; omega)]
    rfl
  ·have hn : l.length ≤ 100000 := hn
   have ap : ∀ h : Heap, ∀ b, h.get b = .cells [] .cl → _ := fun h b hb => app_own (bytes := 240) encA_len (b := b) (h := h) (l := l) (cap := cap) hb (by omega) hl
   have ap2 := ap (Heap.new { h with lo := h.nx } (.cells [] .cl)) h.nx (by rw [Heap.get_new, if_pos rfl])
   simp only [↓zp, zz, zy, chkOk, Nat.reduceEqDiff, Nat.reduceAdd, Nat.reduceSub, Nat.reduceMul, Nat.reduceLT, Nat.reduceLeDiff, Int.reduceLT, Int.reduceLE, Int.reduceEq, Int.reduceAdd, Int.reduceNeg, reduceIte, r_st, r_nck, r_ix, r_iaa, takeN, VE.store, over, cellsAt, VE.part, blkX, gEval, fill, VE.unOp, resVs, resV, reduceCtorEq, Sl.v, eqn_isl, ap2]
   refine ⟨h.nx + 1, .op, .inr ⟨by rw [List.length_map]; rfl, by rw [List.length_map]; exact Nat.le_refl _, ?_⟩, by show h.nx ≤ h.nx + 1; omega, .inr (by simp [Heap.new]), rfl, by simp [Heap.new], fun b hb => ?_⟩
   ·show ((Heap.new (Heap.new { h with lo := h.nx } _) _).get _) = _
    rw [Heap.get_new, List.append_nil]
    show (if h.nx + 1 = h.nx + 1 then _ else _) = _
    rw [if_pos rfl]
    show _ = Blk.cells ((l.map rwOf).flatMap encW) .op
    rw [rwOf_flat]
   ·show ((Heap.new (Heap.new { h with lo := h.nx } _) _).get _) = _
    rw [Heap.get_new, if_neg (by show ¬ b = h.nx + 1; omega), Heap.get_new, if_neg (by show ¬ b = h.nx; omega)]
    rfl
def RowI (h : Heap) (w : Rw) (lo hi : Nat) : Prop := ∃ n1 n2, lo ≤ n1 ∧ n1 ≤ n2 ∧ n2 ≤ hi ∧ Own encH 7 h w.u w.a.users.l lo n1 ∧ Own encH 7 h w.e w.a.ends.l n1 n2 ∧ Own e32 1 h w.r w.a.rev.l n2 hi
theorem RowI.keep {h h' : Heap} {w : Rw} {lo hi : Nat} (r : RowI h w lo hi) (k : ∀ b, lo ≤ b → b < hi → h'.get b = h.get b) : RowI h' w lo hi := by
 obtain ⟨n1, n2, a1, a2, a3, o1, o2, o3⟩ := r
 exact ⟨n1, n2, a1, a2, a3, o1.keep fun b h1 h2 => k b (by omega) (by omega), o2.keep fun b h1 h2 => k b (by omega) (by omega), o3.keep fun b h1 h2 => k b (by omega) (by omega)⟩
structure CopP (l : List Acct) (now : Int) (sd ep : List Int) (h : Heap) (r : V) (h' : Heap) : Prop where
 ex : ∃ v W bA tag, ∃ N : Nat → Nat, r = .agg (encM now sd ep v) ∧ AccM h' v W bA l.length [] tag ∧ W.map (·.a) = l ∧ (∀ k (hk : k < W.length), RowI h' W[k] (N k) (N (k + 1))) ∧ (∀ k, N k ≤ N (k + 1)) ∧ h.nx ≤ bA ∧ bA < N 0 ∧ N l.length ≤ h'.nx
 kp : Kp h h'
def invCp (v : V) (l : List Acct) (bm bA : Nat) (tag : Tag) (C : List V) (H : Heap) (m : Nat) (s : Slots) (h : Heap) : Prop :=
 ∃ k, k ≤ l.length ∧ m = l.length - k ∧ s.at 1 = .ptr bm 0 ∧ s.at 2 = .ptr (bm + 1) 0 ∧ s.at 10 = v ∧ s.at 11 = .int .i64 (l.length : Int) ∧ s.at 12 = .int .i64 (k : Int) ∧ ∃ W : List Rw, ∃ N : Nat → Nat, W.map (·.a) = l ∧ (∀ j (hj : j < W.length), j < k → RowI h W[j] (N j) (N (j + 1))) ∧ (∀ j (hj : j < W.length), k ≤ j → W[j] = rwOf W[j].a) ∧ (∀ k, N k ≤ N (k + 1)) ∧ bA < N 0 ∧ N k ≤ h.nx ∧
  h.get bA = .cells (W.flatMap encW) tag ∧ (∀ c, c < H.nx → c ≠ bA → h.get c = H.get c) ∧ h.lo = H.lo ∧ H.nx ≤ h.nx
end
end
section
open Go Go.VE
set_option maxRecDepth 100000
set_option linter.all false
set_option maxHeartbeats 4000000
theorem mono_le {N : Nat → Nat} (h : ∀ k, N k ≤ N (k + 1)) : ∀ {i j : Nat}, i ≤ j → N i ≤ N j := by
 intro i j hij
 induction hij with
 | refl => exact Nat.le_refl _
 | step _ ih => exact Nat.le_trans ih (h _)
section
variable {vp : Nat → Option VFn}
theorem copied_spec {f c1 c2 d1 d2 t1 t2 t3 : Nat} (hf : vp f = some (B_model_copied c1 c2 t1 t2)) (h1 : vp c1 = some B_slices_Clone_api_Account) (h2 : vp c2 = some (B_model_clone_v2 d1 d2 t3)) (g1 : vp d1 = some B_slices_Clone_api_Held_v2) (g2 : vp d2 = some B_slices_Clone_uint32_v2)
  (now : Int) (sd ep : List Int) (w : MW sd ep) (c : Sl Acct) (hn : c.l.length ≤ 100000) (hs : ∀ a ∈ c.l, a.users.l.length ≤ 100000 ∧ a.ends.l.length ≤ 100000 ∧ a.rev.l.length ≤ 100000) (h : Heap) (hl : h.lo ≤ h.nx) :
  ∃ r h', callRes vp f [.agg (encM now sd ep (c.v encA))] h = some (r, h') ∧ CopP c.l now sd ep h r h' := by
 have m1 : modeOf vp c1 = some 2 := by simp [modeOf, h1, B_slices_Clone_api_Account]
 have m2 : modeOf vp c2 = some 2 := by simp [modeOf, h2, B_model_clone_v2]
 refine res_raw hf rfl rfl ?_
 have l0 : ¬ h.nx < h.lo := by omega
 have l1 : ¬ h.nx + 1 < h.lo := by omega
 simp only [encM_T]
 obtain ⟨v0, hv0⟩ : ∃ v0, c.v encA = v0 := ⟨_, rfl⟩
 have v0o : oneCell v0 = true := by rw [← hv0]; exact oneCell_v
 have lM := w.len (v := v0)
 have d48 := w.d48 (v := v0)
 obtain ⟨H2, hH2⟩ : ∃ H, (h.new (.cells (.int .u64 now :: mT sd ep v0) .cl)).new (.cells (.int .u64 0 :: z49) (.ct t1)) = H := ⟨_, rfl⟩
 have kp2 : Kp h H2 := by rw [← hH2]; exact ((Kp.refl h).new _).new _
 have nx2 : H2.nx = h.nx + 2 := by rw [← hH2]; rfl
 have ga : H2.get h.nx = .cells (.int .u64 now :: mT sd ep v0) .cl := by rw [← hH2]; simp only [↓zp, zz, zy, chkOk, Nat.reduceEqDiff, Nat.reduceAdd, Nat.reduceSub, Nat.reduceMul, Nat.reduceLT, Nat.reduceLeDiff, Int.reduceLT, Int.reduceLE, Int.reduceEq, Int.reduceAdd, Int.reduceNeg, reduceIte, r_st, r_nck, r_ix, r_iaa, takeN, VE.store, over, cellsAt, VE.part, blkX, gEval, fill, VE.unOp, resVs, resV, reduceCtorEq]
 have gb : H2.get (h.nx + 1) = .cells (.int .u64 0 :: z49) (.ct t1) := by rw [← hH2]; simp only [↓zp, zz, zy, chkOk, Nat.reduceEqDiff, Nat.reduceAdd, Nat.reduceSub, Nat.reduceMul, Nat.reduceLT, Nat.reduceLeDiff, Int.reduceLT, Int.reduceLE, Int.reduceEq, Int.reduceAdd, Int.reduceNeg, reduceIte, r_st, r_nck, r_ix, r_iaa, takeN, VE.store, over, cellsAt, VE.part, blkX, gEval, fill, VE.unOp, resVs, resV, reduceCtorEq]
 obtain ⟨av, H3, ca, bA, tag, aM, bA1, bA2, kp3⟩ := cloneA_spec h1 c H2 hn (by rw [kp2.lo, nx2]; omega)
 rw [hv0] at ca ⊢
 have nx3 := kp3.nx
 have ga3 := (kp3.get h.nx (by omega)).trans ga
 have gb3 := (kp3.get (h.nx + 1) (by omega)).trans gb
 have lo3 : H3.lo = h.lo := kp3.lo.trans kp2.lo
 have ao := aM.one
 have stv := w.st (v := v0) ao.1
 obtain ⟨H4, hH4⟩ : ∃ H, H3.set h.nx (.cells (.int .u64 now :: mT sd ep av) .cl) = H := ⟨_, rfl⟩
 have ga4 : H4.get h.nx = .cells (.int .u64 now :: mT sd ep av) .cl := by rw [← hH4, Heap.get_set, if_pos rfl]
 have gk4 : ∀ c, c ≠ h.nx → H4.get c = H3.get c := fun c hc => by rw [← hH4, Heap.get_set, if_neg hc]
 have gb4 := (gk4 (h.nx + 1) (by omega)).trans gb3
 have nx4 : H4.nx = H3.nx := by rw [← hH4]; rfl
 have lo4 : H4.lo = h.lo := by rw [← hH4]; exact lo3
 have aM4 : AccM H4 av (c.l.map rwOf) bA c.l.length [] tag := aM.keep (gk4 bA (by omega))
 have d48a := w.d48 (v := av)
 have ln := fun g => aM4.len g
 rw [List.length_map] at ln
 unfold B_model_copied
 simp only [z49] at hH2 gb gb3 gb4
 simp only [↓zp, zz, zy, chkOk, Nat.reduceEqDiff, Nat.reduceAdd, Nat.reduceSub, Nat.reduceMul, Nat.reduceLT, Nat.reduceLeDiff, Int.reduceLT, Int.reduceLE, Int.reduceEq, Int.reduceAdd, Int.reduceNeg, reduceIte, r_st, r_nck, r_ix, r_iaa, takeN, VE.store, over, cellsAt, VE.part, blkX, gEval, fill, VE.unOp, resVs, resV, reduceCtorEq, lM, hH2, ga, d48, m1, ca, ga3, lo3, l0, ao.1, ao.2, stv, hH4, ga4, d48a, ln]
 generalize hS : Tr.set _ 12 _ = S
 have b1 : Slots.at S 1 = .ptr h.nx 0 := by rw [← hS]; simp only [zs, Nat.reduceEqDiff]
 have b2 : Slots.at S 2 = .ptr (h.nx + 1) 0 := by rw [← hS]; simp only [zs, Nat.reduceEqDiff]
 have b10 : Slots.at S 10 = av := by rw [← hS]; simp only [zs, Nat.reduceEqDiff]
 have b11 : Slots.at S 11 = .int .i64 (c.l.length : Int) := by rw [← hS]; simp only [zs, Nat.reduceEqDiff]
 have b12 : Slots.at S 12 = .int .i64 ((0 : Nat) : Int) := by rw [← hS]; simp only [zs, Nat.reduceEqDiff]; rfl
 clear hS
 have endp : ∀ (bA : Nat) (h' : Heap) (W : List Rw) (N : Nat → Nat), h.nx ≤ bA → AccM (h'.set (h.nx + 1) (.cells (.int .u64 now :: mT sd ep av) (.ct t1))) av W bA c.l.length [] tag → W.map (·.a) = c.l → (∀ k (hk : k < W.length), RowI h' W[k] (N k) (N (k + 1))) → (∀ k, N k ≤ N (k + 1)) → bA < N 0 → h.nx + 2 ≤ N 0 → N c.l.length ≤ h'.nx → (∀ c, c < H4.nx → h.nx + 2 ≤ c ∨ c < h.nx → c ≠ bA → h'.get c = H4.get c) → h'.lo = H4.lo → H4.nx ≤ h'.nx →
   CopP c.l now sd ep h (.agg (.int .u64 now :: mT sd ep av)) (h'.set (h.nx + 1) (.cells (.int .u64 now :: mT sd ep av) (.ct t1))) := by
  intro bA h' W N q0 q1 q2 q3 q4 q5 q5' q6 q7 q8 q9
  refine ⟨⟨av, W, bA, tag, N, rfl, q1, q2, fun k hk => (q3 k hk).keep fun b hb hb2 => ?_, q4, q0, q5, q6⟩, q8.trans lo4, by show h.nx ≤ h'.nx; omega, fun b hb => ?_⟩
  ·have := mono_le q4 (Nat.zero_le k)
   rw [Heap.get_set, if_neg (by omega)]
  ·rw [Heap.get_set, if_neg (by omega), q7 b (by omega) (by omega) (by omega), gk4 b (by omega), kp3.get b (by omega), kp2.get b hb]
 rcases aM4 with ⟨rfl, hnil⟩ | ⟨rfl, hcap, gA⟩
 ·
  have hl0 : c.l = [] := by simpa using hnil
  refine w_loop1 ?_
  have z : ¬ (((0 : Nat) : Int) < (c.l.length : Int)) := by rw [hl0]; simp
  have tk := w.tk (v := .nils)
  have ov := w.ov (v := .nils) rfl
  have lM' := w.len (v := .nils)
  simp only [↓zp, zz, zy, chkOk, Nat.reduceEqDiff, Nat.reduceAdd, Nat.reduceSub, Nat.reduceMul, Nat.reduceLT, Nat.reduceLeDiff, Int.reduceLT, Int.reduceLE, Int.reduceEq, Int.reduceAdd, Int.reduceNeg, reduceIte, r_st, r_nck, r_ix, r_iaa, takeN, VE.store, over, cellsAt, VE.part, blkX, gEval, fill, VE.unOp, resVs, resV, reduceCtorEq, b1, b2, b10, b11, b12, z, ga4, gb4, tk, lM', lo4, l1, ov]
  exact endp (h.nx + 1) H4 [] (fun _ => h.nx + 2) (by omega) (.inl ⟨rfl, rfl⟩) hl0.symm (fun k hk => by simp at hk) (fun _ => Nat.le_refl _) (by omega) (by omega) (by omega) (fun _ _ _ _ => rfl) rfl (Nat.le_refl _)
 simp only [List.length_map] at *
 rw [List.append_nil] at gA
 have bA2 : bA < H3.nx := bA2.resolve_left (by intro q; cases q)
 refine loop_ind (fun m s h' => invCp (.sl bA 0 c.l.length c.l.length 24) c.l h.nx bA tag [] H4 m s h') ?_ c.l.length ⟨0, by omega, by omega, b1, b2, b10, b11, b12, c.l.map rwOf, fun _ => bA + 1, by simp [List.map_map, Function.comp_def, rwOf], fun j _ hj => by omega, fun j hj _ => by simp [rwOf], fun _ => Nat.le_refl _, by show bA < bA + 1; omega, by show bA + 1 ≤ H4.nx; omega, gA, fun _ _ _ => rfl, rfl, Nat.le_refl _⟩
 rintro m s h' ⟨k, hk, hm, c1', c2', c10, c11, c12, W, N, hW, hR, hO, hN, hN0, hNk, gW, gK, loh, nxh⟩
 have lW : W.length = c.l.length := by rw [← hW, List.length_map]
 by_cases hlt : k < c.l.length
 case neg =>
  have hlt' : ¬ ((k : Int) < (c.l.length : Int)) := by omega
  obtain rfl : k = c.l.length := by omega
  have tk := w.tk (v := .sl bA 0 c.l.length c.l.length 24)
  have ov := w.ov (v := .sl bA 0 c.l.length c.l.length 24) rfl
  have lM' := w.len (v := .sl bA 0 c.l.length c.l.length 24)
  have ga' := (gK h.nx (by omega) (by omega)).trans ga4
  have gb' := (gK (h.nx + 1) (by omega) (by omega)).trans gb4
  have lo' : h'.lo = h.lo := loh.trans lo4
  simp only [↓zp, zz, zy, chkOk, Nat.reduceEqDiff, Nat.reduceAdd, Nat.reduceSub, Nat.reduceMul, Nat.reduceLT, Nat.reduceLeDiff, Int.reduceLT, Int.reduceLE, Int.reduceEq, Int.reduceAdd, Int.reduceNeg, reduceIte, r_st, r_nck, r_ix, r_iaa, takeN, VE.store, over, cellsAt, VE.part, blkX, gEval, fill, VE.unOp, resVs, resV, reduceCtorEq, c1', c2', c10, c11, c12, hlt', ga', gb', tk, lM', lo', l1, ov]
  refine endp bA h' W N (by omega) (.inr ⟨by rw [lW], by omega, ?_⟩) hW (fun k hk => hR k hk (by omega)) hN hN0 (by omega) hNk (fun c hc _ hcb => gK c hc hcb) loh nxh
  rw [Heap.get_set, if_neg (by omega), gW, List.append_nil]
 have hlt' : (k : Int) < (c.l.length : Int) := by omega
 have hkW : k < W.length := by omega
 have wa : W[k].a = c.l[k] := by
  have : (W.map (·.a))[k]'(by rw [List.length_map]; exact hkW) = c.l[k] := by simp only [hW]
  rwa [List.getElem_map] at this
 have wo : W[k] = rwOf c.l[k] := by rw [hO k hkW (Nat.le_refl _), wa]
 have ws := wr_succ (k := k) (by omega)
 obtain ⟨p, hp⟩ := mr_pt bA k 24
 have i1 := hp.ia (n := c.l.length) (cap := c.l.length) hlt
 have d1 := hp.ld encW_len (rest := []) (by rw [List.append_nil]; exact gW) hkW (j := 0) (n := 24) (by omega) (cs := encA c.l[k]) (by rw [wo]; rfl)
 have nl : ¬ h'.nx < h'.lo := by omega
 obtain ⟨h1', hh1⟩ : ∃ H, (h'.new (.cells [.int .u32 0, .int .i64 0, .int .i64 0, .int .i64 0, .int .i64 0, .int .i64 0, .int .i64 0, .int .i64 0, .int .i64 0, .int .i64 0, .int .i64 0, .int .i64 0, .int .i64 0, .int .i64 0, .int .i64 0, .int .i64 0, .int .i64 0, .int .u64 0, .nils, .nils, .nils, .int .u64 0, .int .u64 0, .int .u64 0] (.ct t2))).set h'.nx (.cells (encA c.l[k]) (.ct t2)) = H := ⟨_, rfl⟩
 have gh1 : ∀ c, c < h'.nx → h1'.get c = h'.get c := fun c hc => by rw [← hh1, Heap.get_set, if_neg (by omega), Heap.get_new, if_neg (by omega)]
 have gn1 : h1'.get h'.nx = .cells (encA c.l[k]) (.ct t2) := by rw [← hh1, Heap.get_set, if_pos rfl]
 have nx1 : h1'.nx = h'.nx + 1 := by rw [← hh1]; rfl
 have lo1 : h1'.lo = h'.lo := by rw [← hh1]; rfl
 have hsk := hs c.l[k] (List.getElem_mem hlt)
 obtain ⟨r, h2', cc, u, e, rr, n0, n1, n2, n3, rfl, o1, o2, o3, q0, q1, q2, q3, q4, kp⟩ := mcloneO_spec h2 g1 g2 c.l[k] h1' hsk.1 hsk.2.1 hsk.2.2 (by omega)
 obtain ⟨w', hw'⟩ : ∃ w' : Rw, w' = ⟨c.l[k], u, e, rr, o1.one, o2.one, o3.one⟩ := ⟨_, rfl⟩
 have ew : encS c.l[k] u e rr c.l[k].own c.l[k].n0 c.l[k].n1 c.l[k].n2 = encW w' := by rw [hw']; rfl
 have wa' : w'.a = c.l[k] := by rw [hw']
 rw [ew] at cc
 have kx := kp.nx
 have gA2 : h2'.get bA = .cells (W.flatMap encW ++ []) tag := by rw [kp.get bA (by omega), gh1 bA (by omega), gW, List.append_nil]
 have lo2 : h2'.lo = h.lo := by rw [kp.lo, lo1, loh, lo4]
 have st := hp.st encW_len gA2 hkW (by omega) (j := 0) (n := 24) (v := .agg (encW w')) w' rfl rfl (by omega) (by omega) (encW_one _) rfl
 rw [List.append_nil] at st
 have ga' := (gK h.nx (by omega) (by omega)).trans ga4
 have ga1 := (gh1 h.nx (by omega)).trans ga'
 have ld2 : r_ld (some 24) (.ptr h'.nx 0) h1' = some (.agg (encA c.l[k]), h1') := by
  simp only [r_ld, cellsAt, gn1, List.drop_zero, VE.part]
  rw [show (24 : Nat) = (encA c.l[k]).length from rfl, takeN_all]
  rfl
 have st2 : r_st 24 (.ptr h'.nx 0) (.agg (encA c.l[k])) (h'.new (.cells [.int .u32 0, .int .i64 0, .int .i64 0, .int .i64 0, .int .i64 0, .int .i64 0, .int .i64 0, .int .i64 0, .int .i64 0, .int .i64 0, .int .i64 0, .int .i64 0, .int .i64 0, .int .i64 0, .int .i64 0, .int .i64 0, .int .i64 0, .int .u64 0, .nils, .nils, .nils, .int .u64 0, .int .u64 0, .int .u64 0] (.ct t2))) = some (.tup [], h1') := by
  rw [← hh1]
  unfold encA
  simp only [↓zp, zz, zy, chkOk, Nat.reduceEqDiff, Nat.reduceAdd, Nat.reduceSub, Nat.reduceMul, Nat.reduceLT, Nat.reduceLeDiff, Int.reduceLT, Int.reduceLE, Int.reduceEq, Int.reduceAdd, Int.reduceNeg, reduceIte, r_st, r_nck, r_ix, r_iaa, takeN, VE.store, over, cellsAt, VE.part, blkX, gEval, fill, VE.unOp, resVs, resV, reduceCtorEq, nl]
 obtain ⟨pn, hpn⟩ : ∃ pn, V.ptr h'.nx 0 = pn := ⟨_, rfl⟩
 rw [hpn] at ld2 st2
 have m2' := m2
 simp only [↓zp, zz, zy, chkOk, Nat.reduceEqDiff, Nat.reduceAdd, Nat.reduceSub, Nat.reduceMul, Nat.reduceLT, Nat.reduceLeDiff, Int.reduceLT, Int.reduceLE, Int.reduceEq, Int.reduceAdd, Int.reduceNeg, reduceIte, r_st_p, r_nck_p, r_ix, r_iaa, takeN, VE.store, over, cellsAt, VE.part, blkX, gEval, fill, VE.unOp, resVs, resV, reduceCtorEq, c1', c2', c10, c11, c12, hlt', i1, d1, hpn, st2, ga1, d48a, ld2, m2', cc, st, ws]
 have gS : ∀ b, b ≠ bA → (h2'.set bA (.cells ((W.set k w').flatMap encW) tag)).get b = h2'.get b := fun b hb => by rw [Heap.get_set, if_neg hb]
 refine ⟨_, by omega, k + 1, by omega, rfl, by simp only [zs, Nat.reduceEqDiff, c1'], by simp only [zs, Nat.reduceEqDiff, c2'], by simp only [zs, Nat.reduceEqDiff, c10], by simp only [zs, Nat.reduceEqDiff, c11], by simp only [zs, Nat.reduceEqDiff], W.set k w', fun j => if j ≤ k then N j else n3, ?_, ?_, ?_, ?_, ?_, ?_, by rw [Heap.get_set, if_pos rfl], ?_, ?_, ?_⟩
 ·rw [← hW, List.map_set, wa']
  exact List.ext_getElem (by simp) (fun i h1 h2 => by
   by_cases q : k = i
   ·subst q; simp [wa]
   ·simp [List.getElem_set_ne q])
 ·intro j hj hjk
  rw [List.length_set] at hj
  rcases Nat.lt_or_ge j k with r | r
  ·rw [List.getElem_set_ne (by omega)]
   simp only [show j ≤ k by omega, show j + 1 ≤ k by omega, if_true]
   refine (hR j hj r).keep fun b hb hb2 => ?_
   have h3 := mono_le hN (show j + 1 ≤ k by omega)
   have h4 := mono_le hN (Nat.zero_le j)
   rw [gS b (by omega), kp.get b (by omega), gh1 b (by omega)]
  ·obtain rfl : j = k := by omega
   simp only [List.getElem_set_self, Nat.le_refl, if_true, show ¬ j + 1 ≤ j by omega, if_false]
   have h4 := mono_le hN (Nat.zero_le j)
   have hr : RowI h2' w' (N j) n3 := by
    rw [hw']
    exact ⟨n1, n2, by omega, by omega, by omega, o1.mono (by omega) (Nat.le_refl _), o2, o3⟩
   exact hr.keep fun b hb hb2 => gS b (by omega)
 ·intro j hj hjk
  rw [List.length_set] at hj
  rw [List.getElem_set_ne (by omega)]
  exact hO j hj (by omega)
 ·intro j
  have := hN j
  by_cases q : j ≤ k
  ·by_cases q2 : j + 1 ≤ k
   ·simp only [q, q2, if_true]; exact this
   ·simp only [q, q2, if_true, if_false]
    have : j = k := by omega
    subst this
    omega
  ·simp only [q, show ¬ j + 1 ≤ k by omega, if_false]
   exact Nat.le_refl _
 ·simp only [Nat.zero_le, if_true]; exact hN0
 ·simp only [show ¬ k + 1 ≤ k by omega, if_false]
  show n3 ≤ h2'.nx
  omega
 ·intro c hc hcb
  rw [gS c hcb, kp.get c (by omega), gh1 c (by omega), gK c hc hcb]
 ·exact kp.lo.trans (lo1.trans loh)
 ·show H4.nx ≤ h2'.nx
  omega
end
end
end Go.VE.LB
