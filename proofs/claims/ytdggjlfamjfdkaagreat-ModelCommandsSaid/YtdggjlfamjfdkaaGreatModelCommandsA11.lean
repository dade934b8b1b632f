/- What the functions of the law ModelCommands compute, on typed arguments (part 11). -/
import Derived.Test.YtdggjlfamjfdkaaGreatModelCommandsA10
set_option linter.all false
namespace Go.VE.LB
section
open Go Go.VE
set_option maxRecDepth 100000
set_option linter.all false
set_option maxHeartbeats 4000000
def insA (l : List Acct) (x : Acct) (p : Nat) : List Acct := l.take p ++ x :: l.drop p
inductive DoT (now : Int) (ep : List Int) (l : List Acct) (c : Cmd) : Int → List Int → List Acct → Prop
 | exists_ (k : Nat) (hk : k < l.length) (ht : l[k].t = c.t) (hop : c.op = 1) : DoT now ep l c 6 ep l
 | full (hno : ∀ a ∈ l, a.t ≠ c.t) (hop : c.op = 1) (hn : l.length = 8) : DoT now ep l c 5 ep l
 | create (hno : ∀ a ∈ l, a.t ≠ c.t) (hop : c.op = 1) (hn : l.length ≠ 8) (p : Nat) (hp : p ≤ l.length) (h1 : ∀ i (hi : i < l.length), i + 1 = p → l[i].t ≤ c.t) (h2 : ∀ i (hi : i < l.length), p ≤ i → c.t < l[i].t) : DoT now ep l c 4 ep (insA l (newA c now) p)
 | missing (hno : ∀ a ∈ l, a.t ≠ c.t) (hop : c.op ≠ 1) : DoT now ep l c 7 ep l
 | limits (k : Nat) (hk : k < l.length) (ht : l[k].t = c.t) (hop : c.op = 3) : DoT now ep l c 4 ep (l.set k (chgA l[k] c.l0 c.l1 c.l2 now))
 | again (k : Nat) (hk : k < l.length) (ht : l[k].t = c.t) (hop : c.op = 5) (hin : c.u ∈ l[k].rev.l) : DoT now ep l c 4 ep l
 | many (k : Nat) (hk : k < l.length) (ht : l[k].t = c.t) (hop : c.op = 5) (hin : c.u ∉ l[k].rev.l) (hn : l[k].rev.l.length = 8) : DoT now ep l c 5 ep l
 | revoke (k : Nat) (hk : k < l.length) (ht : l[k].t = c.t) (hop : c.op = 5) (hin : c.u ∉ l[k].rev.l) (hn : l[k].rev.l.length ≠ 8) (i : Nat) (hi : i ≤ l[k].rev.l.length) (h1 : ∀ j (hj : j < l[k].rev.l.length), j < i → l[k].rev.l[j] < c.u) (h2 : ∀ j (hj : j < l[k].rev.l.length), i ≤ j → c.u ≤ l[k].rev.l[j]) : DoT now ep l c 4 ep (l.set k { l[k] with rev := .mk (insI l[k].rev.l i c.u) none })
 | spent (k : Nat) (hk : k < l.length) (ht : l[k].t = c.t) (hop : c.op = 2 ∨ c.op = 4) (he : ep[c.t.toNat]? = some 1000000) : DoT now ep l c 8 ep l
 | rotate (k : Nat) (hk : k < l.length) (ht : l[k].t = c.t) (hop : c.op = 4) (e : Int) (he : ep[c.t.toNat]? = some e) (hne : e ≠ 1000000) : DoT now ep l c 4 (ep.set c.t.toNat (wr .u32 (e + 1))) (l.set k { l[k] with rev := .nil })
 | delete (k : Nat) (hk : k < l.length) (ht : l[k].t = c.t) (hop : c.op = 2) (e : Int) (he : ep[c.t.toNat]? = some e) (hne : e ≠ 1000000) : DoT now ep l c 4 (ep.set c.t.toNat (wr .u32 (e + 1))) (l.eraseIdx k)
def RowB (h : Heap) (w : Rw) (base : Nat) : Prop := Own encH 7 h w.u w.a.users.l base h.nx ∧ Own encH 7 h w.e w.a.ends.l base h.nx ∧ Own e32 1 h w.r w.a.rev.l base h.nx
theorem RowI.toB {h : Heap} {w : Rw} {lo hi base : Nat} (r : RowI h w lo hi) (h1 : base ≤ lo) (h2 : hi ≤ h.nx) : RowB h w base := by
 obtain ⟨n1, n2, a1, a2, a3, o1, o2, o3⟩ := r
 exact ⟨o1.mono (by omega) (by omega), o2.mono (by omega) (by omega), o3.mono (by omega) (by omega)⟩
structure DoIn (bm bA base : Nat) (now : Int) (sd ep : List Int) (v : V) (W : List Rw) (tag tm : Tag) (N : Nat → Nat) (h : Heap) : Prop where
 w : MW sd ep
 hm : h.get bm = .cells (.int .u64 now :: mT sd ep v) tm
 aM : AccM h v W bA W.length [] tag
 rows : ∀ k (hk : k < W.length), RowI h W[k] (N k) (N (k + 1))
 mono : ∀ k, N k ≤ N (k + 1)
 bmA : bm < bA
 bAN : bA < N 0
 top : N W.length ≤ h.nx
 lo : h.lo ≤ bm
 hb : base ≤ bA
structure DoP (bm bA0 base : Nat) (now : Int) (sd ep : List Int) (l : List Acct) (c : Cmd) (tm : Tag) (h : Heap) (r : V) (h' : Heap) : Prop where
 ex : ∃ code ep' W v bA cap rest tag, r = .int .u8 code ∧ h'.get bm = .cells (.int .u64 now :: mT sd ep' v) tm ∧ MW sd ep' ∧ AccM h' v W bA cap rest tag ∧ base ≤ bA ∧ (∀ w ∈ W, RowB h' w base) ∧ DoT now ep l c code ep' (W.map (·.a))
 get : ∀ b, b < bA0 → b ≠ bm → h'.get b = h.get b
 lo : h'.lo = h.lo
 nx : h.nx ≤ h'.nx
theorem fidx_no {t : Int} {L : List Rw} (e : fidx (isT t) L = -1) : ∀ a ∈ L.map (·.a), a.t ≠ t := by
 intro a ha
 obtain ⟨x, hx, rfl⟩ := List.mem_map.1 ha
 have h1 := fidx_any (q := isT t) (l := L)
 rw [e] at h1
 have h2 : L.any (isT t) = false := by rw [← h1]; rfl
 rw [List.any_eq_false] at h2
 have := h2 x hx
 simpa [isT] using this
theorem DoIn.rowB {bm bA base : Nat} {now : Int} {sd ep : List Int} {v : V} {W : List Rw} {tag tm : Tag} {N : Nat → Nat} {h : Heap} (d : DoIn bm bA base now sd ep v W tag tm N h) {h' : Heap} (hx : h.nx ≤ h'.nx) (hk : ∀ b, N 0 ≤ b → b < h.nx → h'.get b = h.get b) : ∀ w ∈ W, RowB h' w base := by
 intro w hw
 obtain ⟨k, hk', rfl⟩ := List.mem_iff_getElem.1 hw
 have h1 := mono_le d.mono (Nat.zero_le k)
 have h2 := mono_le d.mono (show k + 1 ≤ W.length by omega)
 have h3 := d.bAN
 have h4 := d.bmA
 have h5 := d.hb
 have h6 := d.top
 exact ((d.rows k hk').keep fun b hb hb2 => hk b (by omega) (by omega)).toB (by omega) (by omega)
theorem DoIn.same {bm bA base : Nat} {now : Int} {sd ep : List Int} {v : V} {W : List Rw} {tag tm : Tag} {N : Nat → Nat} {h : Heap} (d : DoIn bm bA base now sd ep v W tag tm N h) {h' : Heap} {c : Cmd} {code : Int} (hx : h.nx ≤ h'.nx) (hl : h'.lo = h.lo) (hk : ∀ b, b < h.nx → h'.get b = h.get b) (t : DoT now ep (W.map (·.a)) c code ep (W.map (·.a))) : DoP bm bA base now sd ep (W.map (·.a)) c tm h (.int .u8 code) h' := by
 have h1 := d.bAN
 have h2 := d.bmA
 have h3 := mono_le d.mono (Nat.zero_le W.length)
 have h4 := d.top
 have h5 := d.hb
 exact ⟨⟨code, ep, W, v, bA, W.length, [], tag, rfl, by rw [hk bm (by omega), d.hm], d.w, d.aM.keep (hk bA (by omega)), by omega, d.rowB hx fun b hb hb2 => hk b hb2, t⟩, fun b hb _ => hk b (by omega), hl, hx⟩
section
variable {vp : Nat → Option VFn}
section
variable {f c1 c2 c3 c4 c5 c6 c7 : Nat} (hf : vp f = some (B_model_do c1 c2 c3 c4 c5 c6 c7)) (h1 : vp c1 = some B_model_find)
 {bm bA base : Nat} {now : Int} {sd ep : List Int} {v : V} {W : List Rw} {tag tm : Tag} {N : Nat → Nat} {h : Heap} (d : DoIn bm bA base now sd ep v W tag tm N h) {c : Cmd} (hc : c.tg.length = 32) (hn : W.length ≤ 8)
include hf h1 d hc hn
theorem do_missing (hop : c.op ≠ 1) (hno : fidx (isT c.t) W = -1) :
  ∃ r h', callRes vp f [.ptr bm 0, .agg (encC c)] h = some (r, h') ∧ DoP bm bA base now sd ep (W.map (·.a)) c tm h r h' := by
 obtain ⟨R, hR⟩ : ∃ R, c.tg.map (V.int .u8) = R := ⟨_, rfl⟩
 have lR : R.length = 32 := by rw [← hR, List.length_map, hc]
 have q1 := d.bAN
 have q2 := d.bmA
 have q3 := mono_le d.mono (Nat.zero_le W.length)
 have q4 := d.top
 refine res_raw hf rfl rfl ?_
 unfold encC B_model_do
 rw [hR]
 obtain ⟨H1, hH1⟩ : ∃ H, h.new (.cells (.int .u8 c.op :: .int .u32 c.t :: .int .u32 c.u :: .int .i64 c.l0.b :: .int .i64 c.l0.r :: .int .i64 c.l0.p :: .int .i64 c.l1.b :: .int .i64 c.l1.r :: .int .i64 c.l1.p :: .int .i64 c.l2.b :: .int .i64 c.l2.r :: .int .i64 c.l2.p :: .int .u8 c.us :: .int .u8 c.es :: .int .u64 c.ex :: R) .cl) = H := ⟨_, rfl⟩
 have kp1 : Kp h H1 := by rw [← hH1]; exact (Kp.refl h).new _
 have gc1 : H1.get h.nx = .cells (.int .u8 c.op :: .int .u32 c.t :: .int .u32 c.u :: .int .i64 c.l0.b :: .int .i64 c.l0.r :: .int .i64 c.l0.p :: .int .i64 c.l1.b :: .int .i64 c.l1.r :: .int .i64 c.l1.p :: .int .i64 c.l2.b :: .int .i64 c.l2.r :: .int .i64 c.l2.p :: .int .u8 c.us :: .int .u8 c.es :: .int .u64 c.ex :: R) .cl := by rw [← hH1, Heap.get_new, if_pos rfl]
 obtain ⟨r, _, fc, rfl, fp⟩ := find_spec h1 bm now c.t sd ep d.w v W bA W.length [] tag tm H1 (by rw [kp1.get bm (by omega), d.hm]) (d.aM.keep (kp1.get bA (by omega))) (by omega)
 have hr : r = .nilp := by
  rcases fp with ⟨_, e⟩ | ⟨k, hk, e, _⟩
  ·exact e
  ·omega
 subst hr
 have en : ∀ g : Heap, r_eqn false 0 .nilp .nilp g = some (.bool true, g) := fun _ => rfl
 simp only [↓zp, zz, zy, chkOk, Nat.reduceEqDiff, Nat.reduceAdd, Nat.reduceSub, Nat.reduceMul, Nat.reduceLT, Nat.reduceLeDiff, Int.reduceLT, Int.reduceLE, Int.reduceEq, Int.reduceAdd, Int.reduceNeg, reduceIte, r_st, r_nck, r_ix, r_iaa, takeN, VE.store, over, cellsAt, VE.part, blkX, gEval, fill, VE.unOp, resVs, resV, reduceCtorEq, lR, hH1, gc1, fc, hop, en]
 exact d.same kp1.nx kp1.lo kp1.get (.missing (fidx_no hno) hop)
theorem do_exists (hop : c.op = 1) (k : Nat) (hk : k < W.length) (hyes : fidx (isT c.t) W = (k : Int)) :
  ∃ r h', callRes vp f [.ptr bm 0, .agg (encC c)] h = some (r, h') ∧ DoP bm bA base now sd ep (W.map (·.a)) c tm h r h' := by
 obtain ⟨R, hR⟩ : ∃ R, c.tg.map (V.int .u8) = R := ⟨_, rfl⟩
 have lR : R.length = 32 := by rw [← hR, List.length_map, hc]
 have tR : takeN 32 R = some R := by rw [← lR]; exact takeN_all R
 have q1 := d.bAN
 have q2 := d.bmA
 have q3 := mono_le d.mono (Nat.zero_le W.length)
 have q4 := d.top
 have q5 := d.lo
 have q6 := d.hb
 refine res_raw hf rfl rfl ?_
 unfold encC B_model_do
 rw [hR]
 obtain ⟨H1, hH1⟩ : ∃ H, h.new (.cells (.int .u8 c.op :: .int .u32 c.t :: .int .u32 c.u :: .int .i64 c.l0.b :: .int .i64 c.l0.r :: .int .i64 c.l0.p :: .int .i64 c.l1.b :: .int .i64 c.l1.r :: .int .i64 c.l1.p :: .int .i64 c.l2.b :: .int .i64 c.l2.r :: .int .i64 c.l2.p :: .int .u8 c.us :: .int .u8 c.es :: .int .u64 c.ex :: R) .cl) = H := ⟨_, rfl⟩
 have kp1 : Kp h H1 := by rw [← hH1]; exact (Kp.refl h).new _
 have gc1 : H1.get h.nx = .cells (.int .u8 c.op :: .int .u32 c.t :: .int .u32 c.u :: .int .i64 c.l0.b :: .int .i64 c.l0.r :: .int .i64 c.l0.p :: .int .i64 c.l1.b :: .int .i64 c.l1.r :: .int .i64 c.l1.p :: .int .i64 c.l2.b :: .int .i64 c.l2.r :: .int .i64 c.l2.p :: .int .u8 c.us :: .int .u8 c.es :: .int .u64 c.ex :: R) .cl := by rw [← hH1, Heap.get_new, if_pos rfl]
 have nx1 : H1.nx = h.nx + 1 := by rw [← hH1]; rfl
 have lo1 := kp1.lo
 have gm1 := (kp1.get bm (by omega)).trans d.hm
 have aM1 := d.aM.keep (kp1.get bA (by omega))
 obtain ⟨r, Hf, fc, hHf, fp⟩ := find_spec h1 bm now c.t sd ep d.w v W bA W.length [] tag tm H1 gm1 aM1 (by omega)
 rw [hHf] at fc
 clear hHf Hf
 have hkr : fidx (isT c.t) W = (k : Int) ∧ W[k].a.t = c.t ∧ r = .ptr bA (k * 24) := by
  rcases fp with ⟨e, _⟩ | ⟨k', hk', e, e2, e3⟩
  ·omega
  ·have : k' = k := by omega
   subst this
   exact ⟨e, e2, e3⟩
 obtain ⟨_, hkt, rfl⟩ := hkr
 obtain ⟨p, hp⟩ := mr_pt bA k 24
 rw [show V.ptr bA (k * 24) = p 0 from (hp 0).symm] at fc
 have en : ∀ g : Heap, r_eqn false 0 (p 0) .nilp g = some (.bool false, g) := fun g => by rw [hp 0]; rfl
 have en' : ∀ g : Heap, r_eqn true 0 (p 0) .nilp g = some (.bool true, g) := fun g => by rw [hp 0]; rfl
 have nf := hp.nck
 have ff := hp.fa
 have hkm : k < (W.map (·.a)).length := by rw [List.length_map]; exact hk
 have ekm : (W.map (·.a))[k] = W[k].a := by rw [List.getElem_map]
 have hv : v = .sl bA 0 W.length W.length 24 := by
  rcases d.aM with ⟨_, e⟩ | ⟨e, _⟩
  ·rw [e] at hk; simp at hk
  ·exact e
 have gA1 : H1.get bA = .cells (W.flatMap encW ++ []) tag := by
  rcases aM1 with ⟨_, e⟩ | ⟨_, _, e⟩
  ·rw [e] at hk; simp at hk
  ·exact e
 have rk := d.rows k hk
 have n1' := mono_le d.mono (Nat.zero_le k)
 have n2' := mono_le d.mono (show k + 1 ≤ W.length by omega)
 have n3' := d.mono k
 have rest : ∀ (h' : Heap) (w' : Rw), h.nx ≤ h'.nx → RowB h' w' base → (∀ b, N 0 ≤ b → b < h.nx → ¬ (N k ≤ b ∧ b < N (k + 1)) → h'.get b = h.get b) → ∀ w ∈ W.set k w', RowB h' w base := by
  intro h' w' hx hw' hkk w hw
  obtain ⟨j, hj, rfl⟩ := List.mem_iff_getElem.1 hw
  rw [List.length_set] at hj
  by_cases q : k = j
  ·subst q
   rw [List.getElem_set_self]
   exact hw'
  ·rw [List.getElem_set_ne q]
   have m1 := mono_le d.mono (Nat.zero_le j)
   have m2 := mono_le d.mono (show j + 1 ≤ W.length by omega)
   have m3 : N (j + 1) ≤ N k ∨ N (k + 1) ≤ N j := by
    rcases Nat.lt_or_gt_of_ne q with r | r
    ·exact .inr (mono_le d.mono r)
    ·exact .inl (mono_le d.mono r)
   exact ((d.rows j hj).keep fun b hb hb2 => hkk b (by omega) (by omega) (by omega)).toB (by omega) (by omega)
 have hop' := eq_true hop
 simp only [↓zp, zz, zy, chkOk, Nat.reduceEqDiff, Nat.reduceAdd, Nat.reduceSub, Nat.reduceMul, Nat.reduceLT, Nat.reduceLeDiff, Int.reduceLT, Int.reduceLE, Int.reduceEq, Int.reduceAdd, Int.reduceNeg, reduceIte, r_st_p, r_nck_p, r_ix, r_iaa, takeN, VE.store, over, cellsAt, VE.part, blkX, gEval, fill, VE.unOp, resVs, resV, reduceCtorEq, lR, hH1, gc1, fc, hop', en']
 exact d.same kp1.nx kp1.lo kp1.get (.exists_ k hkm (by rw [ekm]; exact hkt) hop)
theorem do_create {e1 e2 e3 t1 t2 : Nat} (h2 : vp c2 = some (B_model_create e1 e2 e3 t1)) {e4 : Nat} (g1 : vp e1 = some (B_bucket_Full e4 t2)) (g3 : vp e4 = some B_bucket_CheckLimit) (hS : SrtOk vp e2 e3) (ok : CmdOk c) (hct : 0 ≤ c.t) (hL : ∀ w ∈ W, tOk w) (hs : ∀ k (hk : k + 1 < W.length), W[k].a.t < W[k + 1].a.t) (hop : c.op = 1) (hno : fidx (isT c.t) W = -1) :
  ∃ r h', callRes vp f [.ptr bm 0, .agg (encC c)] h = some (r, h') ∧ DoP bm bA base now sd ep (W.map (·.a)) c tm h r h' := by
 obtain ⟨R, hR⟩ : ∃ R, c.tg.map (V.int .u8) = R := ⟨_, rfl⟩
 have lR : R.length = 32 := by rw [← hR, List.length_map, hc]
 have tR : takeN 32 R = some R := by rw [← lR]; exact takeN_all R
 have q1 := d.bAN
 have q2 := d.bmA
 have q3 := mono_le d.mono (Nat.zero_le W.length)
 have q4 := d.top
 have q5 := d.lo
 have q6 := d.hb
 refine res_raw hf rfl rfl ?_
 unfold encC B_model_do
 rw [hR]
 obtain ⟨H1, hH1⟩ : ∃ H, h.new (.cells (.int .u8 c.op :: .int .u32 c.t :: .int .u32 c.u :: .int .i64 c.l0.b :: .int .i64 c.l0.r :: .int .i64 c.l0.p :: .int .i64 c.l1.b :: .int .i64 c.l1.r :: .int .i64 c.l1.p :: .int .i64 c.l2.b :: .int .i64 c.l2.r :: .int .i64 c.l2.p :: .int .u8 c.us :: .int .u8 c.es :: .int .u64 c.ex :: R) .cl) = H := ⟨_, rfl⟩
 have kp1 : Kp h H1 := by rw [← hH1]; exact (Kp.refl h).new _
 have gc1 : H1.get h.nx = .cells (.int .u8 c.op :: .int .u32 c.t :: .int .u32 c.u :: .int .i64 c.l0.b :: .int .i64 c.l0.r :: .int .i64 c.l0.p :: .int .i64 c.l1.b :: .int .i64 c.l1.r :: .int .i64 c.l1.p :: .int .i64 c.l2.b :: .int .i64 c.l2.r :: .int .i64 c.l2.p :: .int .u8 c.us :: .int .u8 c.es :: .int .u64 c.ex :: R) .cl := by rw [← hH1, Heap.get_new, if_pos rfl]
 have nx1 : H1.nx = h.nx + 1 := by rw [← hH1]; rfl
 have lo1 := kp1.lo
 have gm1 := (kp1.get bm (by omega)).trans d.hm
 have aM1 := d.aM.keep (kp1.get bA (by omega))
 obtain ⟨r, Hf, fc, hHf, fp⟩ := find_spec h1 bm now c.t sd ep d.w v W bA W.length [] tag tm H1 gm1 aM1 (by omega)
 rw [hHf] at fc
 clear hHf Hf
 have hr : r = .nilp := by
  rcases fp with ⟨_, e⟩ | ⟨k, hk, e, _⟩
  ·exact e
  ·omega
 subst hr
 have en : ∀ g : Heap, r_eqn false 0 .nilp .nilp g = some (.bool true, g) := fun _ => rfl
 have en' : ∀ g : Heap, r_eqn true 0 .nilp .nilp g = some (.bool false, g) := fun _ => rfl
 have hop' := eq_true hop
 obtain ⟨r, h', cc, P⟩ := create_spec h2 g1 g3 hS bm now sd ep d.w v W bA tag tm H1 gm1 aM1 (by omega) (by omega) (by omega) (by omega) (by omega) c hc hct ok hop hn hL hs
 unfold encC at cc
 rw [hR] at cc
 simp only [↓zp, zz, zy, chkOk, Nat.reduceEqDiff, Nat.reduceAdd, Nat.reduceSub, Nat.reduceMul, Nat.reduceLT, Nat.reduceLeDiff, Int.reduceLT, Int.reduceLE, Int.reduceEq, Int.reduceAdd, Int.reduceNeg, reduceIte, r_st, r_nck, r_ix, r_iaa, takeN, VE.store, over, cellsAt, VE.part, blkX, gEval, fill, VE.unOp, resVs, resV, reduceCtorEq, lR, tR, hH1, gc1, fc, hop', en', cc]
 have kx := P.nx
 have lm : (W.map (·.a)).length = W.length := List.length_map _
 rcases P.ex with ⟨l8, rfl, gm, ga⟩ | ⟨l8, rfl, bN, p, tN, b1, b2, gm, pl, gN, o1, o2⟩
 ·exact d.same (by omega) (P.lo.trans lo1) (fun b hb => by
   by_cases e1 : b = bm
   ·rw [e1, gm, gm1, d.hm]
   ·by_cases e2 : b = bA
    ·rw [e2, ga, kp1.get bA (by omega)]
    ·rw [P.get b (by omega) e1 e2, kp1.get b hb]) (.full (fidx_no hno) hop (by omega))
 ·have em : (insT W (newW c now) p).map (·.a) = insA (W.map (·.a)) (newA c now) p := by
   simp only [insT, insA, List.map_append, List.map_cons, List.map_take, List.map_drop]
   rfl
  refine ⟨⟨4, ep, insT W (newW c now) p, _, bN, W.length + 1, [], tN, rfl, gm, d.w, .inr ⟨by rw [insT_len W _ pl], by rw [insT_len W _ pl]; exact Nat.le_refl _, gN⟩, by omega, fun w hw => ?_, ?_⟩, fun b hb hb' => ?_, P.lo.trans lo1, by omega⟩
  ·have hw' : w ∈ W ∨ w = newW c now := by
    simp only [insT, List.mem_append, List.mem_cons] at hw
    rcases hw with hw | hw | hw
    ·exact .inl (List.mem_of_mem_take hw)
    ·exact .inr hw
    ·exact .inl (List.mem_of_mem_drop hw)
   rcases hw' with hw' | rfl
   ·exact d.rowB (by omega) (fun b hb hb2 => by rw [P.get b (by omega) (by omega) (by omega), kp1.get b hb2]) w hw'
   ·exact ⟨.inl ⟨rfl, rfl⟩, .inl ⟨rfl, rfl⟩, .inl ⟨rfl, rfl⟩⟩
  ·rw [em]
   exact .create (fidx_no hno) hop (by omega) p (by omega) (fun i hi e => by rw [List.getElem_map]; exact o1 i (by omega) e) (fun i hi e => by rw [List.getElem_map]; exact o2 i (by omega) e)
  ·rw [P.get b (by omega) (by omega) (by omega), kp1.get b (by omega)]
theorem do_limits {e1 : Nat} (w3 : vp c3 = some (B_model_change e1)) (w1 : ChOk vp e1) (ok : CmdOk c) (hnow : u64 now) (hA : ∀ w ∈ W, AR w.a) (hop : c.op = 3) (k : Nat) (hk : k < W.length) (hyes : fidx (isT c.t) W = (k : Int)) :
  ∃ r h', callRes vp f [.ptr bm 0, .agg (encC c)] h = some (r, h') ∧ DoP bm bA base now sd ep (W.map (·.a)) c tm h r h' := by
 obtain ⟨R, hR⟩ : ∃ R, c.tg.map (V.int .u8) = R := ⟨_, rfl⟩
 have lR : R.length = 32 := by rw [← hR, List.length_map, hc]
 have tR : takeN 32 R = some R := by rw [← lR]; exact takeN_all R
 have q1 := d.bAN
 have q2 := d.bmA
 have q3 := mono_le d.mono (Nat.zero_le W.length)
 have q4 := d.top
 have q5 := d.lo
 have q6 := d.hb
 refine res_raw hf rfl rfl ?_
 unfold encC B_model_do
 rw [hR]
 obtain ⟨H1, hH1⟩ : ∃ H, h.new (.cells (.int .u8 c.op :: .int .u32 c.t :: .int .u32 c.u :: .int .i64 c.l0.b :: .int .i64 c.l0.r :: .int .i64 c.l0.p :: .int .i64 c.l1.b :: .int .i64 c.l1.r :: .int .i64 c.l1.p :: .int .i64 c.l2.b :: .int .i64 c.l2.r :: .int .i64 c.l2.p :: .int .u8 c.us :: .int .u8 c.es :: .int .u64 c.ex :: R) .cl) = H := ⟨_, rfl⟩
 have kp1 : Kp h H1 := by rw [← hH1]; exact (Kp.refl h).new _
 have gc1 : H1.get h.nx = .cells (.int .u8 c.op :: .int .u32 c.t :: .int .u32 c.u :: .int .i64 c.l0.b :: .int .i64 c.l0.r :: .int .i64 c.l0.p :: .int .i64 c.l1.b :: .int .i64 c.l1.r :: .int .i64 c.l1.p :: .int .i64 c.l2.b :: .int .i64 c.l2.r :: .int .i64 c.l2.p :: .int .u8 c.us :: .int .u8 c.es :: .int .u64 c.ex :: R) .cl := by rw [← hH1, Heap.get_new, if_pos rfl]
 have nx1 : H1.nx = h.nx + 1 := by rw [← hH1]; rfl
 have lo1 := kp1.lo
 have gm1 := (kp1.get bm (by omega)).trans d.hm
 have aM1 := d.aM.keep (kp1.get bA (by omega))
 obtain ⟨r, Hf, fc, hHf, fp⟩ := find_spec h1 bm now c.t sd ep d.w v W bA W.length [] tag tm H1 gm1 aM1 (by omega)
 rw [hHf] at fc
 clear hHf Hf
 have hkr : fidx (isT c.t) W = (k : Int) ∧ W[k].a.t = c.t ∧ r = .ptr bA (k * 24) := by
  rcases fp with ⟨e, _⟩ | ⟨k', hk', e, e2, e3⟩
  ·omega
  ·have : k' = k := by omega
   subst this
   exact ⟨e, e2, e3⟩
 obtain ⟨_, hkt, rfl⟩ := hkr
 obtain ⟨p, hp⟩ := mr_pt bA k 24
 rw [show V.ptr bA (k * 24) = p 0 from (hp 0).symm] at fc
 have en : ∀ g : Heap, r_eqn false 0 (p 0) .nilp g = some (.bool false, g) := fun g => by rw [hp 0]; rfl
 have en' : ∀ g : Heap, r_eqn true 0 (p 0) .nilp g = some (.bool true, g) := fun g => by rw [hp 0]; rfl
 have nf := hp.nck
 have ff := hp.fa
 have hkm : k < (W.map (·.a)).length := by rw [List.length_map]; exact hk
 have ekm : (W.map (·.a))[k] = W[k].a := by rw [List.getElem_map]
 have hv : v = .sl bA 0 W.length W.length 24 := by
  rcases d.aM with ⟨_, e⟩ | ⟨e, _⟩
  ·rw [e] at hk; simp at hk
  ·exact e
 have gA1 : H1.get bA = .cells (W.flatMap encW ++ []) tag := by
  rcases aM1 with ⟨_, e⟩ | ⟨_, _, e⟩
  ·rw [e] at hk; simp at hk
  ·exact e
 have rk := d.rows k hk
 have n1' := mono_le d.mono (Nat.zero_le k)
 have n2' := mono_le d.mono (show k + 1 ≤ W.length by omega)
 have n3' := d.mono k
 have rest : ∀ (h' : Heap) (w' : Rw), h.nx ≤ h'.nx → RowB h' w' base → (∀ b, N 0 ≤ b → b < h.nx → ¬ (N k ≤ b ∧ b < N (k + 1)) → h'.get b = h.get b) → ∀ w ∈ W.set k w', RowB h' w base := by
  intro h' w' hx hw' hkk w hw
  obtain ⟨j, hj, rfl⟩ := List.mem_iff_getElem.1 hw
  rw [List.length_set] at hj
  by_cases q : k = j
  ·subst q
   rw [List.getElem_set_self]
   exact hw'
  ·rw [List.getElem_set_ne q]
   have m1 := mono_le d.mono (Nat.zero_le j)
   have m2 := mono_le d.mono (show j + 1 ≤ W.length by omega)
   have m3 : N (j + 1) ≤ N k ∨ N (k + 1) ≤ N j := by
    rcases Nat.lt_or_gt_of_ne q with r | r
    ·exact .inr (mono_le d.mono r)
    ·exact .inl (mono_le d.mono r)
   exact ((d.rows j hj).keep fun b hb hb2 => hkk b (by omega) (by omega) (by omega)).toB (by omega) (by omega)
 have hop' := eq_true hop
 obtain ⟨l0, l1, l2⟩ := ok.ls (.inr hop)
 have rk1 : RowI H1 W[k] (N k) (N (k + 1)) := rk.keep fun b hb hb2 => kp1.get b (by omega)
 obtain ⟨_, h', cc, rfl, P⟩ := chg_spec w3 w1 W k hk bA (N k) (N (k + 1)) [] tag p hp c.l0 c.l1 c.l2 l0 l1 l2 now hnow H1 gA1 rk1 (hA _ (List.getElem_mem hk)) (by omega) (by omega) (by omega)
 have i31 : (c.op = 1) = False := by simp; omega
 simp only [↓zp, zz, zy, chkOk, Nat.reduceEqDiff, Nat.reduceAdd, Nat.reduceSub, Nat.reduceMul, Nat.reduceLT, Nat.reduceLeDiff, Int.reduceLT, Int.reduceLE, Int.reduceEq, Int.reduceAdd, Int.reduceNeg, reduceIte, r_st_p, r_nck_p, r_ix, r_iaa, takeN, VE.store, over, cellsAt, VE.part, blkX, gEval, fill, VE.unOp, resVs, resV, reduceCtorEq, lR, hH1, gc1, fc, hop', i31, en, en', gm1, cc]
 have kx := P.nx
 obtain ⟨w', ew, gA, rw'⟩ := P.ex
 rw [List.getElem?_eq_getElem hk, Option.getD_some] at ew
 have gk : ∀ b, b < h.nx → b ≠ bA → ¬ (N k ≤ b ∧ b < N (k + 1)) → h'.get b = h.get b := fun b h1 h2 h3 => by rw [P.get b (by omega) h2 h3, kp1.get b h1]
 refine ⟨⟨4, ep, W.set k w', v, bA, W.length, [], tag, rfl, by rw [gk bm (by omega) (by omega) (by omega), d.hm], d.w, .inr ⟨by rw [List.length_set]; exact hv, by rw [List.length_set]; exact Nat.le_refl _, gA⟩, by omega, ?_, ?_⟩, fun b hb hb' => gk b (by omega) (by omega) (by omega), P.lo'.trans lo1, by omega⟩
 ·exact rest h' w' (by omega) (rw'.toB (by omega) (by omega)) fun b h1 h2 h3 => gk b h2 (by omega) h3
 ·rw [List.map_set, ew, ← ekm]
  exact .limits k hkm (by rw [ekm]; exact hkt) hop
end
end
end
section
open Go Go.VE
set_option maxRecDepth 100000
set_option linter.all false
set_option maxHeartbeats 4000000
section
variable {vp : Nat → Option VFn}
section
variable {f c1 c2 c3 c4 c5 c6 c7 : Nat} (hf : vp f = some (B_model_do c1 c2 c3 c4 c5 c6 c7)) (h1 : vp c1 = some B_model_find)
 {bm bA base : Nat} {now : Int} {sd ep : List Int} {v : V} {W : List Rw} {tag tm : Tag} {N : Nat → Nat} {h : Heap} (d : DoIn bm bA base now sd ep v W tag tm N h) {c : Cmd} (hc : c.tg.length = 32) (hn : W.length ≤ 8)
include hf h1 d hc hn
theorem do_revoke {e1 e2 e3 : Nat} (w4 : vp c4 = some (B_slices_BinarySearch_uint32 e1 e2)) (w1 : vp e1 = some (B_cmp_Less_uint32 e3)) (w3 : vp e3 = some B_cmp_isNaN_uint32) (w2 : vp e2 = some B_slices_isNaN_uint32) (w5 : vp c5 = some B_slices_Insert_uint32)
  (hrev : ∀ w ∈ W, w.a.rev.l.length ≤ 8 ∧ ∀ k (hk : k + 1 < w.a.rev.l.length), w.a.rev.l[k] < w.a.rev.l[k + 1]) (hop : c.op = 5) (k : Nat) (hk : k < W.length) (hyes : fidx (isT c.t) W = (k : Int)) :
  ∃ r h', callRes vp f [.ptr bm 0, .agg (encC c)] h = some (r, h') ∧ DoP bm bA base now sd ep (W.map (·.a)) c tm h r h' := by
 obtain ⟨R, hR⟩ : ∃ R, c.tg.map (V.int .u8) = R := ⟨_, rfl⟩
 have lR : R.length = 32 := by rw [← hR, List.length_map, hc]
 have tR : takeN 32 R = some R := by rw [← lR]; exact takeN_all R
 have q1 := d.bAN
 have q2 := d.bmA
 have q3 := mono_le d.mono (Nat.zero_le W.length)
 have q4 := d.top
 have q5 := d.lo
 have q6 := d.hb
 refine res_raw hf rfl rfl ?_
 unfold encC B_model_do
 rw [hR]
 obtain ⟨H1, hH1⟩ : ∃ H, h.new (.cells (.int .u8 c.op :: .int .u32 c.t :: .int .u32 c.u :: .int .i64 c.l0.b :: .int .i64 c.l0.r :: .int .i64 c.l0.p :: .int .i64 c.l1.b :: .int .i64 c.l1.r :: .int .i64 c.l1.p :: .int .i64 c.l2.b :: .int .i64 c.l2.r :: .int .i64 c.l2.p :: .int .u8 c.us :: .int .u8 c.es :: .int .u64 c.ex :: R) .cl) = H := ⟨_, rfl⟩
 have kp1 : Kp h H1 := by rw [← hH1]; exact (Kp.refl h).new _
 have gc1 : H1.get h.nx = .cells (.int .u8 c.op :: .int .u32 c.t :: .int .u32 c.u :: .int .i64 c.l0.b :: .int .i64 c.l0.r :: .int .i64 c.l0.p :: .int .i64 c.l1.b :: .int .i64 c.l1.r :: .int .i64 c.l1.p :: .int .i64 c.l2.b :: .int .i64 c.l2.r :: .int .i64 c.l2.p :: .int .u8 c.us :: .int .u8 c.es :: .int .u64 c.ex :: R) .cl := by rw [← hH1, Heap.get_new, if_pos rfl]
 have nx1 : H1.nx = h.nx + 1 := by rw [← hH1]; rfl
 have lo1 := kp1.lo
 have gm1 := (kp1.get bm (by omega)).trans d.hm
 have aM1 := d.aM.keep (kp1.get bA (by omega))
 obtain ⟨r, Hf, fc, hHf, fp⟩ := find_spec h1 bm now c.t sd ep d.w v W bA W.length [] tag tm H1 gm1 aM1 (by omega)
 rw [hHf] at fc
 clear hHf Hf
 have hkr : fidx (isT c.t) W = (k : Int) ∧ W[k].a.t = c.t ∧ r = .ptr bA (k * 24) := by
  rcases fp with ⟨e, _⟩ | ⟨k', hk', e, e2, e3⟩
  ·omega
  ·have : k' = k := by omega
   subst this
   exact ⟨e, e2, e3⟩
 obtain ⟨_, hkt, rfl⟩ := hkr
 obtain ⟨p, hp⟩ := mr_pt bA k 24
 rw [show V.ptr bA (k * 24) = p 0 from (hp 0).symm] at fc
 have en : ∀ g : Heap, r_eqn false 0 (p 0) .nilp g = some (.bool false, g) := fun g => by rw [hp 0]; rfl
 have en' : ∀ g : Heap, r_eqn true 0 (p 0) .nilp g = some (.bool true, g) := fun g => by rw [hp 0]; rfl
 have nf := hp.nck
 have ff := hp.fa
 have hkm : k < (W.map (·.a)).length := by rw [List.length_map]; exact hk
 have ekm : (W.map (·.a))[k] = W[k].a := by rw [List.getElem_map]
 have hv : v = .sl bA 0 W.length W.length 24 := by
  rcases d.aM with ⟨_, e⟩ | ⟨e, _⟩
  ·rw [e] at hk; simp at hk
  ·exact e
 have gA1 : H1.get bA = .cells (W.flatMap encW ++ []) tag := by
  rcases aM1 with ⟨_, e⟩ | ⟨_, _, e⟩
  ·rw [e] at hk; simp at hk
  ·exact e
 have rk := d.rows k hk
 have n1' := mono_le d.mono (Nat.zero_le k)
 have n2' := mono_le d.mono (show k + 1 ≤ W.length by omega)
 have n3' := d.mono k
 have rest : ∀ (h' : Heap) (w' : Rw), h.nx ≤ h'.nx → RowB h' w' base → (∀ b, N 0 ≤ b → b < h.nx → ¬ (N k ≤ b ∧ b < N (k + 1)) → h'.get b = h.get b) → ∀ w ∈ W.set k w', RowB h' w base := by
  intro h' w' hx hw' hkk w hw
  obtain ⟨j, hj, rfl⟩ := List.mem_iff_getElem.1 hw
  rw [List.length_set] at hj
  by_cases q : k = j
  ·subst q
   rw [List.getElem_set_self]
   exact hw'
  ·rw [List.getElem_set_ne q]
   have m1 := mono_le d.mono (Nat.zero_le j)
   have m2 := mono_le d.mono (show j + 1 ≤ W.length by omega)
   have m3 : N (j + 1) ≤ N k ∨ N (k + 1) ≤ N j := by
    rcases Nat.lt_or_gt_of_ne q with r | r
    ·exact .inr (mono_le d.mono r)
    ·exact .inl (mono_le d.mono r)
   exact ((d.rows j hj).keep fun b hb hb2 => hkk b (by omega) (by omega) (by omega)).toB (by omega) (by omega)
 have hop' := eq_true hop
 have i51 : (c.op = 1) = False := by simp; omega
 have i53 : (c.op = 3) = False := by simp; omega
 have m4 : modeOf vp c4 = some 1 := by simp [modeOf, w4, B_slices_BinarySearch_uint32]
 obtain ⟨hr8, hrs⟩ := hrev _ (List.getElem_mem hk)
 obtain ⟨n1, n2, a1, a2, a3, ou, oe, or'⟩ := rk
 have or1 : Own e32 1 H1 W[k].r W[k].a.rev.l n2 (N (k + 1)) := or'.keep fun b hb hb2 => kp1.get b (by omega)
 have rd1 : Rd e32 1 H1 W[k].r W[k].a.rev.l := by
  rcases or1 with ⟨e1, e2⟩ | ⟨b, tg, e1, b1, b2, b3⟩
  ·rw [e1, e2]; exact .sl .nil
  ·rw [e1]; exact .inr ⟨b, 0, _, _, tg, _, [], rfl, rfl, b3, by simp, by omega⟩
 have ln := rd1.len
 obtain ⟨i, fd, bs, il, lt, ge, hfd⟩ := bsearch_spec w4 w1 w3 w2 c.u W[k].r W[k].a.rev.l H1 rd1 (by omega) hrs
 have ldr := hp.ld1 encW_len gA1 hk (j := 20) (c := W[k].r) (by omega) rfl
 cases fd with
 | true =>
  obtain ⟨hi, e⟩ := hfd.1 rfl
  simp only [↓zp, zz, zy, chkOk, Nat.reduceEqDiff, Nat.reduceAdd, Nat.reduceSub, Nat.reduceMul, Nat.reduceLT, Nat.reduceLeDiff, Int.reduceLT, Int.reduceLE, Int.reduceEq, Int.reduceAdd, Int.reduceNeg, reduceIte, r_st_p, r_nck_p, r_ix, r_iaa, takeN, VE.store, over, cellsAt, VE.part, blkX, gEval, fill, VE.unOp, resVs, resV, reduceCtorEq, lR, hH1, gc1, fc, hop', i51, i53, en, en', nf, ff, ldr, m4, bs]
  exact d.same kp1.nx kp1.lo kp1.get (.again k hkm (by rw [ekm]; exact hkt) hop (by rw [ekm, ← e]; exact List.getElem_mem hi))
 | false =>
 have hni : c.u ∉ W[k].a.rev.l := by
  intro hin
  obtain ⟨j, hj, e⟩ := List.mem_iff_getElem.1 hin
  rcases Nat.lt_or_ge j i with r | r
  ·have := lt j hj r; omega
  ·rcases Nat.lt_or_ge i j with r2 | r2
   ·have h3 := ge i (by omega) (Nat.le_refl _)
    have mono : ∀ (d a : Nat) (ha : a < W[k].a.rev.l.length) (hb : a + d < W[k].a.rev.l.length), 0 < d → W[k].a.rev.l[a] < W[k].a.rev.l[a + d] := by
     intro d
     induction d with
     | zero => intro a _ _ h; omega
     | succ d ih =>
      intro a ha hb _
      have e2 := hrs (a + d) (by omega)
      rcases Nat.eq_zero_or_pos d with z | z
      ·subst z; exact e2
      ·have e1 := ih a ha (by omega) z
       have e3 : a + (d + 1) = a + d + 1 := by omega
       simp only [e3]
       omega
    have h4 := mono (j - i) i (by omega) (by omega) (by omega)
    have e5 : i + (j - i) = j := by omega
    simp only [e5] at h4
    omega
   ·have : j = i := by omega
    subst this
    have := hfd.2 ⟨hj, e⟩
    cases this
 by_cases l8 : W[k].a.rev.l.length = 8
 ·have l8' : ((W[k].a.rev.l.length : Int) = 8) = True := by simp; omega
  simp only [↓zp, zz, zy, chkOk, Nat.reduceEqDiff, Nat.reduceAdd, Nat.reduceSub, Nat.reduceMul, Nat.reduceLT, Nat.reduceLeDiff, Int.reduceLT, Int.reduceLE, Int.reduceEq, Int.reduceAdd, Int.reduceNeg, reduceIte, r_st_p, r_nck_p, r_ix, r_iaa, takeN, VE.store, over, cellsAt, VE.part, blkX, gEval, fill, VE.unOp, resVs, resV, reduceCtorEq, lR, hH1, gc1, fc, hop', i51, i53, en, en', nf, ff, ldr, m4, bs, ln, l8']
  exact d.same kp1.nx kp1.lo kp1.get (.many k hkm (by rw [ekm]; exact hkt) hop (by rw [ekm]; exact hni) (by rw [ekm]; exact l8))
 have l8' : ((W[k].a.rev.l.length : Int) = 8) = False := by simp; omega
 obtain ⟨H2, hH2⟩ : ∃ H, H1.new (.cells [.int .u32 c.u] .cl) = H := ⟨_, rfl⟩
 have kp2 : Kp H1 H2 := by rw [← hH2]; exact (Kp.refl H1).new _
 have nx2 : H2.nx = h.nx + 2 := by rw [← hH2]; show H1.nx + 1 = _; omega
 have g2 : H2.get (h.nx + 1) = .cells (e32 c.u) .cl := by rw [← hH2, Heap.get_new, if_pos nx1.symm]; rfl
 obtain ⟨v', h3, ci, P⟩ := insU_spec w5 W[k].r W[k].a.rev.l i c.u (h.nx + 1) n2 (N (k + 1)) H2 (or1.keep fun b hb hb2 => kp2.get b (by omega)) il g2 (by omega) (by rw [kp2.lo]; omega) (by omega) (by omega)
 have gA3 : h3.get bA = .cells (W.flatMap encW ++ []) tag := by rw [P.get bA (by omega) (by omega), kp2.get bA (by omega), gA1]
 obtain ⟨w', hw'⟩ : ∃ w' : Rw, w' = ⟨{ W[k].a with rev := .mk (insI W[k].a.rev.l i c.u) none }, W[k].u, W[k].e, v', W[k].ou, W[k].oe, P.own.one⟩ := ⟨_, rfl⟩
 have lo3 : h3.lo = h.lo := by rw [P.lo', kp2.lo, lo1]
 have st := hp.st encW_len gA3 hk (by rw [lo3]; omega) (j := 20) (n := 1) (v := v') (new := [v']) w' P.own.one.2 rfl (by omega) (by omega) (by simp [P.own.one.1]) (by rw [hw']; rfl)
 simp only [↓zp, zz, zy, chkOk, Nat.reduceEqDiff, Nat.reduceAdd, Nat.reduceSub, Nat.reduceMul, Nat.reduceLT, Nat.reduceLeDiff, Int.reduceLT, Int.reduceLE, Int.reduceEq, Int.reduceAdd, Int.reduceNeg, reduceIte, r_st_p, r_nck_p, r_ix, r_iaa, takeN, VE.store, over, cellsAt, VE.part, blkX, gEval, fill, VE.unOp, resVs, resV, reduceCtorEq, lR, hH1, gc1, fc, hop', i51, i53, en, en', nf, ff, ldr, m4, bs, ln, l8', hH2, nx1, ci, st]
 have px := P.nx
 have gk : ∀ b, b < h.nx → b ≠ bA → ¬ (N k ≤ b ∧ b < N (k + 1)) → (h3.set bA (.cells ((W.set k w').flatMap encW ++ []) tag)).get b = h.get b := fun b h1 h2 h3' => by
  rw [Heap.get_set, if_neg h2, P.get b (by omega) (by omega), kp2.get b (by omega), kp1.get b h1]
 have gk2 : ∀ b, b < h.nx → b ≠ bA → ¬ (n2 ≤ b ∧ b < N (k + 1)) → (h3.set bA (.cells ((W.set k w').flatMap encW ++ []) tag)).get b = h.get b := fun b h1 h2 h3' => by
  rw [Heap.get_set, if_neg h2, P.get b (by omega) (by omega), kp2.get b (by omega), kp1.get b h1]
 refine ⟨⟨4, ep, W.set k w', v, bA, W.length, [], tag, rfl, by rw [gk bm (by omega) (by omega) (by omega), d.hm], d.w, .inr ⟨by rw [List.length_set]; exact hv, by rw [List.length_set]; exact Nat.le_refl _, by rw [Heap.get_set, if_pos rfl]⟩, by omega, ?_, ?_⟩, fun b hb hb' => gk b (by omega) (by omega) (by omega), lo3, by show h.nx ≤ h3.nx; omega⟩
 ·refine rest _ w' (by show h.nx ≤ h3.nx; omega) ?_ fun b h1 h2 h3 => gk b h2 (by omega) h3
  have wu : w'.u = W[k].u ∧ w'.e = W[k].e ∧ w'.r = v' ∧ w'.a.users = W[k].a.users ∧ w'.a.ends = W[k].a.ends ∧ w'.a.rev.l = insI W[k].a.rev.l i c.u := by rw [hw']; exact ⟨rfl, rfl, rfl, rfl, rfl, rfl⟩
  obtain ⟨wu1, wu2, wu3, wu4, wu5, wu6⟩ := wu
  refine ⟨?_, ?_, ?_⟩
  ·rw [wu1, wu4]
   exact (ou.keep fun b hb hb2 => gk2 b (by omega) (by omega) (by omega)).mono (by omega) (by show _ ≤ h3.nx; omega)
  ·rw [wu2, wu5]
   exact (oe.keep fun b hb hb2 => gk2 b (by omega) (by omega) (by omega)).mono (by omega) (by show _ ≤ h3.nx; omega)
  ·rw [wu3, wu6]
   exact (P.own.keep fun b hb hb2 => by rw [Heap.get_set, if_neg (by omega)]).mono (by omega) (Nat.le_refl _)
 ·have e : (W.set k w').map (·.a) = (W.map (·.a)).set k { (W.map fun x : Rw => x.a)[k] with rev := .mk (insI (W.map fun x : Rw => x.a)[k].rev.l i c.u) none } := by
   rw [List.map_set, hw']
   simp only [ekm]
  rw [e]
  exact .revoke k hkm (by rw [ekm]; exact hkt) hop (by rw [ekm]; exact hni) (by rw [ekm]; exact l8) i (by rw [ekm]; exact il) (by simp only [ekm]; exact lt) (by simp only [ekm]; exact ge)
end
end
end
section
open Go Go.VE
set_option maxRecDepth 100000
set_option linter.all false
set_option maxHeartbeats 4000000
section
variable {vp : Nat → Option VFn}
section
variable {f c1 c2 c3 c4 c5 c6 c7 : Nat} (hf : vp f = some (B_model_do c1 c2 c3 c4 c5 c6 c7)) (h1 : vp c1 = some B_model_find)
 {bm bA base : Nat} {now : Int} {sd ep : List Int} {v : V} {W : List Rw} {tag tm : Tag} {N : Nat → Nat} {h : Heap} (d : DoIn bm bA base now sd ep v W tag tm N h) {c : Cmd} (hc : c.tg.length = 32) (hn : W.length ≤ 8)
include hf h1 d hc hn
theorem do_spent (ok : CmdOk c) (hct : 0 ≤ c.t) (hop : c.op = 2 ∨ c.op = 4) (he : ep[c.t.toNat]? = some 1000000) (k : Nat) (hk : k < W.length) (hyes : fidx (isT c.t) W = (k : Int)) :
  ∃ r h', callRes vp f [.ptr bm 0, .agg (encC c)] h = some (r, h') ∧ DoP bm bA base now sd ep (W.map (·.a)) c tm h r h' := by
 obtain ⟨R, hR⟩ : ∃ R, c.tg.map (V.int .u8) = R := ⟨_, rfl⟩
 have lR : R.length = 32 := by rw [← hR, List.length_map, hc]
 have tR : takeN 32 R = some R := by rw [← lR]; exact takeN_all R
 have q1 := d.bAN
 have q2 := d.bmA
 have q3 := mono_le d.mono (Nat.zero_le W.length)
 have q4 := d.top
 have q5 := d.lo
 have q6 := d.hb
 refine res_raw hf rfl rfl ?_
 unfold encC B_model_do
 rw [hR]
 obtain ⟨H1, hH1⟩ : ∃ H, h.new (.cells (.int .u8 c.op :: .int .u32 c.t :: .int .u32 c.u :: .int .i64 c.l0.b :: .int .i64 c.l0.r :: .int .i64 c.l0.p :: .int .i64 c.l1.b :: .int .i64 c.l1.r :: .int .i64 c.l1.p :: .int .i64 c.l2.b :: .int .i64 c.l2.r :: .int .i64 c.l2.p :: .int .u8 c.us :: .int .u8 c.es :: .int .u64 c.ex :: R) .cl) = H := ⟨_, rfl⟩
 have kp1 : Kp h H1 := by rw [← hH1]; exact (Kp.refl h).new _
 have gc1 : H1.get h.nx = .cells (.int .u8 c.op :: .int .u32 c.t :: .int .u32 c.u :: .int .i64 c.l0.b :: .int .i64 c.l0.r :: .int .i64 c.l0.p :: .int .i64 c.l1.b :: .int .i64 c.l1.r :: .int .i64 c.l1.p :: .int .i64 c.l2.b :: .int .i64 c.l2.r :: .int .i64 c.l2.p :: .int .u8 c.us :: .int .u8 c.es :: .int .u64 c.ex :: R) .cl := by rw [← hH1, Heap.get_new, if_pos rfl]
 have nx1 : H1.nx = h.nx + 1 := by rw [← hH1]; rfl
 have lo1 := kp1.lo
 have gm1 := (kp1.get bm (by omega)).trans d.hm
 have aM1 := d.aM.keep (kp1.get bA (by omega))
 obtain ⟨r, Hf, fc, hHf, fp⟩ := find_spec h1 bm now c.t sd ep d.w v W bA W.length [] tag tm H1 gm1 aM1 (by omega)
 rw [hHf] at fc
 clear hHf Hf
 have hkr : fidx (isT c.t) W = (k : Int) ∧ W[k].a.t = c.t ∧ r = .ptr bA (k * 24) := by
  rcases fp with ⟨e, _⟩ | ⟨k', hk', e, e2, e3⟩
  ·omega
  ·have : k' = k := by omega
   subst this
   exact ⟨e, e2, e3⟩
 obtain ⟨_, hkt, rfl⟩ := hkr
 obtain ⟨p, hp⟩ := mr_pt bA k 24
 rw [show V.ptr bA (k * 24) = p 0 from (hp 0).symm] at fc
 have en : ∀ g : Heap, r_eqn false 0 (p 0) .nilp g = some (.bool false, g) := fun g => by rw [hp 0]; rfl
 have en' : ∀ g : Heap, r_eqn true 0 (p 0) .nilp g = some (.bool true, g) := fun g => by rw [hp 0]; rfl
 have nf := hp.nck
 have ff := hp.fa
 have hkm : k < (W.map (·.a)).length := by rw [List.length_map]; exact hk
 have ekm : (W.map (·.a))[k] = W[k].a := by rw [List.getElem_map]
 have hv : v = .sl bA 0 W.length W.length 24 := by
  rcases d.aM with ⟨_, e⟩ | ⟨e, _⟩
  ·rw [e] at hk; simp at hk
  ·exact e
 have gA1 : H1.get bA = .cells (W.flatMap encW ++ []) tag := by
  rcases aM1 with ⟨_, e⟩ | ⟨_, _, e⟩
  ·rw [e] at hk; simp at hk
  ·exact e
 have rk := d.rows k hk
 have n1' := mono_le d.mono (Nat.zero_le k)
 have n2' := mono_le d.mono (show k + 1 ≤ W.length by omega)
 have n3' := d.mono k
 have rest : ∀ (h' : Heap) (w' : Rw), h.nx ≤ h'.nx → RowB h' w' base → (∀ b, N 0 ≤ b → b < h.nx → ¬ (N k ≤ b ∧ b < N (k + 1)) → h'.get b = h.get b) → ∀ w ∈ W.set k w', RowB h' w base := by
  intro h' w' hx hw' hkk w hw
  obtain ⟨j, hj, rfl⟩ := List.mem_iff_getElem.1 hw
  rw [List.length_set] at hj
  by_cases q : k = j
  ·subst q
   rw [List.getElem_set_self]
   exact hw'
  ·rw [List.getElem_set_ne q]
   have m1 := mono_le d.mono (Nat.zero_le j)
   have m2 := mono_le d.mono (show j + 1 ≤ W.length by omega)
   have m3 : N (j + 1) ≤ N k ∨ N (k + 1) ≤ N j := by
    rcases Nat.lt_or_gt_of_ne q with r | r
    ·exact .inr (mono_le d.mono r)
    ·exact .inl (mono_le d.mono r)
   exact ((d.rows j hj).keep fun b hb hb2 => hkk b (by omega) (by omega) (by omega)).toB (by omega) (by omega)
 have hct' : c.t = (c.t.toNat : Int) := by omega
 obtain ⟨j, hj⟩ : ∃ j, c.t.toNat = j := ⟨_, rfl⟩
 have hj16 : j < 16 := by have := ok.t; omega
 have hje : j < ep.length := by rw [d.w.ep]; exact hj16
 rw [hj] at hct'
 have dk := d.w.dk (v := v) (now := now) hj16
 have stk := fun x => d.w.stk (v := v) (now := now) (x := x) hj16
 have hep : ep[c.t.toNat]? = some ep[j] := by rw [hj]; exact List.getElem?_eq_getElem hje
 have h6 : ep[j] = 1000000 := by rw [hep] at he; exact Option.some.inj he
 have h6' := eq_true h6
 have i1 : (c.op = 1) = False := by simp; omega
 have i3 : (c.op = 3) = False := by simp; omega
 have i5 : (c.op = 5) = False := by simp; omega
 rw [hct'] at gc1 hH1 fc ⊢
 simp only [↓zp, zz, zy, chkOk, Nat.reduceEqDiff, Nat.reduceAdd, Nat.reduceSub, Nat.reduceMul, Nat.reduceLT, Nat.reduceLeDiff, Int.reduceLT, Int.reduceLE, Int.reduceEq, Int.reduceAdd, Int.reduceNeg, reduceIte, r_st_p, r_nck_p, r_ix, r_iaa, takeN, VE.store, over, cellsAt, VE.part, blkX, gEval, fill, VE.unOp, resVs, resV, reduceCtorEq, lR, hH1, gc1, fc, i1, i3, i5, en, en', gm1, hj16, dk, h6']
 exact d.same kp1.nx kp1.lo kp1.get (.spent k hkm (by rw [ekm]; exact hkt) hop he)
theorem do_rotate (ok : CmdOk c) (hct : 0 ≤ c.t) (hop : c.op = 4) (e : Int) (he : ep[c.t.toNat]? = some e) (hne : e ≠ 1000000) (k : Nat) (hk : k < W.length) (hyes : fidx (isT c.t) W = (k : Int)) :
  ∃ r h', callRes vp f [.ptr bm 0, .agg (encC c)] h = some (r, h') ∧ DoP bm bA base now sd ep (W.map (·.a)) c tm h r h' := by
 obtain ⟨R, hR⟩ : ∃ R, c.tg.map (V.int .u8) = R := ⟨_, rfl⟩
 have lR : R.length = 32 := by rw [← hR, List.length_map, hc]
 have tR : takeN 32 R = some R := by rw [← lR]; exact takeN_all R
 have q1 := d.bAN
 have q2 := d.bmA
 have q3 := mono_le d.mono (Nat.zero_le W.length)
 have q4 := d.top
 have q5 := d.lo
 have q6 := d.hb
 refine res_raw hf rfl rfl ?_
 unfold encC B_model_do
 rw [hR]
 obtain ⟨H1, hH1⟩ : ∃ H, h.new (.cells (.int .u8 c.op :: .int .u32 c.t :: .int .u32 c.u :: .int .i64 c.l0.b :: .int .i64 c.l0.r :: .int .i64 c.l0.p :: .int .i64 c.l1.b :: .int .i64 c.l1.r :: .int .i64 c.l1.p :: .int .i64 c.l2.b :: .int .i64 c.l2.r :: .int .i64 c.l2.p :: .int .u8 c.us :: .int .u8 c.es :: .int .u64 c.ex :: R) .cl) = H := ⟨_, rfl⟩
 have kp1 : Kp h H1 := by rw [← hH1]; exact (Kp.refl h).new _
 have gc1 : H1.get h.nx = .cells (.int .u8 c.op :: .int .u32 c.t :: .int .u32 c.u :: .int .i64 c.l0.b :: .int .i64 c.l0.r :: .int .i64 c.l0.p :: .int .i64 c.l1.b :: .int .i64 c.l1.r :: .int .i64 c.l1.p :: .int .i64 c.l2.b :: .int .i64 c.l2.r :: .int .i64 c.l2.p :: .int .u8 c.us :: .int .u8 c.es :: .int .u64 c.ex :: R) .cl := by rw [← hH1, Heap.get_new, if_pos rfl]
 have nx1 : H1.nx = h.nx + 1 := by rw [← hH1]; rfl
 have lo1 := kp1.lo
 have gm1 := (kp1.get bm (by omega)).trans d.hm
 have aM1 := d.aM.keep (kp1.get bA (by omega))
 obtain ⟨r, Hf, fc, hHf, fp⟩ := find_spec h1 bm now c.t sd ep d.w v W bA W.length [] tag tm H1 gm1 aM1 (by omega)
 rw [hHf] at fc
 clear hHf Hf
 have hkr : fidx (isT c.t) W = (k : Int) ∧ W[k].a.t = c.t ∧ r = .ptr bA (k * 24) := by
  rcases fp with ⟨e, _⟩ | ⟨k', hk', e, e2, e3⟩
  ·omega
  ·have : k' = k := by omega
   subst this
   exact ⟨e, e2, e3⟩
 obtain ⟨_, hkt, rfl⟩ := hkr
 obtain ⟨p, hp⟩ := mr_pt bA k 24
 rw [show V.ptr bA (k * 24) = p 0 from (hp 0).symm] at fc
 have en : ∀ g : Heap, r_eqn false 0 (p 0) .nilp g = some (.bool false, g) := fun g => by rw [hp 0]; rfl
 have en' : ∀ g : Heap, r_eqn true 0 (p 0) .nilp g = some (.bool true, g) := fun g => by rw [hp 0]; rfl
 have nf := hp.nck
 have ff := hp.fa
 have hkm : k < (W.map (·.a)).length := by rw [List.length_map]; exact hk
 have ekm : (W.map (·.a))[k] = W[k].a := by rw [List.getElem_map]
 have hv : v = .sl bA 0 W.length W.length 24 := by
  rcases d.aM with ⟨_, e⟩ | ⟨e, _⟩
  ·rw [e] at hk; simp at hk
  ·exact e
 have gA1 : H1.get bA = .cells (W.flatMap encW ++ []) tag := by
  rcases aM1 with ⟨_, e⟩ | ⟨_, _, e⟩
  ·rw [e] at hk; simp at hk
  ·exact e
 have rk := d.rows k hk
 have n1' := mono_le d.mono (Nat.zero_le k)
 have n2' := mono_le d.mono (show k + 1 ≤ W.length by omega)
 have n3' := d.mono k
 have rest : ∀ (h' : Heap) (w' : Rw), h.nx ≤ h'.nx → RowB h' w' base → (∀ b, N 0 ≤ b → b < h.nx → ¬ (N k ≤ b ∧ b < N (k + 1)) → h'.get b = h.get b) → ∀ w ∈ W.set k w', RowB h' w base := by
  intro h' w' hx hw' hkk w hw
  obtain ⟨j, hj, rfl⟩ := List.mem_iff_getElem.1 hw
  rw [List.length_set] at hj
  by_cases q : k = j
  ·subst q
   rw [List.getElem_set_self]
   exact hw'
  ·rw [List.getElem_set_ne q]
   have m1 := mono_le d.mono (Nat.zero_le j)
   have m2 := mono_le d.mono (show j + 1 ≤ W.length by omega)
   have m3 : N (j + 1) ≤ N k ∨ N (k + 1) ≤ N j := by
    rcases Nat.lt_or_gt_of_ne q with r | r
    ·exact .inr (mono_le d.mono r)
    ·exact .inl (mono_le d.mono r)
   exact ((d.rows j hj).keep fun b hb hb2 => hkk b (by omega) (by omega) (by omega)).toB (by omega) (by omega)
 have hct' : c.t = (c.t.toNat : Int) := by omega
 obtain ⟨j, hj⟩ : ∃ j, c.t.toNat = j := ⟨_, rfl⟩
 have hj16 : j < 16 := by have := ok.t; omega
 have hje : j < ep.length := by rw [d.w.ep]; exact hj16
 rw [hj] at hct'
 have dk := d.w.dk (v := v) (now := now) hj16
 have stk := fun x => d.w.stk (v := v) (now := now) (x := x) hj16
 have hep : ep[c.t.toNat]? = some ep[j] := by rw [hj]; exact List.getElem?_eq_getElem hje
 have h6 : ep[j] = e := by rw [hep] at he; exact Option.some.inj he
 have hop' := eq_true hop
 have i1 : (c.op = 1) = False := by simp; omega
 have i3 : (c.op = 3) = False := by simp; omega
 have i5 : (c.op = 5) = False := by simp; omega
 have i2 : (c.op = 2) = False := by simp; omega
 rw [h6] at dk
 have stk := stk (wr .u32 (e + 1))
 obtain ⟨H2, hH2⟩ : ∃ H, H1.set bm (.cells (.int .u64 now :: mT sd (ep.set j (wr .u32 (e + 1))) v) tm) = H := ⟨_, rfl⟩
 have gm2 : H2.get bm = .cells (.int .u64 now :: mT sd (ep.set j (wr .u32 (e + 1))) v) tm := by rw [← hH2, Heap.get_set, if_pos rfl]
 have gk2 : ∀ b, b ≠ bm → H2.get b = H1.get b := fun b hb => by rw [← hH2, Heap.get_set, if_neg hb]
 have nx2 : H2.nx = H1.nx := by rw [← hH2]; rfl
 have lo2 : H2.lo = h.lo := by rw [← hH2]; exact lo1
 have lbm : ¬ bm < H1.lo := by omega
 have gA2 := (gk2 bA (by omega)).trans gA1
 have gc2 := (gk2 h.nx (by omega)).trans gc1
 obtain ⟨w', hw'⟩ : ∃ w' : Rw, w' = ⟨{ W[k].a with rev := .nil }, W[k].u, W[k].e, .nils, W[k].ou, W[k].oe, ⟨rfl, rfl⟩⟩ := ⟨_, rfl⟩
 have st := hp.st encW_len gA2 hk (by rw [lo2]; omega) (j := 20) (n := 1) (v := .nils) (new := [.nils]) w' rfl rfl (by omega) (by omega) rfl (by rw [hw']; rfl)
 rw [hct'] at gc1 hH1 fc gc2 ⊢
 have hnA : ¬ h.nx = bA := by omega
 simp only [↓zp, zz, zy, chkOk, Nat.reduceEqDiff, Nat.reduceAdd, Nat.reduceSub, Nat.reduceMul, Nat.reduceLT, Nat.reduceLeDiff, Int.reduceLT, Int.reduceLE, Int.reduceEq, Int.reduceAdd, Int.reduceNeg, reduceIte, r_st_p, r_nck_p, r_ix, r_iaa, takeN, VE.store, over, cellsAt, VE.part, blkX, gEval, fill, VE.unOp, resVs, resV, reduceCtorEq, lR, hH1, gc1, fc, hop', i1, i3, i5, i2, en, en', nf, ff, gm1, hj16, dk, hne, lbm, stk, hH2, st, gc2, hnA]
 have gk : ∀ b, b < h.nx → b ≠ bA → b ≠ bm → (H2.set bA (.cells ((W.set k w').flatMap encW ++ []) tag)).get b = h.get b := fun b h1 h2 h3' => by
  rw [Heap.get_set, if_neg h2, gk2 b h3', kp1.get b h1]
 refine ⟨⟨4, ep.set j (wr .u32 (e + 1)), W.set k w', v, bA, W.length, [], tag, rfl, by rw [Heap.get_set, if_neg (by omega), gm2], d.w.set, .inr ⟨by rw [List.length_set]; exact hv, by rw [List.length_set]; exact Nat.le_refl _, by rw [Heap.get_set, if_pos rfl]⟩, by omega, ?_, ?_⟩, fun b hb hb' => gk b (by omega) (by omega) (by omega), lo2, by show h.nx ≤ H2.nx; omega⟩
 ·refine rest _ w' (by show h.nx ≤ H2.nx; omega) ?_ fun b h1 h2 h3 => gk b h2 (by omega) (by omega)
  have wu : w'.u = W[k].u ∧ w'.e = W[k].e ∧ w'.r = .nils ∧ w'.a.users = W[k].a.users ∧ w'.a.ends = W[k].a.ends ∧ w'.a.rev.l = [] := by rw [hw']; exact ⟨rfl, rfl, rfl, rfl, rfl, rfl⟩
  obtain ⟨wu1, wu2, wu3, wu4, wu5, wu6⟩ := wu
  obtain ⟨n1, n2, a1, a2, a3, ou, oe, or'⟩ := rk
  refine ⟨?_, ?_, .inl ⟨wu3, wu6⟩⟩
  ·rw [wu1, wu4]
   exact (ou.keep fun b hb hb2 => gk b (by omega) (by omega) (by omega)).mono (by omega) (by show _ ≤ H2.nx; omega)
  ·rw [wu2, wu5]
   exact (oe.keep fun b hb hb2 => gk b (by omega) (by omega) (by omega)).mono (by omega) (by show _ ≤ H2.nx; omega)
 ·have e1 : (W.set k w').map (·.a) = (W.map (·.a)).set k { (W.map fun x : Rw => x.a)[k] with rev := .nil } := by
   rw [List.map_set, hw']
   simp only [ekm]
  rw [e1, ← hj]
  exact .rotate k hkm (by rw [ekm]; exact hkt) hop e he hne
theorem do_delete {e1 t1 : Nat} (w6 : vp c6 = some B_model_do_fn1) (w7 : vp c7 = some (B_slices_DeleteFunc_api_Account e1 t1)) (w1 : vp e1 = some B_slices_IndexFunc_api_Account) (hs : ∀ k (hk : k + 1 < W.length), W[k].a.t < W[k + 1].a.t) (ok : CmdOk c) (hct : 0 ≤ c.t) (hop : c.op = 2) (e : Int) (he : ep[c.t.toNat]? = some e) (hne : e ≠ 1000000) (k : Nat) (hk : k < W.length) (hyes : fidx (isT c.t) W = (k : Int)) :
  ∃ r h', callRes vp f [.ptr bm 0, .agg (encC c)] h = some (r, h') ∧ DoP bm bA base now sd ep (W.map (·.a)) c tm h r h' := by
 obtain ⟨R, hR⟩ : ∃ R, c.tg.map (V.int .u8) = R := ⟨_, rfl⟩
 have lR : R.length = 32 := by rw [← hR, List.length_map, hc]
 have tR : takeN 32 R = some R := by rw [← lR]; exact takeN_all R
 have q1 := d.bAN
 have q2 := d.bmA
 have q3 := mono_le d.mono (Nat.zero_le W.length)
 have q4 := d.top
 have q5 := d.lo
 have q6 := d.hb
 refine res_raw hf rfl rfl ?_
 unfold encC B_model_do
 rw [hR]
 obtain ⟨H1, hH1⟩ : ∃ H, h.new (.cells (.int .u8 c.op :: .int .u32 c.t :: .int .u32 c.u :: .int .i64 c.l0.b :: .int .i64 c.l0.r :: .int .i64 c.l0.p :: .int .i64 c.l1.b :: .int .i64 c.l1.r :: .int .i64 c.l1.p :: .int .i64 c.l2.b :: .int .i64 c.l2.r :: .int .i64 c.l2.p :: .int .u8 c.us :: .int .u8 c.es :: .int .u64 c.ex :: R) .cl) = H := ⟨_, rfl⟩
 have kp1 : Kp h H1 := by rw [← hH1]; exact (Kp.refl h).new _
 have gc1 : H1.get h.nx = .cells (.int .u8 c.op :: .int .u32 c.t :: .int .u32 c.u :: .int .i64 c.l0.b :: .int .i64 c.l0.r :: .int .i64 c.l0.p :: .int .i64 c.l1.b :: .int .i64 c.l1.r :: .int .i64 c.l1.p :: .int .i64 c.l2.b :: .int .i64 c.l2.r :: .int .i64 c.l2.p :: .int .u8 c.us :: .int .u8 c.es :: .int .u64 c.ex :: R) .cl := by rw [← hH1, Heap.get_new, if_pos rfl]
 have nx1 : H1.nx = h.nx + 1 := by rw [← hH1]; rfl
 have lo1 := kp1.lo
 have gm1 := (kp1.get bm (by omega)).trans d.hm
 have aM1 := d.aM.keep (kp1.get bA (by omega))
 obtain ⟨r, Hf, fc, hHf, fp⟩ := find_spec h1 bm now c.t sd ep d.w v W bA W.length [] tag tm H1 gm1 aM1 (by omega)
 rw [hHf] at fc
 clear hHf Hf
 have hkr : fidx (isT c.t) W = (k : Int) ∧ W[k].a.t = c.t ∧ r = .ptr bA (k * 24) := by
  rcases fp with ⟨e, _⟩ | ⟨k', hk', e, e2, e3⟩
  ·omega
  ·have : k' = k := by omega
   subst this
   exact ⟨e, e2, e3⟩
 obtain ⟨_, hkt, rfl⟩ := hkr
 obtain ⟨p, hp⟩ := mr_pt bA k 24
 rw [show V.ptr bA (k * 24) = p 0 from (hp 0).symm] at fc
 have en : ∀ g : Heap, r_eqn false 0 (p 0) .nilp g = some (.bool false, g) := fun g => by rw [hp 0]; rfl
 have en' : ∀ g : Heap, r_eqn true 0 (p 0) .nilp g = some (.bool true, g) := fun g => by rw [hp 0]; rfl
 have nf := hp.nck
 have ff := hp.fa
 have hkm : k < (W.map (·.a)).length := by rw [List.length_map]; exact hk
 have ekm : (W.map (·.a))[k] = W[k].a := by rw [List.getElem_map]
 have hv : v = .sl bA 0 W.length W.length 24 := by
  rcases d.aM with ⟨_, e⟩ | ⟨e, _⟩
  ·rw [e] at hk; simp at hk
  ·exact e
 have gA1 : H1.get bA = .cells (W.flatMap encW ++ []) tag := by
  rcases aM1 with ⟨_, e⟩ | ⟨_, _, e⟩
  ·rw [e] at hk; simp at hk
  ·exact e
 have rk := d.rows k hk
 have n1' := mono_le d.mono (Nat.zero_le k)
 have n2' := mono_le d.mono (show k + 1 ≤ W.length by omega)
 have n3' := d.mono k
 have rest : ∀ (h' : Heap) (w' : Rw), h.nx ≤ h'.nx → RowB h' w' base → (∀ b, N 0 ≤ b → b < h.nx → ¬ (N k ≤ b ∧ b < N (k + 1)) → h'.get b = h.get b) → ∀ w ∈ W.set k w', RowB h' w base := by
  intro h' w' hx hw' hkk w hw
  obtain ⟨j, hj, rfl⟩ := List.mem_iff_getElem.1 hw
  rw [List.length_set] at hj
  by_cases q : k = j
  ·subst q
   rw [List.getElem_set_self]
   exact hw'
  ·rw [List.getElem_set_ne q]
   have m1 := mono_le d.mono (Nat.zero_le j)
   have m2 := mono_le d.mono (show j + 1 ≤ W.length by omega)
   have m3 : N (j + 1) ≤ N k ∨ N (k + 1) ≤ N j := by
    rcases Nat.lt_or_gt_of_ne q with r | r
    ·exact .inr (mono_le d.mono r)
    ·exact .inl (mono_le d.mono r)
   exact ((d.rows j hj).keep fun b hb hb2 => hkk b (by omega) (by omega) (by omega)).toB (by omega) (by omega)
 have hct' : c.t = (c.t.toNat : Int) := by omega
 obtain ⟨j, hj⟩ : ∃ j, c.t.toNat = j := ⟨_, rfl⟩
 have hj16 : j < 16 := by have := ok.t; omega
 have hje : j < ep.length := by rw [d.w.ep]; exact hj16
 rw [hj] at hct'
 have dk := d.w.dk (v := v) (now := now) hj16
 have stk := fun x => d.w.stk (v := v) (now := now) (x := x) hj16
 have hep : ep[c.t.toNat]? = some ep[j] := by rw [hj]; exact List.getElem?_eq_getElem hje
 have h6 : ep[j] = e := by rw [hep] at he; exact Option.some.inj he
 have hop' := eq_true hop
 have i1 : (c.op = 1) = False := by simp; omega
 have i3 : (c.op = 3) = False := by simp; omega
 have i5 : (c.op = 5) = False := by simp; omega
 rw [h6] at dk
 have stk := stk (wr .u32 (e + 1))
 obtain ⟨H2, hH2⟩ : ∃ H, H1.set bm (.cells (.int .u64 now :: mT sd (ep.set j (wr .u32 (e + 1))) v) tm) = H := ⟨_, rfl⟩
 have gm2 : H2.get bm = .cells (.int .u64 now :: mT sd (ep.set j (wr .u32 (e + 1))) v) tm := by rw [← hH2, Heap.get_set, if_pos rfl]
 have gk2 : ∀ b, b ≠ bm → H2.get b = H1.get b := fun b hb => by rw [← hH2, Heap.get_set, if_neg hb]
 have nx2 : H2.nx = H1.nx := by rw [← hH2]; rfl
 have lo2 : H2.lo = h.lo := by rw [← hH2]; exact lo1
 have lbm : ¬ bm < H1.lo := by omega
 have gA2 := (gk2 bA (by omega)).trans gA1
 have gc2 := (gk2 h.nx (by omega)).trans gc1
 obtain ⟨w', hw'⟩ : ∃ w' : Rw, w' = ⟨{ W[k].a with rev := .nil }, W[k].u, W[k].e, .nils, W[k].ou, W[k].oe, ⟨rfl, rfl⟩⟩ := ⟨_, rfl⟩
 have st := hp.st encW_len gA2 hk (by rw [lo2]; omega) (j := 20) (n := 1) (v := .nils) (new := [.nils]) w' rfl rfl (by omega) (by omega) rfl (by rw [hw']; rfl)
 obtain ⟨H3, hH3⟩ : ∃ H, H2.set bA (.cells ((W.set k w').flatMap encW ++ []) tag) = H := ⟨_, rfl⟩
 rw [hH3] at st
 have gA3 : H3.get bA = .cells ((W.set k w').flatMap encW ++ []) tag := by rw [← hH3, Heap.get_set, if_pos rfl]
 have gk3 : ∀ b, b ≠ bA → H3.get b = H2.get b := fun b hb => by rw [← hH3, Heap.get_set, if_neg hb]
 have nx3 : H3.nx = H1.nx := by rw [← hH3]; exact nx2
 have lo3 : H3.lo = h.lo := by rw [← hH3]; exact lo2
 have gc3 := (gk3 h.nx (by omega)).trans gc2
 have gm3 := (gk3 bm (by omega)).trans gm2
 have mono : ∀ (d a : Nat) (ha : a < W.length) (hb : a + d < W.length), 0 < d → W[a].a.t < W[a + d].a.t := by
  intro d
  induction d with
  | zero => intro a _ _ h; omega
  | succ d ih =>
   intro a ha hb _
   have e2 := hs (a + d) (by omega)
   rcases Nat.eq_zero_or_pos d with z | z
   ·subst z; exact e2
   ·have e1 := ih a ha (by omega) z
    have e3 : a + (d + 1) = a + d + 1 := by omega
    simp only [e3]
    omega
 have wt : w'.a.t = W[k].a.t := by rw [hw']
 have lS : (W.set k w').length = W.length := List.length_set
 have fk : fidx (isT c.t) (W.set k w') = (k : Int) := fidx_at (by omega) (by rw [List.getElem_set_self]; simp [isT, wt, hkt]) (fun i hi hik => by
  have h5 := mono (k - i) i (by omega) (by omega) (by omega)
  have h6 : i + (k - i) = k := by omega
  simp only [h6] at h5
  rw [List.getElem_set_ne (by omega)]
  simp only [isT, decide_eq_false_iff_not]
  omega)
 have fa : ∀ i (hi : i < (W.set k w').length), k < i → isT c.t (W.set k w')[i] = false := fun i hi hik => by
  have h5 := mono (i - k) k (by omega) (by omega) (by omega)
  have h6 : k + (i - k) = i := by omega
  simp only [h6] at h5
  rw [List.getElem_set_ne (by omega)]
  simp only [isT, decide_eq_false_iff_not]
  omega
 obtain ⟨_, h4, dc, rfl, P⟩ := delF_spec w7 w1 c6 h.nx (isT c.t) (W.set k w') k bA W.length [] tag _ H3 gA3 gc3 (by omega) (by omega) (by omega) (by omega) (by omega) (by omega) (by omega) (fun g x hg hgn => isT_spec w6 h.nx c.t x g _ _ _ hg hgn) (by omega) fk fa
 rw [lS] at dc
 have gm4 : h4.get bm = .cells (.int .u64 now :: mT sd (ep.set j (wr .u32 (e + 1))) v) tm := by rw [P.get bm (by omega) (by omega), gm3]
 have d48 := (d.w.set (k := j) (x := wr .u32 (e + 1))).d48 (v := v)
 have lo4 : h4.lo = h.lo := P.lo.trans lo3
 have lbm4 : ¬ bm < h4.lo := by omega
 have stv := (d.w.set (k := j) (x := wr .u32 (e + 1))).st (v := v) (v' := .sl bA 0 (W.length - 1) W.length 24) rfl
 rw [hct'] at gc1 hH1 fc gc2 gc3 ⊢
 rw [hv] at d48 gm3 gm4 stv stk dk hH2 gm1
 simp only [↓zp, zz, zy, chkOk, Nat.reduceEqDiff, Nat.reduceAdd, Nat.reduceSub, Nat.reduceMul, Nat.reduceLT, Nat.reduceLeDiff, Int.reduceLT, Int.reduceLE, Int.reduceEq, Int.reduceAdd, Int.reduceNeg, reduceIte, r_st_p, r_nck_p, r_ix, r_iaa, takeN, VE.store, over, cellsAt, VE.part, blkX, gEval, fill, VE.unOp, resVs, resV, reduceCtorEq, lR, hH1, gc1, fc, hop', i1, i3, i5, en, en', nf, ff, gm1, hj16, dk, hne, lbm, stk, hH2, st, gc2, gc3, gm3, d48, dc, gm4, lbm4, stv]
 have px := P.nx
 have gk : ∀ b, b < h.nx → b ≠ bA → b ≠ bm → (h4.set bm (.cells (.int .u64 now :: mT sd (ep.set j (wr .u32 (e + 1))) (.sl bA 0 (W.length - 1) W.length 24)) tm)).get b = h.get b := fun b h1 h2 h3' => by
  rw [Heap.get_set, if_neg h3', P.get b (by omega) h2, gk3 b h2, gk2 b h3', kp1.get b h1]
 have eE : (W.set k w').eraseIdx k = W.eraseIdx k := by
  rw [List.eraseIdx_eq_take_drop_succ, List.eraseIdx_eq_take_drop_succ, List.take_set_of_le (Nat.le_refl _), List.drop_set_of_lt (Nat.lt_succ_self _)]
 have eL : (W.eraseIdx k).length = W.length - 1 := List.length_eraseIdx_of_lt hk
 obtain ⟨rs, tg', gf⟩ := P.at_
 rw [eE] at gf
 refine ⟨⟨4, ep.set j (wr .u32 (e + 1)), W.eraseIdx k, _, bA, W.length, rs, tg', rfl, by rw [Heap.get_set, if_pos rfl], d.w.set, .inr ⟨by rw [eL], by omega, by rw [Heap.get_set, if_neg (by omega), gf]⟩, by omega, ?_, ?_⟩, fun b hb hb' => gk b (by omega) (by omega) (by omega), lo4, by show h.nx ≤ h4.nx; omega⟩
 ·intro w hw
  exact d.rowB (by show h.nx ≤ h4.nx; omega) (fun b hb hb2 => gk b hb2 (by omega) (by omega)) w (List.mem_of_mem_eraseIdx hw)
 ·have e1 : (W.eraseIdx k).map (·.a) = (W.map (·.a)).eraseIdx k := by
   rw [List.eraseIdx_eq_take_drop_succ, List.eraseIdx_eq_take_drop_succ, List.map_append, List.map_take, List.map_drop]
  rw [e1, ← hj]
  exact .delete k hkm (by rw [ekm]; exact hkt) hop e he hne
end
end
end
end Go.VE.LB
