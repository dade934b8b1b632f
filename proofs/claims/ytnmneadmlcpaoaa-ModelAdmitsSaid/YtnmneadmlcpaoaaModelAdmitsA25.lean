/- What the functions of the law ModelAdmits compute, on typed arguments (part 25). -/
import Derived.Test.YtnmneadmlcpaoaaModelAdmitsA24
set_option linter.all false
namespace Go.VE.LB
open Go Go.VE
set_option maxRecDepth 100000
set_option linter.all false
set_option maxHeartbeats 4000000
def z24 : List V := [.int .u32 0, .int .i64 0, .int .i64 0, .int .i64 0, .int .i64 0, .int .i64 0, .int .i64 0, .int .i64 0, .int .i64 0, .int .i64 0, .int .i64 0, .int .i64 0, .int .i64 0, .int .i64 0, .int .i64 0, .int .i64 0, .int .i64 0, .int .u64 0, .nils, .nils, .nils, .int .u64 0, .int .u64 0, .int .u64 0]
def zR : List V := [.int .u8 0, .int .u32 0, .int .u32 0, .int .u32 0, .int .u32 0, .int .u64 0]
/-- a reply -/
def encR (code t l0 l1 l2 w : Int) : List V := [.int .u8 code, .int .u32 t, .int .u32 l0, .int .u32 l1, .int .u32 l2, .int .u64 w]
/-- what an account must be, to be asked -/
structure QOk (a : Acct) : Prop where
  l1 : limBad a.l1 = false
  l2 : limBad a.l2 = false
  c0 : 1 ≤ a.c0 ∧ a.c0 ≤ 8
  c1 : 1 ≤ a.c1 ∧ a.c1 ≤ 8
  own : bkBad a.own = false
  ownt : u64 a.own.t
  us : ∀ x ∈ a.users.l, bkBad x.b = false ∧ u64 x.b.t
  es : ∀ x ∈ a.ends.l, bkBad x.b = false ∧ u64 x.b.t
  un : a.users.l.length ≤ 100000
  en : a.ends.l.length ≤ 100000
  rn : a.rev.l.length ≤ 100000
theorem useL_cons (l : List Held) (key : Int) (lim : Limit) (t : Int) (most : Nat) (hm : 1 ≤ most) (hlim : limBad lim = false) (ht : u64 t) (hl : ∀ x ∈ l, bkBad x.b = false ∧ u64 x.b.t) :
    ∃ x U, (useL l key lim t).take most = x :: U ∧ x.k = key ∧ bkBad x.b = false ∧ u64 x.b.t := by
  obtain ⟨m, rfl⟩ : ∃ m, most = m + 1 := ⟨most - 1, by omega⟩
  unfold useL
  split
  · rename_i x hx
    have h1 := List.find?_some hx
    have h2 := List.mem_of_find?_eq_some hx
    exact ⟨x, _, rfl, by simpa [isK] using h1, hl x h2⟩
  · refine ⟨_, _, rfl, rfl, ?_, ht⟩
    have := lim_ok.1 hlim
    exact mkB_ok hlim (by omega) (by omega) (by omega) (by omega) (fun _ => rfl)
section
variable {vp : Nat → Option VFn}
/-- what asking needs -/
structure KOk (vp : Nat → Option VFn) (c1 c2 c3 c4 : Nat) : Prop where
  u : ∃ k1 k2 k3 k4 k5 t1 t2, vp c1 = some (B_model_use k1 k2 k3 k4 t1) ∧ AtOk vp k1 ∧ vp k2 = some B_slices_Delete_api_Held ∧ vp k3 = some (B_bucket_Full k5 t2) ∧ vp k5 = some B_bucket_CheckLimit ∧ vp k4 = some B_slices_Insert_api_Held
  t : ∃ k1 k2 k3 k4 k5 k6 k7, vp c2 = some (B_levels_Take k1 k2) ∧ vp k1 = some (B_levels_check k3 k4 k5) ∧ LOk vp k3 k4 k5 ∧ vp k2 = some (B_levels_take k6 k7) ∧ TOk vp k6 k7
  c : ∃ k1, vp c3 = some (B_model_count k1) ∧ vp k1 = some B_model_count_fn1
  w : ∃ k1 k2 t1 k3 k4 k5, vp c4 = some (B_levels_Wait k1 k2 t1) ∧ vp k1 = some (B_levels_check k3 k4 k5) ∧ LOk vp k3 k4 k5 ∧ modeOf vp k2 = some 1 ∧
    ∀ (b : Bucket) (c : Int), bkBad b = false → u64 b.t → 0 ≤ c → ∀ h, callRes vp k2 [.agg (encB b), .int .i64 c] h = some (.tup [.int .u64 (waitB b c), .int .i64 0], h)
theorem KOk.use {c1 c2 c3 c4 : Nat} (w : KOk vp c1 c2 c3 c4) (l : List Held) (most : Nat) (key : Int) (lim : Limit) (t : Int) (hlim : limBad lim = false) (v : V) (lo hi : Nat) (h : Heap) (ho : Own encH 7 h v l lo hi) (hn : l.length ≤ 100000) (hm : most ≤ 100000) (hlo : h.lo ≤ lo) (hhi : hi ≤ h.nx) (hln : h.lo ≤ h.nx) :
    ∃ v' h', callRes vp c1 [v, .int .i64 (most : Int), .int .u32 key, .agg (encL lim), .int .u64 t] h = some (v', h') ∧ UseP l most key lim t lo hi h v' h' := by
  obtain ⟨k1, k2, k3, k4, k5, t1, t2, e1, e2, e3, e4, e5, e6⟩ := w.u
  exact use_spec e1 e2 e3 e4 e5 e6 l most key lim t hlim v lo hi h ho hn hm hlo hhi hln
/-- what comes of asking -/
structure AskP (a : Acct) (r : V) (user ek cost tick : Int) (lo n2 n3 : Nat) (h : Heap) (v : V) (h' : Heap) : Prop where
  ex : ∃ u e : V, ∃ x y : Held, ∃ U E : List Held, ∃ b1 b2 cap1 cap2 : Nat, ∃ R1 R2 : List V, ∃ T1 T2 : Tag, ∃ m0 m1 m2 : Int, ∃ ad : Bool, ∃ o' x' y' : Bucket,
    ad = holds3 (fillB a.own tick) (fillB x.b tick) (fillB y.b tick) cost ∧ o' = chB ad (fillB a.own tick) cost ∧ x' = chB ad (fillB x.b tick) cost ∧ y' = chB ad (fillB y.b tick) cost ∧
    (useL a.users.l user a.l1 tick).take a.c0.toNat = x :: U ∧ (useL a.ends.l ek a.l2 tick).take a.c1.toNat = y :: E ∧
    v = .tup [.agg (encS a u e r o' m0 m1 m2), .agg (encR (if ad then 2 else 3) a.t (wr .u32 o'.lv) (wr .u32 x'.lv) (wr .u32 y'.lv) (if ad then 0 else wait3 o' x' y' cost))] ∧
    u = .sl b1 0 (U.length + 1) cap1 7 ∧ e = .sl b2 0 (E.length + 1) cap2 7 ∧
    h'.get b1 = .cells (((⟨x.k, x'⟩ : Held) :: U).flatMap encH ++ R1) T1 ∧ h'.get b2 = .cells (((⟨y.k, y'⟩ : Held) :: E).flatMap encH ++ R2) T2 ∧ lo ≤ b1 ∧ b1 < h'.nx ∧ lo ≤ b2 ∧ b2 < h'.nx
  keep : ∀ c, c < lo → h'.get c = h.get c
  keepR : ∀ c, n2 ≤ c → c < n3 → h'.get c = h.get c
  lo' : h'.lo = h.lo
  nx' : h.nx ≤ h'.nx
/-- a heap that has the places of interest as another has them -/
def Kq (lo hi nx l : Nat) (H H' : Heap) : Prop := (∀ c, (c < lo ∨ hi ≤ c ∧ c < nx) → H'.get c = H.get c) ∧ H'.lo = l ∧ H.nx ≤ H'.nx
theorem Kq.new {lo hi nx l : Nat} {H H' : Heap} (k : Kq lo hi nx l H H') (hl : lo ≤ nx) (hn : nx ≤ H.nx) (x : Blk) : Kq lo hi nx l H (H'.new x) := ⟨fun c hc => by rw [Heap.get_new, if_neg (by have := k.2.2; omega), k.1 c hc], k.2.1, by have := k.2.2; simp [Heap.new]; omega⟩
theorem Kq.set {lo hi nx l : Nat} {H H' : Heap} (k : Kq lo hi nx l H H') {b : Nat} (x : Blk) (hb : lo ≤ b) (hb2 : ¬ (hi ≤ b ∧ b < nx)) : Kq lo hi nx l H (H'.set b x) := ⟨fun c hc => by rw [Heap.get_set, if_neg (by omega), k.1 c hc], k.2.1, k.2.2⟩
theorem ask_spec {f c1 c2 c3 c4 t1 t2 t3 : Nat} (hf : vp f = some (B_model_ask c1 c2 c3 c4 t1 t2 t3)) (w : KOk vp c1 c2 c3 c4) (m2' : modeOf vp c2 = some 1) (m4' : modeOf vp c4 = some 1) (a : Acct) (ok : QOk a) (u e r : V) (n0 n1 n2 n3 : Nat) (user ep cost tick : Int) (hc : 0 ≤ cost ∧ cost < 4294967296) (ht : u64 tick) (h : Heap)
    (ou : Own encH 7 h u a.users.l n0 n1) (oe : Own encH 7 h e a.ends.l n1 n2) (or' : Own e32 1 h r a.rev.l n2 n3) (hlo : h.lo ≤ n0) (h01 : n0 ≤ n1) (h12 : n1 ≤ n2) (h23 : n2 ≤ n3) (h3 : n3 ≤ h.nx) :
    ∃ v h', callRes vp f [.agg (encS a u e r a.own a.n0 a.n1 a.n2), .int .u32 user, .int .u16 ep, .int .u32 cost, .int .u64 tick] h = some (v, h') ∧ AskP a r user (wr .u32 ep) cost tick n0 n2 n3 h v h' := by
  obtain ⟨k0, hk0⟩ := Int.eq_ofNat_of_zero_le (show 0 ≤ a.c0 by have := ok.c0; omega)
  obtain ⟨k1, hk1⟩ := Int.eq_ofNat_of_zero_le (show 0 ≤ a.c1 by have := ok.c1; omega)
  have hk0 : a.c0 = (k0 : Int) := hk0
  have hk1 : a.c1 = (k1 : Int) := hk1
  have b0 := ok.c0
  have b1' := ok.c1
  refine res_raw hf rfl rfl ?_
  have u1 := ou.one
  have e1 := oe.one
  have r1 := or'.one
  have l0 : ¬ (h.nx < h.lo) := by omega
  have l1 : ¬ (h.nx + 1 < h.lo) := by omega
  have l2 : ¬ (h.nx + 2 < h.lo) := by omega
  -- the first heap
  obtain ⟨H0, hH0⟩ : ∃ H0, ((h.new (.cells (encS a u e r a.own a.n0 a.n1 a.n2) .cl)).new (.cells z24 (.ct t1))).new (.cells zR (.ct t2)) = H0 := ⟨_, rfl⟩
  have g0 : H0.get h.nx = .cells (encS a u e r a.own a.n0 a.n1 a.n2) .cl := by rw [← hH0]; simp only [↓zp, zz, true_and, and_true, chkOk, Nat.reduceEqDiff, Nat.reduceAdd, Nat.reduceSub, Nat.reduceMul, Nat.reduceLT, Nat.reduceLeDiff, Int.reduceLT, Int.reduceLE, Int.reduceEq, Int.reduceAdd, Int.reduceNeg, if_false, if_true, reduceIte, ags, LB.agz, agd, r_mv, r_pick, r_box, r_alloc, r_un, r_eqb, r_ext, r_mkf, r_cnv, r_st, r_nck, r_ix, r_iaa, takeN, agc, agn, VE.store, over, cellsAt, VE.part, agm, agb, blkX, gEval, cond_true, cond_false, r_build, r_bsl, fill, VE.unOp, r_bin, adz, ads, resOf, resVs, resV, alc, aln, reduceCtorEq, or_true, true_or, false_or, or_false, eq_self, exists_eq_left', Option.some.injEq]
  have g0b : H0.get (h.nx + 1) = .cells z24 (.ct t1) := by rw [← hH0]; simp only [↓zp, zz, true_and, and_true, chkOk, Nat.reduceEqDiff, Nat.reduceAdd, Nat.reduceSub, Nat.reduceMul, Nat.reduceLT, Nat.reduceLeDiff, Int.reduceLT, Int.reduceLE, Int.reduceEq, Int.reduceAdd, Int.reduceNeg, if_false, if_true, reduceIte, ags, LB.agz, agd, r_mv, r_pick, r_box, r_alloc, r_un, r_eqb, r_ext, r_mkf, r_cnv, r_st, r_nck, r_ix, r_iaa, takeN, agc, agn, VE.store, over, cellsAt, VE.part, agm, agb, blkX, gEval, cond_true, cond_false, r_build, r_bsl, fill, VE.unOp, r_bin, adz, ads, resOf, resVs, resV, alc, aln, reduceCtorEq, or_true, true_or, false_or, or_false, eq_self, exists_eq_left', Option.some.injEq]
  have g0c : H0.get (h.nx + 2) = .cells zR (.ct t2) := by rw [← hH0]; simp only [↓zp, zz, true_and, and_true, chkOk, Nat.reduceEqDiff, Nat.reduceAdd, Nat.reduceSub, Nat.reduceMul, Nat.reduceLT, Nat.reduceLeDiff, Int.reduceLT, Int.reduceLE, Int.reduceEq, Int.reduceAdd, Int.reduceNeg, if_false, if_true, reduceIte, ags, LB.agz, agd, r_mv, r_pick, r_box, r_alloc, r_un, r_eqb, r_ext, r_mkf, r_cnv, r_st, r_nck, r_ix, r_iaa, takeN, agc, agn, VE.store, over, cellsAt, VE.part, agm, agb, blkX, gEval, cond_true, cond_false, r_build, r_bsl, fill, VE.unOp, r_bin, adz, ads, resOf, resVs, resV, alc, aln, reduceCtorEq, or_true, true_or, false_or, or_false, eq_self, exists_eq_left', Option.some.injEq]
  have nx0 : H0.nx = h.nx + 3 := by rw [← hH0]; rfl
  have lo0 : H0.lo = h.lo := by rw [← hH0]; rfl
  have kp0 : ∀ c, c < h.nx → H0.get c = h.get c := fun c hc => by
    rw [← hH0, Heap.get_new, if_neg (by show ¬ c = h.nx + 1 + 1; omega), Heap.get_new, if_neg (by show ¬ c = h.nx + 1; omega), Heap.get_new, if_neg (by omega)]
  -- the users' list
  obtain ⟨v1, H1, cu, b1, cap1, R1, T1, rfl, gb1, w1, bx1, kp1, lo1, nx1⟩ := w.use a.users.l k0 user a.l1 tick ok.l1 u n0 n1 H0 (ou.keep (fun b h1 h2 => kp0 b (by omega))) ok.un (by omega) (by omega) (by omega) (by omega)
  obtain ⟨x, U, hU, xk, xb, xt⟩ := useL_cons a.users.l user a.l1 tick k0 (by omega) ok.l1 ht ok.us
  rw [hU] at gb1 cu
  have g1 : H1.get h.nx = _ := (kp1 h.nx (by omega) (by omega)).trans g0
  have g1b : H1.get (h.nx + 1) = _ := (kp1 _ (by omega) (by omega)).trans g0b
  have g1c : H1.get (h.nx + 2) = _ := (kp1 _ (by omega) (by omega)).trans g0c
  obtain ⟨v1, hv1⟩ : ∃ v1, V.sl b1 0 (x :: U).length cap1 7 = v1 := ⟨_, rfl⟩
  have v1o : oneCell v1 = true := by rw [← hv1]; rfl
  have v1c : cellsO v1 = some [v1] := by rw [← hv1]; rfl
  have v1i : ∀ h, r_ia 7 v1 (.int .i64 0) h = some (.ptr b1 0, h) := fun h => by rw [← hv1]; simp only [r_ia, asNat0, blt_dec, List.length_cons, show 0 < U.length + 1 by omega, decide_true, cond_true, Nat.zero_mul, Nat.add_zero]
  rw [hv1] at cu
  obtain ⟨H1s, hH1s⟩ : ∃ H, H1.set h.nx (.cells (encS a v1 e r a.own a.n0 a.n1 a.n2) .cl) = H := ⟨_, rfl⟩
  have kp1s : ∀ c, c ≠ h.nx → H1s.get c = H1.get c := fun c hc => by rw [← hH1s, Heap.get_set, if_neg hc]
  have g1s : H1s.get h.nx = .cells (encS a v1 e r a.own a.n0 a.n1 a.n2) .cl := by rw [← hH1s, Heap.get_set, if_pos rfl]
  have nx1s : H1s.nx = H1.nx := by rw [← hH1s]; rfl
  have lo1s : H1s.lo = h.lo := by rw [← hH1s]; exact lo1.trans lo0
  -- the endpoints' list
  obtain ⟨v2, H2, ce, b2, cap2, R2, T2, rfl, gb2, w2, bx2, kp2, lo2, nx2⟩ := w.use a.ends.l k1 (wr .u32 ep) a.l2 tick ok.l2 e n1 n2 H1s (oe.keep (fun b h1 h2 => by rw [kp1s b (by omega), kp1 b (by omega) (by omega), kp0 b (by omega)])) ok.en (by omega) (by omega) (by omega) (by omega)
  obtain ⟨y, E, hE, yk, yb, yt⟩ := useL_cons a.ends.l (wr .u32 ep) a.l2 tick k1 (by omega) ok.l2 ht ok.es
  rw [hE] at gb2 ce
  have lo2' : H2.lo = h.lo := lo2.trans lo1s
  have g2 : H2.get h.nx = _ := (kp2 h.nx (by omega) (by omega)).trans g1s
  have g2b : H2.get (h.nx + 1) = _ := (kp2 _ (by omega) (by omega)).trans ((kp1s _ (by omega)).trans g1b)
  have g2c : H2.get (h.nx + 2) = _ := (kp2 _ (by omega) (by omega)).trans ((kp1s _ (by omega)).trans g1c)
  have g2u : H2.get b1 = _ := (kp2 b1 (by omega) (by omega)).trans ((kp1s _ (by omega)).trans gb1)
  obtain ⟨v2, hv2⟩ : ∃ v2, V.sl b2 0 (y :: E).length cap2 7 = v2 := ⟨_, rfl⟩
  have v2o : oneCell v2 = true := by rw [← hv2]; rfl
  have v2c : cellsO v2 = some [v2] := by rw [← hv2]; rfl
  have v2i : ∀ h, r_ia 7 v2 (.int .i64 0) h = some (.ptr b2 0, h) := fun h => by rw [← hv2]; simp only [r_ia, asNat0, blt_dec, List.length_cons, show 0 < E.length + 1 by omega, decide_true, cond_true, Nat.zero_mul, Nat.add_zero]
  rw [hv2] at ce
  have b12 : ¬ b1 = b2 := by omega
  have b1n : ¬ b1 = h.nx := by omega
  have b2n : ¬ b2 = h.nx := by omega
  obtain ⟨H2s, hH2s⟩ : ∃ H, H2.set h.nx (.cells (encS a v1 v2 r a.own a.n0 a.n1 a.n2) .cl) = H := ⟨_, rfl⟩
  have kp2s : ∀ c, c ≠ h.nx → H2s.get c = H2.get c := fun c hc => by rw [← hH2s, Heap.get_set, if_neg hc]
  have g2s : H2s.get h.nx = .cells (encS a v1 v2 r a.own a.n0 a.n1 a.n2) .cl := by rw [← hH2s, Heap.get_set, if_pos rfl]
  have nx2s : H2s.nx = H2.nx := by rw [← hH2s]; rfl
  have lo2s : H2s.lo = h.lo := by rw [← hH2s]; exact lo2'
  have gu : H2s.get b1 = .cells (encH x ++ (U.flatMap encH ++ R1)) T1 := by rw [kp2s b1 b1n, g2u, List.flatMap_cons, List.append_assoc]
  have ge : H2s.get b2 = .cells (encH y ++ (E.flatMap encH ++ R2)) T2 := by rw [kp2s b2 b2n, gb2, List.flatMap_cons, List.append_assoc]
  -- the row
  obtain ⟨H3, hH3⟩ : ∃ H, H2s.new (.cells (enc3 a.own x.b y.b) .cl) = H := ⟨_, rfl⟩
  have nx3 : H3.nx = H2.nx + 1 := by rw [← hH3, ← nx2s]; rfl
  have lo3 : H3.lo = h.lo := by rw [← hH3]; exact lo2s
  have kp3 : ∀ c, c < H2.nx → H3.get c = H2s.get c := fun c hc => by rw [← hH3, Heap.get_new, if_neg (by omega)]
  have g3r : H3.get H2.nx = .cells (enc3 a.own x.b y.b) .cl := by rw [← hH3, Heap.get_new, if_pos nx2s.symm]
  obtain ⟨q1, q2, q3, q4, q5, q6, q7, wt1, wt2, wt3, wt4, wt5⟩ := w.t
  obtain ⟨cap, tk⟩ := lTake_spec wt1 wt2 wt3 wt4 wt5 a.own x.b y.b ok.own xb yb ok.ownt xt yt tick cost ht hc.1 hc.2 H2.nx .cl H3 g3r (by omega)
  have vo := fillB_ok ok.own ok.ownt ht
  have vx := fillB_ok xb xt ht
  have vy := fillB_ok yb yt ht
  obtain ⟨ad, had⟩ : ∃ ad, ad = holds3 (fillB a.own tick) (fillB x.b tick) (fillB y.b tick) cost := ⟨_, rfl⟩
  rw [← had] at tk
  obtain ⟨o', ho'⟩ : ∃ o, o = chB ad (fillB a.own tick) cost := ⟨_, rfl⟩
  obtain ⟨x', hx'⟩ : ∃ o, o = chB ad (fillB x.b tick) cost := ⟨_, rfl⟩
  obtain ⟨y', hy'⟩ : ∃ o, o = chB ad (fillB y.b tick) cost := ⟨_, rfl⟩
  rw [← ho', ← hx', ← hy'] at tk
  obtain ⟨row, hrow⟩ : ∃ row, V.isl (enc3 o' x' y') 3 cap = row := ⟨_, rfl⟩
  have rln : ∀ h : Heap, r_len row h = some (.int .i64 3, h) := fun h => by rw [← hrow]; rfl
  have ri0 : ∀ h : Heap, r_ia 6 row (.int .i64 0) h = some (.iptr (encB o' ++ (encB x' ++ encB y')), h) := fun h => by rw [← hrow]; rfl
  have ri1 : ∀ h : Heap, r_ia 6 row (.int .i64 1) h = some (.iptr (encB x' ++ encB y'), h) := fun h => by rw [← hrow]; rfl
  have ri2 : ∀ h : Heap, r_ia 6 row (.int .i64 2) h = some (.iptr (encB y'), h) := fun h => by rw [← hrow]; rfl
  have kw : ad = false → ∀ h, callRes vp c4 [row, .int .i64 cost] h = some (.tup [.int .u64 (wait3 o' x' y' cost), .int .i64 0], h) := fun hf h => by
    obtain ⟨q1, q2, q3, q4, q5, q6, ww1, ww2, ww3, ww4, ww5⟩ := w.w
    rw [← hrow]
    have eo : o' = fillB a.own tick := by rw [ho', hf]; rfl
    have ex : x' = fillB x.b tick := by rw [hx', hf]; rfl
    have ey : y' = fillB y.b tick := by rw [hy', hf]; rfl
    rw [eo, ex, ey]
    exact lWait_spec ww1 ww2 ww3 ww4 ww5 _ _ _ vo.1 vx.1 vy.1 vo.2.1 vx.2.1 vy.2.1 cost hc.1 cap h
  rw [hrow] at tk
  -- the levels are laid back
  obtain ⟨H4, hH4⟩ : ∃ H, ((H3.set h.nx (.cells (encS a v1 v2 r o' a.n0 a.n1 a.n2) .cl)).set b1 (.cells (encH ⟨x.k, x'⟩ ++ (U.flatMap encH ++ R1)) T1)).set b2 (.cells (encH ⟨y.k, y'⟩ ++ (E.flatMap encH ++ R2)) T2) = H := ⟨_, rfl⟩
  have g4 : H4.get h.nx = .cells (encS a v1 v2 r o' a.n0 a.n1 a.n2) .cl := by rw [← hH4, Heap.get_set, if_neg (by omega), Heap.get_set, if_neg (by omega), Heap.get_set, if_pos rfl]
  have g4u : H4.get b1 = .cells (encH ⟨x.k, x'⟩ ++ (U.flatMap encH ++ R1)) T1 := by rw [← hH4, Heap.get_set, if_neg b12, Heap.get_set, if_pos rfl]
  have g4e : H4.get b2 = .cells (encH ⟨y.k, y'⟩ ++ (E.flatMap encH ++ R2)) T2 := by rw [← hH4, Heap.get_set, if_pos rfl]
  have kp4 : ∀ c, c ≠ h.nx → c ≠ b1 → c ≠ b2 → H4.get c = H3.get c := fun c h1 h2 h3 => by rw [← hH4, Heap.get_set, if_neg h3, Heap.get_set, if_neg h2, Heap.get_set, if_neg h1]
  have lo4 : H4.lo = h.lo := by rw [← hH4]; exact lo3
  have nx4 : H4.nx = H2.nx + 1 := by rw [← hH4]; exact nx3
  obtain ⟨q8, wc1, wc2⟩ := w.c
  obtain ⟨H5, cc, g5, kp5, lo5, nx5⟩ := count_spec wc1 wc2 a v1 v2 r o' a.n0 a.n1 a.n2 cost ad h.nx .cl H4 v1o v2o r1.1 g4 (by rw [lo4]; omega)
  have lo5' : H5.lo = h.lo := lo5.trans lo4
  have nx5' : H5.nx = H2.nx + 1 := nx5.trans nx4
  generalize (if ad then upT a.n0 1 else a.n0) = m0 at *
  generalize (if ad then a.n1 else upT a.n1 1) = m1 at *
  generalize (if ad then upT a.n2 cost else a.n2) = m2 at *
  have nb : h.nx + 3 ≤ H2.nx := by omega
  have g5b : H5.get (h.nx + 1) = .cells z24 (.ct t1) := by rw [kp5 _ (by omega), kp4 _ (by omega) (by omega) (by omega), kp3 _ (by omega), kp2s _ (by omega), g2b]
  have g5c : H5.get (h.nx + 2) = .cells zR (.ct t2) := by rw [kp5 _ (by omega), kp4 _ (by omega) (by omega) (by omega), kp3 _ (by omega), kp2s _ (by omega), g2c]
  have g5u : H5.get b1 = _ := (kp5 b1 b1n).trans g4u
  have g5e : H5.get b2 = _ := (kp5 b2 b2n).trans g4e
  have kp5' : ∀ c, c < h.nx → ¬ (n0 ≤ c ∧ c < n1) → ¬ (n1 ≤ c ∧ c < n2) → c ≠ b1 → c ≠ b2 → H5.get c = h.get c := fun c h1 h2 h3 h4 h5 => by
    rw [kp5 c (by omega), kp4 c (by omega) h4 h5, kp3 c (by omega), kp2s c (by omega), kp2 c (by omega) h3, kp1s c (by omega), kp1 c (by omega) h2, kp0 c h1]
  -- the run
  have wc : wr .i64 cost = cost := wr_i64 (by omega) (by omega)
  have wc2 : wr .u64 cost = cost := wr_ui hc.1 (by omega)
  have lb1 : ¬ (b1 < h.lo) := by omega
  have lb2 : ¬ (b2 < h.lo) := by omega
  have lb3 : ¬ (H2.nx + 1 < h.lo) := by omega
  have b21 : ¬ b2 = b1 := fun e => b12 e.symm
  have n1x : ¬ h.nx = b1 := fun e => b1n e.symm
  have n2x : ¬ h.nx = b2 := fun e => b2n e.symm
  have f1 : ¬ h.nx = H2.nx + 1 := by omega
  have lb4 : ¬ (H2.nx + 2 < h.lo) := by omega
  have lb5 : ¬ (H2.nx + 3 < h.lo) := by omega
  have lb6 : ¬ (H2.nx + 4 < h.lo) := by omega
  have f3 : ∀ j, ¬ h.nx + 1 = H2.nx + j := fun j => by omega
  have f4 : ∀ j, ¬ h.nx + 2 = H2.nx + j := fun j => by omega
  have f5 : ∀ j, ¬ h.nx = H2.nx + j := fun j => by omega
  have f6 : ∀ j, ¬ H2.nx + j = h.nx := fun j => by omega
  have f7 : ∀ j, ¬ H2.nx + j = h.nx + 1 := fun j => by omega
  have f8 : ∀ j, ¬ H2.nx + j = h.nx + 2 := fun j => by omega
  have k0i := hk0
  unfold B_model_ask
  unfold encL at cu ce
  unfold encS z24 zR at hH0
  unfold encS at g0 g1 hH1s g1s g2 hH2s g2s hH4 g4 g5
  unfold encH at gu ge hH4
  unfold enc3 at hH3
  unfold encB at ri0 ri1 ri2
  unfold z24 at g5b
  unfold zR at g5c
  simp only [List.cons_append, List.nil_append] at gu ge hH4 ri0 ri1 ri2
  rw [← hk0] at cu
  rw [← hk1] at ce
  have g3h := (kp3 h.nx (by omega)).trans g2s
  have g3u := (kp3 b1 (by omega)).trans gu
  have g3e := (kp3 b2 (by omega)).trans ge
  simp only [↓zp, zz, true_and, and_true, chkOk, Nat.reduceEqDiff, Nat.reduceAdd, Nat.reduceSub, Nat.reduceMul, Nat.reduceLT, Nat.reduceLeDiff, Int.reduceLT, Int.reduceLE, Int.reduceEq, Int.reduceAdd, Int.reduceNeg, if_false, if_true, reduceIte, ags, LB.agz, agd, r_mv, r_pick, r_box, r_alloc, r_un, r_eqb, r_ext, r_mkf, r_cnv, r_st, r_nck, r_ix, r_iaa, takeN, agc, agn, VE.store, over, cellsAt, VE.part, agm, agb, blkX, gEval, cond_true, cond_false, r_build, r_bsl, fill, VE.unOp, r_bin, adz, ads, resOf, resVs, resV, alc, aln, reduceCtorEq, or_true, true_or, false_or, or_false, eq_self, exists_eq_left', Option.some.injEq, encS, hH0, nx0, g0, cu, g1, l0, lo1, lo0, v1o, v1c, hH1s, g1s, lo1s]
  simp only [↓zp, zz, true_and, and_true, chkOk, Nat.reduceEqDiff, Nat.reduceAdd, Nat.reduceSub, Nat.reduceMul, Nat.reduceLT, Nat.reduceLeDiff, Int.reduceLT, Int.reduceLE, Int.reduceEq, Int.reduceAdd, Int.reduceNeg, if_false, if_true, reduceIte, ags, LB.agz, agd, r_mv, r_pick, r_box, r_alloc, r_un, r_eqb, r_ext, r_mkf, r_cnv, r_st, r_nck, r_ix, r_iaa, takeN, agc, agn, VE.store, over, cellsAt, VE.part, agm, agb, blkX, gEval, cond_true, cond_false, r_build, r_bsl, fill, VE.unOp, r_bin, adz, ads, resOf, resVs, resV, alc, aln, reduceCtorEq, or_true, true_or, false_or, or_false, eq_self, exists_eq_left', Option.some.injEq, ce, g2, lo2', l0, v2o, v2c, hH2s, g2s, v1i, v2i, gu, ge, hH3, nx2s, m2', wc, tk]
  simp only [↓zp, zz, true_and, and_true, chkOk, Nat.reduceEqDiff, Nat.reduceAdd, Nat.reduceSub, Nat.reduceMul, Nat.reduceLT, Nat.reduceLeDiff, Int.reduceLT, Int.reduceLE, Int.reduceEq, Int.reduceAdd, Int.reduceNeg, if_false, if_true, reduceIte, ags, LB.agz, agd, r_mv, r_pick, r_box, r_alloc, r_un, r_eqb, r_ext, r_mkf, r_cnv, r_st, r_nck, r_ix, r_iaa, takeN, agc, agn, VE.store, over, cellsAt, VE.part, agm, agb, blkX, gEval, cond_true, cond_false, r_build, r_bsl, fill, VE.unOp, r_bin, adz, ads, resOf, resVs, resV, alc, aln, reduceCtorEq, or_true, true_or, false_or, or_false, eq_self, exists_eq_left', Option.some.injEq, g3h, g3u, g3e, v1i, v2i, ri0, ri1, ri2, lo3, l0, lb1, lb2, b1n, b2n, n1x, n2x, b12, b21, hH4, wc2, cc]
  simp only [↓zp, zz, true_and, and_true, chkOk, Nat.reduceEqDiff, Nat.reduceAdd, Nat.reduceSub, Nat.reduceMul, Nat.reduceLT, Nat.reduceLeDiff, Int.reduceLT, Int.reduceLE, Int.reduceEq, Int.reduceAdd, Int.reduceNeg, if_false, if_true, reduceIte, ags, LB.agz, agd, r_mv, r_pick, r_box, r_alloc, r_un, r_eqb, r_ext, r_mkf, r_cnv, r_st, r_nck, r_ix, r_iaa, takeN, agc, agn, VE.store, over, cellsAt, VE.part, agm, agb, blkX, gEval, cond_true, cond_false, r_build, r_bsl, fill, VE.unOp, r_bin, adz, ads, resOf, resVs, resV, alc, aln, reduceCtorEq, or_true, true_or, false_or, or_false, eq_self, exists_eq_left', Option.some.injEq, g5, nx5', lo5', lb3, rln]
  generalize hS : Tr.set _ 92 _ = S
  have s5 : Slots.at S 5 = .ptr h.nx 0 := by rw [← hS]; simp only [Slots.at_set, Nat.reduceEqDiff, if_false, if_true, reduceIte, argSlots_at, ags, agz, agd]
  have s10 : Slots.at S 10 = .ptr (h.nx + 1) 0 := by rw [← hS]; simp only [Slots.at_set, Nat.reduceEqDiff, if_false, if_true, reduceIte, argSlots_at, ags, agz, agd]
  have s11 : Slots.at S 11 = .ptr (h.nx + 2) 0 := by rw [← hS]; simp only [Slots.at_set, Nat.reduceEqDiff, if_false, if_true, reduceIte, argSlots_at, ags, agz, agd]
  have s12 : Slots.at S 12 = row := by rw [← hS]; simp only [Slots.at_set, Nat.reduceEqDiff, if_false, if_true, reduceIte, argSlots_at, ags, agz, agd]
  have s13 : Slots.at S 13 = .bool ad := by rw [← hS]; simp only [Slots.at_set, Nat.reduceEqDiff, if_false, if_true, reduceIte, argSlots_at, ags, agz, agd]
  have s15 : Slots.at S 15 = .ptr (H2.nx + 1) 0 := by rw [← hS]; simp only [Slots.at_set, Nat.reduceEqDiff, if_false, if_true, reduceIte, argSlots_at, ags, agz, agd]
  have s3 : Slots.at S 3 = .int .u32 cost := by rw [← hS]; simp only [Slots.at_set, Nat.reduceEqDiff, if_false, if_true, reduceIte, argSlots_at, ags, agz, agd]
  have s90 : Slots.at S 90 = row := by rw [← hS]; simp only [Slots.at_set, Nat.reduceEqDiff, if_false, if_true, reduceIte, argSlots_at, ags, agz, agd]
  have s91 : Slots.at S 91 = .int .i64 3 := by rw [← hS]; simp only [Slots.at_set, Nat.reduceEqDiff, if_false, if_true, reduceIte, argSlots_at, ags, agz, agd]
  have s92 : Slots.at S 92 = .int .i64 0 := by rw [← hS]; simp only [Slots.at_set, Nat.reduceEqDiff, if_false, if_true, reduceIte, argSlots_at, ags, agz, agd]
  clear hS
  generalize hH6 : Heap.set (Heap.new _ _) _ _ = H6
  have g6 : H6.get (H2.nx + 1) = .cells [.int .u8 2, .int .u32 a.t, .int .u32 0, .int .u32 0, .int .u32 0, .int .u64 0] (.ct t2) := by rw [← hH6, Heap.get_set, if_pos rfl]
  have kp6 : ∀ c, c < H2.nx + 1 → H6.get c = H5.get c := fun c hc => by rw [← hH6, Heap.get_set, if_neg (by omega), Heap.get_new, if_neg (by omega)]
  have nx6 : H6.nx = H2.nx + 2 := by rw [← hH6]; show H5.nx + 1 = _; omega
  have lo6 : H6.lo = h.lo := by rw [← hH6]; exact lo5'
  have g6h := (kp6 h.nx (by omega)).trans g5
  have g6b := (kp6 (h.nx + 1) (by omega)).trans g5b
  have g6c := (kp6 (h.nx + 2) (by omega)).trans g5c
  have g6u := (kp6 b1 (by omega)).trans g5u
  have g6e := (kp6 b2 (by omega)).trans g5e
  have b1l : b1 < H2.nx := by omega
  have b2l : b2 < H2.nx := by omega
  have n0b1 : n0 ≤ b1 := by omega
  have n0b2 : n0 ≤ b2 := by omega
  have nh0 : n0 ≤ h.nx := by omega
  have kpE : ∀ c, c < h.nx → ¬ (n0 ≤ c ∧ c < n1) → ¬ (n1 ≤ c ∧ c < n2) → c ≠ b1 → c ≠ b2 → H6.get c = h.get c := fun c h1 h2 h3 h4 h5 => (kp6 c (by omega)).trans (kp5' c h1 h2 h3 h4 h5)
  have rb1 : ∀ c, n2 ≤ c → c < n3 → c ≠ b1 := fun c h1 h2 => by omega
  have rb2 : ∀ c, n2 ≤ c → c < n3 → c ≠ b2 := fun c h1 h2 => by omega
  have hb1 : b1 < h.nx ∨ h.nx + 3 ≤ b1 := by omega
  have hb2 : b2 < h.nx ∨ h.nx + 3 ≤ b2 := by omega
  clear hH6 kp6 g5 g5b g5c g5u g5e kp5 lo5 nx5 cc g4 g4u g4e kp4 lo4 nx4 hH4 tk kp3 g3r nx3 lo3 hH3 g3h g3u g3e gu ge g2s hH2s kp2s kp2 g2 g2b g2c g2u ce hH1s kp1s g1s g1 g1b g1c kp1 cu gb1 gb2 g0 g0b g0c hH0 kp0 w ou oe ok
  clear lo5' nx5' lo2s lo2 lo2' lo1s lo1 lo0 nx2s nx1s nx2 nx1 nx0 w1 w2 bx1 bx2 kp5'
  have fhn : ¬ H2.nx = h.nx := by omega
  have fin : ∀ (Hf : Heap) (cd wt : Int), cd = (if ad then 2 else 3) → wt = (if ad then 0 else wait3 o' x' y' cost) → Kq h.nx (h.nx + 3) H2.nx h.lo H6 Hf →
      AskP a r user (wr .u32 ep) cost tick n0 n2 n3 h (.tup [.agg (encS a v1 v2 r o' m0 m1 m2), .agg (encR cd a.t (wr .u32 o'.lv) (wr .u32 x'.lv) (wr .u32 y'.lv) wt)]) Hf := by
    intro Hf cd wt hcd hwt ⟨hk', hl, hn⟩
    have hk : ∀ c, c < h.nx → Hf.get c = H6.get c := fun c hc => hk' c (.inl hc)
    have gk : ∀ b, b < H2.nx → (b < h.nx ∨ h.nx + 3 ≤ b) → Hf.get b = H6.get b := fun b hb h1 => hk' b (by omega)
    have hn : h.nx ≤ Hf.nx := by omega
    refine ⟨⟨v1, v2, x, y, U, E, b1, b2, cap1, cap2, R1, R2, T1, T2, m0, m1, m2, ad, o', x', y', had, ho', hx', hy', ?_, ?_, ?_, hv1.symm, hv2.symm, ?_, ?_, n0b1, by omega, n0b2, by omega⟩, ?_, ?_, hl, hn⟩
    · rw [hk0]; exact hU
    · rw [hk1]; exact hE
    · rw [hcd, hwt]
    · rw [gk b1 b1l hb1, g6u, List.flatMap_cons, List.append_assoc]
    · rw [gk b2 b2l hb2, g6e, List.flatMap_cons, List.append_assoc]
    · intro c hc
      rw [hk c (by omega), kpE c (by omega) (by omega) (by omega) (by omega) (by omega)]
    · intro c h1 h2
      rw [hk c (by omega), kpE c (by omega) (by omega) (by omega) (rb1 c h1 h2) (rb2 c h1 h2)]
  unfold encS encR at fin
  refine w_loop1 ?_
  simp only [↓zp, zz, true_and, and_true, chkOk, Nat.reduceEqDiff, Nat.reduceAdd, Nat.reduceSub, Nat.reduceMul, Nat.reduceLT, Nat.reduceLeDiff, Int.reduceLT, Int.reduceLE, Int.reduceEq, Int.reduceAdd, Int.reduceNeg, if_false, if_true, reduceIte, ags, LB.agz, agd, r_mv, r_pick, r_box, r_alloc, r_un, r_eqb, r_ext, r_mkf, r_cnv, r_st, r_nck, r_ix, r_iaa, takeN, agc, agn, VE.store, over, cellsAt, VE.part, agm, agb, blkX, gEval, cond_true, cond_false, r_build, r_bsl, fill, VE.unOp, r_bin, adz, ads, resOf, resVs, resV, alc, aln, reduceCtorEq, or_true, true_or, false_or, or_false, eq_self, exists_eq_left', Option.some.injEq, s90, s91, s92, s15, ri0, nx6, lo6, lb3, lb4, g6]
  refine w_loop1 ?_
  simp only [↓zp, zz, true_and, and_true, chkOk, Nat.reduceEqDiff, Nat.reduceAdd, Nat.reduceSub, Nat.reduceMul, Nat.reduceLT, Nat.reduceLeDiff, Int.reduceLT, Int.reduceLE, Int.reduceEq, Int.reduceAdd, Int.reduceNeg, if_false, if_true, reduceIte, ags, LB.agz, agd, r_mv, r_pick, r_box, r_alloc, r_un, r_eqb, r_ext, r_mkf, r_cnv, r_st, r_nck, r_ix, r_iaa, takeN, agc, agn, VE.store, over, cellsAt, VE.part, agm, agb, blkX, gEval, cond_true, cond_false, r_build, r_bsl, fill, VE.unOp, r_bin, adz, ads, resOf, resVs, resV, alc, aln, reduceCtorEq, or_true, true_or, false_or, or_false, eq_self, exists_eq_left', Option.some.injEq, s90, s91, s92, s15, ri1, nx6, lo6, lb3, lb4, lb5, g6]
  refine w_loop1 ?_
  simp only [↓zp, zz, true_and, and_true, chkOk, Nat.reduceEqDiff, Nat.reduceAdd, Nat.reduceSub, Nat.reduceMul, Nat.reduceLT, Nat.reduceLeDiff, Int.reduceLT, Int.reduceLE, Int.reduceEq, Int.reduceAdd, Int.reduceNeg, if_false, if_true, reduceIte, ags, LB.agz, agd, r_mv, r_pick, r_box, r_alloc, r_un, r_eqb, r_ext, r_mkf, r_cnv, r_st, r_nck, r_ix, r_iaa, takeN, agc, agn, VE.store, over, cellsAt, VE.part, agm, agb, blkX, gEval, cond_true, cond_false, r_build, r_bsl, fill, VE.unOp, r_bin, adz, ads, resOf, resVs, resV, alc, aln, reduceCtorEq, or_true, true_or, false_or, or_false, eq_self, exists_eq_left', Option.some.injEq, s90, s91, s92, s15, ri2, nx6, lo6, lb3, lb4, lb5, lb6, g6]
  refine w_loop1 ?_
  cases had' : ad with
  | true =>
    rw [had'] at s13 fin
    simp only [↓zp, zz, true_and, and_true, chkOk, Nat.reduceEqDiff, Nat.reduceAdd, Nat.reduceSub, Nat.reduceMul, Nat.reduceLT, Nat.reduceLeDiff, Int.reduceLT, Int.reduceLE, Int.reduceEq, Int.reduceAdd, Int.reduceNeg, if_false, if_true, reduceIte, ags, LB.agz, agd, r_mv, r_pick, r_box, r_alloc, r_un, r_eqb, r_ext, r_mkf, r_cnv, r_st, r_nck, r_ix, r_iaa, takeN, agc, agn, VE.store, over, cellsAt, VE.part, agm, agb, blkX, gEval, cond_true, cond_false, r_build, r_bsl, fill, VE.unOp, r_bin, adz, ads, resOf, resVs, resV, alc, aln, reduceCtorEq, or_true, true_or, false_or, or_false, eq_self, exists_eq_left', Option.some.injEq, s90, s91, s92, s15, s13, s5, s10, s11, apartV, nx6, lo6, l1, l2, f3, f4, f5, f6, f7, f8, fhn, v1o, v2o, r1.1, g6, g6h, g6b, g6c]
    refine fin _ 2 0 (by rfl) (by rfl) ?_
    repeat first
      | exact ⟨fun _ _ => rfl, lo6, Nat.le_refl _⟩
      | refine Kq.set ?_ _ (by omega) (by omega)
      | refine Kq.new ?_ (by omega) (by omega) _
  | false =>
    rw [had'] at s13 fin
    have kw' := kw had'
    simp only [↓zp, zz, true_and, and_true, chkOk, Nat.reduceEqDiff, Nat.reduceAdd, Nat.reduceSub, Nat.reduceMul, Nat.reduceLT, Nat.reduceLeDiff, Int.reduceLT, Int.reduceLE, Int.reduceEq, Int.reduceAdd, Int.reduceNeg, if_false, if_true, reduceIte, ags, LB.agz, agd, r_mv, r_pick, r_box, r_alloc, r_un, r_eqb, r_ext, r_mkf, r_cnv, r_st, r_nck, r_ix, r_iaa, takeN, agc, agn, VE.store, over, cellsAt, VE.part, agm, agb, blkX, gEval, cond_true, cond_false, r_build, r_bsl, fill, VE.unOp, r_bin, adz, ads, resOf, resVs, resV, alc, aln, reduceCtorEq, or_true, true_or, false_or, or_false, eq_self, exists_eq_left', Option.some.injEq, s90, s91, s92, s15, s13, s5, s10, s11, s12, s3, apartV, nx6, lo6, l1, l2, lb3, wc, m4', kw', f3, f4, f5, f6, f7, f8, fhn, v1o, v2o, r1.1, g6, g6h, g6b, g6c]
    refine fin _ 3 (wait3 o' x' y' cost) (by rfl) (by rfl) ?_
    repeat first
      | exact ⟨fun _ _ => rfl, lo6, Nat.le_refl _⟩
      | refine Kq.set ?_ _ (by omega) (by omega)
      | refine Kq.new ?_ (by omega) (by omega) _
end
end Go.VE.LB
