/- What the functions of the law ViewTells compute, on typed arguments (part 14). -/
import Derived.Test.YtpbggddmfgjmlaaGreatViewTellsA13
set_option linter.all false
namespace Go.VE.LB
set_option maxRecDepth 100000
set_option maxHeartbeats 4000000
section
open Go Go.VE Classical
structure Cmd where
 op : Int
 t : Int
 u : Int
 l0 : Limit
 l1 : Limit
 l2 : Limit
 us : Int
 es : Int
 ex : Int
 tg : List Bt
def encC (c : Cmd) : List V := .int .u8 c.op :: .int .u32 c.t :: .int .u32 c.u :: .int .i64 c.l0.b :: .int .i64 c.l0.r :: .int .i64 c.l0.p :: .int .i64 c.l1.b :: .int .i64 c.l1.r :: .int .i64 c.l1.p :: .int .i64 c.l2.b :: .int .i64 c.l2.r :: .int .i64 c.l2.p ::
 .int .u8 c.us :: .int .u8 c.es :: .int .u64 c.ex :: mY c.tg
theorem encC_scal (c : Cmd) : (encC c).all VE.scal = true := mY_scal _
def n1 (b : List Bt) (i : Nat) : Int := (num ((b.drop i).take 1) : Nat)
def cmdOf (b : List Bt) : Cmd := ⟨n1 b 1, w4 b 2, w4 b 6, ⟨w4 b 10, w4 b 14, w4 b 18⟩, ⟨w4 b 22, w4 b 26, w4 b 30⟩, ⟨w4 b 34, w4 b 38, w4 b 42⟩, n1 b 46, n1 b 47, (num ((b.drop 48).take 8) : Nat), pad ((b.drop 56).take 32)⟩
theorem over_id {W : List V} (h2 : W.all oneCell = true) : over 0 W W = some W := by
 have := over_mid [] W W [] rfl h2
 simpa using this
theorem eN_one (k : Nat) : (eN k).all oneCell = true := rfl
theorem w_cut {vp : Nat → Option VFn} {a b : VCode} {s : Slots} {h : Heap} {Q : VX → Slots → Heap → Prop} (P : Slots → Heap → Prop) (ha : wp vp a s h fun x s h => x = .norm ∧ P s h) (hb : ∀ s h, P s h → wp vp b s h Q) : wp vp (.seq a b) s h Q := by
 rw [w_seq]
 refine wp_mono (fun x s h k => ?_) ha
 obtain ⟨rfl, k⟩ := k
 exact hb _ _ k
theorem w_ass {vp : Nat → Option VFn} {a b c : VCode} {s : Slots} {h : Heap} {Q : VX → Slots → Heap → Prop} : wp vp (.seq a (.seq b c)) s h Q = wp vp (.seq (.seq a b) c) s h Q := by
 rw [w_seq, w_seq, w_seq]
 congr 1
 funext x s h
 cases x <;> rfl
section
variable {vp : Nat → Option VFn}
def cC (op t u : Int) (a0 a1 a2 a3 a4 a5 a6 a7 a8 : Int) (Y : List V) : List V := .int .u8 op :: .int .u32 t :: .int .u32 u :: .int .i64 a0 :: .int .i64 a1 :: .int .i64 a2 :: .int .i64 a3 :: .int .i64 a4 :: .int .i64 a5 :: .int .i64 a6 :: .int .i64 a7 :: .int .i64 a8 :: Y
def zY : List V := .int .u8 0 :: .int .u8 0 :: .int .u64 0 :: zV
structure CmA (b : Sl Bt) (bx lo tc : Nat) (s : Slots) (h : Heap) : Prop where
 s0 : s.at 0 = b.v eY
 s2 : s.at 2 = .ptr bx 0
 gx : h.get bx = .cells (cC 0 0 0 0 0 0 0 0 0 0 0 0 zY) (.ct tc)
 lo : h.lo = lo
 nx : bx < h.nx
 rd : Rd eN 1 h (s.at 3) rowK
structure CmB (o : Sl Fl) (c : Cmd) (bx lo tc : Nat) (s : Slots) (h : Heap) : Prop where
 s2 : s.at 2 = .ptr bx 0
 s6 : s.at 6 = o.v eF
 gx : h.get bx = .cells (cC c.op c.t c.u c.l0.b c.l0.r c.l0.p c.l1.b c.l1.r c.l1.p c.l2.b c.l2.r c.l2.p zY) (.ct tc)
 lo : h.lo = lo
def invRw (tc : Nat) (o : Sl Fl) (bx lo : Nat) (bv : V) (m : Nat) (s : Slots) (h : Heap) : Prop :=
 ∃ i, i ≤ 17 ∧ m = 17 - i ∧ s.at 0 = bv ∧ s.at 2 = .ptr bx 0 ∧ s.at 11 = o.v eF ∧ s.at 12 = .int .i64 17 ∧ s.at 13 = .int .i64 (i : Int) ∧ h.get bx = .cells (cC 0 0 0 0 0 0 0 0 0 0 0 0 zY) (.ct tc) ∧ h.lo = lo ∧ lo ≤ h.nx ∧ bx < h.nx ∧ ∃ v, s.at 3 = v ∧ Acc eN 1 h v (rowK.take i)
theorem rowK_kd : ∀ k ∈ rowK, Kd k := fun k hk => by
 have : ∀ k ∈ rowK, 2 ≤ k ∧ k ≤ 6 := by simp [rowK]
 exact ⟨(this k hk).1, (this k hk).2⟩
theorem rowK_at {i : Nat} (h : i < 17) : rowK.take (i + 1) = rowK.take i ++ [rowK[i]!] := by
 rw [List.take_succ_eq_append_getElem h]
 congr 2
 exact (getElem!_pos rowK i h).symm
theorem cmd_spec {f cw tw tc tl cr cf c1 c2 c3 c4 c5 t1 d1 d2 t2 : Nat} (hf : vp f = some (Zzat cw cr tc tl)) (hw : vp cw = some (Zzav tw)) (R : Rdr vp cr cf c1 c2 c3 c4 c5 t1 d1 d2 t2)
  (b : Sl Bt) (hb : b.l.length = 88) (h : Heap) : callRes vp f [b.v eY] h = some (.agg (encC (cmdOf b.l)), h) := by
 have m0 : modeOf vp cw = some 1 := mo hw rfl rfl
 have m1 : modeOf vp cr = some 1 := by simp [modeOf, R.cr, Zzan]
 refine res_pure hf rfl rfl (fun g hg => ?_)
 have hlo := hlo hg
 unfold Zzat
 simp only []
 rw [w_ass, w_ass]
 refine w_cut (CmA b g.nx g.lo tc) ?_ (fun s h A => ?_)
 ·obtain ⟨o7, ol, kw⟩ : ∃ o : Sl Fl, o.l = rowF ∧ ∀ h, callRes vp cw [.agg zC] h = some (o.v eF, h) := ⟨_, rfl, row_spec hw⟩
  have ll : o7.l.length = 17 := by rw [ol]; rfl
  have ok : ∀ i (hi : i < 17), ∃ x : Fl, o7.l[i]? = some x ∧ x.k = rowK[i]! := by rw [ol]; decide
  have l17 : ∀ h, r_len (o7.v eF) h = some (.int .i64 17, h) := fun h => by rw [r_len_v, ll]; rfl
  have lenr : rowK.length = 17 := rfl
  clear ol
  have z9 : rep 9 [V.int .i64 0] = [.int .i64 0, .int .i64 0, .int .i64 0, .int .i64 0, .int .i64 0, .int .i64 0, .int .i64 0, .int .i64 0, .int .i64 0] := rfl
  obtain ⟨H, hH⟩ : ∃ H, g.new (.cells (cC 0 0 0 0 0 0 0 0 0 0 0 0 zY) (.ct tc)) = H := ⟨_, rfl⟩
  have gH : H.get g.nx = .cells (cC 0 0 0 0 0 0 0 0 0 0 0 0 zY) (.ct tc) := by rw [← hH, Heap.get_new, if_pos rfl]
  have nH : H.nx = g.nx + 1 := by rw [← hH]; rfl
  have lH : H.lo = g.lo := by rw [← hH]; rfl
  have gH' := gH
  unfold cC zY at gH'
  unfold zC at kw
  simp only [z9, List.cons_append, List.nil_append] at kw
  have tz : takeN 32 zV = some zV := rfl
  simp only [cC, zY, zV] at hH
  simp only [↓zp, zv, seval, hH, gH', tz, m0, kw, l17]
  generalize hS : Tr.set _ 13 _ = S
  have b0 : Slots.at S 0 = b.v eY := by rw [← hS]; simp only [zs, seval]
  have b2 : Slots.at S 2 = .ptr g.nx 0 := by rw [← hS]; simp only [zs, seval]
  have b3 : Slots.at S 3 = .nils := by rw [← hS]; simp only [zs, seval]
  have b11 : Slots.at S 11 = o7.v eF := by rw [← hS]; simp only [zs, seval]
  have b12 : Slots.at S 12 = .int .i64 17 := by rw [← hS]; simp only [zs, seval]
  have b13 : Slots.at S 13 = .int .i64 ((0 : Nat) : Int) := by rw [← hS]; simp only [zs, seval] <;> rfl
  clear hS hH kw gH'
  refine loop_ind (fun m s h => invRw tc o7 g.nx g.lo (b.v eY) m s h) ?_ 17 ⟨0, by omega, by omega, b0, b2, b11, b12, b13, gH, lH, by omega, by omega, .nils, b3, Acc.nil⟩
  clear b0 b2 b3 b11 b12 b13 gH lH nH
  rintro m s h ⟨i, hi, hm, c0, c2', c11, c12, c13, hbh, hl, hn, hbn, v, c3', ac⟩
  by_cases hlt : i < 17
  case neg =>
   have hlt' : ¬ ((i : Int) < 17) := by omega
   obtain rfl : i = 17 := by omega
   have e17 : rowK.take 17 = rowK := rfl
   rw [e17] at ac
   have e17' : ((17 : Nat) : Int) = 17 := rfl
   rw [e17'] at c13
   simp only [↓zp, zv, seval, c0, c2', c3', c11, c12, c13]
   exact ⟨by simp only [zs, seval, c0], by simp only [zs, seval, c2'], hbh, hl, hbn, by simp only [zs, seval, c3']; exact Acc.rd ac⟩
  have hlt' : (i : Int) < 17 := by omega
  have ws := wr_succ (k := i) (by omega)
  obtain ⟨x, ox, xk⟩ := ok i hlt
  obtain ⟨r, ia⟩ := ia_fl (n := (i : Int)) ox rfl
  have lx := mY_len x.d
  rw [x.dl] at lx
  have tx : takeN 32 (mY x.d) = some (mY x.d) := by have := takeN_all (mY x.d); rwa [lx] at this
  have tE : takeN 32 (mY x.d ++ r) = some (mY x.d) := by have := takeN_app (mY x.d) r; rwa [lx] at this
  have ox' := over_zW lx (mY_one x.d)
  have z0 : ¬ h.nx < h.lo := by omega
  obtain ⟨G, hG⟩ : ∃ G, (h.new (.cells (.int .u8 0 :: .int .u64 0 :: zV) (.ct tl))).set h.nx (.cells (eF x) (.ct tl)) = G := ⟨_, rfl⟩
  have gG : G.get h.nx = .cells (.int .u8 (x.k : Int) :: .int .u64 (x.n : Int) :: mY x.d) (.ct tl) := by rw [← hG, Heap.get_set, if_pos rfl]; rfl
  have nG : G.nx = h.nx + 1 := by rw [← hG]; rfl
  have lG : G.lo = h.lo := by rw [← hG]; rfl
  have aG : ∀ b, b < h.nx → G.get b = h.get b := fun b hb => by rw [← hG, Heap.get_set, if_neg (by omega), Heap.get_new, if_neg (by omega)]
  simp only [eF, zV] at hG
  have ac := ac.keep (h' := G) lG (by omega) (fun b cs hb _ => aG b hb)
  obtain ⟨v', h', e3, e4, e5⟩ := push eN_len eN_one (bytes := 1) ac (by omega) x.k (by simp; omega)
  have hb' : h'.get g.nx = _ := (e4.get _ (by omega) (by rw [aG _ hbn, hbh]; intro cs q; cases q)).trans ((aG _ hbn).trans hbh)
  have lo2 := e4.lo
  have nx2 := e4.nx
  simp only [eN] at e3
  rw [nG] at e3
  simp only [↓zp, zv, seval, c0, c2', c3', c11, c12, c13, hlt', ia, lx, tx, tE, ox', z0, hG, gG, nG, e3, ws]
  refine ⟨_, by omega, i + 1, by omega, rfl, by simp only [zs, seval, c0], by simp only [zs, seval, c2'], by simp only [zs, seval, c11], by simp only [zs, seval, c12], by simp only [zs, seval], hb', by omega, by omega, by omega, v', by simp only [zs, seval], ?_⟩
  rw [rowK_at hlt, ← xk]
  exact e5
 rw [w_ass, w_ass]
 obtain ⟨o, o1, kr⟩ := R.read _ rowK rowK_kd (by decide) b (by rw [hb]; rfl) h A.rd
 have of : o.l = [⟨2, num ((b.l.drop 0).take 1), zD, rfl⟩, ⟨2, num ((b.l.drop 1).take 1), zD, rfl⟩, ⟨4, num ((b.l.drop 2).take 4), zD, rfl⟩, ⟨4, num ((b.l.drop 6).take 4), zD, rfl⟩, ⟨4, num ((b.l.drop 10).take 4), zD, rfl⟩, ⟨4, num ((b.l.drop 14).take 4), zD, rfl⟩, ⟨4, num ((b.l.drop 18).take 4), zD, rfl⟩, ⟨4, num ((b.l.drop 22).take 4), zD, rfl⟩, ⟨4, num ((b.l.drop 26).take 4), zD, rfl⟩, ⟨4, num ((b.l.drop 30).take 4), zD, rfl⟩, ⟨4, num ((b.l.drop 34).take 4), zD, rfl⟩, ⟨4, num ((b.l.drop 38).take 4), zD, rfl⟩, ⟨4, num ((b.l.drop 42).take 4), zD, rfl⟩, ⟨2, num ((b.l.drop 46).take 1), zD, rfl⟩, ⟨2, num ((b.l.drop 47).take 1), zD, rfl⟩, ⟨5, num ((b.l.drop 48).take 8), zD, rfl⟩, ⟨6, 0, pad ((b.l.drop 56).take 32), pad_len _⟩] := by
  rw [o1]
  simp only [rowK, flds, fl, wd, List.drop_drop, Nat.reduceAdd, Nat.reduceEqDiff, if_false, if_true, List.drop_zero]
 clear o1
 refine w_cut (CmB o (cmdOf b.l) g.nx g.lo tc) ?_ (fun s h B => ?_)
 ·have s0 := A.s0
  have s2 := A.s2
  have gH := A.gx
  have lH := A.lo
  obtain ⟨kv, hkv⟩ : ∃ v, s.at 3 = v := ⟨_, rfl⟩
  rw [hkv] at kr
  have z0 : ¬ g.nx < h.lo := by omega
  obtain ⟨r1, i1⟩ := ia_fl (o := o) (k := 1) (n := 1) (by rw [of]; rfl) rfl
  obtain ⟨r2, i2⟩ := ia_fl (o := o) (k := 2) (n := 2) (by rw [of]; rfl) rfl
  obtain ⟨r3, i3⟩ := ia_fl (o := o) (k := 3) (n := 3) (by rw [of]; rfl) rfl
  have u1 : wr .u8 ((num ((b.l.drop 1).take 1) : Nat) : Int) = n1 b.l 1 := wr8 (num1 _)
  have u2 : wr .u32 ((num ((b.l.drop 2).take 4) : Nat) : Int) = w4 b.l 2 := wr32 (num4 _)
  have u3 : wr .u32 ((num ((b.l.drop 6).take 4) : Nat) : Int) = w4 b.l 6 := wr32 (num4 _)
  unfold cC zY at gH
  simp only [↓zp, zv, seval, s0, s2, hkv, gH, m1, kr, i1, i2, i3, u1, u2, u3, apart_i, z0]
  generalize hS : Tr.set _ 47 _ = S0
  generalize hH : Heap.set _ _ _ = H0
  have e2 : Slots.at S0 2 = .ptr g.nx 0 := by rw [← hS]; simp only [zs, seval, s2]
  have e6 : Slots.at S0 6 = o.v eF := by rw [← hS]; simp only [zs, seval]
  have e47 : Slots.at S0 47 = .int .i64 0 := by rw [← hS]; simp only [zs, seval]
  have lH' : H0.lo = g.lo := by rw [← hH, Heap.set_lo, Heap.set_lo, Heap.set_lo, lH]
  have gH' : H0.get g.nx = .cells (.int .u8 (n1 b.l 1) :: .int .u32 (w4 b.l 2) :: .int .u32 (w4 b.l 6) :: .int .i64 0 :: .int .i64 0 :: .int .i64 0 :: .int .i64 0 :: .int .i64 0 :: .int .i64 0 :: .int .i64 0 :: .int .i64 0 :: .int .i64 0 :: .int .u8 0 :: .int .u8 0 :: .int .u64 0 :: zV) (.ct tc) := by rw [← hH, Heap.get_set, if_pos rfl]
  clear hS hH s0 s2 hkv lH gH z0 i1 i2 i3 kr
  have lH := lH'
  have gH := gH'
  have z0 : ¬ g.nx < H0.lo := by omega
  clear lH' gH'
  obtain ⟨o4, d4, s4⟩ := slc_drop eF_len (c := o) (a := 4) (by rw [of]; simp)
  have s4 : ∀ h, r_slc 34 (o.v eF) (some (.int .i64 4)) none none h = some (o4.v eF, h) := s4
  have mu0 : VE.binOp .mul (.int .i64 3) (.int .i64 0) = some (.int .i64 0) := rfl
  have wq4 : wr .i64 4 = 4 := rfl
  obtain ⟨r40, p40⟩ := ia_fl (o := o4) (k := 0) (n := 0) (by rw [d4, of]; rfl) rfl
  have v4 : wr .i64 ((num ((b.l.drop 10).take 4) : Nat) : Int) = w4 b.l 10 := wr_i64 (by omega) (by have := num4 (b.l.drop 10); omega)
  obtain ⟨r41, p41⟩ := ia_fl (o := o4) (k := 1) (n := 1) (by rw [d4, of]; rfl) rfl
  have v5 : wr .i64 ((num ((b.l.drop 14).take 4) : Nat) : Int) = w4 b.l 14 := wr_i64 (by omega) (by have := num4 (b.l.drop 14); omega)
  obtain ⟨r42, p42⟩ := ia_fl (o := o4) (k := 2) (n := 2) (by rw [d4, of]; rfl) rfl
  have v6 : wr .i64 ((num ((b.l.drop 18).take 4) : Nat) : Int) = w4 b.l 18 := wr_i64 (by omega) (by have := num4 (b.l.drop 18); omega)
  obtain ⟨o7, d7, s7⟩ := slc_drop eF_len (c := o) (a := 7) (by rw [of]; simp)
  have s7 : ∀ h, r_slc 34 (o.v eF) (some (.int .i64 7)) none none h = some (o7.v eF, h) := s7
  have mu1 : VE.binOp .mul (.int .i64 3) (.int .i64 1) = some (.int .i64 3) := rfl
  have wq7 : wr .i64 7 = 7 := rfl
  obtain ⟨r70, p70⟩ := ia_fl (o := o7) (k := 0) (n := 0) (by rw [d7, of]; rfl) rfl
  have v7 : wr .i64 ((num ((b.l.drop 22).take 4) : Nat) : Int) = w4 b.l 22 := wr_i64 (by omega) (by have := num4 (b.l.drop 22); omega)
  obtain ⟨r71, p71⟩ := ia_fl (o := o7) (k := 1) (n := 1) (by rw [d7, of]; rfl) rfl
  have v8 : wr .i64 ((num ((b.l.drop 26).take 4) : Nat) : Int) = w4 b.l 26 := wr_i64 (by omega) (by have := num4 (b.l.drop 26); omega)
  obtain ⟨r72, p72⟩ := ia_fl (o := o7) (k := 2) (n := 2) (by rw [d7, of]; rfl) rfl
  have v9 : wr .i64 ((num ((b.l.drop 30).take 4) : Nat) : Int) = w4 b.l 30 := wr_i64 (by omega) (by have := num4 (b.l.drop 30); omega)
  obtain ⟨o10, d10, s10⟩ := slc_drop eF_len (c := o) (a := 10) (by rw [of]; simp)
  have s10 : ∀ h, r_slc 34 (o.v eF) (some (.int .i64 10)) none none h = some (o10.v eF, h) := s10
  have mu2 : VE.binOp .mul (.int .i64 3) (.int .i64 2) = some (.int .i64 6) := rfl
  have wq10 : wr .i64 10 = 10 := rfl
  obtain ⟨r100, p100⟩ := ia_fl (o := o10) (k := 0) (n := 0) (by rw [d10, of]; rfl) rfl
  have v10 : wr .i64 ((num ((b.l.drop 34).take 4) : Nat) : Int) = w4 b.l 34 := wr_i64 (by omega) (by have := num4 (b.l.drop 34); omega)
  obtain ⟨r101, p101⟩ := ia_fl (o := o10) (k := 1) (n := 1) (by rw [d10, of]; rfl) rfl
  have v11 : wr .i64 ((num ((b.l.drop 38).take 4) : Nat) : Int) = w4 b.l 38 := wr_i64 (by omega) (by have := num4 (b.l.drop 38); omega)
  obtain ⟨r102, p102⟩ := ia_fl (o := o10) (k := 2) (n := 2) (by rw [d10, of]; rfl) rfl
  have v12 : wr .i64 ((num ((b.l.drop 42).take 4) : Nat) : Int) = w4 b.l 42 := wr_i64 (by omega) (by have := num4 (b.l.drop 42); omega)
  have e0 : (0 : Int) = ((0 : Nat) : Int) := rfl
  clear e0
  refine w_loop1 ?_
  simp only [↓zp, zv, seval, e2, e6, e47, mu0, wq4, s4, p40, p41, p42, v4, v5, v6, gH, z0]
  generalize hS : Tr.set _ 47 _ = S1
  generalize hH : Heap.set _ _ _ = H1
  have e2' : Slots.at S1 2 = .ptr g.nx 0 := by rw [← hS]; simp only [zs, seval, e2]
  have e6' : Slots.at S1 6 = o.v eF := by rw [← hS]; simp only [zs, seval, e6]
  have e47' : Slots.at S1 47 = .int .i64 1 := by rw [← hS]; simp only [zs, seval]
  have lH' : H1.lo = g.lo := by rw [← hH, Heap.set_lo, lH]
  have gH' : H1.get g.nx = .cells (.int .u8 (n1 b.l 1) :: .int .u32 (w4 b.l 2) :: .int .u32 (w4 b.l 6) :: .int .i64 (w4 b.l 10) :: .int .i64 (w4 b.l 14) :: .int .i64 (w4 b.l 18) :: .int .i64 0 :: .int .i64 0 :: .int .i64 0 :: .int .i64 0 :: .int .i64 0 :: .int .i64 0 :: .int .u8 0 :: .int .u8 0 :: .int .u64 0 :: zV) (.ct tc) := by rw [← hH, Heap.get_set, if_pos rfl]
  clear hS hH e2 e6 e47 lH gH z0
  have e2 := e2'
  have e6 := e6'
  have e47 := e47'
  have lH := lH'
  have gH := gH'
  have z0 : ¬ g.nx < H1.lo := by omega
  clear e2' e6' e47' lH' gH'
  refine w_loop1 ?_
  simp only [↓zp, zv, seval, e2, e6, e47, mu1, wq7, s7, p70, p71, p72, v7, v8, v9, gH, z0]
  generalize hS : Tr.set _ 47 _ = S2
  generalize hH : Heap.set _ _ _ = H2
  have e2' : Slots.at S2 2 = .ptr g.nx 0 := by rw [← hS]; simp only [zs, seval, e2]
  have e6' : Slots.at S2 6 = o.v eF := by rw [← hS]; simp only [zs, seval, e6]
  have e47' : Slots.at S2 47 = .int .i64 2 := by rw [← hS]; simp only [zs, seval]
  have lH' : H2.lo = g.lo := by rw [← hH, Heap.set_lo, lH]
  have gH' : H2.get g.nx = .cells (.int .u8 (n1 b.l 1) :: .int .u32 (w4 b.l 2) :: .int .u32 (w4 b.l 6) :: .int .i64 (w4 b.l 10) :: .int .i64 (w4 b.l 14) :: .int .i64 (w4 b.l 18) :: .int .i64 (w4 b.l 22) :: .int .i64 (w4 b.l 26) :: .int .i64 (w4 b.l 30) :: .int .i64 0 :: .int .i64 0 :: .int .i64 0 :: .int .u8 0 :: .int .u8 0 :: .int .u64 0 :: zV) (.ct tc) := by rw [← hH, Heap.get_set, if_pos rfl]
  clear hS hH e2 e6 e47 lH gH z0
  have e2 := e2'
  have e6 := e6'
  have e47 := e47'
  have lH := lH'
  have gH := gH'
  have z0 : ¬ g.nx < H2.lo := by omega
  clear e2' e6' e47' lH' gH'
  refine w_loop1 ?_
  simp only [↓zp, zv, seval, e2, e6, e47, mu2, wq10, s10, p100, p101, p102, v10, v11, v12, gH, z0]
  generalize hS : Tr.set _ 47 _ = S3
  generalize hH : Heap.set _ _ _ = H3
  have e2' : Slots.at S3 2 = .ptr g.nx 0 := by rw [← hS]; simp only [zs, seval, e2]
  have e6' : Slots.at S3 6 = o.v eF := by rw [← hS]; simp only [zs, seval, e6]
  have e47' : Slots.at S3 47 = .int .i64 3 := by rw [← hS]; simp only [zs, seval]
  have lH' : H3.lo = g.lo := by rw [← hH, Heap.set_lo, lH]
  have gH' : H3.get g.nx = .cells (.int .u8 (n1 b.l 1) :: .int .u32 (w4 b.l 2) :: .int .u32 (w4 b.l 6) :: .int .i64 (w4 b.l 10) :: .int .i64 (w4 b.l 14) :: .int .i64 (w4 b.l 18) :: .int .i64 (w4 b.l 22) :: .int .i64 (w4 b.l 26) :: .int .i64 (w4 b.l 30) :: .int .i64 (w4 b.l 34) :: .int .i64 (w4 b.l 38) :: .int .i64 (w4 b.l 42) :: .int .u8 0 :: .int .u8 0 :: .int .u64 0 :: zV) (.ct tc) := by rw [← hH, Heap.get_set, if_pos rfl]
  clear hS hH e2 e6 e47 lH gH z0
  have e2 := e2'
  have e6 := e6'
  have e47 := e47'
  have lH := lH'
  have gH := gH'
  have z0 : ¬ g.nx < H3.lo := by omega
  clear e2' e6' e47' lH' gH'
  refine w_loop1 ?_
  simp only [↓zp, zv, seval, e2, e6, e47]
  exact ⟨by simp only [zs, seval, e2], by simp only [zs, seval, e6], gH, lH⟩
 have s2 := B.s2
 have s6 := B.s6
 have gH := B.gx
 have z0 : ¬ g.nx < h.lo := by have := B.lo; omega
 obtain ⟨r13, i13⟩ := ia_fl (o := o) (k := 13) (n := 13) (by rw [of]; rfl) rfl
 obtain ⟨r14, i14⟩ := ia_fl (o := o) (k := 14) (n := 14) (by rw [of]; rfl) rfl
 obtain ⟨r15, i15⟩ := ia_fl (o := o) (k := 15) (n := 15) (by rw [of]; rfl) rfl
 obtain ⟨r16, i16⟩ := ia_fl (o := o) (k := 16) (n := 16) (by rw [of]; rfl) rfl
 have u13 : wr .u8 ((num ((b.l.drop 46).take 1) : Nat) : Int) = n1 b.l 46 := wr8 (num1 _)
 have u14 : wr .u8 ((num ((b.l.drop 47).take 1) : Nat) : Int) = n1 b.l 47 := wr8 (num1 _)
 have pl := pad_len ((b.l.drop 56).take 32)
 have fz := fun (H : Heap) (c : Nat) => fzA1 (h := H) (base := c) (encC_scal (cmdOf b.l)) (by show _ ≤ 1000; simp [encC, cmdOf, mY_len, pad_len])
 unfold encC at fz ⊢
 have ed : (cmdOf b.l).tg = pad ((b.l.drop 56).take 32) := rfl
 rw [ed] at fz ⊢
 obtain ⟨D, hD⟩ : ∃ D, pad ((b.l.drop 56).take 32) = D := ⟨_, rfl⟩
 have i16 : ∀ h, r_ia 34 (o.v eF) (.int .i64 16) h = some (.iptr (.int .u8 6 :: .int .u64 0 :: (mY D ++ r16)), h) := fun h => by rw [← hD]; exact i16 h
 rw [hD] at pl fz ⊢
 have lD : (mY D).length = 32 := by rw [mY_len, pl]
 have oD := mY_one D
 generalize mY D = Y at lD oD i16 fz ⊢
 cases Y with
 | nil => simp at lD
 | cons y W =>
 have lW : W.length = 31 := by simpa using lD
 have oz := over_zV lD oD
 have oy : oneCell y = true := by simp only [List.all_cons, Bool.and_eq_true] at oD; exact oD.1
 have oW : over 0 W W = some W := over_id (by simp only [List.all_cons, Bool.and_eq_true] at oD; exact oD.2)
 have tW : takeN 31 W = some W := by have := takeN_all W; rwa [lW] at this
 have tE : ∀ r, takeN 31 (W ++ r) = some W := fun r => by have := takeN_app W r; rwa [lW] at this
 unfold cC zY at gH
 simp only [List.cons_append] at i16
 simp only [↓zp, zv, seval, s2, s6, gH, i13, i14, i15, i16, u13, u14, lW, tW, tE, oz, oW, oy, apart_i, z0]
 exact fz _ _
end
end
section
open Go Go.VE Classical
def good (c : Cmd) : Prop := limBad c.l0 = false ∧ limBad c.l1 = false ∧ limBad c.l2 = false
def lz (c : Cmd) : Prop := (c.l0.b = 0 ∧ c.l0.r = 0 ∧ c.l0.p = 0) ∧ (c.l1.b = 0 ∧ c.l1.r = 0 ∧ c.l1.p = 0) ∧ (c.l2.b = 0 ∧ c.l2.r = 0 ∧ c.l2.p = 0)
def CmdOk (c : Cmd) : Prop := c.t < 16 ∧ (c.op = 1 ∨ c.op = 2 ∨ c.op = 3 ∨ c.op = 4 ∨ c.op = 5) ∧ (c.op = 5 ∨ c.u = 0) ∧ (if c.op = 1 ∨ c.op = 3 then good c else lz c) ∧ (if c.op = 1 then (1 ≤ c.us ∧ c.us ≤ 8) ∧ 1 ≤ c.es ∧ c.es ≤ 8 else c.us = 0 ∧ c.es = 0)
theorem w_to {vp : Nat → Option VFn} {c : VCode} {s : Slots} {h : Heap} {Q : VX → Slots → Heap → Prop} (y : VX) (P : Slots → Heap → Prop) (ha : wp vp c s h fun x s h => x = y ∧ P s h) (hb : ∀ s h, P s h → Q y s h) : wp vp c s h Q := by
 refine wp_mono (fun x s h k => ?_) ha
 obtain ⟨rfl, k⟩ := k
 exact hb _ _ k
section
variable {vp : Nat → Option VFn}
structure VfP (b4 b3 : Nat) (v : Bool) (Z : List V) (T4 T3 : Tag) (h h' : Heap) : Prop where
 g4 : h'.get b4 = .cells [.bool v] T4
 g3 : h'.get b3 = .cells Z T3
 get : ∀ c, c < h.nx → c ≠ b4 → c ≠ b3 → h'.get c = h.get c
 lo : h'.lo = h.lo
 nx : h.nx ≤ h'.nx
structure VfI (b1 b4 b3 : Nat) (C : List V) (Z : List V) (T1 T4 T3 : Tag) (h : Heap) (v : Bool) (j : Int) (s : Slots) (h' : Heap) : Prop where
 s1 : s.at 1 = .ptr b4 0
 s2 : s.at 2 = .ptr b3 0
 s6 : s.at 6 = .agg C
 s7 : s.at 7 = .int .i64 j
 p : VfP b4 b3 v Z T4 T3 h h'
theorem fvfn_spec {f c1 t1 : Nat} (hf : vp f = some (Zzax c1 t1)) (h1 : vp c1 = some Zzag) (l0 l1 l2 : Limit)
  (b1 b4 b3 : Nat) (v0 : Bool) (x0 x1 x2 y0 y1 y2 m0 m1 m2 m3 m4 m5 m6 m7 m8 : V) (X Y : List V) (T1 T4 T3 : Tag) (h : Heap)
  (g1 : h.get b1 = .cells (x0 :: x1 :: x2 :: .int .i64 l0.b :: .int .i64 l0.r :: .int .i64 l0.p :: .int .i64 l1.b :: .int .i64 l1.r :: .int .i64 l1.p :: .int .i64 l2.b :: .int .i64 l2.r :: .int .i64 l2.p :: X) T1)
  (g4 : h.get b4 = .cells [.bool v0] T4) (g3 : h.get b3 = .cells (y0 :: y1 :: y2 :: m0 :: m1 :: m2 :: m3 :: m4 :: m5 :: m6 :: m7 :: m8 :: Y) T3)
  (n4 : b4 < h.nx) (n3 : b3 < h.nx) (lo4 : ¬ b4 < h.lo) (lo3 : ¬ b3 < h.lo) (hl : h.lo ≤ h.nx) (ne : b3 ≠ b4) :
  ∃ v h', callRes vp f [.ptr b1 0, .ptr b4 0, .ptr b3 0] h = some (v, h') ∧ v = .tup [] ∧ VfP b4 b3 (v0 && !limBad l0 && !limBad l1 && !limBad l2) (y0 :: y1 :: y2 :: .int .i64 0 :: .int .i64 0 :: .int .i64 0 :: .int .i64 0 :: .int .i64 0 :: .int .i64 0 :: .int .i64 0 :: .int .i64 0 :: .int .i64 0 :: Y) T4 T3 h h' := by
 have e1 : modeOf vp c1 = some 1 := mo h1 rfl rfl
 have kl := fun x h => lim_spec h1 x h
 refine res_raw hf rfl rfl ?_
 unfold Zzax
 simp only [↓zp, zv, seval, g1]
 have step : ∀ (x : Limit) (v : Bool) (h' : Heap), VfP b4 b3 v (y0 :: y1 :: y2 :: m0 :: m1 :: m2 :: m3 :: m4 :: m5 :: m6 :: m7 :: m8 :: Y) T4 T3 h h' → VfP b4 b3 (v && !limBad x) (y0 :: y1 :: y2 :: m0 :: m1 :: m2 :: m3 :: m4 :: m5 :: m6 :: m7 :: m8 :: Y) T4 T3 h (((h'.new (.cells [.int .i64 0, .int .i64 0, .int .i64 0] (.ct t1))).set h'.nx (.cells [.int .i64 x.b, .int .i64 x.r, .int .i64 x.p] (.ct t1))).set b4 (.cells [.bool (v && !limBad x)] T4)) := fun x v h' p => by
  have nx := p.nx
  refine ⟨by rw [Heap.get_set, if_pos rfl], ?_, fun c hc h4 h3 => ?_, p.lo, ?_⟩
  ·rw [Heap.get_set, if_neg ne, Heap.get_set, if_neg (by omega), Heap.get_new, if_neg (by omega), p.g3]
  ·rw [Heap.get_set, if_neg h4, Heap.get_set, if_neg (by omega), Heap.get_new, if_neg (by omega), p.get c hc h4 h3]
  ·rw [Heap.set_nx, Heap.set_nx, Heap.new_nx]
   omega
 obtain ⟨C, hC⟩ : ∃ C, C = [V.int .i64 l0.b, .int .i64 l0.r, .int .i64 l0.p, .int .i64 l1.b, .int .i64 l1.r, .int .i64 l1.p, .int .i64 l2.b, .int .i64 l2.r, .int .i64 l2.p] := ⟨_, rfl⟩
 generalize hS : Tr.set _ 7 _ = S
 have I0 : VfI b1 b4 b3 C (y0 :: y1 :: y2 :: m0 :: m1 :: m2 :: m3 :: m4 :: m5 :: m6 :: m7 :: m8 :: Y) T1 T4 T3 h v0 0 S h := ⟨by rw [← hS]; simp only [zs, seval], by rw [← hS]; simp only [zs, seval], by rw [← hS, hC]; simp only [zs, seval], by rw [← hS]; simp only [zs, seval], ⟨g4, g3, fun _ _ _ _ => rfl, rfl, Nat.le_refl _⟩⟩
 clear hS
 generalize hv1 : (v0 && !limBad l0) = w1
 generalize hv2 : (w1 && !limBad l1) = w2
 generalize hv3 : (w2 && !limBad l2) = w3
 refine w_loop1 ?_
 have st := step l0 v0 _ I0.p
 rw [hv1] at st
 have lo := I0.p.lo
 have nx := I0.p.nx
 have s1 := I0.s1
 have s2 := I0.s2
 have s6 := I0.s6
 have s7 := I0.s7
 have p4 := I0.p.g4
 clear I0
 rw [hC] at s6
 refine w_to .norm (VfI b1 b4 b3 C (y0 :: y1 :: y2 :: m0 :: m1 :: m2 :: m3 :: m4 :: m5 :: m6 :: m7 :: m8 :: Y) T1 T4 T3 h w1 1) ?_ (fun s1' h1' I1 => ?_)
 ·skip
  have zl : ¬ h.nx < h.lo := by omega
  have z4 : ¬ b4 < h.lo := by omega
  have zn : ¬ b4 = h.nx := by omega
  cases hb : limBad l0 <;> cases hv : v0 <;> (
   subst hv1
   simp only [hb, hv, Bool.not_true, Bool.not_false, Bool.and_true, Bool.and_false, Bool.false_and, Bool.true_and] at st p4 ⊢
   simp only [↓zp, zv, seval, s1, s2, s6, s7, p4, e1, kl, chkLim, hb, zl, z4, zn]
   exact ⟨by simp only [zs, seval, s1], by simp only [zs, seval, s2], by simp only [zs, seval, s6, hC], by simp only [zs, seval], st⟩)
 refine w_loop1 ?_
 have st := step l1 w1 _ I1.p
 rw [hv2] at st
 have lo := I1.p.lo
 have nx := I1.p.nx
 have s1 := I1.s1
 have s2 := I1.s2
 have s6 := I1.s6
 have s7 := I1.s7
 have p4 := I1.p.g4
 clear I1
 rw [hC] at s6
 refine w_to .norm (VfI b1 b4 b3 C (y0 :: y1 :: y2 :: m0 :: m1 :: m2 :: m3 :: m4 :: m5 :: m6 :: m7 :: m8 :: Y) T1 T4 T3 h w2 2) ?_ (fun s2' h2' I2 => ?_)
 ·skip
  have zl : ¬ h1'.nx < h1'.lo := by omega
  have z4 : ¬ b4 < h1'.lo := by omega
  have zn : ¬ b4 = h1'.nx := by omega
  cases hb : limBad l1 <;> cases hv : w1 <;> (
   subst hv2
   simp only [hb, hv, Bool.not_true, Bool.not_false, Bool.and_true, Bool.and_false, Bool.false_and, Bool.true_and] at st p4 ⊢
   simp only [↓zp, zv, seval, s1, s2, s6, s7, p4, e1, kl, chkLim, hb, zl, z4, zn]
   exact ⟨by simp only [zs, seval, s1], by simp only [zs, seval, s2], by simp only [zs, seval, s6, hC], by simp only [zs, seval], st⟩)
 refine w_loop1 ?_
 have st := step l2 w2 _ I2.p
 rw [hv3] at st
 have lo := I2.p.lo
 have nx := I2.p.nx
 have s1 := I2.s1
 have s2 := I2.s2
 have s6 := I2.s6
 have s7 := I2.s7
 have p4 := I2.p.g4
 clear I2
 rw [hC] at s6
 refine w_to .norm (VfI b1 b4 b3 C (y0 :: y1 :: y2 :: m0 :: m1 :: m2 :: m3 :: m4 :: m5 :: m6 :: m7 :: m8 :: Y) T1 T4 T3 h w3 3) ?_ (fun s3' h3' I3 => ?_)
 ·skip
  have zl : ¬ h2'.nx < h2'.lo := by omega
  have z4 : ¬ b4 < h2'.lo := by omega
  have zn : ¬ b4 = h2'.nx := by omega
  cases hb : limBad l2 <;> cases hv : w2 <;> (
   subst hv3
   simp only [hb, hv, Bool.not_true, Bool.not_false, Bool.and_true, Bool.and_false, Bool.false_and, Bool.true_and] at st p4 ⊢
   simp only [↓zp, zv, seval, s1, s2, s6, s7, p4, e1, kl, chkLim, hb, zl, z4, zn]
   exact ⟨by simp only [zs, seval, s1], by simp only [zs, seval, s2], by simp only [zs, seval, s6, hC], by simp only [zs, seval], st⟩)
 refine w_loop1 ?_
 have z9 : rep 9 [V.int .i64 0] = [.int .i64 0, .int .i64 0, .int .i64 0, .int .i64 0, .int .i64 0, .int .i64 0, .int .i64 0, .int .i64 0, .int .i64 0] := rfl
 have lo := I3.p.lo
 have nx := I3.p.nx
 have z3 : ¬ b3 < h3'.lo := by omega
 simp only [↓zp, zv, seval, I3.s1, I3.s2, I3.s6, I3.s7, I3.p.g3, z9, z3]
 refine ⟨by rw [Heap.get_set, if_neg (fun e => ne e.symm)]; exact I3.p.g4, by rw [Heap.get_set, if_pos rfl], fun c hc h4 h3 => ?_, I3.p.lo, I3.p.nx⟩
 rw [Heap.get_set, if_neg h3]
 exact I3.p.get c hc h4 h3
end
end
section
open Go Go.VE Classical
theorem eq47 {u a0 a1 a2 a3 a4 a5 a6 a7 a8 us es : Int} {h : Heap} : r_eqa false [0, 0, 0, 0, 0, 0, 0, 0, 0, 0, 0, 0, 0, 0, 0, 0, 0, 0, 0, 0, 0, 0, 0, 0, 0, 0, 0, 0, 0, 0, 0, 0, 0, 0, 0, 0, 0, 0, 0, 0, 0, 0, 0, 0, 0, 0, 0] (.agg (.int .u8 0 :: .int .u32 0 :: .int .u32 u :: .int .i64 a0 :: .int .i64 a1 :: .int .i64 a2 :: .int .i64 a3 :: .int .i64 a4 :: .int .i64 a5 :: .int .i64 a6 :: .int .i64 a7 :: .int .i64 a8 :: .int .u8 us :: .int .u8 es :: .int .u64 0 :: zV))
  (.agg (.int .u8 0 :: .int .u32 0 :: .int .u32 0 :: .int .i64 0 :: .int .i64 0 :: .int .i64 0 :: .int .i64 0 :: .int .i64 0 :: .int .i64 0 :: .int .i64 0 :: .int .i64 0 :: .int .i64 0 :: .int .u8 0 :: .int .u8 0 :: .int .u64 0 :: [.int .u8 0, .int .u8 0, .int .u8 0, .int .u8 0, .int .u8 0, .int .u8 0, .int .u8 0, .int .u8 0, .int .u8 0, .int .u8 0, .int .u8 0, .int .u8 0, .int .u8 0, .int .u8 0, .int .u8 0, .int .u8 0, .int .u8 0, .int .u8 0, .int .u8 0, .int .u8 0, .int .u8 0, .int .u8 0, .int .u8 0, .int .u8 0, .int .u8 0, .int .u8 0, .int .u8 0, .int .u8 0, .int .u8 0, .int .u8 0, .int .u8 0, .int .u8 0])) h = some (.bool (decide (u = 0 ∧ ((a0 = 0 ∧ a1 = 0 ∧ a2 = 0) ∧ (a3 = 0 ∧ a4 = 0 ∧ a5 = 0) ∧ (a6 = 0 ∧ a7 = 0 ∧ a8 = 0)) ∧ us = 0 ∧ es = 0)), h) :=
 eqaInts ([(.u8, 0, 0), (.u32, 0, 0), (.u32, u, 0), (.i64, a0, 0), (.i64, a1, 0), (.i64, a2, 0), (.i64, a3, 0), (.i64, a4, 0), (.i64, a5, 0), (.i64, a6, 0), (.i64, a7, 0), (.i64, a8, 0), (.u8, us, 0), (.u8, es, 0), (.u64, 0, 0)] ++ List.replicate 32 (.u8, 0, 0)) rfl rfl rfl (by
  simp only [List.forall_mem_append, List.mem_cons, List.not_mem_nil, or_false, forall_eq_or_imp, forall_eq, List.mem_replicate, true_and, and_assoc]
  constructor
  ·intro q
   exact ⟨q.1, q.2.1, q.2.2.1, q.2.2.2.1, q.2.2.2.2.1, q.2.2.2.2.2.1, q.2.2.2.2.2.2.1, q.2.2.2.2.2.2.2.1, q.2.2.2.2.2.2.2.2.1, q.2.2.2.2.2.2.2.2.2.1, q.2.2.2.2.2.2.2.2.2.2.1, q.2.2.2.2.2.2.2.2.2.2.2.1⟩
  ·rintro ⟨p0, p1, p2, p3, p4, p5, p6, p7, p8, p9, p10, p11⟩
   exact ⟨p0, p1, p2, p3, p4, p5, p6, p7, p8, p9, p10, p11, by rintro p ⟨_, rfl⟩; rfl⟩)
section
variable {vp : Nat → Option VFn}
structure VaA (c : Cmd) (nx lo c1 t1 t2 : Nat) (s : Slots) (h : Heap) : Prop where
 s1 : s.at 1 = .ptr nx 0
 s3 : s.at 3 = .ptr (nx + 1) 0
 s4 : s.at 4 = .ptr (nx + 2) 0
 s5 : s.at 5 = .fn c1 [.ptr nx 0, .ptr (nx + 2) 0, .ptr (nx + 1) 0]
 g1 : h.get nx = .cells (encC c) .cl
 g3 : h.get (nx + 1) = .cells (.int .u8 0 :: .int .u32 0 :: .int .u32 c.u :: .int .i64 c.l0.b :: .int .i64 c.l0.r :: .int .i64 c.l0.p :: .int .i64 c.l1.b :: .int .i64 c.l1.r :: .int .i64 c.l1.p :: .int .i64 c.l2.b :: .int .i64 c.l2.r :: .int .i64 c.l2.p :: .int .u8 c.us :: .int .u8 c.es :: .int .u64 0 :: zV) (.ct t1)
 g4 : h.get (nx + 2) = .cells [.bool (decide (c.t < 16))] (.ct t2)
 lo : h.lo = lo
 nx : h.nx = nx + 3
structure VaB (P : Prop) (nx t1 t2 : Nat) (s : Slots) (h : Heap) : Prop where
 s3 : s.at 3 = .ptr (nx + 1) 0
 s4 : s.at 4 = .ptr (nx + 2) 0
 p : ∃ v u a0 a1 a2 a3 a4 a5 a6 a7 a8 us es, h.get (nx + 1) = .cells (.int .u8 0 :: .int .u32 0 :: .int .u32 u :: .int .i64 a0 :: .int .i64 a1 :: .int .i64 a2 :: .int .i64 a3 :: .int .i64 a4 :: .int .i64 a5 :: .int .i64 a6 :: .int .i64 a7 :: .int .i64 a8 :: .int .u8 us :: .int .u8 es :: .int .u64 0 :: zV) (.ct t1) ∧
  h.get (nx + 2) = .cells [.bool v] (.ct t2) ∧ (P ↔ v = true ∧ u = 0 ∧ ((a0 = 0 ∧ a1 = 0 ∧ a2 = 0) ∧ (a3 = 0 ∧ a4 = 0 ∧ a5 = 0) ∧ (a6 = 0 ∧ a7 = 0 ∧ a8 = 0)) ∧ us = 0 ∧ es = 0)
theorem fvalid_spec {f c1 d1 t1 t2 t3 : Nat} (hf : vp f = some (Zzaw c1 t1 t2)) (h1 : vp c1 = some (Zzax d1 t3)) (h2 : vp d1 = some Zzag) (c : Cmd) (hc : c.tg.length = 32) (h : Heap) :
  callRes vp f [.agg (encC c)] h = some (.bool (decide (CmdOk c)), h) := by
 refine res_pure hf rfl rfl (fun g hg => ?_)
 have hlo := hlo hg
 unfold Zzaw
 simp only []
 rw [w_ass, w_ass, w_ass, w_ass, w_ass]
 refine w_cut (VaA c g.nx g.lo c1 t1 t2) ?_ (fun s h A => ?_)
 ·have lD : (mY c.tg).length = 32 := by rw [mY_len, hc]
  have oD := mY_one c.tg
  unfold encC
  have eC : ∀ H : Heap, H.get g.nx = .cells (encC c) .cl ↔ H.get g.nx = .cells (.int .u8 c.op :: .int .u32 c.t :: .int .u32 c.u :: .int .i64 c.l0.b :: .int .i64 c.l0.r :: .int .i64 c.l0.p :: .int .i64 c.l1.b :: .int .i64 c.l1.r :: .int .i64 c.l1.p :: .int .i64 c.l2.b :: .int .i64 c.l2.r :: .int .i64 c.l2.p :: .int .u8 c.us :: .int .u8 c.es :: .int .u64 c.ex :: mY c.tg) .cl := fun H => Iff.rfl
  generalize mY c.tg = Y at lD oD eC ⊢
  have tY : takeN 32 Y = some Y := by have := takeN_all Y; rwa [lD] at this
  have oz := over_zW lD oD
  have z3 : rep 32 [V.int .u8 0] = [.int .u8 0, .int .u8 0, .int .u8 0, .int .u8 0, .int .u8 0, .int .u8 0, .int .u8 0, .int .u8 0, .int .u8 0, .int .u8 0, .int .u8 0, .int .u8 0, .int .u8 0, .int .u8 0, .int .u8 0, .int .u8 0, .int .u8 0, .int .u8 0, .int .u8 0, .int .u8 0, .int .u8 0, .int .u8 0, .int .u8 0, .int .u8 0, .int .u8 0, .int .u8 0, .int .u8 0, .int .u8 0, .int .u8 0, .int .u8 0, .int .u8 0, .int .u8 0] := rfl
  have oY : over 0 Y [.int .u8 0, .int .u8 0, .int .u8 0, .int .u8 0, .int .u8 0, .int .u8 0, .int .u8 0, .int .u8 0, .int .u8 0, .int .u8 0, .int .u8 0, .int .u8 0, .int .u8 0, .int .u8 0, .int .u8 0, .int .u8 0, .int .u8 0, .int .u8 0, .int .u8 0, .int .u8 0, .int .u8 0, .int .u8 0, .int .u8 0, .int .u8 0, .int .u8 0, .int .u8 0, .int .u8 0, .int .u8 0, .int .u8 0, .int .u8 0, .int .u8 0, .int .u8 0] = some [.int .u8 0, .int .u8 0, .int .u8 0, .int .u8 0, .int .u8 0, .int .u8 0, .int .u8 0, .int .u8 0, .int .u8 0, .int .u8 0, .int .u8 0, .int .u8 0, .int .u8 0, .int .u8 0, .int .u8 0, .int .u8 0, .int .u8 0, .int .u8 0, .int .u8 0, .int .u8 0, .int .u8 0, .int .u8 0, .int .u8 0, .int .u8 0, .int .u8 0, .int .u8 0, .int .u8 0, .int .u8 0, .int .u8 0, .int .u8 0, .int .u8 0, .int .u8 0] := by
   have := over_mid [] zV Y [] (by rw [lD]; rfl) rfl
   simp only [List.nil_append, List.append_nil, List.length_nil] at this
   exact this
  have z0 : ¬ g.nx < g.lo := by omega
  have z1 : ¬ g.nx + 1 < g.lo := by omega
  have z2 : ¬ g.nx + 2 < g.lo := by omega
  simp only [↓zp, zv, seval, lD, tY, oz, oY, z3, z0, z1, z2]
  refine ⟨by simp only [zs, seval], by simp only [zs, seval], by simp only [zs, seval], by simp only [zs, seval], (eC _).2 (by simp only [↓zp, zv, seval]), by simp only [↓zp, zv, seval]; rfl, by simp only [↓zp, zv, seval], by simp only [↓zp, zv, seval], by simp only [↓zp, zv, seval]⟩
 have gA := A.g1
 unfold encC at gA
 have lo := A.lo
 have nx := A.nx
 have z1 : ¬ g.nx + 1 < h.lo := by omega
 have z2 : ¬ g.nx + 2 < h.lo := by omega
 by_cases hop : c.op = 1 ∨ c.op = 2 ∨ c.op = 3 ∨ c.op = 4 ∨ c.op = 5
 case neg =>
  have n1 : ¬ c.op = 1 := by omega
  have n2 : ¬ c.op = 2 := by omega
  have n3 : ¬ c.op = 3 := by omega
  have n4 : ¬ c.op = 4 := by omega
  have n5 : ¬ c.op = 5 := by omega
  have e : decide (CmdOk c) = false := decide_eq_false (fun q => hop q.2.1)
  simp only [↓zp, zv, seval, A.s1, A.s3, A.s4, A.s5, gA, n1, n2, n3, n4, n5, e, frzB]
 refine w_cut (VaB (CmdOk c) g.nx t1 t2) ?_ (fun s h B => ?_)
 ·have g3 := A.g3
  have g4 := A.g4
  obtain ⟨v, h', kv, ev, p⟩ := fvfn_spec h1 h2 c.l0 c.l1 c.l2 g.nx (g.nx + 2) (g.nx + 1) _ _ _ _ _ _ _ _ _ _ _ _ _ _ _ _ _ _ _ _ _ h A.g1 A.g4 A.g3 (by omega) (by omega) z2 z1 (by omega) (by omega)
  subst ev
  have kv := callVRes_fn (args := []) (caps := [.ptr g.nx 0, .ptr (g.nx + 2) 0, .ptr (g.nx + 1) 0]) kv
  have p3 := p.g3
  have p4 := p.g4
  have pl := p.lo
  have z1' : ¬ g.nx + 1 < h'.lo := by omega
  have z2' : ¬ g.nx + 2 < h'.lo := by omega
  have g1' : h'.get g.nx = .cells (encC c) .cl := (p.get g.nx (by omega) (by omega) (by omega)).trans A.g1
  unfold encC at g1'
  by_cases o1 : c.op = 1
  ·obtain ⟨m, hm, km⟩ : ∃ m : Int, (1 ≤ m ↔ 1 ≤ c.us ∧ 1 ≤ c.es) ∧ ∀ h, r_mini [.int .u8 c.us, .int .u8 c.es] h = some (.int .u8 m, h) := by
    refine ⟨bif ltI c.es c.us then c.es else c.us, ?_, fun h => rfl⟩
    rw [ltI_dec, Bool.cond_eq_ite]
    simp only [decide_eq_true_eq]
    split <;> omega
   obtain ⟨M, hM, kM⟩ : ∃ m : Int, (m ≤ 8 ↔ c.us ≤ 8 ∧ c.es ≤ 8) ∧ ∀ h, r_maxi [.int .u8 c.us, .int .u8 c.es] h = some (.int .u8 m, h) := by
    refine ⟨bif ltI c.us c.es then c.es else c.us, ?_, fun h => rfl⟩
    rw [ltI_dec, Bool.cond_eq_ite]
    simp only [decide_eq_true_eq]
    split <;> omega
   have n54 : ¬ g.nx + 2 = g.nx + 1 := by omega
   have n45 : ¬ g.nx + 1 = g.nx + 2 := by omega
   have ok : CmdOk c ↔ ((decide (c.t < 16) && !limBad c.l0 && !limBad c.l1 && !limBad c.l2) = true ∧ 1 ≤ m ∧ M ≤ 8) ∧ c.u = 0 := by
    have a1 : c.op = 1 ∨ c.op = 3 := .inl o1
    have a2 : (c.op = 5 ∨ c.u = 0) = (c.u = 0) := propext ⟨fun q => q.resolve_left (by omega), .inr⟩
    unfold CmdOk
    rw [if_pos a1, if_pos o1, hm, hM, a2]
    simp only [good, eq_true hop, true_and, Bool.and_eq_true, decide_eq_true_eq, Bool.not_eq_true']
    exact ⟨fun ⟨q1, q2, ⟨q3, q4, q5⟩, ⟨q6, q7⟩, q8, q9⟩ => ⟨⟨⟨⟨⟨q1, q3⟩, q4⟩, q5⟩, ⟨q6, q8⟩, q7, q9⟩, q2⟩, fun ⟨⟨⟨⟨⟨q1, q3⟩, q4⟩, q5⟩, ⟨q6, q8⟩, q7, q9⟩, q2⟩ => ⟨q1, q2, ⟨q3, q4, q5⟩, ⟨q6, q7⟩, q8, q9⟩⟩
   generalize (decide (c.t < 16) && !limBad c.l0 && !limBad c.l1 && !limBad c.l2) = W at p4 ok
   cases W with
   | false =>
    simp only [↓zp, zv, seval, A.s1, A.s3, A.s4, A.s5, gA, eq_true o1, kv, p4, p3, z1', z2', n54, n45]
    refine ⟨by simp only [zs, seval, A.s3], by simp only [zs, seval, A.s4], false, c.u, 0, 0, 0, 0, 0, 0, 0, 0, 0, 0, 0, by simp only [↓zp, zv, seval, n54, n45], by simp only [↓zp, zv, seval, n54, n45], ?_⟩
    exact ⟨fun q => absurd (ok.1 q).1.1 (by simp), fun q => absurd q.1 (by simp)⟩
   | true =>
    by_cases q1 : 1 ≤ m
    case neg =>
     simp only [↓zp, zv, seval, A.s1, A.s3, A.s4, A.s5, gA, eq_true o1, kv, p4, p3, g1', z1', z2', n54, n45, km, kM, q1]
     refine ⟨by simp only [zs, seval, A.s3], by simp only [zs, seval, A.s4], false, c.u, 0, 0, 0, 0, 0, 0, 0, 0, 0, 0, 0, by simp only [↓zp, zv, seval, n54, n45], by simp only [↓zp, zv, seval, n54, n45], ?_⟩
     exact ⟨fun q => absurd (ok.1 q).1.2.1 q1, fun q => absurd q.1 (by simp)⟩
    by_cases q2 : M ≤ 8
    case neg =>
     simp only [↓zp, zv, seval, A.s1, A.s3, A.s4, A.s5, gA, eq_true o1, kv, p4, p3, g1', z1', z2', n54, n45, km, kM, q1, q2]
     refine ⟨by simp only [zs, seval, A.s3], by simp only [zs, seval, A.s4], false, c.u, 0, 0, 0, 0, 0, 0, 0, 0, 0, 0, 0, by simp only [↓zp, zv, seval, n54, n45], by simp only [↓zp, zv, seval, n54, n45], ?_⟩
     exact ⟨fun q => absurd (ok.1 q).1.2.2 q2, fun q => absurd q.1 (by simp)⟩
    simp only [↓zp, zv, seval, A.s1, A.s3, A.s4, A.s5, gA, eq_true o1, kv, p4, p3, g1', z1', z2', n54, n45, km, kM, q1, q2]
    refine ⟨by simp only [zs, seval, A.s3], by simp only [zs, seval, A.s4], true, c.u, 0, 0, 0, 0, 0, 0, 0, 0, 0, 0, 0, by simp only [↓zp, zv, seval, n54, n45], by simp only [↓zp, zv, seval, n54, n45], ?_⟩
    exact ⟨fun q => ⟨rfl, (ok.1 q).2, ⟨⟨rfl, rfl, rfl⟩, ⟨rfl, rfl, rfl⟩, rfl, rfl, rfl⟩, rfl, rfl⟩, fun q => ok.2 ⟨⟨rfl, q1, q2⟩, q.2.1⟩⟩
  by_cases o3 : c.op = 3
  ·simp only [↓zp, zv, seval, A.s1, A.s3, A.s4, A.s5, gA, o1, eq_true o3, kv]
   refine ⟨by simp only [zs, seval, A.s3], by simp only [zs, seval, A.s4], _, _, _, _, _, _, _, _, _, _, _, _, _, p3, p4, ?_⟩
   have a1 : c.op = 1 ∨ c.op = 3 := .inr o3
   have a2 : (c.op = 5 ∨ c.u = 0) = (c.u = 0) := propext ⟨fun q => q.resolve_left (by omega), .inr⟩
   unfold CmdOk
   rw [if_pos a1, if_neg o1, a2]
   simp only [good, eq_true hop, true_and, Bool.and_eq_true, decide_eq_true_eq, Bool.not_eq_true', and_self]
   exact ⟨fun ⟨q1, q2, ⟨q3, q4, q5⟩, q6⟩ => ⟨⟨⟨⟨q1, q3⟩, q4⟩, q5⟩, q2, q6⟩, fun ⟨⟨⟨⟨q1, q3⟩, q4⟩, q5⟩, q2, q6⟩ => ⟨q1, q2, ⟨q3, q4, q5⟩, q6⟩⟩
  have a1 : ¬ (c.op = 1 ∨ c.op = 3) := by omega
  by_cases o5 : c.op = 5
  ·simp only [↓zp, zv, seval, A.s1, A.s3, A.s4, A.s5, gA, o1, o3, eq_true o5, g3, z1]
   refine ⟨by simp only [zs, seval, A.s3], by simp only [zs, seval, A.s4], _, _, _, _, _, _, _, _, _, _, _, _, _, by rw [Heap.get_set, if_pos rfl], by rw [Heap.get_set, if_neg (by omega)]; exact g4, ?_⟩
   unfold CmdOk
   rw [if_neg a1, if_neg o1]
   simp only [lz, eq_true o5, true_or, or_true, true_and, decide_eq_true_eq]
  have o24 : c.op = 2 ∨ c.op = 4 := by omega
  have ok : CmdOk c ↔ decide (c.t < 16) = true ∧ c.u = 0 ∧ lz c ∧ c.us = 0 ∧ c.es = 0 := by
   unfold CmdOk
   rw [if_neg a1, if_neg o1]
   have a2 : (c.op = 5 ∨ c.u = 0) = (c.u = 0) := propext ⟨fun q => q.resolve_left o5, .inr⟩
   simp only [a2, eq_true hop, true_and, decide_eq_true_eq]
  rcases o24 with o2 | o4
  ·have e2 := eq_true o2
   simp only [↓zp, zv, seval, A.s1, A.s3, A.s4, A.s5, gA, o1, o3, o5, e2]
   exact ⟨by simp only [zs, seval, A.s3], by simp only [zs, seval, A.s4], _, _, _, _, _, _, _, _, _, _, _, _, _, g3, g4, ok⟩
  ·have o2 : ¬ c.op = 2 := by omega
   simp only [↓zp, zv, seval, A.s1, A.s3, A.s4, A.s5, gA, o1, o3, o5, o2, eq_true o4]
   exact ⟨by simp only [zs, seval, A.s3], by simp only [zs, seval, A.s4], _, _, _, _, _, _, _, _, _, _, _, _, _, g3, g4, ok⟩
 obtain ⟨v, u, a0, a1, a2, a3, a4, a5, a6, a7, a8, us, es, g3, g4, iff⟩ := B.p
 have tz : takeN 32 zV = some zV := rfl
 cases v with
 | false =>
  have e : decide (CmdOk c) = false := decide_eq_false (fun q => absurd (iff.1 q).1 (by simp))
  simp only [↓zp, zv, seval, B.s3, B.s4, g4, e, frzB]
 | true =>
  have e : decide (CmdOk c) = decide (u = 0 ∧ ((a0 = 0 ∧ a1 = 0 ∧ a2 = 0) ∧ (a3 = 0 ∧ a4 = 0 ∧ a5 = 0) ∧ (a6 = 0 ∧ a7 = 0 ∧ a8 = 0)) ∧ us = 0 ∧ es = 0) := decide_eq_decide.2 (iff.trans ⟨fun q => q.2, fun q => ⟨rfl, q⟩⟩)
  simp only [↓zp, zv, seval, B.s3, B.s4, g3, g4, tz, eq47, frzB, ← e]
end
end
end Go.VE.LB
