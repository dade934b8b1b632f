/- What the functions of the law ModelAdmits compute, on typed arguments (part 29). -/
import Derived.Test.YtnmneadmlcpaoaaModelAdmitsA28
set_option linter.all false
namespace Go.VE.LB
open Go Go.VE
set_option maxRecDepth 100000
set_option linter.all false
set_option maxHeartbeats 8000000
theorem eqa_9 {a : Acct} {h : Heap} : r_eqa true [0, 0, 0, 0, 0, 0, 0, 0, 0] (.agg [.int .i64 a.l0.b, .int .i64 a.l0.r, .int .i64 a.l0.p, .int .i64 a.l1.b, .int .i64 a.l1.r, .int .i64 a.l1.p, .int .i64 a.l2.b, .int .i64 a.l2.r, .int .i64 a.l2.p]) (.agg [.int .i64 a.l0.b, .int .i64 a.l0.r, .int .i64 a.l0.p, .int .i64 a.l1.b, .int .i64 a.l1.r, .int .i64 a.l1.p, .int .i64 a.l2.b, .int .i64 a.l2.r, .int .i64 a.l2.p]) h = some (.bool false, h) := by
  simp only [r_eqa, List.length_cons, List.length_nil, beq_dec, decide_true, Bool.and_self, cond_true, eqC, if_true]
  rfl
theorem eqa_2 {x y : Int} {h : Heap} : r_eqa true [0, 0] (.agg [.int .i64 x, .int .i64 y]) (.agg [.int .i64 x, .int .i64 y]) h = some (.bool false, h) := by
  simp only [r_eqa, List.length_cons, List.length_nil, beq_dec, decide_true, Bool.and_self, cond_true, eqC, if_true]
  rfl
theorem w_cut {vp : Nat → Option VFn} {a b : VCode} {s : Slots} {h : Heap} {Q : VX → Slots → Heap → Prop} (P : Slots → Heap → Prop) (ha : wp vp a s h fun x s h => x = .norm ∧ P s h) (hb : ∀ s h, P s h → wp vp b s h Q) : wp vp (.seq a b) s h Q := by
  rw [w_seq]
  refine wp_mono (fun x s h k => ?_) ha
  obtain ⟨rfl, k⟩ := k
  exact hb _ _ k
theorem w_to {vp : Nat → Option VFn} {c : VCode} {s : Slots} {h : Heap} {Q : VX → Slots → Heap → Prop} (y : VX) (P : Slots → Heap → Prop) (ha : wp vp c s h fun x s h => x = y ∧ P s h) (hb : ∀ s h, P s h → Q y s h) : wp vp c s h Q := by
  refine wp_mono (fun x s h k => ?_) ha
  obtain ⟨rfl, k⟩ := k
  exact hb _ _ k
/-- what stands between the law's parts -/
structure LP (nx lo : Nat) (user ep cost : Int) (al : Bool) (C0 C1 C2 C5 : List V) (t1 t2 : Nat) (s : Slots) (h : Heap) : Prop where
  s1 : Slots.at s 1 = .int .u32 user
  s2 : Slots.at s 2 = .int .u16 ep
  s3 : Slots.at s 3 = .int .u32 cost
  s5 : Slots.at s 5 = .ptr nx 0
  s11 : Slots.at s 11 = .bool true
  s12 : Slots.at s 12 = .ptr (nx + 1) 0
  s13 : Slots.at s 13 = .ptr (nx + 2) 0
  s17 : Slots.at s 17 = .sl (nx + 5) 0 3 3 6
  s18 : Slots.at s 18 = .bool al
  g0 : h.get nx = .cells C0 .cl
  g1 : h.get (nx + 1) = .cells C1 (.ct t1)
  g2 : h.get (nx + 2) = .cells C2 (.ct t2)
  g5 : h.get (nx + 5) = .cells C5 .cl
  gl : h.lo = lo
section
variable {vp : Nat → Option VFn}
/-- what the law needs of its functions -/
structure MOk' (vp : Nat → Option VFn) (c1 c2 c3 c4 c5 c6 c7 : Nat) : Prop where
  a : modeOf vp c1 = some 1 ∧ ∀ h, callRes vp c1 [] h = some (.bool true, h)
  v : ∃ k1 k2 k3 k4, vp c2 = some (B_spigotref25_Valid k1 k2 k3) ∧ vp k1 = some B_spigotref03_CheckLimit ∧ vp k2 = some (B_spigotref03_Check k1) ∧ vp k3 = some (B_spigotref25_held k4 k2) ∧ vp k4 = some B_spigotref25_At
  r : vp c3 = some B_spigotref25_IsRevoked
  p : PAsk vp c4 ∧ modeOf vp c4 = some 1
  b : ∃ k1 k2 k3 t1 t2, vp c5 = some (B_spigotlaw25_bucket k1 k2 t1) ∧ vp k1 = some B_spigotref25_At ∧ vp k2 = some (B_spigotref03_Full k3 t2) ∧ vp k3 = some B_spigotref03_CheckLimit
  f : ∃ cm ca cd cc t1 t2 t3 t4 t5 c1 c2 t6, vp c6 = some (B_spigotref03_Filled cm ca cd cc t1 t2) ∧ vp cm = some (B_spigotref01_Mul t3) ∧ vp ca = some (B_spigotref01_Add t4) ∧ vp cd = some (B_spigotref01_Div c1 c2 t5) ∧ vp cc = some B_spigotref01_Cmp ∧ vp c1 = some B_spigotref01_Cmp ∧ vp c2 = some (B_spigotref01_Less t6)
  o : ∃ k1, vp c7 = some (B_spigotlaw25_fronted k1) ∧ vp k1 = some B_spigotref25_At
theorem law {f c1 c2 c3 c4 c5 c6 c7 t1 t2 t3 : Nat} (hf : vp f = some (B_spigotlaw25_ModelAdmits c1 c2 c3 c4 c5 c6 c7 t1 t2 t3)) (w : MOk' vp c1 c2 c3 c4 c5 c6 c7) (a : Acct) (user ep cost tick : Int) (hu : user ≤ 4294967295) (he0 : 0 ≤ ep) (he : ep ≤ 65535) (hc : 0 ≤ cost ∧ cost < 4294967296) (ht : u64 tick)
    (to : u64 a.own.t) (tu : ∀ x ∈ a.users.l, u64 x.b.t) (te : ∀ x ∈ a.ends.l, u64 x.b.t) (h : Heap) :
    callRes vp f [.agg (encA a), .int .u32 user, .int .u16 ep, .int .u32 cost, .int .u64 tick] h = some (.bool true, h) := by
  obtain ⟨⟨m1, ca⟩, ⟨v1, v2, v3, v4, hv, hv1, hv2, hv3, hv4⟩, hr, ⟨hp, m4⟩, ⟨b1, b2, b3, tb1, tb2, hb, hb1, hb2, hb3⟩, ⟨cm, ca', cd, cc, r1, r2, r3, r4, r5, r6, r7, r8, hF, hF1, hF2, hF3, hF4, hF5, hF6⟩, ⟨o1, ho, ho1⟩⟩ := w
  have m2 : modeOf vp c2 = some 1 := by simp [modeOf, hv, B_spigotref25_Valid]
  have m3 : modeOf vp c3 = some 1 := by simp [modeOf, hr, B_spigotref25_IsRevoked]
  have m5 : modeOf vp c5 = some 1 := by simp [modeOf, hb, B_spigotlaw25_bucket]
  have m6 : modeOf vp c6 = some 1 := by simp [modeOf, hF, B_spigotref03_Filled]
  have m7 : modeOf vp c7 = some 1 := by simp [modeOf, ho, B_spigotlaw25_fronted]
  refine res_pure hf rfl rfl (fun g hg => ?_)
  have hl := hlo hg
  unfold B_spigotlaw25_ModelAdmits
  by_cases u1 : 40 < (a.users.l.length : Int)
  · unfold encA
    simp only [↓zp, zz, true_and, and_true, chkOk, Nat.reduceEqDiff, Nat.reduceAdd, Nat.reduceSub, Nat.reduceMul, Nat.reduceLT, Nat.reduceLeDiff, Int.reduceLT, Int.reduceLE, Int.reduceEq, Int.reduceAdd, Int.reduceNeg, if_false, if_true, reduceIte, ags, LB.agz, agd, r_mv, r_pick, r_box, r_alloc, r_un, r_eqb, r_ext, r_mkf, r_cnv, r_st, r_nck, r_ix, r_iaa, takeN, agc, agn, VE.store, over, cellsAt, VE.part, agm, agb, blkX, gEval, cond_true, cond_false, r_build, r_bsl, fill, VE.unOp, r_bin, adz, ads, resOf, resVs, resV, alc, aln, reduceCtorEq, or_true, true_or, false_or, or_false, eq_self, exists_eq_left', Option.some.injEq, m1, ca, u1, frzB]
  by_cases u2 : 40 < (a.ends.l.length : Int)
  · unfold encA
    simp only [↓zp, zz, true_and, and_true, chkOk, Nat.reduceEqDiff, Nat.reduceAdd, Nat.reduceSub, Nat.reduceMul, Nat.reduceLT, Nat.reduceLeDiff, Int.reduceLT, Int.reduceLE, Int.reduceEq, Int.reduceAdd, Int.reduceNeg, if_false, if_true, reduceIte, ags, LB.agz, agd, r_mv, r_pick, r_box, r_alloc, r_un, r_eqb, r_ext, r_mkf, r_cnv, r_st, r_nck, r_ix, r_iaa, takeN, agc, agn, VE.store, over, cellsAt, VE.part, agm, agb, blkX, gEval, cond_true, cond_false, r_build, r_bsl, fill, VE.unOp, r_bin, adz, ads, resOf, resVs, resV, alc, aln, reduceCtorEq, or_true, true_or, false_or, or_false, eq_self, exists_eq_left', Option.some.injEq, m1, ca, u1, u2, frzB]
  by_cases u3 : 40 < (a.rev.l.length : Int)
  · unfold encA
    simp only [↓zp, zz, true_and, and_true, chkOk, Nat.reduceEqDiff, Nat.reduceAdd, Nat.reduceSub, Nat.reduceMul, Nat.reduceLT, Nat.reduceLeDiff, Int.reduceLT, Int.reduceLE, Int.reduceEq, Int.reduceAdd, Int.reduceNeg, if_false, if_true, reduceIte, ags, LB.agz, agd, r_mv, r_pick, r_box, r_alloc, r_un, r_eqb, r_ext, r_mkf, r_cnv, r_st, r_nck, r_ix, r_iaa, takeN, agc, agn, VE.store, over, cellsAt, VE.part, agm, agb, blkX, gEval, cond_true, cond_false, r_build, r_bsl, fill, VE.unOp, r_bin, adz, ads, resOf, resVs, resV, alc, aln, reduceCtorEq, or_true, true_or, false_or, or_false, eq_self, exists_eq_left', Option.some.injEq, m1, ca, u1, u2, u3, frzB]
  have sm : Small a := ⟨by omega, by omega, by omega⟩
  have cV := fun h => Valid_spec hv hv1 hv2 hv3 hv4 a sm h
  by_cases ok : AOk a
  case neg =>
    have cV : ∀ h, callRes vp c2 [.agg (encA a)] h = some (.bool false, h) := fun h => (cV h).trans (by rw [@decide_eq_false _ (Classical.propDecidable _) ok])
    unfold encA at *
    simp only [↓zp, zz, true_and, and_true, chkOk, Nat.reduceEqDiff, Nat.reduceAdd, Nat.reduceSub, Nat.reduceMul, Nat.reduceLT, Nat.reduceLeDiff, Int.reduceLT, Int.reduceLE, Int.reduceEq, Int.reduceAdd, Int.reduceNeg, if_false, if_true, reduceIte, ags, LB.agz, agd, r_mv, r_pick, r_box, r_alloc, r_un, r_eqb, r_ext, r_mkf, r_cnv, r_st, r_nck, r_ix, r_iaa, takeN, agc, agn, VE.store, over, cellsAt, VE.part, agm, agb, blkX, gEval, cond_true, cond_false, r_build, r_bsl, fill, VE.unOp, r_bin, adz, ads, resOf, resVs, resV, alc, aln, reduceCtorEq, or_true, true_or, false_or, or_false, eq_self, exists_eq_left', Option.some.injEq, m1, ca, u1, u2, u3, m2, cV, frzB]
  have cV : ∀ h, callRes vp c2 [.agg (encA a)] h = some (.bool true, h) := fun h => (cV h).trans (by rw [@decide_eq_true _ (Classical.propDecidable _) ok])
  have cR := fun h => isRev_spec hr a user h sm.r
  cases hrv : a.rev.l.any (isU user) with
  | true =>
    rw [hrv] at cR
    unfold encA at *
    simp only [↓zp, zz, true_and, and_true, chkOk, Nat.reduceEqDiff, Nat.reduceAdd, Nat.reduceSub, Nat.reduceMul, Nat.reduceLT, Nat.reduceLeDiff, Int.reduceLT, Int.reduceLE, Int.reduceEq, Int.reduceAdd, Int.reduceNeg, if_false, if_true, reduceIte, ags, LB.agz, agd, r_mv, r_pick, r_box, r_alloc, r_un, r_eqb, r_ext, r_mkf, r_cnv, r_st, r_nck, r_ix, r_iaa, takeN, agc, agn, VE.store, over, cellsAt, VE.part, agm, agb, blkX, gEval, cond_true, cond_false, r_build, r_bsl, fill, VE.unOp, r_bin, adz, ads, resOf, resVs, resV, alc, aln, reduceCtorEq, or_true, true_or, false_or, or_false, eq_self, exists_eq_left', Option.some.injEq, m1, ca, u1, u2, u3, m2, cV, m3, cR, frzB]
  | false =>
  rw [hrv] at cR
  have qk := Q_of ok (by omega) (by omega) (by omega) to tu te
  have we : wr .u32 ep = ep := wr_u16 he0 he
  obtain ⟨H1, hH1⟩ : ∃ H, g.new (.cells (encA a) .cl) = H := ⟨_, rfl⟩
  have h1n : H1.nx = g.nx + 1 := by rw [← hH1]; rfl
  have h1l : H1.lo = g.lo := by rw [← hH1]; rfl
  have h1g : H1.get g.nx = .cells (encA a) .cl := by rw [← hH1, Heap.get_new, if_pos rfl]
  obtain ⟨b, x, y, U, E, ad, o', x', y', ar, cA⟩ := Ask_spec hp a ok sm qk user ep cost tick hrv hc ht H1
  have aok := ask_ok ok qk ht hc.1 hu (by rw [we]; exact he) ar
  have smb : Small b := by
    have hb1 := aok.2.1.len
    have hb2 := aok.2.2.len
    have c0 := qk.c0
    have c1 := qk.c1
    exact ⟨by omega, by omega, by rw [ar.rev]; omega⟩
  have cVb : ∀ h, callRes vp c2 [.agg (encA b)] h = some (.bool true, h) := fun h => (Valid_spec hv hv1 hv2 hv3 hv4 b smb h).trans (by rw [@decide_eq_true _ (Classical.propDecidable _) aok.1])
  have eb : encA b = encS a (b.users.v encH) (b.ends.v encH) (b.rev.v e32) o' b.n0 b.n1 b.n2 := by
    unfold encA encS
    rw [ar.t, ar.l0, ar.l1, ar.l2, ar.c0, ar.c1, ar.own]
  rw [eb] at cA cVb
  -- the buckets
  have q0 := qk.c0
  have q1 := qk.c1
  have e0 : ((a.c0.toNat : Nat) : Int) = a.c0 := by omega
  have e1 : ((a.c1.toNat : Nat) : Int) = a.c1 := by omega
  have hU : HL a.users.l (a.c0.toNat : Nat) a.l1 4294967295 := by rw [e0]; exact HL_of ok.us
  have hE : HL a.ends.l (a.c1.toNat : Nat) a.l2 65535 := by rw [e1]; exact HL_of ok.en
  have lu := use_law hU hu ok.l1 (by omega) ar.pU
  have le := use_law hE (by rw [we]; exact he) ok.l2 (by omega) ar.pE
  have nu := use_len (by have := hU.len; omega) (by omega) ar.pU
  have ne := use_len (by have := hE.len; omega) (by omega) ar.pE
  have cb1 : ∀ h, callRes vp c5 [a.users.v encH, .int .u32 user, .agg (encL a.l1), .int .u64 tick] h = some (.agg (encB x.b), h) := fun h => by rw [lu.2.1]; exact lbkt_spec hb hb1 hb2 hb3 a.users user a.l1 tick ok.l1 sm.u h
  have cb2 : ∀ h, callRes vp c5 [a.ends.v encH, .int .u32 (wr .u32 ep), .agg (encL a.l2), .int .u64 tick] h = some (.agg (encB y.b), h) := fun h => by rw [le.2.1]; exact lbkt_spec hb hb1 hb2 hb3 a.ends (wr .u32 ep) a.l2 tick ok.l2 sm.e h
  obtain ⟨x1, U1, hx1, hxk, hxb, hxt⟩ := useL_cons a.users.l user a.l1 tick a.c0.toNat (by omega) ok.l1 ht qk.us
  obtain ⟨y1, E1, hy1, hyk, hyb, hyt⟩ := useL_cons a.ends.l (wr .u32 ep) a.l2 tick a.c1.toNat (by omega) ok.l2 ht qk.es
  rw [ar.pU] at hx1
  rw [ar.pE] at hy1
  injection hx1 with i1 i2
  injection hy1 with i3 i4
  subst i1 i2 i3 i4
  have cf0 := fun h => filled_spec hF hF1 hF2 hF3 hF4 hF5 hF6 a.own tick ok.own to ht h
  have cf1 := fun h => filled_spec hF hF1 hF2 hF3 hF4 hF5 hF6 x.b tick hxb hxt ht h
  have cf2 := fun h => filled_spec hF hF1 hF2 hF3 hF4 hF5 hF6 y.b tick hyb hyt ht h
  have vo := fillB_ok ok.own to ht
  have vx := fillB_ok hxb hxt ht
  have vy := fillB_ok hyb hyt ht
  have fr1 : ∀ h, callRes vp c7 [a.users.v encH, b.users.v encH, .int .u32 user, .int .i64 a.c0] h = some (.bool true, h) := fun h => by
    rw [← e0]
    exact fronted_spec ho ho1 a.users b.users user a.c0.toNat ⟨x.k, x'⟩ U ar.us lu.1 lu.2.2.2.1 lu.2.2.2.2.2.2 nu (by omega) (by omega) h
  have fr2 : ∀ h, callRes vp c7 [a.ends.v encH, b.ends.v encH, .int .u32 (wr .u32 ep), .int .i64 a.c1] h = some (.bool true, h) := fun h => by
    rw [← e1]
    exact fronted_spec ho ho1 a.ends b.ends (wr .u32 ep) a.c1.toNat ⟨y.k, y'⟩ E ar.es le.1 le.2.2.2.1 le.2.2.2.2.2.2 ne (by omega) (by omega) h
  have ib1 : ∀ h, r_ia 7 (b.users.v encH) (.int .i64 0) h = some (.iptr (encH ⟨x.k, x'⟩ ++ U.flatMap encH), h) := fun h => by
    have := r_ia_v (c := b.users) (k := 0) (n := 0) (h := h) encH_len (by decide) (by rw [ar.us]; simp) rfl
    rw [this]
    simp [ar.us]
  have ib2 : ∀ h, r_ia 7 (b.ends.v encH) (.int .i64 0) h = some (.iptr (encH ⟨y.k, y'⟩ ++ E.flatMap encH), h) := fun h => by
    have := r_ia_v (c := b.ends) (k := 0) (n := 0) (h := h) encH_len (by decide) (by rw [ar.es]; simp) rfl
    rw [this]
    simp [ar.es]
  have wc : wr .i64 cost = cost := wr_i64 (by omega) (by omega)
  have hpo := ar.po
  have hpx := ar.px
  have hpy := ar.py
  have hpad := ar.pad
  obtain ⟨O, hO⟩ : ∃ O, fillB a.own tick = O := ⟨_, rfl⟩
  obtain ⟨X, hX⟩ : ∃ O, fillB x.b tick = O := ⟨_, rfl⟩
  obtain ⟨Y, hY⟩ : ∃ O, fillB y.b tick = O := ⟨_, rfl⟩
  rw [hO] at cf0 vo hpo hpad
  rw [hX] at cf1 vx hpx hpad
  rw [hY] at cf2 vy hpy hpad
  have bo := bk_ok.1 vo.1
  have bx := bk_ok.1 vx.1
  have by' := bk_ok.1 vy.1
  have lO := lim_ok.1 bo.1
  have lX := lim_ok.1 bx.1
  have lY := lim_ok.1 by'.1
  have l1 : ¬ (g.nx + 1 < g.lo) := by omega
  have l2 : ¬ (g.nx + 2 < g.lo) := by omega
  have l3 : ¬ (g.nx + 3 < g.lo) := by omega
  have l4 : ¬ (g.nx + 4 < g.lo) := by omega
  have l5 : ¬ (g.nx + 5 < g.lo) := by omega
  obtain ⟨bu, hbu⟩ : ∃ v, b.users.v encH = v := ⟨_, rfl⟩
  obtain ⟨be, hbe⟩ : ∃ v, b.ends.v encH = v := ⟨_, rfl⟩
  obtain ⟨br, hbr⟩ : ∃ v, b.rev.v e32 = v := ⟨_, rfl⟩
  have bu1 : oneCell bu = true := by rw [← hbu]; exact oneCell_v
  have be1 : oneCell be = true := by rw [← hbe]; exact oneCell_v
  have br1 : oneCell br = true := by rw [← hbr]; exact oneCell_v
  rw [hbu] at cA cVb fr1 ib1
  rw [hbe] at cA cVb fr2 ib2
  rw [hbr] at cA cVb
  obtain ⟨z0, hz0⟩ : ∃ z, b.n0 = z := ⟨_, rfl⟩
  obtain ⟨z1, hz1⟩ : ∃ z, b.n1 = z := ⟨_, rfl⟩
  obtain ⟨z2, hz2⟩ : ∃ z, b.n2 = z := ⟨_, rfl⟩
  rw [hz0, hz1, hz2] at cA cVb
  clear eb aok smb hg
  unfold encA at cV cR cA hH1 h1g
  unfold encS at cA cVb
  unfold encR at cA
  unfold encL at cb1 cb2
  unfold encB at cb1 cb2 cf0 cf1 cf2
  unfold encA
  have rt : (a.t = a.t) = True := eq_self _
  simp only [↓zp, zz, true_and, and_true, chkOk, Nat.reduceEqDiff, Nat.reduceAdd, Nat.reduceSub, Nat.reduceMul, Nat.reduceLT, Nat.reduceLeDiff, Int.reduceLT, Int.reduceLE, Int.reduceEq, Int.reduceAdd, Int.reduceNeg, if_false, if_true, reduceIte, ags, LB.agz, agd, r_mv, r_pick, r_box, r_alloc, r_un, r_eqb, r_ext, r_mkf, r_cnv, r_st, r_nck, r_ix, r_iaa, takeN, agc, agn, VE.store, over, cellsAt, VE.part, agm, agb, blkX, gEval, cond_true, cond_false, r_build, r_bsl, fill, VE.unOp, r_bin, adz, ads, resOf, resVs, resV, alc, aln, reduceCtorEq, or_true, true_or, false_or, or_false, eq_self, exists_eq_left', Option.some.injEq, m1, ca, u1, u2, u3, m2, cV, m3, cR, hH1, h1n, h1l, h1g, m4, cA, l1, l2, l3, l4, bu1, be1, br1, cVb, eqa_9, eqa_2, m5, cb1, cb2, m6, cf0, cf1, cf2]
  generalize hS : Tr.set _ 19 _ = S
  have s1 : Slots.at S 1 = .int .u32 user := by rw [← hS]; simp only [Slots.at_set, Nat.reduceEqDiff, if_false, if_true, reduceIte, argSlots_at, ags, agz, agd]
  have s2 : Slots.at S 2 = .int .u16 ep := by rw [← hS]; simp only [Slots.at_set, Nat.reduceEqDiff, if_false, if_true, reduceIte, argSlots_at, ags, agz, agd]
  have s3 : Slots.at S 3 = .int .u32 cost := by rw [← hS]; simp only [Slots.at_set, Nat.reduceEqDiff, if_false, if_true, reduceIte, argSlots_at, ags, agz, agd]
  have s5 : Slots.at S 5 = .ptr g.nx 0 := by rw [← hS]; simp only [Slots.at_set, Nat.reduceEqDiff, if_false, if_true, reduceIte, argSlots_at, ags, agz, agd]
  have s11 : Slots.at S 11 = .bool true := by rw [← hS]; simp only [Slots.at_set, Nat.reduceEqDiff, if_false, if_true, reduceIte, argSlots_at, ags, agz, agd]
  have s12 : Slots.at S 12 = .ptr (g.nx + 1) 0 := by rw [← hS]; simp only [Slots.at_set, Nat.reduceEqDiff, if_false, if_true, reduceIte, argSlots_at, ags, agz, agd]
  have s13 : Slots.at S 13 = .ptr (g.nx + 2) 0 := by rw [← hS]; simp only [Slots.at_set, Nat.reduceEqDiff, if_false, if_true, reduceIte, argSlots_at, ags, agz, agd]
  have s17 : Slots.at S 17 = .sl (g.nx + 5) 0 3 3 6 := by rw [← hS]; simp only [Slots.at_set, Nat.reduceEqDiff, if_false, if_true, reduceIte, argSlots_at, ags, agz, agd]
  have s18 : Slots.at S 18 = .bool true := by rw [← hS]; simp only [Slots.at_set, Nat.reduceEqDiff, if_false, if_true, reduceIte, argSlots_at, ags, agz, agd]
  have s19 : Slots.at S 19 = .int .i64 0 := by rw [← hS]; simp only [Slots.at_set, Nat.reduceEqDiff, if_false, if_true, reduceIte, argSlots_at, ags, agz, agd]
  clear hS
  generalize hG : Heap.new _ _ = G
  have g0 : G.get g.nx = .cells [.int .u32 a.t, .int .i64 a.l0.b, .int .i64 a.l0.r, .int .i64 a.l0.p, .int .i64 a.l1.b, .int .i64 a.l1.r, .int .i64 a.l1.p, .int .i64 a.l2.b, .int .i64 a.l2.r, .int .i64 a.l2.p, .int .i64 a.c0, .int .i64 a.c1, .int .i64 a.own.l.b, .int .i64 a.own.l.r, .int .i64 a.own.l.p, .int .i64 a.own.lv, .int .i64 a.own.pt, .int .u64 a.own.t, a.users.v encH, a.ends.v encH, a.rev.v e32, .int .u64 a.n0, .int .u64 a.n1, .int .u64 a.n2] .cl := by rw [← hG]; simp only [↓zp, zz, true_and, and_true, chkOk, Nat.reduceEqDiff, Nat.reduceAdd, Nat.reduceSub, Nat.reduceMul, Nat.reduceLT, Nat.reduceLeDiff, Int.reduceLT, Int.reduceLE, Int.reduceEq, Int.reduceAdd, Int.reduceNeg, if_false, if_true, reduceIte, ags, LB.agz, agd, r_mv, r_pick, r_box, r_alloc, r_un, r_eqb, r_ext, r_mkf, r_cnv, r_st, r_nck, r_ix, r_iaa, takeN, agc, agn, VE.store, over, cellsAt, VE.part, agm, agb, blkX, gEval, cond_true, cond_false, r_build, r_bsl, fill, VE.unOp, r_bin, adz, ads, resOf, resVs, resV, alc, aln, reduceCtorEq, or_true, true_or, false_or, or_false, eq_self, exists_eq_left', Option.some.injEq, h1n, h1g]
  have g1 : G.get (g.nx + 1) = .cells [.int .u32 a.t, .int .i64 a.l0.b, .int .i64 a.l0.r, .int .i64 a.l0.p, .int .i64 a.l1.b, .int .i64 a.l1.r, .int .i64 a.l1.p, .int .i64 a.l2.b, .int .i64 a.l2.r, .int .i64 a.l2.p, .int .i64 a.c0, .int .i64 a.c1, .int .i64 o'.l.b, .int .i64 o'.l.r, .int .i64 o'.l.p, .int .i64 o'.lv, .int .i64 o'.pt, .int .u64 o'.t, bu, be, br, .int .u64 z0, .int .u64 z1, .int .u64 z2] (.ct t1) := by rw [← hG]; simp only [↓zp, zz, true_and, and_true, chkOk, Nat.reduceEqDiff, Nat.reduceAdd, Nat.reduceSub, Nat.reduceMul, Nat.reduceLT, Nat.reduceLeDiff, Int.reduceLT, Int.reduceLE, Int.reduceEq, Int.reduceAdd, Int.reduceNeg, if_false, if_true, reduceIte, ags, LB.agz, agd, r_mv, r_pick, r_box, r_alloc, r_un, r_eqb, r_ext, r_mkf, r_cnv, r_st, r_nck, r_ix, r_iaa, takeN, agc, agn, VE.store, over, cellsAt, VE.part, agm, agb, blkX, gEval, cond_true, cond_false, r_build, r_bsl, fill, VE.unOp, r_bin, adz, ads, resOf, resVs, resV, alc, aln, reduceCtorEq, or_true, true_or, false_or, or_false, eq_self, exists_eq_left', Option.some.injEq, h1n]
  have g2 : G.get (g.nx + 2) = .cells [.int .u8 (if ad = true then 2 else 3), .int .u32 a.t, .int .u32 (wr .u32 o'.lv), .int .u32 (wr .u32 x'.lv), .int .u32 (wr .u32 y'.lv), .int .u64 (if ad = true then 0 else wait3 o' x' y' cost)] (.ct t2) := by rw [← hG]; simp only [↓zp, zz, true_and, and_true, chkOk, Nat.reduceEqDiff, Nat.reduceAdd, Nat.reduceSub, Nat.reduceMul, Nat.reduceLT, Nat.reduceLeDiff, Int.reduceLT, Int.reduceLE, Int.reduceEq, Int.reduceAdd, Int.reduceNeg, if_false, if_true, reduceIte, ags, LB.agz, agd, r_mv, r_pick, r_box, r_alloc, r_un, r_eqb, r_ext, r_mkf, r_cnv, r_st, r_nck, r_ix, r_iaa, takeN, agc, agn, VE.store, over, cellsAt, VE.part, agm, agb, blkX, gEval, cond_true, cond_false, r_build, r_bsl, fill, VE.unOp, r_bin, adz, ads, resOf, resVs, resV, alc, aln, reduceCtorEq, or_true, true_or, false_or, or_false, eq_self, exists_eq_left', Option.some.injEq, h1n]
  have g5 : G.get (g.nx + 5) = .cells [.int .i64 O.l.b, .int .i64 O.l.r, .int .i64 O.l.p, .int .i64 O.lv, .int .i64 O.pt, .int .u64 O.t, .int .i64 X.l.b, .int .i64 X.l.r, .int .i64 X.l.p, .int .i64 X.lv, .int .i64 X.pt, .int .u64 X.t, .int .i64 Y.l.b, .int .i64 Y.l.r, .int .i64 Y.l.p, .int .i64 Y.lv, .int .i64 Y.pt, .int .u64 Y.t] .cl := by rw [← hG]; simp only [↓zp, zz, true_and, and_true, chkOk, Nat.reduceEqDiff, Nat.reduceAdd, Nat.reduceSub, Nat.reduceMul, Nat.reduceLT, Nat.reduceLeDiff, Int.reduceLT, Int.reduceLE, Int.reduceEq, Int.reduceAdd, Int.reduceNeg, if_false, if_true, reduceIte, ags, LB.agz, agd, r_mv, r_pick, r_box, r_alloc, r_un, r_eqb, r_ext, r_mkf, r_cnv, r_st, r_nck, r_ix, r_iaa, takeN, agc, agn, VE.store, over, cellsAt, VE.part, agm, agb, blkX, gEval, cond_true, cond_false, r_build, r_bsl, fill, VE.unOp, r_bin, adz, ads, resOf, resVs, resV, alc, aln, reduceCtorEq, or_true, true_or, false_or, or_false, eq_self, exists_eq_left', Option.some.injEq, h1n]
  have gl : G.lo = g.lo := by rw [← hG]; exact h1l
  clear hG
  have i0 : ∀ h : Heap, r_ia 6 (.sl (g.nx + 5) 0 3 3 6) (.int .i64 0) h = some (.ptr (g.nx + 5) 0, h) := fun h => rfl
  have i1 : ∀ h : Heap, r_ia 6 (.sl (g.nx + 5) 0 3 3 6) (.int .i64 1) h = some (.ptr (g.nx + 5) 6, h) := fun h => rfl
  have i2 : ∀ h : Heap, r_ia 6 (.sl (g.nx + 5) 0 3 3 6) (.int .i64 2) h = some (.ptr (g.nx + 5) 12, h) := fun h => rfl
  clear cA cV cR cVb cb1 cb2 cf0 cf1 cf2 ca hH1 h1n h1l h1g hU hE lu le nu ne ar
  have m7' := m7
  obtain ⟨C0, hC0⟩ : ∃ C : List V, C = [.int .u32 a.t, .int .i64 a.l0.b, .int .i64 a.l0.r, .int .i64 a.l0.p, .int .i64 a.l1.b, .int .i64 a.l1.r, .int .i64 a.l1.p, .int .i64 a.l2.b, .int .i64 a.l2.r, .int .i64 a.l2.p, .int .i64 a.c0, .int .i64 a.c1, .int .i64 a.own.l.b, .int .i64 a.own.l.r, .int .i64 a.own.l.p, .int .i64 a.own.lv, .int .i64 a.own.pt, .int .u64 a.own.t, a.users.v encH, a.ends.v encH, a.rev.v e32, .int .u64 a.n0, .int .u64 a.n1, .int .u64 a.n2] := ⟨_, rfl⟩
  obtain ⟨C1, hC1⟩ : ∃ C : List V, C = [.int .u32 a.t, .int .i64 a.l0.b, .int .i64 a.l0.r, .int .i64 a.l0.p, .int .i64 a.l1.b, .int .i64 a.l1.r, .int .i64 a.l1.p, .int .i64 a.l2.b, .int .i64 a.l2.r, .int .i64 a.l2.p, .int .i64 a.c0, .int .i64 a.c1, .int .i64 o'.l.b, .int .i64 o'.l.r, .int .i64 o'.l.p, .int .i64 o'.lv, .int .i64 o'.pt, .int .u64 o'.t, bu, be, br, .int .u64 z0, .int .u64 z1, .int .u64 z2] := ⟨_, rfl⟩
  obtain ⟨C2, hC2⟩ : ∃ C : List V, C = [.int .u8 (if ad = true then 2 else 3), .int .u32 a.t, .int .u32 (wr .u32 o'.lv), .int .u32 (wr .u32 x'.lv), .int .u32 (wr .u32 y'.lv), .int .u64 (if ad = true then 0 else wait3 o' x' y' cost)] := ⟨_, rfl⟩
  rw [← hC0] at g0
  rw [← hC1] at g1
  rw [← hC2] at g2
  refine w_to (.exit 0) (LP g.nx g.lo user ep cost ad C0 C1 C2 [.int .i64 O.l.b, .int .i64 O.l.r, .int .i64 O.l.p, .int .i64 O.lv, .int .i64 O.pt, .int .u64 O.t, .int .i64 X.l.b, .int .i64 X.l.r, .int .i64 X.l.p, .int .i64 X.lv, .int .i64 X.pt, .int .u64 X.t, .int .i64 Y.l.b, .int .i64 Y.l.r, .int .i64 Y.l.p, .int .i64 Y.lv, .int .i64 Y.pt, .int .u64 Y.t] t1 t2) ?_ ?_
  · clear hC0 hC1 hC2 fr1 fr2 ib1 ib2
    cases ad with
    | true =>
      have hq := holds_le hpad.symm
      have q1' := hq.1
      have q2' := hq.2.1
      have q3' := hq.2.2
      refine w_loop1 ?_
      simp only [↓zp, zz, true_and, and_true, chkOk, Nat.reduceEqDiff, Nat.reduceAdd, Nat.reduceSub, Nat.reduceMul, Nat.reduceLT, Nat.reduceLeDiff, Int.reduceLT, Int.reduceLE, Int.reduceEq, Int.reduceAdd, Int.reduceNeg, if_false, if_true, reduceIte, ags, LB.agz, agd, r_mv, r_pick, r_box, r_alloc, r_un, r_eqb, r_ext, r_mkf, r_cnv, r_st, r_nck, r_ix, r_iaa, takeN, agc, agn, VE.store, over, cellsAt, VE.part, agm, agb, blkX, gEval, cond_true, cond_false, r_build, r_bsl, fill, VE.unOp, r_bin, adz, ads, resOf, resVs, resV, alc, aln, reduceCtorEq, or_true, true_or, false_or, or_false, eq_self, exists_eq_left', Option.some.injEq, s3, s17, s18, s19, i0, g5, wc, q1']
      refine w_loop1 ?_
      simp only [↓zp, zz, true_and, and_true, chkOk, Nat.reduceEqDiff, Nat.reduceAdd, Nat.reduceSub, Nat.reduceMul, Nat.reduceLT, Nat.reduceLeDiff, Int.reduceLT, Int.reduceLE, Int.reduceEq, Int.reduceAdd, Int.reduceNeg, if_false, if_true, reduceIte, ags, LB.agz, agd, r_mv, r_pick, r_box, r_alloc, r_un, r_eqb, r_ext, r_mkf, r_cnv, r_st, r_nck, r_ix, r_iaa, takeN, agc, agn, VE.store, over, cellsAt, VE.part, agm, agb, blkX, gEval, cond_true, cond_false, r_build, r_bsl, fill, VE.unOp, r_bin, adz, ads, resOf, resVs, resV, alc, aln, reduceCtorEq, or_true, true_or, false_or, or_false, eq_self, exists_eq_left', Option.some.injEq, s3, s17, s18, s19, i1, g5, wc, q2']
      refine w_loop1 ?_
      simp only [↓zp, zz, true_and, and_true, chkOk, Nat.reduceEqDiff, Nat.reduceAdd, Nat.reduceSub, Nat.reduceMul, Nat.reduceLT, Nat.reduceLeDiff, Int.reduceLT, Int.reduceLE, Int.reduceEq, Int.reduceAdd, Int.reduceNeg, if_false, if_true, reduceIte, ags, LB.agz, agd, r_mv, r_pick, r_box, r_alloc, r_un, r_eqb, r_ext, r_mkf, r_cnv, r_st, r_nck, r_ix, r_iaa, takeN, agc, agn, VE.store, over, cellsAt, VE.part, agm, agb, blkX, gEval, cond_true, cond_false, r_build, r_bsl, fill, VE.unOp, r_bin, adz, ads, resOf, resVs, resV, alc, aln, reduceCtorEq, or_true, true_or, false_or, or_false, eq_self, exists_eq_left', Option.some.injEq, s3, s17, s18, s19, i2, g5, wc, q3']
      refine w_loop1 ?_
      simp only [↓zp, zz, true_and, and_true, chkOk, Nat.reduceEqDiff, Nat.reduceAdd, Nat.reduceSub, Nat.reduceMul, Nat.reduceLT, Nat.reduceLeDiff, Int.reduceLT, Int.reduceLE, Int.reduceEq, Int.reduceAdd, Int.reduceNeg, if_false, if_true, reduceIte, ags, LB.agz, agd, r_mv, r_pick, r_box, r_alloc, r_un, r_eqb, r_ext, r_mkf, r_cnv, r_st, r_nck, r_ix, r_iaa, takeN, agc, agn, VE.store, over, cellsAt, VE.part, agm, agb, blkX, gEval, cond_true, cond_false, r_build, r_bsl, fill, VE.unOp, r_bin, adz, ads, resOf, resVs, resV, alc, aln, reduceCtorEq, or_true, true_or, false_or, or_false, eq_self, exists_eq_left', Option.some.injEq]
      exact ⟨by simp only [Slots.at_set, Nat.reduceEqDiff, if_false, if_true, reduceIte, argSlots_at, ags, agz, agd, s1], by simp only [Slots.at_set, Nat.reduceEqDiff, if_false, if_true, reduceIte, argSlots_at, ags, agz, agd, s2], by simp only [Slots.at_set, Nat.reduceEqDiff, if_false, if_true, reduceIte, argSlots_at, ags, agz, agd, s3], by simp only [Slots.at_set, Nat.reduceEqDiff, if_false, if_true, reduceIte, argSlots_at, ags, agz, agd, s5], by simp only [Slots.at_set, Nat.reduceEqDiff, if_false, if_true, reduceIte, argSlots_at, ags, agz, agd, s11], by simp only [Slots.at_set, Nat.reduceEqDiff, if_false, if_true, reduceIte, argSlots_at, ags, agz, agd, s12], by simp only [Slots.at_set, Nat.reduceEqDiff, if_false, if_true, reduceIte, argSlots_at, ags, agz, agd, s13], by simp only [Slots.at_set, Nat.reduceEqDiff, if_false, if_true, reduceIte, argSlots_at, ags, agz, agd, s17], by simp only [Slots.at_set, Nat.reduceEqDiff, if_false, if_true, reduceIte, argSlots_at, ags, agz, agd, s18], g0, g1, g2, g5, gl⟩
    | false =>
      have hsp : (¬ cost ≤ O.lv) ∨ (cost ≤ O.lv ∧ ¬ cost ≤ X.lv) ∨ (cost ≤ O.lv ∧ cost ≤ X.lv ∧ ¬ cost ≤ Y.lv) := by
        have := hpad.symm
        simp only [holds3] at this
        by_cases q1 : cost ≤ O.lv
        · by_cases q2 : cost ≤ X.lv
          · by_cases q3 : cost ≤ Y.lv
            · simp [q1, q2, q3] at this
            · exact .inr (.inr ⟨q1, q2, q3⟩)
          · exact .inr (.inl ⟨q1, q2⟩)
        · exact .inl q1
      refine w_loop1 ?_
      rcases hsp with q1' | ⟨q1', q2'⟩ | ⟨q1', q2', q3'⟩
      · simp only [↓zp, zz, true_and, and_true, chkOk, Nat.reduceEqDiff, Nat.reduceAdd, Nat.reduceSub, Nat.reduceMul, Nat.reduceLT, Nat.reduceLeDiff, Int.reduceLT, Int.reduceLE, Int.reduceEq, Int.reduceAdd, Int.reduceNeg, if_false, if_true, reduceIte, ags, LB.agz, agd, r_mv, r_pick, r_box, r_alloc, r_un, r_eqb, r_ext, r_mkf, r_cnv, r_st, r_nck, r_ix, r_iaa, takeN, agc, agn, VE.store, over, cellsAt, VE.part, agm, agb, blkX, gEval, cond_true, cond_false, r_build, r_bsl, fill, VE.unOp, r_bin, adz, ads, resOf, resVs, resV, alc, aln, reduceCtorEq, or_true, true_or, false_or, or_false, eq_self, exists_eq_left', Option.some.injEq, s3, s17, s18, s19, i0, g5, wc, q1']
        refine w_loop1 ?_
        simp only [↓zp, zz, true_and, and_true, chkOk, Nat.reduceEqDiff, Nat.reduceAdd, Nat.reduceSub, Nat.reduceMul, Nat.reduceLT, Nat.reduceLeDiff, Int.reduceLT, Int.reduceLE, Int.reduceEq, Int.reduceAdd, Int.reduceNeg, if_false, if_true, reduceIte, ags, LB.agz, agd, r_mv, r_pick, r_box, r_alloc, r_un, r_eqb, r_ext, r_mkf, r_cnv, r_st, r_nck, r_ix, r_iaa, takeN, agc, agn, VE.store, over, cellsAt, VE.part, agm, agb, blkX, gEval, cond_true, cond_false, r_build, r_bsl, fill, VE.unOp, r_bin, adz, ads, resOf, resVs, resV, alc, aln, reduceCtorEq, or_true, true_or, false_or, or_false, eq_self, exists_eq_left', Option.some.injEq, s3, s17, s18, s19]
        refine w_loop1 ?_
        simp only [↓zp, zz, true_and, and_true, chkOk, Nat.reduceEqDiff, Nat.reduceAdd, Nat.reduceSub, Nat.reduceMul, Nat.reduceLT, Nat.reduceLeDiff, Int.reduceLT, Int.reduceLE, Int.reduceEq, Int.reduceAdd, Int.reduceNeg, if_false, if_true, reduceIte, ags, LB.agz, agd, r_mv, r_pick, r_box, r_alloc, r_un, r_eqb, r_ext, r_mkf, r_cnv, r_st, r_nck, r_ix, r_iaa, takeN, agc, agn, VE.store, over, cellsAt, VE.part, agm, agb, blkX, gEval, cond_true, cond_false, r_build, r_bsl, fill, VE.unOp, r_bin, adz, ads, resOf, resVs, resV, alc, aln, reduceCtorEq, or_true, true_or, false_or, or_false, eq_self, exists_eq_left', Option.some.injEq, s3, s17, s18, s19]
        refine w_loop1 ?_
        simp only [↓zp, zz, true_and, and_true, chkOk, Nat.reduceEqDiff, Nat.reduceAdd, Nat.reduceSub, Nat.reduceMul, Nat.reduceLT, Nat.reduceLeDiff, Int.reduceLT, Int.reduceLE, Int.reduceEq, Int.reduceAdd, Int.reduceNeg, if_false, if_true, reduceIte, ags, LB.agz, agd, r_mv, r_pick, r_box, r_alloc, r_un, r_eqb, r_ext, r_mkf, r_cnv, r_st, r_nck, r_ix, r_iaa, takeN, agc, agn, VE.store, over, cellsAt, VE.part, agm, agb, blkX, gEval, cond_true, cond_false, r_build, r_bsl, fill, VE.unOp, r_bin, adz, ads, resOf, resVs, resV, alc, aln, reduceCtorEq, or_true, true_or, false_or, or_false, eq_self, exists_eq_left', Option.some.injEq]
        exact ⟨by simp only [Slots.at_set, Nat.reduceEqDiff, if_false, if_true, reduceIte, argSlots_at, ags, agz, agd, s1], by simp only [Slots.at_set, Nat.reduceEqDiff, if_false, if_true, reduceIte, argSlots_at, ags, agz, agd, s2], by simp only [Slots.at_set, Nat.reduceEqDiff, if_false, if_true, reduceIte, argSlots_at, ags, agz, agd, s3], by simp only [Slots.at_set, Nat.reduceEqDiff, if_false, if_true, reduceIte, argSlots_at, ags, agz, agd, s5], by simp only [Slots.at_set, Nat.reduceEqDiff, if_false, if_true, reduceIte, argSlots_at, ags, agz, agd, s11], by simp only [Slots.at_set, Nat.reduceEqDiff, if_false, if_true, reduceIte, argSlots_at, ags, agz, agd, s12], by simp only [Slots.at_set, Nat.reduceEqDiff, if_false, if_true, reduceIte, argSlots_at, ags, agz, agd, s13], by simp only [Slots.at_set, Nat.reduceEqDiff, if_false, if_true, reduceIte, argSlots_at, ags, agz, agd, s17], by simp only [Slots.at_set, Nat.reduceEqDiff, if_false, if_true, reduceIte, argSlots_at, ags, agz, agd, s18], g0, g1, g2, g5, gl⟩
      · simp only [↓zp, zz, true_and, and_true, chkOk, Nat.reduceEqDiff, Nat.reduceAdd, Nat.reduceSub, Nat.reduceMul, Nat.reduceLT, Nat.reduceLeDiff, Int.reduceLT, Int.reduceLE, Int.reduceEq, Int.reduceAdd, Int.reduceNeg, if_false, if_true, reduceIte, ags, LB.agz, agd, r_mv, r_pick, r_box, r_alloc, r_un, r_eqb, r_ext, r_mkf, r_cnv, r_st, r_nck, r_ix, r_iaa, takeN, agc, agn, VE.store, over, cellsAt, VE.part, agm, agb, blkX, gEval, cond_true, cond_false, r_build, r_bsl, fill, VE.unOp, r_bin, adz, ads, resOf, resVs, resV, alc, aln, reduceCtorEq, or_true, true_or, false_or, or_false, eq_self, exists_eq_left', Option.some.injEq, s3, s17, s18, s19, i0, g5, wc, q1']
        refine w_loop1 ?_
        simp only [↓zp, zz, true_and, and_true, chkOk, Nat.reduceEqDiff, Nat.reduceAdd, Nat.reduceSub, Nat.reduceMul, Nat.reduceLT, Nat.reduceLeDiff, Int.reduceLT, Int.reduceLE, Int.reduceEq, Int.reduceAdd, Int.reduceNeg, if_false, if_true, reduceIte, ags, LB.agz, agd, r_mv, r_pick, r_box, r_alloc, r_un, r_eqb, r_ext, r_mkf, r_cnv, r_st, r_nck, r_ix, r_iaa, takeN, agc, agn, VE.store, over, cellsAt, VE.part, agm, agb, blkX, gEval, cond_true, cond_false, r_build, r_bsl, fill, VE.unOp, r_bin, adz, ads, resOf, resVs, resV, alc, aln, reduceCtorEq, or_true, true_or, false_or, or_false, eq_self, exists_eq_left', Option.some.injEq, s3, s17, s18, s19, i1, g5, wc, q2']
        refine w_loop1 ?_
        simp only [↓zp, zz, true_and, and_true, chkOk, Nat.reduceEqDiff, Nat.reduceAdd, Nat.reduceSub, Nat.reduceMul, Nat.reduceLT, Nat.reduceLeDiff, Int.reduceLT, Int.reduceLE, Int.reduceEq, Int.reduceAdd, Int.reduceNeg, if_false, if_true, reduceIte, ags, LB.agz, agd, r_mv, r_pick, r_box, r_alloc, r_un, r_eqb, r_ext, r_mkf, r_cnv, r_st, r_nck, r_ix, r_iaa, takeN, agc, agn, VE.store, over, cellsAt, VE.part, agm, agb, blkX, gEval, cond_true, cond_false, r_build, r_bsl, fill, VE.unOp, r_bin, adz, ads, resOf, resVs, resV, alc, aln, reduceCtorEq, or_true, true_or, false_or, or_false, eq_self, exists_eq_left', Option.some.injEq, s3, s17, s18, s19]
        refine w_loop1 ?_
        simp only [↓zp, zz, true_and, and_true, chkOk, Nat.reduceEqDiff, Nat.reduceAdd, Nat.reduceSub, Nat.reduceMul, Nat.reduceLT, Nat.reduceLeDiff, Int.reduceLT, Int.reduceLE, Int.reduceEq, Int.reduceAdd, Int.reduceNeg, if_false, if_true, reduceIte, ags, LB.agz, agd, r_mv, r_pick, r_box, r_alloc, r_un, r_eqb, r_ext, r_mkf, r_cnv, r_st, r_nck, r_ix, r_iaa, takeN, agc, agn, VE.store, over, cellsAt, VE.part, agm, agb, blkX, gEval, cond_true, cond_false, r_build, r_bsl, fill, VE.unOp, r_bin, adz, ads, resOf, resVs, resV, alc, aln, reduceCtorEq, or_true, true_or, false_or, or_false, eq_self, exists_eq_left', Option.some.injEq]
        exact ⟨by simp only [Slots.at_set, Nat.reduceEqDiff, if_false, if_true, reduceIte, argSlots_at, ags, agz, agd, s1], by simp only [Slots.at_set, Nat.reduceEqDiff, if_false, if_true, reduceIte, argSlots_at, ags, agz, agd, s2], by simp only [Slots.at_set, Nat.reduceEqDiff, if_false, if_true, reduceIte, argSlots_at, ags, agz, agd, s3], by simp only [Slots.at_set, Nat.reduceEqDiff, if_false, if_true, reduceIte, argSlots_at, ags, agz, agd, s5], by simp only [Slots.at_set, Nat.reduceEqDiff, if_false, if_true, reduceIte, argSlots_at, ags, agz, agd, s11], by simp only [Slots.at_set, Nat.reduceEqDiff, if_false, if_true, reduceIte, argSlots_at, ags, agz, agd, s12], by simp only [Slots.at_set, Nat.reduceEqDiff, if_false, if_true, reduceIte, argSlots_at, ags, agz, agd, s13], by simp only [Slots.at_set, Nat.reduceEqDiff, if_false, if_true, reduceIte, argSlots_at, ags, agz, agd, s17], by simp only [Slots.at_set, Nat.reduceEqDiff, if_false, if_true, reduceIte, argSlots_at, ags, agz, agd, s18], g0, g1, g2, g5, gl⟩
      · simp only [↓zp, zz, true_and, and_true, chkOk, Nat.reduceEqDiff, Nat.reduceAdd, Nat.reduceSub, Nat.reduceMul, Nat.reduceLT, Nat.reduceLeDiff, Int.reduceLT, Int.reduceLE, Int.reduceEq, Int.reduceAdd, Int.reduceNeg, if_false, if_true, reduceIte, ags, LB.agz, agd, r_mv, r_pick, r_box, r_alloc, r_un, r_eqb, r_ext, r_mkf, r_cnv, r_st, r_nck, r_ix, r_iaa, takeN, agc, agn, VE.store, over, cellsAt, VE.part, agm, agb, blkX, gEval, cond_true, cond_false, r_build, r_bsl, fill, VE.unOp, r_bin, adz, ads, resOf, resVs, resV, alc, aln, reduceCtorEq, or_true, true_or, false_or, or_false, eq_self, exists_eq_left', Option.some.injEq, s3, s17, s18, s19, i0, g5, wc, q1']
        refine w_loop1 ?_
        simp only [↓zp, zz, true_and, and_true, chkOk, Nat.reduceEqDiff, Nat.reduceAdd, Nat.reduceSub, Nat.reduceMul, Nat.reduceLT, Nat.reduceLeDiff, Int.reduceLT, Int.reduceLE, Int.reduceEq, Int.reduceAdd, Int.reduceNeg, if_false, if_true, reduceIte, ags, LB.agz, agd, r_mv, r_pick, r_box, r_alloc, r_un, r_eqb, r_ext, r_mkf, r_cnv, r_st, r_nck, r_ix, r_iaa, takeN, agc, agn, VE.store, over, cellsAt, VE.part, agm, agb, blkX, gEval, cond_true, cond_false, r_build, r_bsl, fill, VE.unOp, r_bin, adz, ads, resOf, resVs, resV, alc, aln, reduceCtorEq, or_true, true_or, false_or, or_false, eq_self, exists_eq_left', Option.some.injEq, s3, s17, s18, s19, i1, g5, wc, q2']
        refine w_loop1 ?_
        simp only [↓zp, zz, true_and, and_true, chkOk, Nat.reduceEqDiff, Nat.reduceAdd, Nat.reduceSub, Nat.reduceMul, Nat.reduceLT, Nat.reduceLeDiff, Int.reduceLT, Int.reduceLE, Int.reduceEq, Int.reduceAdd, Int.reduceNeg, if_false, if_true, reduceIte, ags, LB.agz, agd, r_mv, r_pick, r_box, r_alloc, r_un, r_eqb, r_ext, r_mkf, r_cnv, r_st, r_nck, r_ix, r_iaa, takeN, agc, agn, VE.store, over, cellsAt, VE.part, agm, agb, blkX, gEval, cond_true, cond_false, r_build, r_bsl, fill, VE.unOp, r_bin, adz, ads, resOf, resVs, resV, alc, aln, reduceCtorEq, or_true, true_or, false_or, or_false, eq_self, exists_eq_left', Option.some.injEq, s3, s17, s18, s19, i2, g5, wc, q3']
        refine w_loop1 ?_
        simp only [↓zp, zz, true_and, and_true, chkOk, Nat.reduceEqDiff, Nat.reduceAdd, Nat.reduceSub, Nat.reduceMul, Nat.reduceLT, Nat.reduceLeDiff, Int.reduceLT, Int.reduceLE, Int.reduceEq, Int.reduceAdd, Int.reduceNeg, if_false, if_true, reduceIte, ags, LB.agz, agd, r_mv, r_pick, r_box, r_alloc, r_un, r_eqb, r_ext, r_mkf, r_cnv, r_st, r_nck, r_ix, r_iaa, takeN, agc, agn, VE.store, over, cellsAt, VE.part, agm, agb, blkX, gEval, cond_true, cond_false, r_build, r_bsl, fill, VE.unOp, r_bin, adz, ads, resOf, resVs, resV, alc, aln, reduceCtorEq, or_true, true_or, false_or, or_false, eq_self, exists_eq_left', Option.some.injEq]
        exact ⟨by simp only [Slots.at_set, Nat.reduceEqDiff, if_false, if_true, reduceIte, argSlots_at, ags, agz, agd, s1], by simp only [Slots.at_set, Nat.reduceEqDiff, if_false, if_true, reduceIte, argSlots_at, ags, agz, agd, s2], by simp only [Slots.at_set, Nat.reduceEqDiff, if_false, if_true, reduceIte, argSlots_at, ags, agz, agd, s3], by simp only [Slots.at_set, Nat.reduceEqDiff, if_false, if_true, reduceIte, argSlots_at, ags, agz, agd, s5], by simp only [Slots.at_set, Nat.reduceEqDiff, if_false, if_true, reduceIte, argSlots_at, ags, agz, agd, s11], by simp only [Slots.at_set, Nat.reduceEqDiff, if_false, if_true, reduceIte, argSlots_at, ags, agz, agd, s12], by simp only [Slots.at_set, Nat.reduceEqDiff, if_false, if_true, reduceIte, argSlots_at, ags, agz, agd, s13], by simp only [Slots.at_set, Nat.reduceEqDiff, if_false, if_true, reduceIte, argSlots_at, ags, agz, agd, s17], by simp only [Slots.at_set, Nat.reduceEqDiff, if_false, if_true, reduceIte, argSlots_at, ags, agz, agd, s18], g0, g1, g2, g5, gl⟩
  clear s1 s2 s3 s5 s11 s12 s13 s17 s18 s19 g0 g1 g2 g5 gl S G
  rintro S G ⟨s1, s2, s3, s5, s11, s12, s13, s17, s18, g0, g1, g2, g5, gl⟩
  simp only [eq_self, decide_true, cond_true]
  generalize hS2 : Tr.set S 20 _ = S2
  have r1 : Slots.at S2 1 = .int .u32 user := by rw [← hS2]; simp only [Slots.at_set, Nat.reduceEqDiff, if_false, if_true, reduceIte, argSlots_at, ags, agz, agd, s1]
  have r2 : Slots.at S2 2 = .int .u16 ep := by rw [← hS2]; simp only [Slots.at_set, Nat.reduceEqDiff, if_false, if_true, reduceIte, argSlots_at, ags, agz, agd, s2]
  have r3 : Slots.at S2 3 = .int .u32 cost := by rw [← hS2]; simp only [Slots.at_set, Nat.reduceEqDiff, if_false, if_true, reduceIte, argSlots_at, ags, agz, agd, s3]
  have r5 : Slots.at S2 5 = .ptr g.nx 0 := by rw [← hS2]; simp only [Slots.at_set, Nat.reduceEqDiff, if_false, if_true, reduceIte, argSlots_at, ags, agz, agd, s5]
  have r11 : Slots.at S2 11 = .bool true := by rw [← hS2]; simp only [Slots.at_set, Nat.reduceEqDiff, if_false, if_true, reduceIte, argSlots_at, ags, agz, agd, s11]
  have r12 : Slots.at S2 12 = .ptr (g.nx + 1) 0 := by rw [← hS2]; simp only [Slots.at_set, Nat.reduceEqDiff, if_false, if_true, reduceIte, argSlots_at, ags, agz, agd, s12]
  have r13 : Slots.at S2 13 = .ptr (g.nx + 2) 0 := by rw [← hS2]; simp only [Slots.at_set, Nat.reduceEqDiff, if_false, if_true, reduceIte, argSlots_at, ags, agz, agd, s13]
  have r17 : Slots.at S2 17 = .sl (g.nx + 5) 0 3 3 6 := by rw [← hS2]; simp only [Slots.at_set, Nat.reduceEqDiff, if_false, if_true, reduceIte, argSlots_at, ags, agz, agd, s17]
  have r18 : Slots.at S2 18 = .bool ad := by rw [← hS2]; simp only [Slots.at_set, Nat.reduceEqDiff, if_false, if_true, reduceIte, argSlots_at, ags, agz, agd, s18]
  have r20 : Slots.at S2 20 = .int .i64 0 := by rw [← hS2]; simp only [Slots.at_set, Nat.reduceEqDiff, if_false, if_true, reduceIte, argSlots_at, ags, agz, agd]
  clear hS2 s1 s2 s3 s5 s11 s12 s13 s17 s18 S
  have dO : o'.lv = if ad = true then O.lv - cost else O.lv := by
    rw [hpo]
    cases ad with
    | true => exact mkB_lv (by omega)
    | false => rfl
  have dX : x'.lv = if ad = true then X.lv - cost else X.lv := by
    rw [hpx]
    cases ad with
    | true => exact mkB_lv (by omega)
    | false => rfl
  have dY : y'.lv = if ad = true then Y.lv - cost else Y.lv := by
    rw [hpy]
    cases ad with
    | true => exact mkB_lv (by omega)
    | false => rfl
  refine w_to (.exit 2) (LP g.nx g.lo user ep cost ad C0 C1 C2 (if ad = true then [.int .i64 O.l.b, .int .i64 O.l.r, .int .i64 O.l.p, .int .i64 (O.lv - cost), .int .i64 O.pt, .int .u64 O.t, .int .i64 X.l.b, .int .i64 X.l.r, .int .i64 X.l.p, .int .i64 (X.lv - cost), .int .i64 X.pt, .int .u64 X.t, .int .i64 Y.l.b, .int .i64 Y.l.r, .int .i64 Y.l.p, .int .i64 (Y.lv - cost), .int .i64 Y.pt, .int .u64 Y.t] else [.int .i64 O.l.b, .int .i64 O.l.r, .int .i64 O.l.p, .int .i64 O.lv, .int .i64 O.pt, .int .u64 O.t, .int .i64 X.l.b, .int .i64 X.l.r, .int .i64 X.l.p, .int .i64 X.lv, .int .i64 X.pt, .int .u64 X.t, .int .i64 Y.l.b, .int .i64 Y.l.r, .int .i64 Y.l.p, .int .i64 Y.lv, .int .i64 Y.pt, .int .u64 Y.t]) t1 t2) ?_ ?_
  · clear hC0 hC1 fr1 fr2 ib1 ib2
    cases ad with
    | true =>
      have hq := holds_le hpad.symm
      have w1 : wr .i64 (O.lv - cost) = O.lv - cost := wr_i64 (by omega) (by omega)
      have w2 : wr .i64 (X.lv - cost) = X.lv - cost := wr_i64 (by omega) (by omega)
      have w3 : wr .i64 (Y.lv - cost) = Y.lv - cost := wr_i64 (by omega) (by omega)
      simp only [if_true] at dO dX dY hC2 ⊢
      have g2' := g2
      rw [hC2, dO, dX, dY] at g2'
      refine w_loop1 ?_
      simp only [↓zp, zz, true_and, and_true, chkOk, Nat.reduceEqDiff, Nat.reduceAdd, Nat.reduceSub, Nat.reduceMul, Nat.reduceLT, Nat.reduceLeDiff, Int.reduceLT, Int.reduceLE, Int.reduceEq, Int.reduceAdd, Int.reduceNeg, if_false, if_true, reduceIte, ags, LB.agz, agd, r_mv, r_pick, r_box, r_alloc, r_un, r_eqb, r_ext, r_mkf, r_cnv, r_st, r_nck, r_ix, r_iaa, takeN, agc, agn, VE.store, over, cellsAt, VE.part, agm, agb, blkX, gEval, cond_true, cond_false, r_build, r_bsl, fill, VE.unOp, r_bin, adz, ads, resOf, resVs, resV, alc, aln, reduceCtorEq, or_true, true_or, false_or, or_false, eq_self, exists_eq_left', Option.some.injEq, r3, r13, r17, r18, r20, i0, g5, g2', wc, w1, gl, l5]
      refine w_loop1 ?_
      simp only [↓zp, zz, true_and, and_true, chkOk, Nat.reduceEqDiff, Nat.reduceAdd, Nat.reduceSub, Nat.reduceMul, Nat.reduceLT, Nat.reduceLeDiff, Int.reduceLT, Int.reduceLE, Int.reduceEq, Int.reduceAdd, Int.reduceNeg, if_false, if_true, reduceIte, ags, LB.agz, agd, r_mv, r_pick, r_box, r_alloc, r_un, r_eqb, r_ext, r_mkf, r_cnv, r_st, r_nck, r_ix, r_iaa, takeN, agc, agn, VE.store, over, cellsAt, VE.part, agm, agb, blkX, gEval, cond_true, cond_false, r_build, r_bsl, fill, VE.unOp, r_bin, adz, ads, resOf, resVs, resV, alc, aln, reduceCtorEq, or_true, true_or, false_or, or_false, eq_self, exists_eq_left', Option.some.injEq, r3, r13, r17, r18, i1, g5, g2', wc, w2, gl, l5]
      refine w_loop1 ?_
      simp only [↓zp, zz, true_and, and_true, chkOk, Nat.reduceEqDiff, Nat.reduceAdd, Nat.reduceSub, Nat.reduceMul, Nat.reduceLT, Nat.reduceLeDiff, Int.reduceLT, Int.reduceLE, Int.reduceEq, Int.reduceAdd, Int.reduceNeg, if_false, if_true, reduceIte, ags, LB.agz, agd, r_mv, r_pick, r_box, r_alloc, r_un, r_eqb, r_ext, r_mkf, r_cnv, r_st, r_nck, r_ix, r_iaa, takeN, agc, agn, VE.store, over, cellsAt, VE.part, agm, agb, blkX, gEval, cond_true, cond_false, r_build, r_bsl, fill, VE.unOp, r_bin, adz, ads, resOf, resVs, resV, alc, aln, reduceCtorEq, or_true, true_or, false_or, or_false, eq_self, exists_eq_left', Option.some.injEq, r3, r13, r17, r18, i2, g5, g2', wc, w3, gl, l5]
      refine w_loop1 ?_
      simp only [↓zp, zz, true_and, and_true, chkOk, Nat.reduceEqDiff, Nat.reduceAdd, Nat.reduceSub, Nat.reduceMul, Nat.reduceLT, Nat.reduceLeDiff, Int.reduceLT, Int.reduceLE, Int.reduceEq, Int.reduceAdd, Int.reduceNeg, if_false, if_true, reduceIte, ags, LB.agz, agd, r_mv, r_pick, r_box, r_alloc, r_un, r_eqb, r_ext, r_mkf, r_cnv, r_st, r_nck, r_ix, r_iaa, takeN, agc, agn, VE.store, over, cellsAt, VE.part, agm, agb, blkX, gEval, cond_true, cond_false, r_build, r_bsl, fill, VE.unOp, r_bin, adz, ads, resOf, resVs, resV, alc, aln, reduceCtorEq, or_true, true_or, false_or, or_false, eq_self, exists_eq_left', Option.some.injEq]
      exact ⟨by simp only [Slots.at_set, Nat.reduceEqDiff, if_false, if_true, reduceIte, argSlots_at, ags, agz, agd, r1], by simp only [Slots.at_set, Nat.reduceEqDiff, if_false, if_true, reduceIte, argSlots_at, ags, agz, agd, r2], by simp only [Slots.at_set, Nat.reduceEqDiff, if_false, if_true, reduceIte, argSlots_at, ags, agz, agd, r3], by simp only [Slots.at_set, Nat.reduceEqDiff, if_false, if_true, reduceIte, argSlots_at, ags, agz, agd, r5], by simp only [Slots.at_set, Nat.reduceEqDiff, if_false, if_true, reduceIte, argSlots_at, ags, agz, agd, r11], by simp only [Slots.at_set, Nat.reduceEqDiff, if_false, if_true, reduceIte, argSlots_at, ags, agz, agd, r12], by simp only [Slots.at_set, Nat.reduceEqDiff, if_false, if_true, reduceIte, argSlots_at, ags, agz, agd, r13], by simp only [Slots.at_set, Nat.reduceEqDiff, if_false, if_true, reduceIte, argSlots_at, ags, agz, agd, r17], by simp only [Slots.at_set, Nat.reduceEqDiff, if_false, if_true, reduceIte, argSlots_at, ags, agz, agd, r18], by simp only [↓zp, zz, true_and, and_true, chkOk, Nat.reduceEqDiff, Nat.reduceAdd, Nat.reduceSub, Nat.reduceMul, Nat.reduceLT, Nat.reduceLeDiff, Int.reduceLT, Int.reduceLE, Int.reduceEq, Int.reduceAdd, Int.reduceNeg, if_false, if_true, reduceIte, ags, LB.agz, agd, r_mv, r_pick, r_box, r_alloc, r_un, r_eqb, r_ext, r_mkf, r_cnv, r_st, r_nck, r_ix, r_iaa, takeN, agc, agn, VE.store, over, cellsAt, VE.part, agm, agb, blkX, gEval, cond_true, cond_false, r_build, r_bsl, fill, VE.unOp, r_bin, adz, ads, resOf, resVs, resV, alc, aln, reduceCtorEq, or_true, true_or, false_or, or_false, eq_self, exists_eq_left', Option.some.injEq, g0], by simp only [↓zp, zz, true_and, and_true, chkOk, Nat.reduceEqDiff, Nat.reduceAdd, Nat.reduceSub, Nat.reduceMul, Nat.reduceLT, Nat.reduceLeDiff, Int.reduceLT, Int.reduceLE, Int.reduceEq, Int.reduceAdd, Int.reduceNeg, if_false, if_true, reduceIte, ags, LB.agz, agd, r_mv, r_pick, r_box, r_alloc, r_un, r_eqb, r_ext, r_mkf, r_cnv, r_st, r_nck, r_ix, r_iaa, takeN, agc, agn, VE.store, over, cellsAt, VE.part, agm, agb, blkX, gEval, cond_true, cond_false, r_build, r_bsl, fill, VE.unOp, r_bin, adz, ads, resOf, resVs, resV, alc, aln, reduceCtorEq, or_true, true_or, false_or, or_false, eq_self, exists_eq_left', Option.some.injEq, g1], by simp only [↓zp, zz, true_and, and_true, chkOk, Nat.reduceEqDiff, Nat.reduceAdd, Nat.reduceSub, Nat.reduceMul, Nat.reduceLT, Nat.reduceLeDiff, Int.reduceLT, Int.reduceLE, Int.reduceEq, Int.reduceAdd, Int.reduceNeg, if_false, if_true, reduceIte, ags, LB.agz, agd, r_mv, r_pick, r_box, r_alloc, r_un, r_eqb, r_ext, r_mkf, r_cnv, r_st, r_nck, r_ix, r_iaa, takeN, agc, agn, VE.store, over, cellsAt, VE.part, agm, agb, blkX, gEval, cond_true, cond_false, r_build, r_bsl, fill, VE.unOp, r_bin, adz, ads, resOf, resVs, resV, alc, aln, reduceCtorEq, or_true, true_or, false_or, or_false, eq_self, exists_eq_left', Option.some.injEq, g2], by simp only [↓zp, zz, true_and, and_true, chkOk, Nat.reduceEqDiff, Nat.reduceAdd, Nat.reduceSub, Nat.reduceMul, Nat.reduceLT, Nat.reduceLeDiff, Int.reduceLT, Int.reduceLE, Int.reduceEq, Int.reduceAdd, Int.reduceNeg, if_false, if_true, reduceIte, ags, LB.agz, agd, r_mv, r_pick, r_box, r_alloc, r_un, r_eqb, r_ext, r_mkf, r_cnv, r_st, r_nck, r_ix, r_iaa, takeN, agc, agn, VE.store, over, cellsAt, VE.part, agm, agb, blkX, gEval, cond_true, cond_false, r_build, r_bsl, fill, VE.unOp, r_bin, adz, ads, resOf, resVs, resV, alc, aln, reduceCtorEq, or_true, true_or, false_or, or_false, eq_self, exists_eq_left', Option.some.injEq], gl⟩
    | false =>
      simp only [Bool.false_eq_true, if_false] at dO dX dY hC2 ⊢
      have g2' := g2
      rw [hC2, dO, dX, dY] at g2'
      refine w_loop1 ?_
      simp only [↓zp, zz, true_and, and_true, chkOk, Nat.reduceEqDiff, Nat.reduceAdd, Nat.reduceSub, Nat.reduceMul, Nat.reduceLT, Nat.reduceLeDiff, Int.reduceLT, Int.reduceLE, Int.reduceEq, Int.reduceAdd, Int.reduceNeg, if_false, if_true, reduceIte, ags, LB.agz, agd, r_mv, r_pick, r_box, r_alloc, r_un, r_eqb, r_ext, r_mkf, r_cnv, r_st, r_nck, r_ix, r_iaa, takeN, agc, agn, VE.store, over, cellsAt, VE.part, agm, agb, blkX, gEval, cond_true, cond_false, r_build, r_bsl, fill, VE.unOp, r_bin, adz, ads, resOf, resVs, resV, alc, aln, reduceCtorEq, or_true, true_or, false_or, or_false, eq_self, exists_eq_left', Option.some.injEq, r3, r13, r17, r18, r20, i0, g5, g2']
      refine w_loop1 ?_
      simp only [↓zp, zz, true_and, and_true, chkOk, Nat.reduceEqDiff, Nat.reduceAdd, Nat.reduceSub, Nat.reduceMul, Nat.reduceLT, Nat.reduceLeDiff, Int.reduceLT, Int.reduceLE, Int.reduceEq, Int.reduceAdd, Int.reduceNeg, if_false, if_true, reduceIte, ags, LB.agz, agd, r_mv, r_pick, r_box, r_alloc, r_un, r_eqb, r_ext, r_mkf, r_cnv, r_st, r_nck, r_ix, r_iaa, takeN, agc, agn, VE.store, over, cellsAt, VE.part, agm, agb, blkX, gEval, cond_true, cond_false, r_build, r_bsl, fill, VE.unOp, r_bin, adz, ads, resOf, resVs, resV, alc, aln, reduceCtorEq, or_true, true_or, false_or, or_false, eq_self, exists_eq_left', Option.some.injEq, r3, r13, r17, r18, i1, g5, g2']
      refine w_loop1 ?_
      simp only [↓zp, zz, true_and, and_true, chkOk, Nat.reduceEqDiff, Nat.reduceAdd, Nat.reduceSub, Nat.reduceMul, Nat.reduceLT, Nat.reduceLeDiff, Int.reduceLT, Int.reduceLE, Int.reduceEq, Int.reduceAdd, Int.reduceNeg, if_false, if_true, reduceIte, ags, LB.agz, agd, r_mv, r_pick, r_box, r_alloc, r_un, r_eqb, r_ext, r_mkf, r_cnv, r_st, r_nck, r_ix, r_iaa, takeN, agc, agn, VE.store, over, cellsAt, VE.part, agm, agb, blkX, gEval, cond_true, cond_false, r_build, r_bsl, fill, VE.unOp, r_bin, adz, ads, resOf, resVs, resV, alc, aln, reduceCtorEq, or_true, true_or, false_or, or_false, eq_self, exists_eq_left', Option.some.injEq, r3, r13, r17, r18, i2, g5, g2']
      refine w_loop1 ?_
      simp only [↓zp, zz, true_and, and_true, chkOk, Nat.reduceEqDiff, Nat.reduceAdd, Nat.reduceSub, Nat.reduceMul, Nat.reduceLT, Nat.reduceLeDiff, Int.reduceLT, Int.reduceLE, Int.reduceEq, Int.reduceAdd, Int.reduceNeg, if_false, if_true, reduceIte, ags, LB.agz, agd, r_mv, r_pick, r_box, r_alloc, r_un, r_eqb, r_ext, r_mkf, r_cnv, r_st, r_nck, r_ix, r_iaa, takeN, agc, agn, VE.store, over, cellsAt, VE.part, agm, agb, blkX, gEval, cond_true, cond_false, r_build, r_bsl, fill, VE.unOp, r_bin, adz, ads, resOf, resVs, resV, alc, aln, reduceCtorEq, or_true, true_or, false_or, or_false, eq_self, exists_eq_left', Option.some.injEq]
      exact ⟨by simp only [Slots.at_set, Nat.reduceEqDiff, if_false, if_true, reduceIte, argSlots_at, ags, agz, agd, r1], by simp only [Slots.at_set, Nat.reduceEqDiff, if_false, if_true, reduceIte, argSlots_at, ags, agz, agd, r2], by simp only [Slots.at_set, Nat.reduceEqDiff, if_false, if_true, reduceIte, argSlots_at, ags, agz, agd, r3], by simp only [Slots.at_set, Nat.reduceEqDiff, if_false, if_true, reduceIte, argSlots_at, ags, agz, agd, r5], by simp only [Slots.at_set, Nat.reduceEqDiff, if_false, if_true, reduceIte, argSlots_at, ags, agz, agd, r11], by simp only [Slots.at_set, Nat.reduceEqDiff, if_false, if_true, reduceIte, argSlots_at, ags, agz, agd, r12], by simp only [Slots.at_set, Nat.reduceEqDiff, if_false, if_true, reduceIte, argSlots_at, ags, agz, agd, r13], by simp only [Slots.at_set, Nat.reduceEqDiff, if_false, if_true, reduceIte, argSlots_at, ags, agz, agd, r17], by simp only [Slots.at_set, Nat.reduceEqDiff, if_false, if_true, reduceIte, argSlots_at, ags, agz, agd, r18], g0, g1, g2, g5, gl⟩
  clear r1 r2 r3 r5 r11 r12 r13 r17 r18 r20 g0 g1 g2 g5 gl S2 G
  rintro S G ⟨s1, s2, s3, s5, s11, s12, s13, s17, s18, g0, g1, g2, g5, gl⟩
  subst hC0 hC1 hC2
  simp only [eq_self, decide_true, cond_true]
  cases ad with
  | true =>
    simp only [if_true] at dO dX dY g2 g5
    simp only [↓zp, zz, true_and, and_true, chkOk, Nat.reduceEqDiff, Nat.reduceAdd, Nat.reduceSub, Nat.reduceMul, Nat.reduceLT, Nat.reduceLeDiff, Int.reduceLT, Int.reduceLE, Int.reduceEq, Int.reduceAdd, Int.reduceNeg, if_false, if_true, reduceIte, ags, LB.agz, agd, r_mv, r_pick, r_box, r_alloc, r_un, r_eqb, r_ext, r_mkf, r_cnv, r_st, r_nck, r_ix, r_iaa, takeN, agc, agn, VE.store, over, cellsAt, VE.part, agm, agb, blkX, gEval, cond_true, cond_false, r_build, r_bsl, fill, VE.unOp, r_bin, adz, ads, resOf, resVs, resV, alc, aln, reduceCtorEq, or_true, true_or, false_or, or_false, eq_self, exists_eq_left', Option.some.injEq, s1, s2, s5, s11, s12, s13, s17, s18, i0, i1, i2, g0, g1, g2, g5, m7', fr1, fr2, ib1, ib2, encH, beq_self_eq_true, dO, dX, dY, frzB]
  | false =>
    simp only [Bool.false_eq_true, if_false] at dO dX dY g2 g5
    have wn : ¬ wait3 o' x' y' cost = 0 := by
      have e1 : o' = O := hpo
      have e2 : x' = X := hpx
      have e3 : y' = Y := hpy
      rw [e1, e2, e3]
      exact wait3_pos vo.1 vo.2.1 vx.1 vx.2.1 vy.1 vy.2.1 hpad.symm
    simp only [↓zp, zz, true_and, and_true, chkOk, Nat.reduceEqDiff, Nat.reduceAdd, Nat.reduceSub, Nat.reduceMul, Nat.reduceLT, Nat.reduceLeDiff, Int.reduceLT, Int.reduceLE, Int.reduceEq, Int.reduceAdd, Int.reduceNeg, if_false, if_true, reduceIte, ags, LB.agz, agd, r_mv, r_pick, r_box, r_alloc, r_un, r_eqb, r_ext, r_mkf, r_cnv, r_st, r_nck, r_ix, r_iaa, takeN, agc, agn, VE.store, over, cellsAt, VE.part, agm, agb, blkX, gEval, cond_true, cond_false, r_build, r_bsl, fill, VE.unOp, r_bin, adz, ads, resOf, resVs, resV, alc, aln, reduceCtorEq, or_true, true_or, false_or, or_false, eq_self, exists_eq_left', Option.some.injEq, s1, s2, s5, s11, s12, s13, s17, s18, i0, i1, i2, g0, g1, g2, g5, m7', fr1, fr2, ib1, ib2, encH, beq_self_eq_true, dO, dX, dY, wn, frzB]
end
end Go.VE.LB
