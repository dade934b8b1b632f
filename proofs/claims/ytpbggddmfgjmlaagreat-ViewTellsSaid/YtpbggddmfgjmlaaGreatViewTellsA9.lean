/- What the functions of the law ViewTells compute, on typed arguments (part 9). -/
import Derived.Test.YtpbggddmfgjmlaaGreatViewTellsA8
set_option linter.all false
namespace Go.VE.LB
set_option maxRecDepth 100000
set_option maxHeartbeats 4000000
section
open Go Go.VE Classical
section
variable {vp : Nat → Option VFn}
theorem apPP {a o b p : Nat} : apartV (.ptr b p) (.ptr a o) = !decide (b = a) := by
 show (!(Nat.beq b a)) = _
 rw [beq_dec]
theorem cln_o {α : Type} {enc : α → List V} {sz bytes : Nat} {f : Nat} (hf : vp f = some (cloneBody sz bytes)) (he : ∀ x, (enc x).length = sz) (hb : bytes ≤ 1000) (c : Sl α) (h : Heap) (hn : c.l.length ≤ 100000) {b0 : Nat} (h0 : b0 ≤ h.nx) :
  ∃ v h', callRes vp f [c.v enc] h = some (v, h') ∧ Lv enc sz b0 h' v c.l ∧ Kp h h' ∧ oneCell v = true ∧ cellsO v = some [v] := by
 obtain ⟨v, h', e, o, k⟩ := cln_spec hf he hb c h hn
 have o' : Lv enc sz b0 h' v c.l := by
  rcases o with o | ⟨b, tag, e, h1, h2, h3⟩
  ·exact .inl o
  ·exact .inr ⟨b, tag, e, by omega, h2, h3⟩
 exact ⟨v, h', e, o', k, o'.one⟩
def encTv (t : Tab) (ks bk nx us ix op on : V) : List V := [.int .i64 t.cap, ks, bk, nx, us, .int .i64 t.fr, ix, op, on, .int .i64 t.hd, .int .i64 t.tl]
theorem rtw_spec {f c1 c2 c3 c4 c5 t1 t2 t3 : Nat} (hf : vp f = some (Zzbq c1 c2 c3 c4 c5 t1 t2 t3)) (h1 : vp c1 = some (cloneBody 1 4)) (h2 : vp c2 = some (cloneBody 6 48)) (h3 : vp c3 = some (cloneBody 3 24)) (h4 : vp c4 = some (cloneBody 1 8)) (h5 : vp c5 = some (cloneBody 1 1)) (t : Tab) (sh : Sh t) (h : Heap) :
  ∃ u : Tab, callRes vp f [.agg (encT t)] h = some (.agg (encT u), h) ∧ TEq t u := by
 suffices q : ∃ r, callRes vp f [.agg (encT t)] h = some (r, h) ∧ ∃ u : Tab, r = .agg (encT u) ∧ TEq t u by
  obtain ⟨r, e, a, rfl, k⟩ := q
  exact ⟨a, e, k⟩
 obtain ⟨q1, q2, q3, q4, q5, q6, q7⟩ := sh
 have m1 : modeOf vp c1 = some 2 := mo h1 rfl rfl
 have m2 : modeOf vp c2 = some 2 := mo h2 rfl rfl
 have m3 : modeOf vp c3 = some 2 := mo h3 rfl rfl
 have m4 : modeOf vp c4 = some 2 := mo h4 rfl rfl
 have m5 : modeOf vp c5 = some 2 := mo h5 rfl rfl
 refine res_pure_ex hf rfl rfl (fun g hg => ?_)
 have hlo := hlo hg
 unfold Zzbq
 obtain ⟨G, hG⟩ : ∃ G, (((((g.new (.cells (encT t) .cl)).new (.cells zT (.ct t1))).new (.cells [.nils, .nils, .int .i64 0] (.ct t2))).new (.cells [.nils, .nils, .int .i64 0, .int .i64 0] (.ct t3))).set (g.nx + 2) (.cells [t.nx.v eI, t.us.v eO, .int .i64 t.fr] (.ct t2))).set (g.nx + 3) (.cells [t.op.v eI, t.on.v eI, .int .i64 t.hd, .int .i64 t.tl] (.ct t3)) = G := ⟨_, rfl⟩
 have gn : G.nx = g.nx + 4 := by rw [← hG]; rfl
 have gl : G.lo = g.lo := by rw [← hG]; rfl
 have ga : G.get g.nx = .cells (encT t) .cl := by rw [← hG]; simp only [↓zp, zv, seval]
 have gb : G.get (g.nx + 1) = .cells zT (.ct t1) := by rw [← hG]; simp only [↓zp, zv, seval]
 have gc : G.get (g.nx + 2) = .cells [t.nx.v eI, t.us.v eO, .int .i64 t.fr] (.ct t2) := by rw [← hG]; simp only [↓zp, zv, seval]
 have gd : G.get (g.nx + 3) = .cells [t.op.v eI, t.on.v eI, .int .i64 t.hd, .int .i64 t.tl] (.ct t3) := by rw [← hG]; simp only [↓zp, zv, seval]
 obtain ⟨v1, H1, e1, o1, k1, s1, p1⟩ := cln_o h1 eK_len (by decide) t.ks G (by omega) (b0 := g.nx + 4) (by omega)
 obtain ⟨v2, H2, e2, o2, k2, s2, p2⟩ := cln_o h2 encB_len (by decide) t.bk H1 (by omega) (b0 := g.nx + 4) (by have := k1.nx; omega)
 obtain ⟨v3, H3, e3, o3, k3, s3, p3⟩ := cln_o h3 eC_len (by decide) t.ix H2 (by omega) (b0 := g.nx + 4) (by have := k1.nx; have := k2.nx; omega)
 have a1 : H1.get g.nx = .cells (encT t) .cl := by rw [k1.get _ (by omega), ga]
 have a2 : H2.get g.nx = .cells (encT t) .cl := by rw [k2.get _ (by have := k1.nx; omega), a1]
 have k12 := (k1.trans k2).trans k3
 have a3 : H3.get g.nx = .cells (encT t) .cl := by rw [k12.get _ (by omega), ga]
 have b3 : H3.get (g.nx + 1) = .cells zT (.ct t1) := by rw [k12.get _ (by omega), gb]
 have c3' : H3.get (g.nx + 2) = .cells [t.nx.v eI, t.us.v eO, .int .i64 t.fr] (.ct t2) := by rw [k12.get _ (by omega), gc]
 have d3 : H3.get (g.nx + 3) = .cells [t.op.v eI, t.on.v eI, .int .i64 t.hd, .int .i64 t.tl] (.ct t3) := by rw [k12.get _ (by omega), gd]
 have l3 : H3.lo = g.lo := k12.lo.trans gl
 have n3 : g.nx + 4 ≤ H3.nx := by have := k12.nx; omega
 have o1 := (o1.kp k2).kp k3
 have o2 := o2.kp k3
 have z0 : ¬ g.nx + 1 < g.lo := by omega
 have z1 : ¬ g.nx + 2 < g.lo := by omega
 have z2 : ¬ g.nx + 3 < g.lo := by omega
 have z3 : ¬ g.nx < g.lo := by omega
 obtain ⟨G2, hG2⟩ : ∃ G2, ((H3.set g.nx (.cells (encTv t v1 (t.bk.v encB) (t.nx.v eI) (t.us.v eO) (t.ix.v eC) (t.op.v eI) (t.on.v eI)) .cl)).set g.nx (.cells (encTv t v1 v2 (t.nx.v eI) (t.us.v eO) (t.ix.v eC) (t.op.v eI) (t.on.v eI)) .cl)).set g.nx (.cells (encTv t v1 v2 (t.nx.v eI) (t.us.v eO) v3 (t.op.v eI) (t.on.v eI)) .cl) = G2 := ⟨_, rfl⟩
 have ga2 : G2.get g.nx = .cells (encTv t v1 v2 (t.nx.v eI) (t.us.v eO) v3 (t.op.v eI) (t.on.v eI)) .cl := by rw [← hG2]; simp only [↓zp, zv, seval]
 have gb2 : G2.get (g.nx + 1) = .cells zT (.ct t1) := by rw [← hG2]; simp only [↓zp, zv, seval, b3]
 have gc2 : G2.get (g.nx + 2) = .cells [t.nx.v eI, t.us.v eO, .int .i64 t.fr] (.ct t2) := by rw [← hG2]; simp only [↓zp, zv, seval, c3']
 have gd2 : G2.get (g.nx + 3) = .cells [t.op.v eI, t.on.v eI, .int .i64 t.hd, .int .i64 t.tl] (.ct t3) := by rw [← hG2]; simp only [↓zp, zv, seval, d3]
 have gl2 : G2.lo = g.lo := by rw [← hG2]; exact l3
 have gn2 : g.nx + 4 ≤ G2.nx := by rw [← hG2]; exact n3
 have o1 : Lv eK 1 (g.nx + 4) G2 v1 t.ks.l := by rw [← hG2]; exact ((o1.set (by omega)).set (by omega)).set (by omega)
 have o2 : Lv encB 6 (g.nx + 4) G2 v2 t.bk.l := by rw [← hG2]; exact ((o2.set (by omega)).set (by omega)).set (by omega)
 have o3 : Lv eC 3 (g.nx + 4) G2 v3 t.ix.l := by rw [← hG2]; exact ((o3.set (by omega)).set (by omega)).set (by omega)
 obtain ⟨v4, H4, e4, o4, k4, s4, p4⟩ := cln_o h4 eI_len (by decide) t.nx G2 (by omega) (b0 := g.nx + 4) (by omega)
 obtain ⟨v5, H5, e5, o5, k5, s5, p5⟩ := cln_o h5 eO_len (by decide) t.us H4 (by omega) (b0 := g.nx + 4) (by have := k4.nx; omega)
 have k45 := k4.trans k5
 have c4' : H4.get (g.nx + 2) = .cells [t.nx.v eI, t.us.v eO, .int .i64 t.fr] (.ct t2) := by rw [k4.get _ (by omega), gc2]
 have a5 : H5.get g.nx = .cells (encTv t v1 v2 (t.nx.v eI) (t.us.v eO) v3 (t.op.v eI) (t.on.v eI)) .cl := by rw [k45.get _ (by omega), ga2]
 have b5 : H5.get (g.nx + 1) = .cells zT (.ct t1) := by rw [k45.get _ (by omega), gb2]
 have c5' : H5.get (g.nx + 2) = .cells [t.nx.v eI, t.us.v eO, .int .i64 t.fr] (.ct t2) := by rw [k45.get _ (by omega), gc2]
 have d5 : H5.get (g.nx + 3) = .cells [t.op.v eI, t.on.v eI, .int .i64 t.hd, .int .i64 t.tl] (.ct t3) := by rw [k45.get _ (by omega), gd2]
 have l5 : H5.lo = g.lo := k45.lo.trans gl2
 have n5 : g.nx + 4 ≤ H5.nx := by have := k45.nx; omega
 obtain ⟨G3, hG3⟩ : ∃ G3, H5.set g.nx (.cells (encTv t v1 v2 v4 v5 v3 (t.op.v eI) (t.on.v eI)) .cl) = G3 := ⟨_, rfl⟩
 have ga3 : G3.get g.nx = .cells (encTv t v1 v2 v4 v5 v3 (t.op.v eI) (t.on.v eI)) .cl := by rw [← hG3]; simp only [↓zp, zv, seval]
 have gb3 : G3.get (g.nx + 1) = .cells zT (.ct t1) := by rw [← hG3]; simp only [↓zp, zv, seval, b5]
 have gd3 : G3.get (g.nx + 3) = .cells [t.op.v eI, t.on.v eI, .int .i64 t.hd, .int .i64 t.tl] (.ct t3) := by rw [← hG3]; simp only [↓zp, zv, seval, d5]
 have gl3 : G3.lo = g.lo := by rw [← hG3]; exact l5
 have gn3 : g.nx + 4 ≤ G3.nx := by rw [← hG3]; exact n5
 have o1 : Lv eK 1 (g.nx + 4) G3 v1 t.ks.l := by rw [← hG3]; exact (o1.kp k45).set (by omega)
 have o2 : Lv encB 6 (g.nx + 4) G3 v2 t.bk.l := by rw [← hG3]; exact (o2.kp k45).set (by omega)
 have o3 : Lv eC 3 (g.nx + 4) G3 v3 t.ix.l := by rw [← hG3]; exact (o3.kp k45).set (by omega)
 have o4 : Lv eI 1 (g.nx + 4) G3 v4 t.nx.l := by rw [← hG3]; exact (o4.kp k5).set (by omega)
 have o5 : Lv eO 1 (g.nx + 4) G3 v5 t.us.l := by rw [← hG3]; exact o5.set (by omega)
 obtain ⟨v6, H6, e6, o6, k6, s6, p6⟩ := cln_o h4 eI_len (by decide) t.op G3 (by omega) (b0 := g.nx + 4) (by omega)
 obtain ⟨v7, H7, e7, o7, k7, s7, p7⟩ := cln_o h4 eI_len (by decide) t.on H6 (by omega) (b0 := g.nx + 4) (by have := k6.nx; omega)
 have k67 := k6.trans k7
 have d6 : H6.get (g.nx + 3) = .cells [t.op.v eI, t.on.v eI, .int .i64 t.hd, .int .i64 t.tl] (.ct t3) := by rw [k6.get _ (by omega), gd3]
 have d7 : H7.get (g.nx + 3) = .cells [t.op.v eI, t.on.v eI, .int .i64 t.hd, .int .i64 t.tl] (.ct t3) := by rw [k67.get _ (by omega), gd3]
 have a7 : H7.get g.nx = .cells (encTv t v1 v2 v4 v5 v3 (t.op.v eI) (t.on.v eI)) .cl := by rw [k67.get _ (by omega), ga3]
 have b7 : H7.get (g.nx + 1) = .cells zT (.ct t1) := by rw [k67.get _ (by omega), gb3]
 have l7 : H7.lo = g.lo := k67.lo.trans gl3
 have n7 : g.nx + 4 ≤ H7.nx := by have := k67.nx; omega
 have o1 := o1.kp k67
 have o2 := o2.kp k67
 have o3 := o3.kp k67
 have o4 := o4.kp k67
 have o5 := o5.kp k67
 have o6 := o6.kp k7
 unfold encT at hG a1 a2 a3 ga
 unfold zT at hG b3 b7
 unfold encTv at hG2 hG3 ga2 ga3 a5 a7
 unfold encT
 simp only [↓zp, zv, seval, z0, z1, z2, z3, apPP, hG, m1, e1, ga, a1, m2, e2, a2, m3, e3, a3, l3, s1, p1, s2, p2, s3, p3, hG2, gc2, m4, e4, c4', m5, e5, c5', a5, s4, p4, s5, p5, l5, hG3, gd3, e6, d6, e7, d7, a7, s6, p6, s7, p7, l7, b7]
 generalize hH : Heap.set (Heap.set H7 _ _) _ _ = H8
 obtain ⟨w1, y1, f1⟩ := Lv.fz (base := g.nx) (by rw [← hH]; exact (o1.set (by omega)).set (by omega)) eK_len eK_scal (by omega) (by omega) (h := H8) (v := v1)
 obtain ⟨w2, y2, f2⟩ := Lv.fz (base := g.nx) (by rw [← hH]; exact (o2.set (by omega)).set (by omega)) encB_len encB_scal (by omega) (by omega) (h := H8) (v := v2)
 obtain ⟨w3, y3, f3⟩ := Lv.fz (base := g.nx) (by rw [← hH]; exact (o3.set (by omega)).set (by omega)) eC_len eC_scal (by omega) (by omega) (h := H8) (v := v3)
 obtain ⟨w4, y4, f4⟩ := Lv.fz (base := g.nx) (by rw [← hH]; exact (o4.set (by omega)).set (by omega)) eI_len eI_scal (by omega) (by omega) (h := H8) (v := v4)
 obtain ⟨w5, y5, f5⟩ := Lv.fz (base := g.nx) (by rw [← hH]; exact (o5.set (by omega)).set (by omega)) eO_len eO_scal (by omega) (by omega) (h := H8) (v := v5)
 obtain ⟨w6, y6, f6⟩ := Lv.fz (base := g.nx) (by rw [← hH]; exact (o6.set (by omega)).set (by omega)) eI_len eI_scal (by omega) (by omega) (h := H8) (v := v6)
 obtain ⟨w7, y7, f7⟩ := Lv.fz (base := g.nx) (by rw [← hH]; exact (o7.set (by omega)).set (by omega)) eI_len eI_scal (by omega) (by omega) (h := H8) (v := v7)
 exact ⟨_, FzA.agg (l' := encT ⟨t.cap, w1, w2, w4, w5, t.fr, w3, w6, w7, t.hd, t.tl⟩) ⟨.s rfl, f1, f2, f4, f5, .s rfl, f3, f6, f7, .s rfl, .s rfl, trivial⟩ (by simp), ⟨t.cap, w1, w2, w4, w5, t.fr, w3, w6, w7, t.hd, t.tl⟩, rfl, rfl, y1, y2, y4, y5, rfl, y3, y6, y7, rfl, rfl⟩
theorem cop_spec {f c0 c1 c2 c3 c4 c5 t0 t1 t2 t3 : Nat} (hf : vp f = some (Zzbn c0 c1 t0)) (h0 : vp c0 = some (Zzbq c1 c2 c3 c4 c5 t1 t2 t3)) (h1 : vp c1 = some (cloneBody 1 4)) (h2 : vp c2 = some (cloneBody 6 48)) (h3 : vp c3 = some (cloneBody 3 24)) (h4 : vp c4 = some (cloneBody 1 8)) (h5 : vp c5 = some (cloneBody 1 1))
  (x : Part) (su : Sh x.us) (se : Sh x.en) (sr : x.rev.l.length ≤ 100) (h : Heap) :
  ∃ y : Part, callRes vp f [.agg (encP x)] h = some (.agg (encP y), h) ∧ PEq x y := by
 suffices q : ∃ r, callRes vp f [.agg (encP x)] h = some (r, h) ∧ ∃ y : Part, r = .agg (encP y) ∧ PEq x y by
  obtain ⟨r, e, a, rfl, k⟩ := q
  exact ⟨a, e, k⟩
 have m0 : modeOf vp c0 = some 1 := mo h0 rfl rfl
 have m1 : modeOf vp c1 = some 2 := mo h1 rfl rfl
 refine res_pure_ex hf rfl rfl (fun g hg => ?_)
 have hlo := hlo hg
 unfold Zzbn
 obtain ⟨G, hG⟩ : ∃ G, (g.new (.cells (encP x) .cl)).new (.cells zP (.ct t0)) = G := ⟨_, rfl⟩
 have gn : G.nx = g.nx + 2 := by rw [← hG]; rfl
 have gl : G.lo = g.lo := by rw [← hG]; rfl
 have ga : G.get g.nx = .cells (encP x) .cl := by rw [← hG]; simp only [↓zp, zv, seval]
 have gb : G.get (g.nx + 1) = .cells zP (.ct t0) := by rw [← hG]; simp only [↓zp, zv, seval]
 obtain ⟨u, e1, d1⟩ := rtw_spec h0 h1 h2 h3 h4 h5 x.us su G
 obtain ⟨w, e2, d2⟩ := rtw_spec h0 h1 h2 h3 h4 h5 x.en se G
 obtain ⟨v1, H1, e3, o1, k1, s1, p1⟩ := cln_o h1 e32_len (by decide) x.rev G (by omega) (b0 := g.nx + 2) (by omega)
 have x1 := k1.nx
 have a1 : H1.get g.nx = .cells (encP x) .cl := by rw [k1.get _ (by omega), ga]
 have b1 : H1.get (g.nx + 1) = .cells zP (.ct t0) := by rw [k1.get _ (by omega), gb]
 have l1 : H1.lo = g.lo := k1.lo.trans gl
 have z1 : ¬ g.nx + 1 < g.lo := by omega
 have z2 : ¬ g.nx < g.lo := by omega
 simp only [encP, encT, zP] at hG e1 e2 a1 b1 ga
 simp only [encP]
 simp only [↓zp, zv, seval, z1, z2, hG, ga, m0, e1, e2, m1, e3, a1, l1, s1, p1, b1]
 generalize hH : Heap.set (Heap.set (Heap.set (Heap.set H1 _ _) _ _) _ _) _ _ = H2
 obtain ⟨c, d3, f1⟩ := Lv.fz (base := g.nx) (by rw [← hH]; exact (((o1.set (by omega)).set (by omega)).set (by omega)).set (by omega)) e32_len e32_scal (by omega) (by omega) (h := H2) (v := v1)
 exact ⟨_, fzPv { x with us := u, en := w } f1, { x with us := u, en := w, rev := c }, rfl, rfl, rfl, rfl, rfl, rfl, d1, d2, d3, rfl, rfl, rfl⟩
theorem all_nil {f c1 t1 : Nat} (hf : vp f = some (Zzbm c1 t1)) (h : Heap) : callRes vp f [.nils] h = some (.nils, h) := by
 refine res_pure hf rfl rfl (fun g hg => ?_)
 unfold Zzbm
 simp only [↓zp, zv, seval]
 have z : r_len .nils g = some (.int .i64 0, g) := rfl
 simp only [↓zp, zv, seval, z]
 refine w_loop1 ?_
 simp only [↓zp, zv, seval]
 rfl
theorem insP_res {f : Nat} (hf : vp f = some Zzcm) (x : Part) {b2 : Nat} {h : Heap} (h2 : h.get b2 = .cells (encP x) .cl) : callRes vp f [.nils, .int .i64 0, .sl b2 0 1 1 42] h = some (.sl h.nx 0 1 1 42, h.new (.cells (encP x) .op)) := by
 refine callRes_of (n := 1) ?_
 have hr : rowOf h 42 (.sl b2 0 1 1 42) = some (encP x) := by
  simp only [rowOf, beq_dec, decide_true, cond_true, h2, List.drop_zero]
  rfl
 have e : insertV h 42 576 .nils (.int .i64 0) (.sl b2 0 1 1 42) = some (.sl h.nx 0 1 1 42, h.new (.cells (encP x) .op)) := by
  rw [show (0 : Int) = Int.ofNat 0 from rfl]
  unfold insertV
  rw [hr]
  rfl
 simp only [callF, hf, Zzcm, e]
end
end
section
open Go Go.VE Classical
theorem TEq.ok {x y : Tab} (e : TEq x y) (o : TbOk x) : TbOk y := by
 obtain ⟨e1, e2, e3, e4, e5, e6, e7, e8, e9, e10, e11⟩ := e
 constructor
 ·constructor
  ·rw [e1]; exact o.sz.lo
  ·rw [e1]; exact o.sz.hi
  ·rw [e1, e2]; exact o.sz.ks
  ·rw [e1, e3]; exact o.sz.bk
  ·rw [e1, e4]; exact o.sz.nx
  ·rw [e1, e8]; exact o.sz.op
 ·rw [e4, e5, e6]; exact o.ar
 ·rw [e7]; exact o.ix
 ·rw [e8, e9, e10, e11]; exact o.od
 ·simp only [e2, e3, e4, e5, e7, e9, e10]; exact o.pl
 ·simp only [e2, e3, e4, e5, e7, e9, e10]; exact o.ct
theorem KL.teq {x y : Tab} (e : TEq x y) {l : Limit} {m : Nat} (o : KL x l m) : KL y l m := by
 obtain ⟨e1, e2, e3, e4, e5, e6, e7, e8, e9, e10, e11⟩ := e
 unfold KL at *
 simp only [e2, e3, e5]
 exact o
theorem PEq.ok {x y : Part} (e : PEq x y) (o : PtOk x) : PtOk y := by
 obtain ⟨e1, e2, e3, e4, e5, e6, e7, e8, e9, e10, e11⟩ := e
 constructor
 ·rw [e1]; exact o.t
 ·rw [e2, e3, e4]; exact o.li
 ·rw [e5]; exact o.ow
 ·rw [e5, e2]; exact o.ol
 ·exact e6.ok o.us
 ·exact e7.ok o.en
 ·rw [e3]; exact o.ku.teq e6
 ·rw [e4]; exact o.ke.teq e7
 ·rw [e8]; exact o.rl
 ·simp only [e8]; exact o.rs
theorem TbOk.sh {t : Tab} (o : TbOk t) : Sh t := by
 obtain ⟨h1, h2, h3, h4⟩ := o.lens
 have h5 := o.ix.1
 have h6 := o.sz.op
 have h7 := o.od.2.1
 have h8 := o.od.2.2.1
 have h9 := o.sz.nx
 have h10 := o.sz.hi
 refine ⟨?_, ?_, ?_, ?_, ?_, ?_, ?_⟩ <;> omega
theorem PtOk.shu {x : Part} (o : PtOk x) : Sh x.us := o.us.sh
theorem PtOk.she {x : Part} (o : PtOk x) : Sh x.en := o.en.sh
theorem PtOk.shr {x : Part} (o : PtOk x) : x.rev.l.length ≤ 100 := by have := o.rl; omega
theorem encP_one (x : Part) : (encP x).all oneCell = true := by
 unfold encP
 simp only [List.all_cons, List.all_nil, one_v, Bool.and_true, Bool.true_and]
 rfl
theorem encP_scal (x : Part) : (encP x).all VE.scal = true := by
 unfold encP
 simp only [List.all_cons, List.all_nil, sv2, Bool.and_true, Bool.true_and]
 rfl
section
variable {vp : Nat → Option VFn}
theorem rgv_nil : rgv [] = 0 := by
 unfold rgv
 rw [if_neg (by simp)]
 exact chk_y ⟨fun i h => by simp at h, fun i h => by simp at h⟩
theorem frzTP {h : Heap} {base : Nat} {v : V} {c : Sl Part} (f : FzV h base 800000 v (c.v encP)) : frz frzFuel h base false (.tup [v, .int .i64 0]) = some (.tup [c.v encP, .int .i64 0]) := by
 show frz (999999 + 1) h base false (.tup _) = _
 have : FzA h base [v, .int .i64 0] [c.v encP, .int .i64 0] := ⟨f, .s rfl, trivial⟩
 rw [frz, this.fz 999999 (by simp), Option.map_some]
theorem putN_spec {f c1 c2 c3 c4 c5 c6 : Nat} (hf : vp f = some (Zzbl c1 c2 c3 c4 c5 c6)) (m1 : modeOf vp c1 = some 1) (m2 : modeOf vp c2 = some 1) (m3 : modeOf vp c3 = some 1) (m4 : modeOf vp c4 = some 1) (m5 : modeOf vp c5 = some 1)
  (ck : ∀ (h : Heap), callRes vp c1 [.nils] h = some (.int .i64 0, h)) (pk : ∀ (x : Part) (h : Heap), callRes vp c2 [.agg (encP x)] h = some (.int .i64 (chk (PtOk x)), h))
  (fd : ∀ (t : Int) (h : Heap), callRes vp c3 [.nils, .int .u32 t] h = some (.tup [.int .i64 0, .bool false], h)) (al : ∀ (h : Heap), callRes vp c4 [.nils] h = some (.nils, h))
  (cp : ∀ (x : Part), PtOk x → ∀ h : Heap, ∃ y : Part, callRes vp c5 [.agg (encP x)] h = some (.agg (encP y), h) ∧ PEq x y) (h6 : vp c6 = some Zzcm)
  (x : Part) (o : PtOk x) (h : Heap) : ∃ (ps : Sl Part) (y : Part), callRes vp f [.nils, .agg (encP x)] h = some (.tup [ps.v encP, .int .i64 0], h) ∧ ps.l = [y] ∧ PEq x y := by
 suffices q : ∃ r, callRes vp f [.nils, .agg (encP x)] h = some (r, h) ∧ ∃ (ps : Sl Part) (y : Part), r = .tup [ps.v encP, .int .i64 0] ∧ ps.l = [y] ∧ PEq x y by
  obtain ⟨r, e, a, b, rfl, k⟩ := q
  exact ⟨a, b, e, k⟩
 refine res_pure_ex hf rfl rfl (fun g hg => ?_)
 have hlo := hlo hg
 unfold Zzbl
 obtain ⟨G, hG⟩ : ∃ G, g.new (.cells (encP x) .cl) = G := ⟨_, rfl⟩
 have gn : G.nx = g.nx + 1 := by rw [← hG]; rfl
 have ga : G.get g.nx = .cells (encP x) .cl := by rw [← hG]; simp only [↓zp, zv, seval]
 obtain ⟨y, e1, d1⟩ := cp x o G
 have e2 := insP_res h6 y (b2 := G.nx) (h := G.new (.cells (encP y) .cl)) (by rw [Heap.get_new, if_pos rfl])
 have pk := fun h => pk x h
 have e3 := chk_y o
 have zl : ∀ h, r_len .nils h = some (.int .i64 0, h) := fun _ => rfl
 simp only [Heap.new_nx] at e2
 simp only [encP] at hG e1 e2 ga pk
 simp only [encP]
 simp only [↓zp, zv, seval, m1, ck, hG, ga, m2, pk, e3, not_true, m3, fd, zl, m4, al, m5, e1, e2]
 generalize hH : Heap.new (Heap.new G _) _ = H
 have hb : H.get (G.nx + 1) = .cells ([y].flatMap encP) .op := by rw [← hH]; simp only [↓zp, zv, seval, encP, List.flatMap_cons, List.flatMap_nil, List.append_nil]
 obtain ⟨c, d2, f1⟩ := FzV.row (h := H) (base := g.nx) (b := G.nx + 1) (c := 1) (n := 1) (l := [y]) encP_len encP_scal (by omega) rfl hb
 exact ⟨_, frzTP (f1.le (by simp)), c, y, rfl, d2, d1⟩
end
end
section
open Go Go.VE Classical
def encW (now : Int) (ep : Int) (is : Bool) (p : List V) : List V := .int .u64 now :: .int .u32 ep :: .bool is :: p
theorem zP_scal : zP.all VE.scal = true := rfl
theorem encW_scal {now ep : Int} {is : Bool} {p : List V} (h : p.all VE.scal = true) : (encW now ep is p).all VE.scal = true := by
 unfold encW
 simp only [List.all_cons, h, Bool.and_true]
 rfl
theorem frzTA1 {h : Heap} {b : Nat} {l : List V} {k : IntKind} {x : Int} (hs : l.all VE.scal = true) (hn : l.length ≤ 1000) : frz frzFuel h b false (.tup [.agg l, .int k x]) = some (.tup [.agg l, .int k x]) := by
 show frz (999999 + 1) h b false (.tup _) = _
 have e : frz (999998) h b false (.agg l) = some (.agg l) := by
  show frz (999997 + 1) h b false (.agg l) = _
  rw [frz, frzs_scal l hs (by omega), Option.map_some]
 have e2 : frzs 999999 h b false [.agg l, .int k x] = some [.agg l, .int k x] := by
  rw [frzs, e]
  rfl
 rw [frz, e2, Option.map_some]
def ViewIs (s : Srv) (t : Nat) (r : V) : Prop :=
 (¬ SvOk s ∧ r = .tup [.agg (encW 0 0 false zP), .int .i64 8]) ∨
 (SvOk s ∧ 16 ≤ t ∧ r = .tup [.agg (encW 0 0 false zP), .int .i64 2]) ∨
 (SvOk s ∧ t < 16 ∧ fidx (isT t) s.ps.l < 0 ∧ ∃ h : t < s.ep.length, r = .tup [.agg (encW s.now s.ep[t] false zP), .int .i64 0]) ∨
 (SvOk s ∧ t < 16 ∧ ∃ k, ∃ hk : k < s.ps.l.length, fidx (isT t) s.ps.l = (k : Int) ∧ ∃ h : t < s.ep.length, ∃ y : Part, PEq s.ps.l[k] y ∧ r = .tup [.agg (encW s.now s.ep[t] true (encP y)), .int .i64 0])
theorem apIP {l : List V} {b p : Nat} : apartV (.iptr l) (.ptr b p) = true := rfl
section
variable {vp : Nat → Option VFn}
theorem svk_spec {f c1 : Nat} (hf : vp f = some (Zzbr c1)) (m1 : modeOf vp c1 = some 1) (vl : ∀ (s : Srv) (h : Heap), callRes vp c1 [.agg (encS s)] h = some (.int .i64 (chk (SvOk s)), h)) (s : Srv) (h : Heap) : callRes vp f [.agg (encS s)] h = some (.int .i64 (chk (SvOk s)), h) := by
 refine res_pure hf rfl rfl (fun g hg => ?_)
 unfold Zzbr
 have vl := fun h => vl s h
 have l1 := encS1_len s
 have l4 := encS1_take s
 unfold encS at vl ⊢
 simp only [↓zp, zv, seval, l1, l4, m1, vl, frzI]
theorem arg_spec {f : Nat} (hf : vp f = some Zzey) (t : Nat) (h : Heap) : callRes vp f [.int .u32 (t : Int)] h = some (.int .i64 (if 16 ≤ t then 2 else 0), h) := by
 refine res_pure hf rfl rfl (fun g hg => ?_)
 unfold Zzey
 by_cases q : 16 ≤ t
 ·have q' : (16 : Int) ≤ (t : Int) := by omega
  simp only [↓zp, zv, seval, q, q', frzI]
 ·have q' : ¬ (16 : Int) ≤ (t : Int) := by omega
  simp only [↓zp, zv, seval, q, q', frzI]
theorem view_spec {f c1 c2 c3 c4 t1 : Nat} (hf : vp f = some (Zzew c1 c2 c3 c4 t1)) (m1 : modeOf vp c1 = some 1) (h2 : vp c2 = some Zzey) (m3 : modeOf vp c3 = some 1) (m4 : modeOf vp c4 = some 1)
  (vl : ∀ (s : Srv) (h : Heap), callRes vp c1 [.agg (encS s)] h = some (.int .i64 (chk (SvOk s)), h))
  (fi : ∀ (ps : Sl Part) (t : Int) (h : Heap), callRes vp c3 [ps.v encP, .int .u32 t] h = some (.tup [.int .i64 (fndR ps.l t).1, .int .i64 (fndR ps.l t).2], h))
  (pt : ∀ (x : Part), PtOk x → ∀ h : Heap, ∃ (ps : Sl Part) (y : Part), callRes vp c4 [.nils, .agg (encP x)] h = some (.tup [ps.v encP, .int .i64 0], h) ∧ ps.l = [y] ∧ PEq x y)
  (s : Srv) (t : Nat) (h : Heap) : ∃ r, callRes vp f [.agg (encS s), .int .u32 (t : Int)] h = some (r, h) ∧ ViewIs s t r := by
 have m2 : modeOf vp c2 = some 1 := mo h2 rfl rfl
 refine res_pure_ex hf rfl rfl (fun g hg => ?_)
 have hlo := hlo hg
 unfold Zzew
 have vl := fun h => vl s h
 have fi := fun h => fi s.ps t h
 have ag := fun h => arg_spec h2 t h
 have dk := fun k hk => encS1_epk s (k := k) hk
 have fz1 : ∀ (H : Heap) (b : Nat) (x : Int), frz frzFuel H b false (.tup [.agg (encW 0 0 false zP), .int .i64 x]) = some (.tup [.agg (encW 0 0 false zP), .int .i64 x]) := fun H b x => frzTA1 (encW_scal zP_scal) (by simp [encW, zP])
 simp only [encW, zP] at fz1
 unfold encS at vl ⊢
 obtain ⟨L, hL⟩ : ∃ L, encS1 s = L := ⟨_, rfl⟩
 have l1 : L.length = 49 := by rw [← hL, encS1_len]
 have l2 : L.drop 48 = [s.ps.v encP] := by rw [← hL, encS1_ps]
 have l4 : takeN 49 L = some L := by rw [← hL, encS1_take]
 have z1 : ¬ g.nx + 1 < g.lo := by omega
 rw [hL] at vl dk ⊢
 by_cases q1 : SvOk s
 case neg =>
  have e1 := chk_n q1
  simp only [↓zp, zv, seval, l1, l4, m1, vl, e1, z1, fz1]
  exact .inl ⟨q1, rfl⟩
 have e1 := chk_y q1
 obtain ⟨r1, r2⟩ := q1.ok
 by_cases q2 : 16 ≤ t
 ·simp only [↓zp, zv, seval, l1, l4, m1, vl, e1, z1, m2, ag, q2, fz1]
  exact .inr (.inl ⟨q1, q2, rfl⟩)
 have q3 : t < 16 := by omega
 have nep := s.nep
 have ht : t < s.ep.length := by omega
 obtain ⟨r, dk⟩ := dk t ht
 have dk' : List.drop (33 + t) (.int .u64 s.now :: L) = .int .u32 s.ep[t] :: r := by
  rw [← dk, show 33 + t = (32 + t) + 1 by omega]; rfl
 have z2 : ¬ g.nx + 2 < g.lo := by omega
 simp only [fndR, q1.rg, if_true] at fi
 rcases fidx_range (q := isT t) (l := s.ps.l) with ⟨w1, w2⟩
 by_cases q4 : fidx (isT t) s.ps.l < 0
 ·have fz2 : ∀ (H : Heap) (b : Nat), frz frzFuel H b false (.tup [.agg (encW s.now s.ep[t] false zP), .int .i64 0]) = some (.tup [.agg (encW s.now s.ep[t] false zP), .int .i64 0]) := fun H b => frzTA1 (encW_scal zP_scal) (by simp [encW, zP])
  simp only [encW, zP] at fz2
  simp only [q4, if_true] at fi
  simp only [↓zp, zv, seval, Nat.mul_one, l1, l2, l4, m1, vl, e1, z1, z2, m2, ag, q2, q3, dk', m3, fi, fz2]
  exact .inr (.inr (.inl ⟨q1, q3, q4, ht, rfl⟩))
 obtain ⟨k, hk⟩ := Int.eq_ofNat_of_zero_le (by omega : 0 ≤ fidx (isT t) s.ps.l)
 have hkl : k < s.ps.l.length := by omega
 simp only [q4, if_false] at fi
 rw [hk] at fi
 have ia1 := fun h => r_ia_v (h := h) (c := s.ps) encP_len (by decide) hkl rfl
 obtain ⟨H, hH⟩ : ∃ H, (((g.new (.cells (.int .u64 s.now :: L) .cl)).new (.cells (encW 0 0 false zP) (.ct t1))).new (.cells (encW 0 0 false zP) (.ct t1))).set (g.nx + 2) (.cells (encW s.now s.ep[t] false zP) (.ct t1)) = H := ⟨_, rfl⟩
 have ga : H.get g.nx = .cells (.int .u64 s.now :: L) .cl := by rw [← hH]; simp only [↓zp, zv, seval]
 have gb : H.get (g.nx + 1) = .cells (encW 0 0 false zP) (.ct t1) := by rw [← hH]; simp only [↓zp, zv, seval]
 have gc : H.get (g.nx + 2) = .cells (encW s.now s.ep[t] false zP) (.ct t1) := by rw [← hH]; simp only [↓zp, zv, seval]
 have gl : H.lo = g.lo := by rw [← hH]; rfl
 obtain ⟨ps', y, e2, d1, d2⟩ := pt s.ps.l[k] (r2.ok k hkl) H
 have ia2 : ∀ h, r_ia 42 (ps'.v encP) (.int .i64 0) h = some (.iptr (encP y), h) := fun h => by
  have := r_ia_v (h := h) (c := ps') (k := 0) (n := 0) encP_len (by decide) (by rw [d1]; simp) rfl
  rw [this]
  have e : (ps'.l[0]'(by rw [d1]; simp)) = y := by simp only [d1]; rfl
  rw [e, d1]
  simp
 have fz2 : ∀ (H : Heap) (b : Nat), frz frzFuel H b false (.tup [.agg (encW s.now s.ep[t] true (encP y)), .int .i64 0]) = some (.tup [.agg (encW s.now s.ep[t] true (encP y)), .int .i64 0]) := fun H b => frzTA1 (encW_scal (encP_scal y)) (by simp [encW, encP])
 simp only [encW, zP, encP] at fz2 ia1 ia2 e2 gb gc hH
 simp only [↓zp, zv, seval, Nat.mul_one, l1, l2, l4, m1, vl, e1, z1, z2, m2, ag, q2, q3, dk', m3, fi, hH, ga, gb, gc, gl, ia1, m4, e2, ia2, apIP, fz2]
 exact .inr (.inr (.inr ⟨q1, q3, k, hkl, by omega, ht, y, d2, rfl⟩))
theorem viewR_spec {f c1 c2 c3 t1 : Nat} (hf : vp f = some (Zzer c1 c2 c3 t1)) (m1 : modeOf vp c1 = some 1) (h2 : vp c2 = some Zzej) (m3 : modeOf vp c3 = some 1)
  (vl : ∀ (s : Srv) (h : Heap), callRes vp c1 [.agg (encS s)] h = some (.int .i64 (chk (SvOk s)), h))
  (tw : ∀ (x : Part), PtOk x → ∀ h : Heap, ∃ y : Part, callRes vp c3 [.agg (encP x)] h = some (.agg (encP y), h) ∧ PEq x y)
  (s : Srv) (t : Nat) (h : Heap) : ∃ r, callRes vp f [.agg (encS s), .int .u32 (t : Int)] h = some (r, h) ∧ ViewIs s t r := by
 have m2 : modeOf vp c2 = some 1 := mo h2 rfl rfl
 refine res_pure_ex hf rfl rfl (fun g hg => ?_)
 have hlo := hlo hg
 unfold Zzer
 have vl := fun h => vl s h
 have dk := fun k hk => encS1_epk s (k := k) hk
 have fz1 : ∀ (H : Heap) (b : Nat) (x : Int), frz frzFuel H b false (.tup [.agg (encW 0 0 false zP), .int .i64 x]) = some (.tup [.agg (encW 0 0 false zP), .int .i64 x]) := fun H b x => frzTA1 (encW_scal zP_scal) (by simp [encW, zP])
 simp only [encW, zP] at fz1
 unfold encS at vl ⊢
 obtain ⟨L, hL⟩ : ∃ L, encS1 s = L := ⟨_, rfl⟩
 have l1 : L.length = 49 := by rw [← hL, encS1_len]
 have l2 : L.drop 48 = [s.ps.v encP] := by rw [← hL, encS1_ps]
 have l4 : takeN 49 L = some L := by rw [← hL, encS1_take]
 have z1 : ¬ g.nx + 1 < g.lo := by omega
 rw [hL] at vl dk ⊢
 by_cases q1 : SvOk s
 case neg =>
  have e1 := chk_n q1
  simp only [↓zp, zv, seval, l1, l4, m1, vl, e1, z1, fz1]
  exact .inl ⟨q1, rfl⟩
 have e1 := chk_y q1
 obtain ⟨r1, r2⟩ := q1.ok
 by_cases q2 : 16 ≤ t
 ·have q2' : (16 : Int) ≤ (t : Int) := by omega
  simp only [↓zp, zv, seval, l1, l4, m1, vl, e1, z1, q2', fz1]
  exact .inr (.inl ⟨q1, q2, rfl⟩)
 have q2' : ¬ (16 : Int) ≤ (t : Int) := by omega
 have q3 : t < 16 := by omega
 have nep := s.nep
 have ht : t < s.ep.length := by omega
 obtain ⟨r, dk⟩ := dk t ht
 have dk' : List.drop (33 + t) (.int .u64 s.now :: L) = .int .u32 s.ep[t] :: r := by
  rw [← dk, show 33 + t = (32 + t) + 1 by omega]; rfl
 have z2 : ¬ g.nx + 2 < g.lo := by omega
 have fi := fun h => rAt_spec h2 s.ps (by omega) t h
 rcases fidx_range (q := isT t) (l := s.ps.l) with ⟨w1, w2⟩
 by_cases q4 : fidx (isT t) s.ps.l < 0
 ·have fz2 : ∀ (H : Heap) (b : Nat), frz frzFuel H b false (.tup [.agg (encW s.now s.ep[t] false zP), .int .i64 0]) = some (.tup [.agg (encW s.now s.ep[t] false zP), .int .i64 0]) := fun H b => frzTA1 (encW_scal zP_scal) (by simp [encW, zP])
  simp only [encW, zP] at fz2
  have q4' : ¬ 0 ≤ fidx (isT t) s.ps.l := by omega
  simp only [↓zp, zv, seval, Nat.mul_one, l1, l2, l4, m1, vl, e1, z1, z2, q2', q3, dk', m2, fi, q4', fz2]
  exact .inr (.inr (.inl ⟨q1, q3, q4, ht, rfl⟩))
 obtain ⟨k, hk⟩ := Int.eq_ofNat_of_zero_le (by omega : 0 ≤ fidx (isT t) s.ps.l)
 have hkl : k < s.ps.l.length := by omega
 rw [hk] at fi
 have q4' : (0 : Int) ≤ (k : Int) := by omega
 have ia1 := fun h => r_ia_v (h := h) (c := s.ps) encP_len (by decide) hkl rfl
 obtain ⟨H, hH⟩ : ∃ H, ((((g.new (.cells (.int .u64 s.now :: L) .cl)).new (.cells (encW 0 0 false zP) (.ct t1))).new (.cells (encW 0 0 false zP) (.ct t1))).set (g.nx + 2) (.cells (encW s.now s.ep[t] false zP) (.ct t1))).set (g.nx + 2) (.cells (encW s.now s.ep[t] true zP) (.ct t1)) = H := ⟨_, rfl⟩
 have ga : H.get g.nx = .cells (.int .u64 s.now :: L) .cl := by rw [← hH]; simp only [↓zp, zv, seval]
 have gb : H.get (g.nx + 1) = .cells (encW 0 0 false zP) (.ct t1) := by rw [← hH]; simp only [↓zp, zv, seval]
 have gc : H.get (g.nx + 2) = .cells (encW s.now s.ep[t] true zP) (.ct t1) := by rw [← hH]; simp only [↓zp, zv, seval]
 have gl : H.lo = g.lo := by rw [← hH]; rfl
 obtain ⟨y, e2, d2⟩ := tw s.ps.l[k] (r2.ok k hkl) H
 have fz2 : ∀ (H : Heap) (b : Nat), frz frzFuel H b false (.tup [.agg (encW s.now s.ep[t] true (encP y)), .int .i64 0]) = some (.tup [.agg (encW s.now s.ep[t] true (encP y)), .int .i64 0]) := fun H b => frzTA1 (encW_scal (encP_scal y)) (by simp [encW, encP])
 simp only [encW, zP, encP] at fz2 ia1 e2 gb gc hH
 simp only [↓zp, zv, seval, Nat.mul_one, l1, l2, l4, m1, vl, e1, z1, z2, q2', q3, dk', m2, fi, q4', hH, ga, gb, gc, gl, ia1, m3, e2, fz2]
 exact .inr (.inr (.inr ⟨q1, q3, k, hkl, by omega, ht, y, d2, rfl⟩))
end
end
end Go.VE.LB
