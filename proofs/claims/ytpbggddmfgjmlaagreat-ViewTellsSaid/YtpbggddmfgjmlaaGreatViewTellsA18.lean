/- What the functions of the law ViewTells compute, on typed arguments (part 18). -/
import Derived.Test.YtpbggddmfgjmlaaGreatViewTellsA17
import Derived.Test.YtpbggddmfgjmlaaGreatViewTellsA12
import Derived.Test.YtpbggddmfgjmlaaGreatViewTellsA10
import Derived.Test.YtpbggddmfgjmlaaGreatViewTellsT
set_option linter.all false
namespace Go.VE.LB
set_option maxRecDepth 100000
set_option maxHeartbeats 4000000
section
open Go Go.VE Classical
def zTab : Tab := ⟨0, .nil, .nil, .nil, .nil, 0, .nil, .nil, .nil, 0, 0⟩
def zPart : Part := ⟨0, ⟨0, 0, 0⟩, ⟨0, 0, 0⟩, ⟨0, 0, 0⟩, ⟨⟨0, 0, 0⟩, 0, 0, 0, by decide⟩, zTab, zTab, .nil, 0, 0, 0⟩
theorem zTab_sh : Sh zTab := by simp [Sh, zTab, Sl.l]
theorem TEq.refl (x : Tab) : TEq x x := ⟨rfl, rfl, rfl, rfl, rfl, rfl, rfl, rfl, rfl, rfl, rfl⟩
theorem TEq.two {x y z : Tab} (a : TEq x y) (b : TEq x z) : TEq y z := ⟨b.cap.trans a.cap.symm, b.ks.trans a.ks.symm, b.bk.trans a.bk.symm, b.nx.trans a.nx.symm, b.us.trans a.us.symm, b.fr.trans a.fr.symm, b.ix.trans a.ix.symm, b.op.trans a.op.symm, b.on.trans a.on.symm, b.hd.trans a.hd.symm, b.tl.trans a.tl.symm⟩
theorem PEq.refl (x : Part) : PEq x x := ⟨rfl, rfl, rfl, rfl, rfl, .refl _, .refl _, rfl, rfl, rfl, rfl⟩
theorem PEq.two {x y z : Part} (a : PEq x y) (b : PEq x z) : PEq y z := ⟨b.t.trans a.t.symm, b.l0.trans a.l0.symm, b.l1.trans a.l1.symm, b.l2.trans a.l2.symm, b.own.trans a.own.symm, a.us.two b.us, a.en.two b.en, b.rev.trans a.rev.symm, b.n0.trans a.n0.symm, b.n1.trans a.n1.symm, b.n2.trans a.n2.symm⟩
theorem TEq.sh {x y : Tab} (a : TEq x y) (h : Sh x) : Sh y := by
 obtain ⟨q1, q2, q3, q4, q5, q6, q7⟩ := h
 exact ⟨by rw [a.ks]; exact q1, by rw [a.bk]; exact q2, by rw [a.nx]; exact q3, by rw [a.us]; exact q4, by rw [a.ix]; exact q5, by rw [a.op]; exact q6, by rw [a.on]; exact q7⟩
structure Srt (x : Part) : Prop where
 us : Sh x.us
 en : Sh x.en
 rv : x.rev.l.length ≤ 1000
theorem PEq.srt {x y : Part} (a : PEq x y) (o : PtOk x) : Srt y := ⟨a.us.sh o.shu, a.en.sh o.she, by rw [a.rev]; have := o.shr; omega⟩
theorem zPart_srt : Srt zPart := ⟨zTab_sh, zTab_sh, by simp [zPart, Sl.l]⟩
theorem view_two {s : Srv} {t : Nat} {r r' : V} (a : ViewIs s t r) (b : ViewIs s t r') : ∃ (n e : Int) (i : Bool) (x y : Part) (er : Int), r = .tup [.agg (encW n e i (encP x)), .int .i64 er] ∧ r' = .tup [.agg (encW n e i (encP y)), .int .i64 er] ∧ Srt x ∧ Srt y ∧ PEq x y := by
 rcases a with ⟨p1, rfl⟩ | ⟨p1, p2, rfl⟩ | ⟨p1, p2, p3, p4, rfl⟩ | ⟨p1, p2, k, hk, p3, p4, x, p5, rfl⟩
 ·rcases b with ⟨q1, rfl⟩ | ⟨q1, q2, rfl⟩ | ⟨q1, q2, q3, q4, rfl⟩ | ⟨q1, q2, k', hk', q3, q4, y, q5, rfl⟩
  ·exact ⟨0, 0, false, zPart, zPart, 8, rfl, rfl, zPart_srt, zPart_srt, .refl _⟩
  all_goals exact absurd q1 p1
 ·rcases b with ⟨q1, rfl⟩ | ⟨q1, q2, rfl⟩ | ⟨q1, q2, q3, q4, rfl⟩ | ⟨q1, q2, k', hk', q3, q4, y, q5, rfl⟩
  ·exact absurd p1 q1
  ·exact ⟨0, 0, false, zPart, zPart, 2, rfl, rfl, zPart_srt, zPart_srt, .refl _⟩
  all_goals omega
 ·rcases b with ⟨q1, rfl⟩ | ⟨q1, q2, rfl⟩ | ⟨q1, q2, q3, q4, rfl⟩ | ⟨q1, q2, k', hk', q3, q4, y, q5, rfl⟩
  ·exact absurd p1 q1
  ·omega
  ·exact ⟨_, _, false, zPart, zPart, 0, rfl, rfl, zPart_srt, zPart_srt, .refl _⟩
  ·omega
 ·rcases b with ⟨q1, rfl⟩ | ⟨q1, q2, rfl⟩ | ⟨q1, q2, q3, q4, rfl⟩ | ⟨q1, q2, k', hk', q3, q4, y, q5, rfl⟩
  ·exact absurd p1 q1
  ·omega
  ·omega
  ·obtain rfl : k = k' := by omega
   have o := p1.ok.2.ok k hk
   exact ⟨_, _, true, x, y, 0, rfl, rfl, p5.srt o, q5.srt o, p5.two q5⟩
noncomputable def belV (b : List Bt) (tn : Int) : V := if 16 ≤ tn then .tup [.bool false, .int .i64 2] else .tup [.bool (decide (ownT b = some tn)), .int .i64 0]
theorem belV_is (b : List Bt) (tn : Int) : ∃ x y, belV b tn = .tup [.bool x, .int .i64 y] := by
 unfold belV
 split
 ·exact ⟨_, _, rfl⟩
 ·exact ⟨_, _, rfl⟩
section
variable {vp : Nat → Option VFn}
def Wsp (vp : Nat → Option VFn) (c : Nat) : Prop := ∀ (n n' e e' : Int) (i i' : Bool) (x y : Part), Sh x.us → Sh x.en → x.rev.l.length ≤ 1000 → ∀ h : Heap, callRes vp c [.agg (encW n e i (encP x)), .agg (encW n' e' i' (encP y))] h = some (.bool (decide (n = n' ∧ e = e' ∧ i = i' ∧ PEq x y)), h)
theorem vt_law {f c1 c2 c3 c4 c5 c6 c7 t1 : Nat} (hf : vp f = some (Zzco c1 c2 c3 c4 c5 c6 c7 t1)) (m1 : modeOf vp c1 = some 1) (m2 : modeOf vp c2 = some 1) (m3 : modeOf vp c3 = some 1) (m4 : modeOf vp c4 = some 1) (m5 : modeOf vp c5 = some 1) (m6 : modeOf vp c6 = some 1) (m7 : modeOf vp c7 = some 1)
  (gr : ∀ (s : Srv) (h : Heap), ∃ b, callRes vp c1 [.agg (encS s)] h = some (.bool b, h))
  (b2 : ∀ (b : Sl Bt) (tn : Int) (h : Heap), callRes vp c2 [b.v eY, .int .u32 tn] h = some (belV b.l tn, h))
  (b3 : ∀ (b : Sl Bt), b.l.length ≤ 1000 → ∀ (tn : Int) (h : Heap), callRes vp c3 [b.v eY, .int .u32 tn] h = some (belV b.l tn, h))
  (o4 : ∀ (s : Srv) (t : Nat) (h : Heap), ∃ r, callRes vp c4 [.agg (encS s), .int .u32 (t : Int)] h = some (r, h) ∧ ViewIs s t r)
  (o5 : ∀ (s : Srv) (t : Nat) (h : Heap), ∃ r, callRes vp c5 [.agg (encS s), .int .u32 (t : Int)] h = some (r, h) ∧ ViewIs s t r)
  (s6 : Wsp vp c6) (s7 : Wsp vp c7)
  (b : Sl Bt) (s u : Srv) (tn : Nat) (h : Heap) : callRes vp f [b.v eY, .agg (encS s), .agg (encS u), .int .u32 (tn : Int)] h = some (.bool true, h) := by
 refine res_pure hf rfl rfl (fun g hg => ?_)
 have hlo := hlo hg
 unfold Zzco
 obtain ⟨L, hL⟩ : ∃ L, encS1 s = L := ⟨_, rfl⟩
 have l1 : L.length = 49 := by rw [← hL, encS1_len]
 have l4 : takeN 49 L = some L := by rw [← hL, encS1_take]
 obtain ⟨M, hM⟩ : ∃ L, encS1 u = L := ⟨_, rfl⟩
 have k1 : M.length = 49 := by rw [← hM, encS1_len]
 have k4 : takeN 49 M = some M := by rw [← hM, encS1_take]
 obtain ⟨H, hH⟩ : ∃ H, (g.new (.cells (encS s) .cl)).new (.cells (encS u) .cl) = H := ⟨_, rfl⟩
 have ga : H.get g.nx = .cells (encS s) .cl := by rw [← hH, Heap.get_new, Heap.new_nx, if_neg (by omega), Heap.get_new, if_pos rfl]
 have gb : H.get (g.nx + 1) = .cells (encS u) .cl := by rw [← hH, Heap.get_new, Heap.new_nx, if_pos rfl]
 have gn : H.nx = g.nx + 2 := by rw [← hH]; rfl
 have gl : H.lo = g.lo := by rw [← hH]; rfl
 obtain ⟨x1, eg1⟩ := gr s H
 obtain ⟨x2, eg2⟩ := gr u H
 by_cases hb : (300 : Int) < (b.l.length : Int)
 ·unfold encS at hH ga ⊢
  rw [hL, hM] at hH
  rw [hL, hM]
  simp only [↓zp, zv, seval, l1, k1, hH, hb, frzB]
 have b3 := b3 b (by omega)
 cases x1
 case true =>
  unfold encS at hH ga eg1 ⊢
  rw [hL, hM] at hH
  rw [hL] at ga eg1
  rw [hL, hM]
  simp only [↓zp, zv, seval, l1, k1, hH, hb, ga, l4, m1, eg1, frzB]
 cases x2
 case true =>
  unfold encS at hH ga gb eg1 eg2 ⊢
  rw [hL, hM] at hH
  rw [hL] at ga eg1
  rw [hM] at gb eg2
  rw [hL, hM]
  simp only [↓zp, zv, seval, l1, k1, hH, hb, ga, gb, l4, k4, m1, eg1, eg2, frzB]
 obtain ⟨X, Y, hB⟩ := belV_is b.l tn
 have b2 := fun h => b2 b tn h
 have b3 := fun h => b3 tn h
 rw [hB] at b2 b3
 have cutr : ∀ {s : Srv} {r : V}, ViewIs s tn r → ∃ (c : V) (D : List V) (er : Int), r = .tup [.agg (c :: D), .int .i64 er] ∧ D.length = 44 ∧ oneCell c = true ∧ D.all oneCell = true := fun w => by
  obtain ⟨n, e, i, x, y, er, q1, q2, q3, q4, q5⟩ := view_two w w
  refine ⟨.int .u64 n, .int .u32 e :: .bool i :: encP x, er, q1, rfl, rfl, ?_⟩
  rw [List.all_cons, List.all_cons, encP_one]
  rfl
 obtain ⟨r1, e4, w1⟩ := o4 s tn H
 obtain ⟨x1, D1, er1, hr1, n1, a1, a1'⟩ := cutr w1
 obtain ⟨G1, hG1⟩ : ∃ G, (H.new (.cells (encW 0 0 false zP) (.ct t1))).set (g.nx + 2) (.cells (x1 :: D1) (.ct t1)) = G := ⟨_, rfl⟩
 have ga1 : G1.get g.nx = .cells (encS s) .cl := by rw [← hG1, Heap.get_set, if_neg (by omega), Heap.get_new, if_neg (by omega), ga]
 have gb1 : G1.get (g.nx + 1) = .cells (encS u) .cl := by rw [← hG1, Heap.get_set, if_neg (by omega), Heap.get_new, if_neg (by omega), gb]
 have gc1 : G1.get (g.nx + 2) = .cells (x1 :: D1) (.ct t1) := by rw [← hG1, Heap.get_set, if_pos rfl]
 have gn1 : G1.nx = g.nx + 3 := by rw [← hG1, Heap.set_nx, Heap.new_nx, gn]
 have gl1 : G1.lo = g.lo := by rw [← hG1]; exact gl
 obtain ⟨r2, e5, w2⟩ := o5 s tn G1
 obtain ⟨x2, D2, er2, hr2, n2, a2, a2'⟩ := cutr w2
 obtain ⟨G2, hG2⟩ : ∃ G, (G1.new (.cells (encW 0 0 false zP) (.ct t1))).set (g.nx + 3) (.cells (x2 :: D2) (.ct t1)) = G := ⟨_, rfl⟩
 have gb2 : G2.get (g.nx + 1) = .cells (encS u) .cl := by rw [← hG2, Heap.get_set, if_neg (by omega), Heap.get_new, if_neg (by omega), gb1]
 have gc2 : G2.get (g.nx + 2) = .cells (x1 :: D1) (.ct t1) := by rw [← hG2, Heap.get_set, if_neg (by omega), Heap.get_new, if_neg (by omega), gc1]
 have gd2 : G2.get (g.nx + 3) = .cells (x2 :: D2) (.ct t1) := by rw [← hG2, Heap.get_set, if_pos rfl]
 have gn2 : G2.nx = g.nx + 4 := by rw [← hG2, Heap.set_nx, Heap.new_nx, gn1]
 have gl2 : G2.lo = g.lo := by rw [← hG2]; exact gl1
 obtain ⟨r3, e6, w3⟩ := o5 u tn G2
 obtain ⟨x3, D3, er3, hr3, n3, a3, a3'⟩ := cutr w3
 obtain ⟨G3, hG3⟩ : ∃ G, (G2.new (.cells (encW 0 0 false zP) (.ct t1))).set (g.nx + 4) (.cells (x3 :: D3) (.ct t1)) = G := ⟨_, rfl⟩
 have gc3 : G3.get (g.nx + 2) = .cells (x1 :: D1) (.ct t1) := by rw [← hG3, Heap.get_set, if_neg (by omega), Heap.get_new, if_neg (by omega), gc2]
 have gd3 : G3.get (g.nx + 3) = .cells (x2 :: D2) (.ct t1) := by rw [← hG3, Heap.get_set, if_neg (by omega), Heap.get_new, if_neg (by omega), gd2]
 have ge3 : G3.get (g.nx + 4) = .cells (x3 :: D3) (.ct t1) := by rw [← hG3, Heap.get_set, if_pos rfl]
 have inj : ∀ {a c : V} {A C : List V} {e f : Int}, V.tup [.agg (a :: A), .int .i64 e] = .tup [.agg (c :: C), .int .i64 f] → a :: A = c :: C ∧ e = f := fun q => by
  injection q with q
  injection q with q1 q2
  injection q1 with q1
  injection q2 with q2 _
  injection q2 with _ q2
  exact ⟨q1, q2⟩
 obtain ⟨n, e, i, x, y, er, p1, p2, p3, p4, p5⟩ := view_two w1 w2
 rw [hr1] at p1
 rw [hr2] at p2
 obtain ⟨c1', d1⟩ := inj p1
 obtain ⟨c2', d2⟩ := inj p2
 obtain ⟨n', e', i', z, z', er', t1', t2', t3, t4, t5⟩ := view_two w3 w3
 rw [hr3] at t1'
 obtain ⟨c3', d3⟩ := inj t1'
 have k12 : ∀ h, callRes vp c6 [.agg (x1 :: D1), .agg (x2 :: D2)] h = some (.bool true, h) := fun h => by
  rw [c1', c2']
  have := s6 n n e e i i x y p3.us p3.en p3.rv h
  rwa [decide_eq_true ⟨rfl, rfl, rfl, p5⟩] at this
 have k22 : ∀ h, callRes vp c7 [.agg (x2 :: D2), .agg (x2 :: D2)] h = some (.bool true, h) := fun h => by
  rw [c2']
  have := s7 n n e e i i y y p4.us p4.en p4.rv h
  rwa [decide_eq_true ⟨rfl, rfl, rfl, .refl y⟩] at this
 obtain ⟨Z, k6', k7'⟩ : ∃ Z, (∀ h, callRes vp c6 [.agg (x2 :: D2), .agg (x3 :: D3)] h = some (.bool Z, h)) ∧ ∀ h, callRes vp c7 [.agg (x2 :: D2), .agg (x3 :: D3)] h = some (.bool Z, h) :=
  ⟨_, fun h => by rw [c2', c3']; exact s6 n n' e e' i i' y z p4.us p4.en p4.rv h, fun h => by rw [c2', c3']; exact s7 n n' e e' i i' y z p4.us p4.en p4.rv h⟩
 have eX : (X == X) = true := by cases X <;> rfl
 have eZ : (Z == Z) = true := by cases Z <;> rfl
 have d12 : er1 = er2 := d1.trans d2.symm
 subst d12
 subst hr1
 subst hr2
 subst hr3
 clear w1 w2 w3 p1 p2 t1' t2' c1' c2' c3' s6 s7
 have oA : ∀ {D : List V}, D.length = 44 → D.all oneCell = true → over 0 (encW 0 0 false zP).tail D = some D := fun h1 h2 => by
  have := over_mid [] _ (encW 0 0 false zP).tail [] (h1.trans rfl) h2
  simpa using this
 have ov1 := oA n1 a1'
 have ov2 := oA n2 a2'
 have ov3 := oA n3 a3'
 have tk1 : takeN 44 D1 = some D1 := by rw [← n1]; exact takeN_self
 have tk2 : takeN 44 D2 = some D2 := by rw [← n2]; exact takeN_self
 have tk3 : takeN 44 D3 = some D3 := by rw [← n3]; exact takeN_self
 have z2 : ¬ g.nx + 2 < g.lo := by omega
 have z3 : ¬ g.nx + 3 < g.lo := by omega
 have z4 : ¬ g.nx + 4 < g.lo := by omega
 unfold encS at hH ga gb eg1 eg2 e4 e5 e6 ga1 gb2 ⊢
 rw [hL, hM] at hH
 rw [hL] at ga eg1 e4 e5 ga1
 rw [hM] at gb eg2 e6 gb2
 rw [hL, hM]
 unfold encW zP at hG1 hG2 hG3 ov1 ov2 ov3
 simp only [List.tail_cons] at ov1 ov2 ov3
 simp only [↓zp, zv, seval, l1, l4, k1, k4, hH, hb, ga, gb, gn, gl, m1, eg1, eg2, m2, b2, m3, b3, m4, e4, n1, a1, ov1, z2, hG1, ga1, gn1, gl1, m5, e5, n2, a2, ov2, z3, hG2, gb2, gn2, gl2, e6, n3, a3, ov3, z4, hG3, gc3, gd3, ge3, tk1, tk2, tk3, m6, m7, k12, k22, k6', k7', eX, eZ, frzB]
end
end
section
open Go Go.VE Classical
theorem fitY {H : Type} {d : DataW H} (h : Fit (.int .u8) d) : ∃ x : Bt, dvs (.int .u8) d = eY x := by
 obtain ⟨n, rfl, w⟩ := fitI h
 simp only [Lit.wf, Bool.and_eq_true, decide_eq_true_eq] at w
 have e2 : IntKind.u8.min = 0 := rfl
 have e3 : IntKind.u8.max = 255 := rfl
 refine ⟨⟨n.toNat, by omega⟩, ?_⟩
 have e : ((n.toNat : Nat) : Int) = n := by omega
 simp [dvs, eY, e]
structure TabW (vp : Nat → Option VFn) : Prop where
 a3 : vp 3 = some v3
 a4 : vp 4 = some v4
 a5 : vp 5 = some v5
 a6 : vp 6 = some v6
 a7 : vp 7 = some v7
 a8 : vp 8 = some v8
 a9 : vp 9 = some v9
 a10 : vp 10 = some v10
 a11 : vp 11 = some v11
 a12 : vp 12 = some v12
 a13 : vp 13 = some v13
 a14 : vp 14 = some v14
 a15 : vp 15 = some v15
 a16 : vp 16 = some v16
 a17 : vp 17 = some v17
 a18 : vp 18 = some v18
 a19 : vp 19 = some v19
 a20 : vp 20 = some v20
 a21 : vp 21 = some v21
 a22 : vp 22 = some v22
 a23 : vp 23 = some v23
 a24 : vp 24 = some v24
 a25 : vp 25 = some v25
 a26 : vp 26 = some v26
 a27 : vp 27 = some v27
 a28 : vp 28 = some v28
 a29 : vp 29 = some v29
 a30 : vp 30 = some v30
 a31 : vp 31 = some v31
 a32 : vp 32 = some v32
 a33 : vp 33 = some v33
 a34 : vp 34 = some v34
 a35 : vp 35 = some v35
 a36 : vp 36 = some v36
 a37 : vp 37 = some v37
 a38 : vp 38 = some v38
 a39 : vp 39 = some v39
 a40 : vp 40 = some v40
 a41 : vp 41 = some v41
 a42 : vp 42 = some v42
 a43 : vp 43 = some v43
 a44 : vp 44 = some v44
 a45 : vp 45 = some v45
 a46 : vp 46 = some v46
 a47 : vp 47 = some v47
 a48 : vp 48 = some v48
 a49 : vp 49 = some v49
 a50 : vp 50 = some v50
 a51 : vp 51 = some v51
 a52 : vp 52 = some v52
 a53 : vp 53 = some v53
 a54 : vp 54 = some v54
 a55 : vp 55 = some v55
 a56 : vp 56 = some v56
 a57 : vp 57 = some v57
 a58 : vp 58 = some v58
 a59 : vp 59 = some v59
 a60 : vp 60 = some v60
 a61 : vp 61 = some v61
 a62 : vp 62 = some v62
 a63 : vp 63 = some v63
 a64 : vp 64 = some v64
 a65 : vp 65 = some v65
 a66 : vp 66 = some v66
 a69 : vp 69 = some v69
 a70 : vp 70 = some v70
 a71 : vp 71 = some v71
 a72 : vp 72 = some v72
 a73 : vp 73 = some v73
 a74 : vp 74 = some v74
 a75 : vp 75 = some v75
 a76 : vp 76 = some v76
 a77 : vp 77 = some v77
 a78 : vp 78 = some v78
 a79 : vp 79 = some v79
 a80 : vp 80 = some v80
 a81 : vp 81 = some v81
 a82 : vp 82 = some v82
 a83 : vp 83 = some v83
 a84 : vp 84 = some v84
 a85 : vp 85 = some v85
 a86 : vp 86 = some v86
 a87 : vp 87 = some v87
 a88 : vp 88 = some v88
 a89 : vp 89 = some v89
 a90 : vp 90 = some v90
 a91 : vp 91 = some v91
 a92 : vp 92 = some v92
 a93 : vp 93 = some v93
 a94 : vp 94 = some v94
 a95 : vp 95 = some v95
 a96 : vp 96 = some v96
 a97 : vp 97 = some v97
 a99 : vp 99 = some v99
 a100 : vp 100 = some v100
 a101 : vp 101 = some v101
 a102 : vp 102 = some v102
 a103 : vp 103 = some v103
 a104 : vp 104 = some v104
 a105 : vp 105 = some v105
 a106 : vp 106 = some v106
 a107 : vp 107 = some v107
 a108 : vp 108 = some v108
 a109 : vp 109 = some v109
 a110 : vp 110 = some v110
 a111 : vp 111 = some v111
 a112 : vp 112 = some v112
 a113 : vp 113 = some v113
 a114 : vp 114 = some v114
 a115 : vp 115 = some v115
 a116 : vp 116 = some v116
 a117 : vp 117 = some v117
 a119 : vp 119 = some v119
 a120 : vp 120 = some v120
 a121 : vp 121 = some v121
 a122 : vp 122 = some v122
 a123 : vp 123 = some v123
 a124 : vp 124 = some v124
 a125 : vp 125 = some v125
 a126 : vp 126 = some v126
 a127 : vp 127 = some v127
 a128 : vp 128 = some v128
 a129 : vp 129 = some v129
 a130 : vp 130 = some v130
 a131 : vp 131 = some v131
 a132 : vp 132 = some v132
 a133 : vp 133 = some v133
 a134 : vp 134 = some v134
 a135 : vp 135 = some v135
 a136 : vp 136 = some v136
 a137 : vp 137 = some v137
 a138 : vp 138 = some v138
theorem top {vp : Nat → Option VFn} (T : TabW vp) (b : Sl Bt) (s u : Srv) (tn : Nat) (h : Heap) : callRes vp 3 [b.v eY, .agg (encS s), .agg (encS u), .int .u32 (tn : Int)] h = some (.bool true, h) := by
 have bk64 := fun b h => bk_spec (vp := vp) T.a64 T.a91 b h
 have bk104 := fun b h => bk_spec2 (vp := vp) T.a104 T.a112 b h
 have ar92 := fun nx u fr h => arC_spec (vp := vp) T.a92 T.a102 nx u fr h
 have ix93 := fun x h => ixC_spec (vp := vp) T.a93 T.a115 T.a131 T.a132 x h
 have li94 := fun pr nx hd tl h => lrL_spec (vp := vp) T.a94 T.a116 pr nx hd tl h
 have ct95 := fun v l n h => ct_spec (vp := vp) T.a95 T.a117 v l n h
 have fi96 := fun x key h => find_spec (vp := vp) (d3 := 0) T.a96 T.a93 T.a115 T.a131 T.a132 x key h
 have tb65 := fun t h => tbC_spec (vp := vp) T.a65 (mq T.a92 rfl rfl) (mq T.a93 rfl rfl) (mq T.a94 rfl rfl) (mq T.a95 rfl rfl) (mq T.a96 rfl rfl) (mq T.a64 rfl rfl) ar92 ix93 li94 ct95 fi96 bk64 t h
 have ar119 := fun nx u fr h => arR_spec (vp := vp) T.a119 T.a133 T.a125 nx u fr h
 have ix120 := fun x h => ixR_spec (vp := vp) T.a120 T.a123 T.a134 T.a135 x h
 have od121 := fun pr nx hd tl h => orR_spec (vp := vp) T.a121 T.a122 T.a136 T.a76 T.a125 T.a107 pr nx hd tl h
 have tb105 := fun t h => tbR_spec (vp := vp) T.a105 (mq T.a119 rfl rfl) (mq T.a120 rfl rfl) (mq T.a121 rfl rfl) (mq T.a104 rfl rfl) T.a122 T.a123 T.a124 T.a125 ar119 ix120 od121 bk104 t h
 have lm63 := fun a b c h => pval_spec (vp := vp) T.a63 (mq T.a91 rfl rfl) (fun x h => lim_spec T.a91 x h) a b c h
 have pk33 := fun x h => ptC_spec (vp := vp) T.a33 (mq T.a63 rfl rfl) (mq T.a64 rfl rfl) (mq T.a65 rfl rfl) T.a66 T.a97 lm63 bk64 tb65 x h
 have lm103 := fun a b c h => lims_spec (vp := vp) T.a103 (mq T.a112 rfl rfl) (fun x h => lim_spec2 T.a112 x h) a b c h
 have pk71 := fun x h => ptR_spec (vp := vp) T.a71 (mq T.a103 rfl rfl) (mq T.a104 rfl rfl) (mq T.a105 rfl rfl) T.a106 lm103 bk104 tb105 x h
 have rg31 := fun ps h => rgC_spec (vp := vp) T.a31 (mq T.a33 rfl rfl) pk33 ps h
 have rg37 := fun ps h => rgR_spec (vp := vp) T.a37 (mq T.a71 rfl rfl) pk71 ps h
 have fi16 := fun ps t h => rFind_spec (vp := vp) T.a16 (mq T.a31 rfl rfl) rg31 T.a32 T.a60 T.a61 T.a62 T.a90 ps t h
 have vl30 := fun s h => svC_spec (vp := vp) T.a30 (mq T.a31 rfl rfl) rg31 T.a56 T.a58 T.a57 T.a59 T.a87 T.a88 T.a89 T.a114 s h
 have vl18 := fun s h => svR_spec (vp := vp) T.a18 (mq T.a37 rfl rfl) rg37 T.a38 s h
 have vl15 := fun s h => svk_spec (vp := vp) T.a15 (mq T.a30 rfl rfl) vl30 s h
 have ck : ∀ h, callRes vp 31 [.nils] h = some (.int .i64 0, h) := fun h => by
  have := rg31 Sl.nil h
  have e : rgv (Sl.nil : Sl Part).l = 0 := rgv_nil
  rw [e] at this
  exact this
 have fd : ∀ (t : Int) (h : Heap), callRes vp 32 [.nils, .int .u32 t] h = some (.tup [.int .i64 0, .bool false], h) := fun t h => by
  obtain ⟨i, fd, e, hi, r⟩ := rfind_spec (vp := vp) T.a32 T.a60 T.a61 T.a62 T.a90 Sl.nil t h (by decide) (fun k hk => by simp [Sl.l] at hk)
  have hi : i ≤ 0 := hi
  rcases r with ⟨_, _, r⟩ | ⟨rfl, _⟩
  ·have r : i < 0 := r
   omega
  ·obtain rfl : i = 0 := by omega
   exact e
 have cp : ∀ (x : Part), PtOk x → ∀ h : Heap, ∃ y : Part, callRes vp 36 [.agg (encP x)] h = some (.agg (encP y), h) ∧ PEq x y := fun x o h => cop_spec (vp := vp) T.a36 T.a69 T.a70 T.a99 T.a100 T.a101 T.a102 x o.shu o.she o.shr h
 have pt := fun x o h => putN_spec (vp := vp) T.a17 (mq T.a31 rfl rfl) (mq T.a33 rfl rfl) (mq T.a32 rfl rfl) (mq T.a35 rfl rfl) (mq T.a36 rfl rfl) ck pk33 fd (fun h => all_nil T.a35 h) cp T.a34 x o h
 have vw7 := fun s t h => view_spec (vp := vp) T.a7 (mq T.a15 rfl rfl) T.a12 (mq T.a16 rfl rfl) (mq T.a17 rfl rfl) vl15 fi16 pt s t h
 have tw : ∀ (x : Part), PtOk x → ∀ h : Heap, ∃ y : Part, callRes vp 20 [.agg (encP x)] h = some (.agg (encP y), h) ∧ PEq x y := fun x o h => ptTw_spec (vp := vp) T.a20 T.a39 T.a72 T.a73 x o.shu o.she o.shr h
 have vw8 := fun s t h => viewR_spec (vp := vp) T.a8 (mq T.a18 rfl rfl) T.a19 (mq T.a20 rfl rfl) vl18 tw s t h
 have gr := fun s h => gr20 (vp := vp) T.a4 (mq T.a11 rfl rfl) (fun ps h => gr19 T.a11 (mq T.a25 rfl rfl) (fun x h => gr18 T.a25 (mq T.a46 rfl rfl) (fun t h => gr16 T.a46 T.a77 T.a78 t h) x h) ps h) s h
 have R : Rdr vp 80 109 126 127 128 129 130 152 137 138 208 := ⟨T.a80, T.a109, T.a126, T.a137, T.a127, T.a128, T.a129, T.a138, T.a130⟩
 have P : Prg vp 47 48 49 79 108 84 87 81 38 89 152 80 109 126 127 128 129 130 152 137 138 208 82 110 91 89 4 38 := ⟨T.a47, T.a79, T.a108, T.a48, T.a81, R, T.a49, T.a82, T.a110, T.a91⟩
 have Q : Rfs vp 50 51 52 53 55 54 84 83 111 112 84 85 86 113 38 := ⟨T.a50, T.a51, T.a52, T.a53, T.a83, T.a111, T.a112, T.a55, T.a84, T.a85, T.a113, T.a86, T.a54⟩
 have b5 := fun b tn h => vBel_spec (vp := vp) T.a5 T.a12 T.a13 T.a26 T.a27 P b tn h
 have b6 := fun b hb tn h => rBel_spec (vp := vp) T.a6 T.a14 T.a28 T.a29 Q b hb tn h
 have st23 := fun x y sx h => vtab_spec (vp := vp) T.a23 T.a24 T.a42 T.a43 T.a44 T.a45 x y sx h
 have so76 : ∀ (p p' n n' : Sl Int) (hd hd' tl tl' : Int) (h : Heap), p.l.length ≤ 1000 → n.l.length ≤ 1000 → ∃ b, callRes vp 76 [.agg [p.v eI, n.v eI, .int .i64 hd, .int .i64 tl], .agg [p'.v eI, n'.v eI, .int .i64 hd', .int .i64 tl']] h = some (.bool b, h) ∧ (b = true ↔ p.l = p'.l ∧ n.l = n'.l ∧ hd = hd' ∧ tl = tl') := fun p p' n n' hd hd' tl tl' h h1 h2 =>
  ⟨_, so_spec (vp := vp) T.a76 T.a107 p n p' n' hd tl hd' tl' h (by omega) (by omega), by simp only [Bool.and_eq_true, decide_eq_true_eq]⟩
 have st40 := fun x y sx h => s16_spec (vp := vp) T.a40 T.a41 T.a74 T.a75 (mq T.a76 rfl rfl) so76 x y sx h
 have sp21 := fun x y su se sr h => s18_spec (vp := vp) T.a21 (mq T.a40 rfl rfl) T.a41 st40 x y su se sr h
 have s9 : Wsp vp 9 := fun n n' e e' i i' x y su se sr h => s24_spec (vp := vp) T.a9 (mq T.a21 rfl rfl) sp21 n n' e e' i i' x y su se sr h
 have s10 : Wsp vp 10 := fun n n' e e' i i' x y su se sr h => vs_spec (vp := vp) T.a10 T.a22 T.a23 T.a24 st23 n n' e e' i i' x y su se sr h
 exact vt_law T.a3 (mq T.a4 rfl rfl) (mq T.a5 rfl rfl) (mq T.a6 rfl rfl) (mq T.a7 rfl rfl) (mq T.a8 rfl rfl) (mq T.a9 rfl rfl) (mq T.a10 rfl rfl) gr b5 b6 vw7 vw8 s9 s10 b s u tn h
end
end Go.VE.LB
