/- What the functions of the law ReportSees compute, on typed arguments (part 10). -/
import Derived.Test.YtjmlmaidimaloaaGreatDoorReportSeesA9
set_option linter.all false
namespace Go.VE.LB
set_option maxRecDepth 100000
set_option maxHeartbeats 4000000
section
open Go Go.VE Classical
structure Hg where
 k : K32
 lv : Int
 pt : Int
 t : Int
def eHg (x : Hg) : List V := [.int .u32 (x.k.a : Int), .int .i64 x.lv, .int .i64 x.pt, .int .u64 x.t]
theorem eHg_len (x : Hg) : (eHg x).length = 4 := rfl
theorem eHg_scal (x : Hg) : (eHg x).all VE.scal = true := rfl
theorem eHg_one (x : Hg) : (eHg x).all oneCell = true := rfl
def hgAt (t : Tab) (i : Int) : Hg := ⟨kAt t i, (bAt t i).lv, (bAt t i).pt, (bAt t i).t⟩
def hgs (t : Tab) : List Hg := (plcs t).map (hgAt t)
section
variable {vp : Nat → Option VFn}
theorem hold_spec {f t1 : Nat} (hf : vp f = some (B_report_holdOf t1)) (b : Bucket) (h : Heap) : callRes vp f [.agg (encB b)] h = some (.agg [.int .i64 b.lv, .int .i64 b.pt, .int .u64 b.t], h) := by
 refine res_pure hf rfl rfl (fun g hg => ?_)
 have hlo := hlo hg
 have z1 : ¬ g.nx + 1 < g.lo := by omega
 have fz : ∀ (H : Heap) (c : Nat), frz frzFuel H c false (.agg [.int .i64 b.lv, .int .i64 b.pt, .int .u64 b.t]) = some (.agg [.int .i64 b.lv, .int .i64 b.pt, .int .u64 b.t]) := fun _ _ => rfl
 unfold B_report_holdOf encB
 simp only [↓zp, zz, zy, zq, seval, reduceIte, reduceCtorEq, z1, fz]
def invHo (t : Tab) (A : List V) (o : Sl K32) (bx lo : Nat) (m : Nat) (s : Slots) (h : Heap) : Prop :=
 ∃ k, k ≤ o.l.length ∧ m = o.l.length - k ∧ s.at 1 = .ptr bx 0 ∧ s.at 19 = o.v eK ∧ s.at 20 = .int .i64 (o.l.length : Int) ∧ s.at 21 = .int .i64 (k : Int) ∧ h.get bx = .cells A .cl ∧ h.lo = lo ∧ lo ≤ h.nx ∧ bx < h.nx ∧ ∃ v, s.at 6 = v ∧ Acc eHg 4 h v (((plcs t).take k).map (hgAt t))
theorem holdings_spec {f c1 c2 c3 t1 t2 : Nat} (hf : vp f = some (B_report_holdings c1 c2 c3 t1)) (m1 : modeOf vp c1 = some 1) (m2 : modeOf vp c2 = some 1) (h3 : vp c3 = some (B_report_holdOf t2))
  (ks : ∀ t : Tab, TbOk t → ∀ h : Heap, ∃ c : Sl K32, callRes vp c1 [.agg (encT t)] h = some (.tup [c.v eK, .int .i64 0], h) ∧ c.l = keysL t)
  (gt : ∀ t : Tab, TbOk t → ∀ (i : Nat) (h1 : i < t.us.l.length) (h2 : i < t.ks.l.length) (h3 : i < t.bk.l.length), t.us.l[i] = true → ∀ h : Heap, callRes vp c2 [.agg (encT t), .int .u32 (t.ks.l[i].a : Int)] h = some (.tup [.agg (encB t.bk.l[i]), .int .i64 0], h))
  (t : Tab) (o : TbOk t) (h : Heap) : ∃ c : Sl Hg, callRes vp f [.agg (encT t)] h = some (.tup [c.v eHg, .int .i64 0], h) ∧ c.l = hgs t := by
 have m3 : modeOf vp c3 = some 1 := mo h3 rfl rfl
 suffices q : ∃ r, callRes vp f [.agg (encT t)] h = some (r, h) ∧ ∃ c : Sl Hg, r = .tup [c.v eHg, .int .i64 0] ∧ c.l = hgs t by
  obtain ⟨r, e, a, rfl, k⟩ := q
  exact ⟨a, e, k⟩
 refine res_pure_ex hf rfl rfl (fun g hg => ?_)
 have hlo := hlo hg
 have hge : g.lo = g.nx := by
  rcases hg with ⟨rfl, _⟩ | ⟨e1, e2, _⟩
  ·rfl
  ·omega
 unfold B_report_holdings
 obtain ⟨H, hH⟩ : ∃ H, g.new (.cells (encT t) .cl) = H := ⟨_, rfl⟩
 have ga : H.get g.nx = .cells (encT t) .cl := by rw [← hH]; simp only [↓zp, zz, zy, zq, seval, reduceIte, reduceCtorEq]
 have gl : H.lo = g.lo := by rw [← hH]; rfl
 have gn : H.nx = g.nx + 1 := by rw [← hH]; rfl
 obtain ⟨oc, er, ol⟩ := ks t o H
 have plen := o.plen
 have oln : oc.l.length = (plcs t).length := by rw [ol, keysL, List.length_map]
 simp only [encT] at hH ga er
 have gt := fun i h1 h2 h3 hu h => gt t o i h1 h2 h3 hu h
 simp only [encT] at gt
 simp only [encT]
 simp only [↓zp, zz, zy, zq, seval, reduceIte, reduceCtorEq, hH, ga, m1, er, not_true]
 generalize hS : Tr.set _ 21 _ = S
 have b1 : Slots.at S 1 = .ptr g.nx 0 := by rw [← hS]; simp only [zs, Nat.reduceEqDiff]
 have b6 : Slots.at S 6 = .nils := by rw [← hS]; simp only [zs, Nat.reduceEqDiff]
 have b19 : Slots.at S 19 = oc.v eK := by rw [← hS]; simp only [zs, Nat.reduceEqDiff]
 have b20 : Slots.at S 20 = .int .i64 (oc.l.length : Int) := by rw [← hS]; simp only [zs, Nat.reduceEqDiff]
 have b21 : Slots.at S 21 = .int .i64 ((0 : Nat) : Int) := by rw [← hS]; simp only [zs, Nat.reduceEqDiff]; rfl
 clear hS
 refine loop_ind (fun m s h => invHo t [.int .i64 t.cap, t.ks.v eK, t.bk.v encB, t.nx.v eI, t.us.v eO, .int .i64 t.fr, t.ix.v eC, t.op.v eI, t.on.v eI, .int .i64 t.hd, .int .i64 t.tl] oc g.nx g.lo m s h) ?_ oc.l.length ⟨0, by omega, by omega, b1, b19, b20, b21, ga, gl, by omega, by omega, .nils, b6, Acc.nil⟩
 clear b1 b6 b19 b20 b21 ga gl gn hH er
 rintro m s h ⟨k, hk, hm, c1', c19, c20, c21, hbh, hl, hn, hbn, v, c6, ac⟩
 by_cases hlt : k < oc.l.length
 case neg =>
  have hlt' : ¬ ((k : Int) < (oc.l.length : Int)) := by omega
  rw [List.take_of_length_le (by omega)] at ac
  obtain ⟨w, wl, wf⟩ := Acc.fz (base := g.nx) eHg_len eHg_scal ac (by omega)
  simp only [↓zp, zz, zy, zq, seval, reduceIte, reduceCtorEq, c1', c6, c19, c20, c21, hlt']
  exact ⟨_, fzTE (wf.le (by simp; omega)), w, rfl, by rw [wl, hgs]⟩
 have hlt' : (k : Int) < (oc.l.length : Int) := by omega
 have ws := wr_succ (k := k) (by omega)
 have hkp : k < (plcs t).length := by omega
 obtain ⟨i, h1, h2, h3', q1, q2, q3, q4⟩ := o.plc (x := (plcs t)[k]) (List.getElem_mem hkp)
 have ek : oc.l[k] = t.ks.l[i] := by
  have : oc.l[k] = kAt t (plcs t)[k] := by simp only [ol, keysL, List.getElem_map]
  rw [this, q3]
 have eh : hgAt t (plcs t)[k] = ⟨t.ks.l[i], t.bk.l[i].lv, t.bk.l[i].pt, t.bk.l[i].t⟩ := by unfold hgAt; rw [q3, q4]
 have ia1 : ∀ h, r_ia 1 (oc.v eK) (.int .i64 (k : Int)) h = some (.iptr (.int .u32 (t.ks.l[i].a : Int) :: (oc.l.drop (k + 1)).flatMap eK), h) := fun h => by rw [r_ia_v eK_len (by decide) hlt rfl, ek]; rfl
 have gt := fun h => gt i h1 h2 h3' q2 h
 have ho := fun h => hold_spec h3 t.bk.l[i] h
 obtain ⟨G, hG⟩ : ∃ G, (h.new (.cells [.int .i64 0, .int .i64 0, .int .i64 0, .int .i64 0, .int .i64 0, .int .u64 0] (.ct t1))).set h.nx (.cells (encB t.bk.l[i]) (.ct t1)) = G := ⟨_, rfl⟩
 have gG : G.get h.nx = .cells (encB t.bk.l[i]) (.ct t1) := by rw [← hG]; simp only [↓zp, zz, zy, zq, seval, reduceIte, reduceCtorEq]
 have nG : G.nx = h.nx + 1 := by rw [← hG]; rfl
 have lG : G.lo = h.lo := by rw [← hG]; rfl
 have aG : ∀ b, b < h.nx → G.get b = h.get b := fun b hb => by rw [← hG, Heap.get_set, if_neg (by omega), Heap.get_new, if_neg (by omega)]
 have ac := ac.keep (h' := G) lG (by omega) (fun b cs hb _ => aG b hb)
 obtain ⟨v', h', e3, e4, e5⟩ := push eHg_len eHg_one (bytes := 32) ac (by omega) (⟨t.ks.l[i], t.bk.l[i].lv, t.bk.l[i].pt, t.bk.l[i].t⟩ : Hg) (by simp; omega)
 have hbG : G.get g.nx = _ := (aG _ hbn).trans hbh
 have hb' : h'.get g.nx = _ := (e4.get _ (by omega) (by rw [hbG]; intro cs q; cases q)).trans hbG
 have z1 : ¬ h.nx < h.lo := by omega
 simp only [eHg] at e3
 simp only [encB] at hG gG ho gt
 simp only [↓zp, zz, zy, zq, seval, reduceIte, reduceCtorEq, c1', c6, c19, c20, c21, hbh, hlt', ia1, m2, gt, hG, gG, z1, not_true, m3, ho, e3, ws]
 have lo2 := e4.lo
 have nx2 := e4.nx
 refine ⟨_, by omega, k + 1, by omega, rfl, by simp only [zs, Nat.reduceEqDiff, c1'], by simp only [zs, Nat.reduceEqDiff, c19], by simp only [zs, Nat.reduceEqDiff, c20], by simp only [zs, Nat.reduceEqDiff], hb', by omega, by omega, by omega, v', by simp only [zs, Nat.reduceEqDiff], ?_⟩
 rw [List.take_succ_eq_append_getElem hkp, List.map_append, List.map_singleton, eh]
 exact e5
theorem holds_spec {f t1 : Nat} (hf : vp f = some (B_spigotref44_holds t1)) (b : Bucket) (h : Heap) : callRes vp f [.agg (encB b)] h = some (.agg [.int .i64 b.lv, .int .i64 b.pt, .int .u64 b.t], h) := by
 refine res_pure hf rfl rfl (fun g hg => ?_)
 have hlo := hlo hg
 have z1 : ¬ g.nx + 1 < g.lo := by omega
 have fz : ∀ (H : Heap) (c : Nat), frz frzFuel H c false (.agg [.int .i64 b.lv, .int .i64 b.pt, .int .u64 b.t]) = some (.agg [.int .i64 b.lv, .int .i64 b.pt, .int .u64 b.t]) := fun _ _ => rfl
 unfold B_spigotref44_holds encB
 simp only [↓zp, zz, zy, zq, seval, reduceIte, reduceCtorEq, z1, fz]
def invTb (t : Tab) (A : List V) (o : Sl K32) (bx lo : Nat) (m : Nat) (s : Slots) (h : Heap) : Prop :=
 ∃ k, k ≤ o.l.length ∧ m = o.l.length - k ∧ s.at 1 = .ptr bx 0 ∧ s.at 4 = o.v eK ∧ s.at 5 = .int .i64 (k : Int) ∧ h.get bx = .cells A .cl ∧ h.lo = lo ∧ lo ≤ h.nx ∧ bx < h.nx ∧ ∃ v, s.at 3 = v ∧ Acc eHg 4 h v (((plcs t).take k).map (hgAt t))
theorem rtable_spec {f c1 c2 c3 t1 t2 : Nat} (hf : vp f = some (B_spigotref44_table c1 c2 c3 t1)) (m1 : modeOf vp c1 = some 1) (m2 : modeOf vp c2 = some 1) (h3 : vp c3 = some (B_spigotref44_holds t2))
  (ks : ∀ t : Tab, TbOk t → ∀ h : Heap, ∃ c : Sl K32, callRes vp c1 [.agg (encT t)] h = some (c.v eK, h) ∧ c.l = keysL t)
  (gt : ∀ t : Tab, TbOk t → ∀ (i : Nat) (h1 : i < t.us.l.length) (h2 : i < t.ks.l.length) (h3 : i < t.bk.l.length), t.us.l[i] = true → ∀ h : Heap, callRes vp c2 [.agg (encT t), .int .u32 (t.ks.l[i].a : Int)] h = some (.tup [.agg (encB t.bk.l[i]), .int .i64 0], h))
  (t : Tab) (o : TbOk t) (h : Heap) : ∃ c : Sl Hg, callRes vp f [.agg (encT t)] h = some (c.v eHg, h) ∧ c.l = hgs t := by
 have m3 : modeOf vp c3 = some 1 := mo h3 rfl rfl
 suffices q : ∃ r, callRes vp f [.agg (encT t)] h = some (r, h) ∧ ∃ c : Sl Hg, r = c.v eHg ∧ c.l = hgs t by
  obtain ⟨r, e, a, rfl, k⟩ := q
  exact ⟨a, e, k⟩
 refine res_pure_ex hf rfl rfl (fun g hg => ?_)
 have hlo := hlo hg
 have hge : g.lo = g.nx := by
  rcases hg with ⟨rfl, _⟩ | ⟨e1, e2, _⟩
  ·rfl
  ·omega
 unfold B_spigotref44_table
 obtain ⟨H, hH⟩ : ∃ H, g.new (.cells (encT t) .cl) = H := ⟨_, rfl⟩
 have ga : H.get g.nx = .cells (encT t) .cl := by rw [← hH]; simp only [↓zp, zz, zy, zq, seval, reduceIte, reduceCtorEq]
 have gl : H.lo = g.lo := by rw [← hH]; rfl
 have gn : H.nx = g.nx + 1 := by rw [← hH]; rfl
 obtain ⟨oc, er, ol⟩ := ks t o H
 have plen := o.plen
 have oln : oc.l.length = (plcs t).length := by rw [ol, keysL, List.length_map]
 simp only [encT] at hH ga er
 have gt := fun i h1 h2 h3 hu h => gt t o i h1 h2 h3 hu h
 simp only [encT] at gt
 simp only [encT]
 simp only [↓zp, zz, zy, zq, seval, reduceIte, reduceCtorEq, hH, ga, m1, er]
 generalize hS : Tr.set _ 5 _ = S
 have b1 : Slots.at S 1 = .ptr g.nx 0 := by rw [← hS]; simp only [zs, Nat.reduceEqDiff]
 have b3 : Slots.at S 3 = .nils := by rw [← hS]; simp only [zs, Nat.reduceEqDiff]
 have b4 : Slots.at S 4 = oc.v eK := by rw [← hS]; simp only [zs, Nat.reduceEqDiff]
 have b5 : Slots.at S 5 = .int .i64 ((0 : Nat) : Int) := by rw [← hS]; simp only [zs, Nat.reduceEqDiff]; rfl
 clear hS
 refine loop_ind (fun m s h => invTb t [.int .i64 t.cap, t.ks.v eK, t.bk.v encB, t.nx.v eI, t.us.v eO, .int .i64 t.fr, t.ix.v eC, t.op.v eI, t.on.v eI, .int .i64 t.hd, .int .i64 t.tl] oc g.nx g.lo m s h) ?_ oc.l.length ⟨0, by omega, by omega, b1, b4, b5, ga, gl, by omega, by omega, .nils, b3, Acc.nil⟩
 clear b1 b3 b4 b5 ga gl gn hH er
 rintro m s h ⟨k, hk, hm, c1', c4, c5, hbh, hl, hn, hbn, v, c3', ac⟩
 by_cases hlt : k < oc.l.length
 case neg =>
  have hlt' : ¬ ((k : Int) < (oc.l.length : Int)) := by omega
  rw [List.take_of_length_le (by omega)] at ac
  obtain ⟨w, wl, wf⟩ := Acc.fz (base := g.nx) eHg_len eHg_scal ac (by omega)
  simp only [↓zp, zz, zy, zq, seval, reduceIte, reduceCtorEq, c1', c3', c4, c5, hlt']
  exact ⟨_, wf frzFuel (by show _ ≤ 1000000; simp; omega), w, rfl, by rw [wl, hgs]⟩
 have hlt' : (k : Int) < (oc.l.length : Int) := by omega
 have ws := wr_succ (k := k) (by omega)
 have hkp : k < (plcs t).length := by omega
 obtain ⟨i, h1, h2, h3', q1, q2, q3, q4⟩ := o.plc (x := (plcs t)[k]) (List.getElem_mem hkp)
 have ek : oc.l[k] = t.ks.l[i] := by
  have : oc.l[k] = kAt t (plcs t)[k] := by simp only [ol, keysL, List.getElem_map]
  rw [this, q3]
 have eh : hgAt t (plcs t)[k] = ⟨t.ks.l[i], t.bk.l[i].lv, t.bk.l[i].pt, t.bk.l[i].t⟩ := by unfold hgAt; rw [q3, q4]
 have ia1 : ∀ h, r_ia 1 (oc.v eK) (.int .i64 (k : Int)) h = some (.iptr (.int .u32 (t.ks.l[i].a : Int) :: (oc.l.drop (k + 1)).flatMap eK), h) := fun h => by rw [r_ia_v eK_len (by decide) hlt rfl, ek]; rfl
 have gt := fun h => gt i h1 h2 h3' q2 h
 have ho := fun h => holds_spec h3 t.bk.l[i] h
 obtain ⟨G, hG⟩ : ∃ G, (h.new (.cells [.int .i64 0, .int .i64 0, .int .i64 0, .int .i64 0, .int .i64 0, .int .u64 0] (.ct t1))).set h.nx (.cells (encB t.bk.l[i]) (.ct t1)) = G := ⟨_, rfl⟩
 have gG : G.get h.nx = .cells (encB t.bk.l[i]) (.ct t1) := by rw [← hG]; simp only [↓zp, zz, zy, zq, seval, reduceIte, reduceCtorEq]
 have nG : G.nx = h.nx + 1 := by rw [← hG]; rfl
 have lG : G.lo = h.lo := by rw [← hG]; rfl
 have aG : ∀ b, b < h.nx → G.get b = h.get b := fun b hb => by rw [← hG, Heap.get_set, if_neg (by omega), Heap.get_new, if_neg (by omega)]
 have ac := ac.keep (h' := G) lG (by omega) (fun b cs hb _ => aG b hb)
 obtain ⟨v', h', e3, e4, e5⟩ := push eHg_len eHg_one (bytes := 32) ac (by omega) (⟨t.ks.l[i], t.bk.l[i].lv, t.bk.l[i].pt, t.bk.l[i].t⟩ : Hg) (by simp; omega)
 have hbG : G.get g.nx = _ := (aG _ hbn).trans hbh
 have hb' : h'.get g.nx = _ := (e4.get _ (by omega) (by rw [hbG]; intro cs q; cases q)).trans hbG
 have z1 : ¬ h.nx < h.lo := by omega
 simp only [eHg] at e3
 simp only [encB] at hG gG ho gt
 simp only [↓zp, zz, zy, zq, seval, reduceIte, reduceCtorEq, c1', c3', c4, c5, hbh, hlt', ia1, m2, gt, hG, gG, z1, m3, ho, e3, ws]
 have lo2 := e4.lo
 have nx2 := e4.nx
 refine ⟨_, by omega, k + 1, by omega, rfl, by simp only [zs, Nat.reduceEqDiff, c1'], by simp only [zs, Nat.reduceEqDiff, c4], by simp only [zs, Nat.reduceEqDiff], hb', by omega, by omega, by omega, v', by simp only [zs, Nat.reduceEqDiff], ?_⟩
 rw [List.take_succ_eq_append_getElem hkp, List.map_append, List.map_singleton, eh]
 exact e5
end
end
section
open Go Go.VE Classical
def zX : List V := [.int .u32 0, .int .u32 0, .int .u64 0, .bool false, .int .i64 0, .int .i64 0, .int .i64 0, .int .i64 0, .int .i64 0, .int .i64 0, .int .i64 0, .int .i64 0, .int .i64 0, .int .i64 0, .int .i64 0, .int .i64 0, .int .i64 0, .int .u64 0, .nils, .nils, .nils, .int .u64 0, .int .u64 0, .int .u64 0]
def encX0 (t : Nat) (ep now : Int) : List V := [.int .u32 t, .int .u32 ep, .int .u64 now, .bool false, .int .i64 0, .int .i64 0, .int .i64 0, .int .i64 0, .int .i64 0, .int .i64 0, .int .i64 0, .int .i64 0, .int .i64 0, .int .i64 0, .int .i64 0, .int .i64 0, .int .i64 0, .int .u64 0, .nils, .nils, .nils, .int .u64 0, .int .u64 0, .int .u64 0]
def encX (t : Nat) (ep now : Int) (p : Part) (us en rv : V) : List V := [.int .u32 t, .int .u32 ep, .int .u64 now, .bool true, .int .i64 p.l0.b, .int .i64 p.l0.r, .int .i64 p.l0.p, .int .i64 p.l1.b, .int .i64 p.l1.r, .int .i64 p.l1.p, .int .i64 p.l2.b, .int .i64 p.l2.r, .int .i64 p.l2.p,
 .int .i64 p.us.cap, .int .i64 p.en.cap, .int .i64 p.own.lv, .int .i64 p.own.pt, .int .u64 p.own.t, us, en, rv, .int .u64 p.n0, .int .u64 p.n1, .int .u64 p.n2]
theorem fzTA {h : Heap} {base : Nat} {l l' : List V} {k : IntKind} {x : Int} (f : FzA h base l l') (hl : l.length ≤ 1000) : frz frzFuel h base false (.tup [.agg l, .int k x]) = some (.tup [.agg l', .int k x]) := by
 show frz (999999 + 1) h base false (.tup _) = _
 have e : frz (999998) h base false (.agg l) = some (.agg l') := by
  show frz (999997 + 1) h base false (.agg l) = _
  rw [frz, f.fz 999997 (by omega), Option.map_some]
 have e2 : frzs 999999 h base false [.agg l, .int k x] = some [.agg l', .int k x] := by
  rw [frzs, e]
  rfl
 rw [frz, e2, Option.map_some]
theorem fzX {h : Heap} {base : Nat} {t : Nat} {ep now : Int} {p : Part} {us en rv us' en' rv' : V} (f1 : FzV h base 800000 us us') (f2 : FzV h base 800000 en en') (f3 : FzV h base 800000 rv rv') : FzA h base (encX t ep now p us en rv) (encX t ep now p us' en' rv') := by
 unfold encX
 exact ⟨.s rfl, .s rfl, .s rfl, .s rfl, .s rfl, .s rfl, .s rfl, .s rfl, .s rfl, .s rfl, .s rfl, .s rfl, .s rfl, .s rfl, .s rfl, .s rfl, .s rfl, .s rfl, f1, f2, f3, .s rfl, .s rfl, .s rfl, trivial⟩
def ShownIs (s : Srv) (t : Nat) (r : V) : Prop :=
 (¬ SvOk s ∧ r = .tup [.agg zX, .int .i64 8]) ∨
 (SvOk s ∧ 16 ≤ t ∧ r = .tup [.agg zX, .int .i64 2]) ∨
 (SvOk s ∧ t < 16 ∧ fidx (isT t) s.ps.l < 0 ∧ ∃ h : t < s.ep.length, r = .tup [.agg (encX0 t s.ep[t] s.now), .int .i64 0]) ∨
 (SvOk s ∧ t < 16 ∧ ∃ k, ∃ hk : k < s.ps.l.length, fidx (isT t) s.ps.l = (k : Int) ∧ ∃ h : t < s.ep.length, ∃ (us en : Sl Hg) (rv : Sl Int), us.l = hgs s.ps.l[k].us ∧ en.l = hgs s.ps.l[k].en ∧ rv.l = s.ps.l[k].rev.l ∧ r = .tup [.agg (encX t s.ep[t] s.now s.ps.l[k] (us.v eHg) (en.v eHg) (rv.v e32)), .int .i64 0])
theorem TEq.hgs {x y : Tab} (e : TEq x y) : hgs y = hgs x := by
 obtain ⟨e1, e2, e3, e4, e5, e6, e7, e8, e9, e10, e11⟩ := e
 have h1 : plcs y = plcs x := by unfold plcs; rw [e9, e10]
 have h2 : hgAt y = hgAt x := by funext i; unfold hgAt kAt bAt; rw [e2, e3]
 unfold LB.hgs
 rw [h1, h2]
theorem PEq.encX {x y : Part} (e : PEq x y) (t : Nat) (ep now : Int) (us en rv : V) : encX t ep now y us en rv = encX t ep now x us en rv := by
 obtain ⟨e1, e2, e3, e4, e5, e6, e7, e8, e9, e10, e11⟩ := e
 unfold LB.encX
 rw [e2, e3, e4, e5, e6.cap, e7.cap, e9, e10, e11]
section
variable {vp : Nat → Option VFn}
theorem of_spec {f c1 c2 c3 c4 t1 t2 t3 t4 : Nat} (hf : vp f = some (B_report_Of c1 c2 c3 c4 t1 t2 t3)) (m1 : modeOf vp c1 = some 1) (h2 : vp c2 = some (B_report_holdOf t4)) (h3 : vp c3 = some (cloneBody 1 4)) (m4 : modeOf vp c4 = some 1)
  (vw : ∀ (s : Srv) (t : Nat) (h : Heap), ∃ r, callRes vp c1 [.agg (encS s), .int .u32 (t : Int)] h = some (r, h) ∧ ViewIs s t r)
  (ho : ∀ t : Tab, TbOk t → ∀ h : Heap, ∃ c : Sl Hg, callRes vp c4 [.agg (encT t)] h = some (.tup [c.v eHg, .int .i64 0], h) ∧ c.l = hgs t)
  (s : Srv) (t : Nat) (h : Heap) : ∃ r, callRes vp f [.agg (encS s), .int .u32 (t : Int)] h = some (r, h) ∧ ShownIs s t r := by
 have m2 : modeOf vp c2 = some 1 := mo h2 rfl rfl
 have m3 : modeOf vp c3 = some 2 := mo h3 rfl rfl
 refine res_pure_ex hf rfl rfl (fun g hg => ?_)
 have hlo := hlo hg
 unfold B_report_Of
 obtain ⟨L, hL⟩ : ∃ L, encS1 s = L := ⟨_, rfl⟩
 have l1 : L.length = 49 := by rw [← hL, encS1_len]
 have l4 : takeN 49 L = some L := by rw [← hL, encS1_take]
 obtain ⟨H, hH⟩ : ∃ H, (g.new (.cells (encS s) .cl)).new (.cells zX (.ct t1)) = H := ⟨_, rfl⟩
 have ga : H.get g.nx = .cells (encS s) .cl := by rw [← hH]; simp only [↓zp, zz, zy, zq, seval, reduceIte, reduceCtorEq]
 have gb : H.get (g.nx + 1) = .cells zX (.ct t1) := by rw [← hH]; simp only [↓zp, zz, zy, zq, seval, reduceIte, reduceCtorEq]
 have gl : H.lo = g.lo := by rw [← hH]; rfl
 have gn : H.nx = g.nx + 2 := by rw [← hH]; rfl
 obtain ⟨r, er, hv⟩ := vw s t H
 unfold encS at hH ga er ⊢
 rw [hL] at hH ga er ⊢
 have z1 : ¬ g.nx + 1 < g.lo := by omega
 have z2 : ¬ H.nx < g.lo := by omega
 have e1 : ¬ g.nx = g.nx + 2 := by omega
 have e2 : ¬ g.nx + 1 = g.nx + 2 := by omega
 have fz1 : ∀ (H : Heap) (b : Nat) (x : Int), frz frzFuel H b false (.tup [.agg zX, .int .i64 x]) = some (.tup [.agg zX, .int .i64 x]) := fun H b x => frzTA1 rfl (by simp [zX])
 have z3 : ¬ g.nx + 2 < g.lo := by omega
 have z4 : ¬ g.nx + 3 < g.lo := by omega
 have z5 : ¬ g.nx + 4 < g.lo := by omega
 rcases hv with ⟨q1, rfl⟩ | ⟨q1, q2, rfl⟩ | ⟨q1, q2, q3, ht, rfl⟩ | ⟨q1, q2, k, hk, q3, ht, y, pe, rfl⟩
 ·simp only [encW, zP, zX] at er fz1 gb hH
  simp only [↓zp, zz, zy, zq, seval, reduceIte, reduceCtorEq, l1, l4, hH, ga, gb, gl, gn, m1, er, z1, z2, z3, e1, e2, not_false_eq_true, fz1]
  exact .inl ⟨q1, rfl⟩
 ·simp only [encW, zP, zX] at er fz1 gb hH
  simp only [↓zp, zz, zy, zq, seval, reduceIte, reduceCtorEq, l1, l4, hH, ga, gb, gl, gn, m1, er, z1, z2, z3, e1, e2, not_false_eq_true, fz1]
  exact .inr (.inl ⟨q1, q2, rfl⟩)
 ·have fz2 : ∀ (H : Heap) (b : Nat), frz frzFuel H b false (.tup [.agg (encX0 t s.ep[t] s.now), .int .i64 0]) = some (.tup [.agg (encX0 t s.ep[t] s.now), .int .i64 0]) := fun H b => frzTA1 rfl (by simp [encX0])
  simp only [encX0] at fz2
  simp only [encW, zP, zX] at er gb hH
  simp only [↓zp, zz, zy, zq, seval, reduceIte, reduceCtorEq, l1, l4, hH, ga, gb, gl, gn, m1, er, z1, z2, z3, z4, e1, e2, not_true, fz2]
  exact .inr (.inr (.inl ⟨q1, q2, q3, ht, rfl⟩))
 have yo : PtOk y := pe.ok (q1.ok.2.ok k hk)
 simp only [encW, zP, zX, encP] at er gb hH
 have oh := fun h => hold_spec h2 y.own h
 simp only [encB] at oh
 simp only [↓zp, zz, zy, zq, seval, reduceIte, reduceCtorEq, l1, l4, hH, ga, gb, gl, gn, m1, er, z1, z2, z3, z4, z5, e1, e2, not_true, m2, oh, apPP]
 generalize hW : Heap.set _ (g.nx + 3) _ = W
 have w1 : W.get (g.nx + 1) = .cells zX (.ct t1) := by rw [← hW]; simp only [↓zp, zz, zy, zq, seval, reduceIte, reduceCtorEq, gn, gb, zX]
 have w3 : W.get (g.nx + 3) = .cells (encX t s.ep[t] s.now y .nils .nils .nils |>.take 21 |>.append [.int .u64 0, .int .u64 0, .int .u64 0]) (.ct t1) := by rw [← hW]; simp only [↓zp, zz, zy, zq, seval, reduceIte, reduceCtorEq, encX, List.take_succ_cons, List.take_zero]; rfl
 have w4 : W.get (g.nx + 4) = .cells (encP y) (.ct t3) := by rw [← hW]; simp only [↓zp, zz, zy, zq, seval, reduceIte, reduceCtorEq, gn, encP]
 have wl : W.lo = g.lo := by rw [← hW]; exact gl
 have wn : W.nx = g.nx + 5 := by rw [← hW]; simp only [↓zp, zz, zy, zq, seval, reduceIte, reduceCtorEq, gn]
 clear hW
 obtain ⟨v1, H1, e3, o1, k1, s1, p1⟩ := cln_o h3 e32_len (by decide) y.rev W (by have := yo.shr; omega) (b0 := g.nx + 5) (by omega)
 have x1 := k1.nx
 have w1 : H1.get (g.nx + 1) = .cells zX (.ct t1) := by rw [k1.get _ (by omega), w1]
 have w3 := (k1.get (g.nx + 3) (by omega)).trans w3
 have w4 : H1.get (g.nx + 4) = .cells (encP y) (.ct t3) := by rw [k1.get _ (by omega), w4]
 have wl : H1.lo = g.lo := k1.lo.trans wl
 have w3' : H1.get (g.nx + 3) = .cells [.int .u32 t, .int .u32 s.ep[t], .int .u64 s.now, .bool true, .int .i64 y.l0.b, .int .i64 y.l0.r, .int .i64 y.l0.p, .int .i64 y.l1.b, .int .i64 y.l1.r, .int .i64 y.l1.p, .int .i64 y.l2.b, .int .i64 y.l2.r, .int .i64 y.l2.p,
  .int .i64 y.us.cap, .int .i64 y.en.cap, .int .i64 y.own.lv, .int .i64 y.own.pt, .int .u64 y.own.t, .nils, .nils, .nils, .int .u64 0, .int .u64 0, .int .u64 0] (.ct t1) := w3
 clear w3
 simp only [encP, zX] at w4 w1
 simp only [↓zp, zz, zy, zq, seval, reduceIte, reduceCtorEq, z4, m3, e3, w3', w4, wl, s1, p1, apPP]
 generalize hW : Heap.set (Heap.set H1 (g.nx + 3) _) (g.nx + 3) _ = W2
 have v1' : W2.get (g.nx + 1) = .cells zX (.ct t1) := by rw [← hW]; simp only [↓zp, zz, zy, zq, seval, reduceIte, reduceCtorEq, w1, zX]
 have v3 : W2.get (g.nx + 3) = .cells (encX t s.ep[t] s.now y .nils .nils v1) (.ct t1) := by rw [← hW]; simp only [↓zp, zz, zy, zq, seval, reduceIte, reduceCtorEq, encX]
 have v4 : W2.get (g.nx + 4) = .cells (encP y) (.ct t3) := by rw [← hW]; simp only [↓zp, zz, zy, zq, seval, reduceIte, reduceCtorEq, w4, encP]
 have vl : W2.lo = g.lo := by rw [← hW]; exact wl
 have o1 : Lv e32 1 (g.nx + 5) W2 v1 y.rev.l := by rw [← hW]; exact (o1.set (by omega)).set (by omega)
 clear hW
 obtain ⟨us, e4, d4⟩ := ho y.us yo.us W2
 obtain ⟨en, e5, d5⟩ := ho y.en yo.en (W2.set (g.nx + 3) (.cells (encX t s.ep[t] s.now y (us.v eHg) .nils v1) (.ct t1)))
 simp only [encP, zX, encX, encT] at v1' v3 v4 e4 e5
 simp only [↓zp, zz, zy, zq, seval, reduceIte, reduceCtorEq, z1, z4, v3, v4, vl, m4, e4, e5, not_true, v1', s1, p1]
 generalize hW : Heap.set (Heap.set (Heap.set W2 _ _) _ _) _ _ = W3
 obtain ⟨c, d6, f1⟩ := Lv.fz (base := g.nx) (by rw [← hW]; exact ((o1.set (by omega)).set (by omega)).set (by omega)) e32_len e32_scal (by omega) (by have := yo.shr; omega) (h := W3) (v := v1)
 have ff := fzTA (k := .i64) (x := 0) (fzX (h := W3) (base := g.nx) (t := t) (ep := s.ep[t]) (now := s.now) (p := y) (FzV.s (v := us.v eHg) sv2) (FzV.s (v := en.v eHg) sv2) f1) (by simp [encX])
 refine ⟨_, ff, .inr (.inr (.inr ⟨q1, q2, k, hk, q3, ht, us, en, c, by rw [d4, pe.us.hgs], by rw [d5, pe.en.hgs], by rw [d6, pe.rev], by rw [pe.encX]⟩))⟩
end
end
section
open Go Go.VE Classical
def encXs (t : Nat) (ep now : Int) (l c o : List V) (us en rv : V) : List V := .int .u32 t :: .int .u32 ep :: .int .u64 now :: .bool true :: (l ++ (c ++ (o ++ [us, en, rv, .int .u64 0, .int .u64 0, .int .u64 0])))
def z9 : List V := [.int .i64 0, .int .i64 0, .int .i64 0, .int .i64 0, .int .i64 0, .int .i64 0, .int .i64 0, .int .i64 0, .int .i64 0]
def z2' : List V := [.int .i64 0, .int .i64 0]
def z3' : List V := [.int .i64 0, .int .i64 0, .int .u64 0]
section
variable {vp : Nat → Option VFn}
theorem ofR_spec {f c1 c2 c3 t1 t2 t3 t4 : Nat} (hf : vp f = some (B_spigotref44_Of c1 c2 c3 t1 t2 t3)) (m1 : modeOf vp c1 = some 1) (h2 : vp c2 = some (B_spigotref44_holds t4)) (m3 : modeOf vp c3 = some 1)
  (vw : ∀ (s : Srv) (t : Nat) (h : Heap), ∃ r, callRes vp c1 [.agg (encS s), .int .u32 (t : Int)] h = some (r, h) ∧ ViewIs s t r)
  (ho : ∀ t : Tab, TbOk t → ∀ h : Heap, ∃ c : Sl Hg, callRes vp c3 [.agg (encT t)] h = some (c.v eHg, h) ∧ c.l = hgs t)
  (s : Srv) (t : Nat) (h : Heap) : ∃ r, callRes vp f [.agg (encS s), .int .u32 (t : Int)] h = some (r, h) ∧ ShownIs s t r := by
 have m2 : modeOf vp c2 = some 1 := mo h2 rfl rfl
 refine res_pure_ex hf rfl rfl (fun g hg => ?_)
 have hlo := hlo hg
 unfold B_spigotref44_Of
 obtain ⟨L, hL⟩ : ∃ L, encS1 s = L := ⟨_, rfl⟩
 have l1 : L.length = 49 := by rw [← hL, encS1_len]
 have l4 : takeN 49 L = some L := by rw [← hL, encS1_take]
 obtain ⟨H, hH⟩ : ∃ H, (g.new (.cells (encS s) .cl)).new (.cells zX (.ct t1)) = H := ⟨_, rfl⟩
 have ga : H.get g.nx = .cells (encS s) .cl := by rw [← hH]; simp only [↓zp, zz, zy, zq, seval, reduceIte, reduceCtorEq]
 have gb : H.get (g.nx + 1) = .cells zX (.ct t1) := by rw [← hH]; simp only [↓zp, zz, zy, zq, seval, reduceIte, reduceCtorEq]
 have gl : H.lo = g.lo := by rw [← hH]; rfl
 have gn : H.nx = g.nx + 2 := by rw [← hH]; rfl
 obtain ⟨r, er, hv⟩ := vw s t H
 unfold encS at hH ga er ⊢
 rw [hL] at hH ga er ⊢
 have z1 : ¬ g.nx + 1 < g.lo := by omega
 have z2 : ¬ H.nx < g.lo := by omega
 have e1 : ¬ g.nx = g.nx + 2 := by omega
 have e2 : ¬ g.nx + 1 = g.nx + 2 := by omega
 have fz1 : ∀ (H : Heap) (b : Nat) (x : Int), frz frzFuel H b false (.tup [.agg zX, .int .i64 x]) = some (.tup [.agg zX, .int .i64 x]) := fun H b x => frzTA1 rfl (by simp [zX])
 have z3 : ¬ g.nx + 2 < g.lo := by omega
 have z4 : ¬ g.nx + 3 < g.lo := by omega
 have z5 : ¬ g.nx + 4 < g.lo := by omega
 rcases hv with ⟨q1, rfl⟩ | ⟨q1, q2, rfl⟩ | ⟨q1, q2, q3, ht, rfl⟩ | ⟨q1, q2, k, hk, q3, ht, y, pe, rfl⟩
 ·simp only [encW, zP, zX] at er fz1 gb hH
  simp only [↓zp, zz, zy, zq, seval, reduceIte, reduceCtorEq, l1, l4, hH, ga, gb, gl, gn, m1, er, z1, z2, z3, e1, e2, not_false_eq_true, fz1]
  exact .inl ⟨q1, rfl⟩
 ·simp only [encW, zP, zX] at er fz1 gb hH
  simp only [↓zp, zz, zy, zq, seval, reduceIte, reduceCtorEq, l1, l4, hH, ga, gb, gl, gn, m1, er, z1, z2, z3, e1, e2, not_false_eq_true, fz1]
  exact .inr (.inl ⟨q1, q2, rfl⟩)
 ·have fz2 : ∀ (H : Heap) (b : Nat), frz frzFuel H b false (.tup [.agg (encX0 t s.ep[t] s.now), .int .i64 0]) = some (.tup [.agg (encX0 t s.ep[t] s.now), .int .i64 0]) := fun H b => frzTA1 rfl (by simp [encX0])
  simp only [encX0] at fz2
  simp only [encW, zP, zX] at er gb hH
  simp only [↓zp, zz, zy, zq, seval, reduceIte, reduceCtorEq, l1, l4, hH, ga, gb, gl, gn, m1, er, z1, z2, z3, z4, e1, e2, not_true, fz2]
  exact .inr (.inr (.inl ⟨q1, q2, q3, ht, rfl⟩))
 have yo : PtOk y := pe.ok (q1.ok.2.ok k hk)
 simp only [encW, zP, zX, encP] at er gb hH
 have oh := fun h => holds_spec h2 y.own h
 simp only [encB] at oh
 obtain ⟨W, hW⟩ : ∃ W, ((((((((H.new (.cells (encW 0 0 false zP) (.ct t2))).set (g.nx + 2) (.cells (encW s.now s.ep[t] true (encP y)) (.ct t2))).new (.cells zX (.ct t1))).set (g.nx + 3) (.cells (encXs t s.ep[t] s.now z9 z2' z3' .nils .nils .nils) (.ct t1))).new (.cells zP (.ct t3))).set (g.nx + 4) (.cells (encP y) (.ct t3))).set (g.nx + 3) (.cells (encXs t s.ep[t] s.now (lim3 y.l0 y.l1 y.l2) z2' z3' .nils .nils .nils) (.ct t1))).set (g.nx + 3) (.cells (encXs t s.ep[t] s.now (lim3 y.l0 y.l1 y.l2) [.int .i64 y.us.cap, .int .i64 y.en.cap] z3' .nils .nils .nils) (.ct t1))).set (g.nx + 3) (.cells (encXs t s.ep[t] s.now (lim3 y.l0 y.l1 y.l2) [.int .i64 y.us.cap, .int .i64 y.en.cap] [.int .i64 y.own.lv, .int .i64 y.own.pt, .int .u64 y.own.t] .nils .nils .nils) (.ct t1)) = W := ⟨_, rfl⟩
 obtain ⟨X, hX⟩ : ∃ X : V → V → V → List V, (fun us en rv => encXs t s.ep[t] s.now (lim3 y.l0 y.l1 y.l2) [.int .i64 y.us.cap, .int .i64 y.en.cap] [.int .i64 y.own.lv, .int .i64 y.own.pt, .int .u64 y.own.t] us en rv) = X := ⟨_, rfl⟩
 have w1 : W.get (g.nx + 1) = .cells zX (.ct t1) := by rw [← hW]; simp only [↓zp, zz, zy, zq, seval, reduceIte, reduceCtorEq, gn, gb, zX]
 have w3 : W.get (g.nx + 3) = .cells (X .nils .nils .nils) (.ct t1) := by rw [← hW, ← hX]; simp only [↓zp, zz, zy, zq, seval, reduceIte, reduceCtorEq]
 have w4 : W.get (g.nx + 4) = .cells (encP y) (.ct t3) := by rw [← hW]; simp only [↓zp, zz, zy, zq, seval, reduceIte, reduceCtorEq, gn, encP]
 have wl : W.lo = g.lo := by rw [← hW]; exact gl
 have wn : W.nx = g.nx + 5 := by rw [← hW]; simp only [↓zp, zz, zy, zq, seval, reduceIte, reduceCtorEq, gn]
 obtain ⟨us, e4, d4⟩ := ho y.us yo.us W
 obtain ⟨en, e5, d5⟩ := ho y.en yo.en W
 obtain ⟨v1, H1, e6, o1, k1, s1, p1⟩ := app_o (bytes := 4) (b0 := g.nx + 5) e32_len (c := y.rev) (b := g.nx + 5) (h := ((W.set (g.nx + 3) (.cells (X (us.v eHg) .nils .nils) (.ct t1))).set (g.nx + 3) (.cells (X (us.v eHg) (en.v eHg) .nils) (.ct t1))).new (.cells [] .cl)) (by rw [Heap.get_new, if_pos (by show g.nx + 5 = W.nx; omega)]) (by show g.nx + 5 < W.nx + 1; omega) (by omega) (by have := yo.shr; omega)
 have a1 : H1.get (g.nx + 1) = .cells zX (.ct t1) := by rw [k1.get _ (by show g.nx + 1 < W.nx + 1; omega), Heap.get_new, if_neg (by show ¬ _ = W.nx; omega), Heap.get_set, if_neg (by omega), Heap.get_set, if_neg (by omega), w1]
 have a3 : H1.get (g.nx + 3) = .cells (X (us.v eHg) (en.v eHg) .nils) (.ct t1) := by rw [k1.get _ (by show g.nx + 3 < W.nx + 1; omega), Heap.get_new, if_neg (by show ¬ _ = W.nx; omega), Heap.get_set, if_pos rfl]
 have a4 : H1.get (g.nx + 4) = .cells (encP y) (.ct t3) := by rw [k1.get _ (by show g.nx + 4 < W.nx + 1; omega), Heap.get_new, if_neg (by show ¬ _ = W.nx; omega), Heap.get_set, if_neg (by omega), Heap.get_set, if_neg (by omega), w4]
 have al : H1.lo = g.lo := k1.lo.trans wl
 subst hX
 simp only [encP, encT, encW, encXs, zP, zX, z9, z2', z3', lim3, List.cons_append, List.nil_append] at w3 w4 e4 e5 e6 a1 a3 a4 hW
 have y1 : ¬ g.nx + 3 = g.nx + 5 := by omega
 have y2 : ¬ g.nx + 4 = g.nx + 5 := by omega
 simp only [↓zp, zz, zy, zq, seval, reduceIte, reduceCtorEq, l1, l4, hH, ga, gb, gl, gn, m1, er, z1, z2, z3, z4, z5, e1, e2, not_true, m2, oh, apPP, apSP, apPS, hW, w3, w4, wl, wn, m3, e4, e5, e6, a1, a3, a4, al, s1, p1]
 generalize hZ : Heap.set (Heap.set (Heap.set H1 _ _) _ _) _ _ = W3
 obtain ⟨c, d6, f1⟩ := Lv.fz (base := g.nx) (by rw [← hZ]; exact ((o1.set (by omega)).set (by omega)).set (by omega)) e32_len e32_scal (by omega) (by have := yo.shr; omega) (h := W3) (v := v1)
 have ff := fzTA (k := .i64) (x := 0) (fzX (h := W3) (base := g.nx) (t := t) (ep := s.ep[t]) (now := s.now) (p := y) (FzV.s (v := us.v eHg) sv2) (FzV.s (v := en.v eHg) sv2) f1) (by simp [encX])
 refine ⟨_, ff, .inr (.inr (.inr ⟨q1, q2, k, hk, q3, ht, us, en, c, by rw [d4, pe.us.hgs], by rw [d5, pe.en.hgs], by rw [d6, pe.rev], by rw [pe.encX]⟩))⟩
end
end
section
open Go Go.VE Classical
def encG (t ep now : Int) (is : Bool) (l0 l1 l2 : Limit) (c0 c1 lv pt tt : Int) (us en : Sl Hg) (rv : Sl Int) (n0 n1 n2 : Int) : List V := [.int .u32 t, .int .u32 ep, .int .u64 now, .bool is, .int .i64 l0.b, .int .i64 l0.r, .int .i64 l0.p, .int .i64 l1.b, .int .i64 l1.r, .int .i64 l1.p, .int .i64 l2.b, .int .i64 l2.r, .int .i64 l2.p,
 .int .i64 c0, .int .i64 c1, .int .i64 lv, .int .i64 pt, .int .u64 tt, us.v eHg, en.v eHg, rv.v e32, .int .u64 n0, .int .u64 n1, .int .u64 n2]
theorem eq3m {a b c d e f : Int} {neg : Bool} {h : Heap} : r_eqa neg [0, 0, 0] (.agg [.int .i64 a, .int .i64 b, .int .u64 c]) (.agg [.int .i64 d, .int .i64 e, .int .u64 f]) h = some (.bool (bif neg then !decide (a = d ∧ b = e ∧ c = f) else decide (a = d ∧ b = e ∧ c = f)), h) :=
 eqaInts [(.i64, a, d), (.i64, b, e), (.u64, c, f)] (P := a = d ∧ b = e ∧ c = f) rfl rfl rfl (by simp)
theorem eq4m {a b c d e f g g' : Int} {neg : Bool} {h : Heap} : r_eqa neg [0, 0, 0, 0] (.agg [.int .u32 a, .int .i64 b, .int .i64 c, .int .u64 d]) (.agg [.int .u32 e, .int .i64 f, .int .i64 g, .int .u64 g']) h = some (.bool (bif neg then !decide (a = e ∧ b = f ∧ c = g ∧ d = g') else decide (a = e ∧ b = f ∧ c = g ∧ d = g')), h) :=
 eqaInts [(.u32, a, e), (.i64, b, f), (.i64, c, g), (.u64, d, g')] (P := a = e ∧ b = f ∧ c = g ∧ d = g') rfl rfl rfl (by simp)
section
variable {vp : Nat → Option VFn}
def invSH (a b : Sl Hg) (H : Heap) (m : Nat) (s : Slots) (h : Heap) : Prop :=
 ∃ k, k ≤ a.l.length ∧ m = a.l.length - k ∧ s.at 0 = a.v eHg ∧ s.at 1 = b.v eHg ∧ s.at 5 = .int .i64 (k : Int) ∧ h = H
theorem sameHg_spec {f : Nat} (hf : vp f = some B_spigotref44_sameHoldings) (a b : Sl Hg) (e : a.l = b.l) (hn : a.l.length ≤ 100000) (h : Heap) : callRes vp f [a.v eHg, b.v eHg] h = some (.bool true, h) := by
 refine res_pure hf rfl rfl (fun g hg => ?_)
 unfold B_spigotref44_sameHoldings
 have eln : b.l.length = a.l.length := by rw [e]
 simp only [↓zp, zz, zy, zq, seval, reduceIte, reduceCtorEq, eln, not_true]
 generalize hS : Tr.set _ 5 _ = S
 have b0 : Slots.at S 0 = a.v eHg := by rw [← hS]; simp only [zs, Nat.reduceEqDiff]
 have b1 : Slots.at S 1 = b.v eHg := by rw [← hS]; simp only [zs, Nat.reduceEqDiff]
 have b5 : Slots.at S 5 = .int .i64 ((0 : Nat) : Int) := by rw [← hS]; simp only [zs, Nat.reduceEqDiff]; rfl
 clear hS
 refine loop_ind (fun m s h => invSH a b g m s h) ?_ a.l.length ⟨0, by omega, by omega, b0, b1, b5, rfl⟩
 clear b0 b1 b5
 rintro m s h ⟨k, hk, hm, c0, c1, c5, rfl⟩
 by_cases hlt : k < a.l.length
 case neg =>
  have hlt' : ¬ ((k : Int) < (a.l.length : Int)) := by omega
  simp only [↓zp, zz, zy, zq, seval, reduceIte, reduceCtorEq, c0, c1, c5, hlt', frzB]
  done
 have hlt' : (k : Int) < (a.l.length : Int) := by omega
 have ws := wr_succ (k := k) (by omega)
 have hb : k < b.l.length := by omega
 have ek : b.l[k] = a.l[k] := by simp only [e]
 have ia1 := fun h => r_ia_v (h := h) (c := a) eHg_len (by decide) hlt rfl
 have ia2 : ∀ h, r_ia 4 (b.v eHg) (.int .i64 (k : Int)) h = some (.iptr (eHg a.l[k] ++ (b.l.drop (k + 1)).flatMap eHg), h) := fun h => by rw [r_ia_v eHg_len (by decide) hb rfl, ek]
 simp only [eHg] at ia1 ia2
 simp only [↓zp, zz, zy, zq, seval, reduceIte, reduceCtorEq, c0, c1, c5, hlt', ia1, ia2, eq4m, and_self, ws]
 exact ⟨_, by omega, k + 1, by omega, rfl, by simp only [zs, Nat.reduceEqDiff, c0], by simp only [zs, Nat.reduceEqDiff, c1], by simp only [zs, Nat.reduceEqDiff], rfl⟩
def invSm (rv : Sl Int) (x y : Nat) (H : Heap) (m : Nat) (s : Slots) (h : Heap) : Prop :=
 ∃ k, k ≤ rv.l.length ∧ m = rv.l.length - k ∧ s.at 2 = .ptr x 0 ∧ s.at 3 = .ptr y 0 ∧ s.at 5 = .int .i64 (k : Int) ∧ h = H
theorem same_spec {f c1 : Nat} (hf : vp f = some (B_spigotref44_Same c1)) (h1 : vp c1 = some B_spigotref44_sameHoldings)
  (t ep now : Int) (is : Bool) (l0 l1 l2 : Limit) (c0 c1' lv pt tt : Int) (us en : Sl Hg) (rv : Sl Int) (n0 n1 n2 : Int) (us' en' : Sl Hg) (rv' : Sl Int) (e1 : us.l = us'.l) (e2 : en.l = en'.l) (e3 : rv.l = rv'.l) (q1 : us.l.length ≤ 100000) (q2 : en.l.length ≤ 100000) (q3 : rv.l.length ≤ 100000) (h : Heap) :
  callRes vp f [.agg (encG t ep now is l0 l1 l2 c0 c1' lv pt tt us en rv n0 n1 n2), .agg (encG t ep now is l0 l1 l2 c0 c1' lv pt tt us' en' rv' n0 n1 n2)] h = some (.bool true, h) := by
 have m1 : modeOf vp c1 = some 1 := mo h1 rfl rfl
 refine res_pure hf rfl rfl (fun g hg => ?_)
 unfold B_spigotref44_Same encG
 have eln : rv'.l.length = rv.l.length := by rw [e3]
 have k1 := fun h => sameHg_spec h1 us us' e1 q1 h
 have k2 := fun h => sameHg_spec h1 en en' e2 q2 h
 have eb : ∀ h, r_eqb true (.bool is) (.bool is) h = some (.bool false, h) := fun h => by cases is <;> rfl
 simp only [↓zp, zz, zy, zq, seval, reduceIte, reduceCtorEq, not_true, beq_self_eq_true, eq9l, eq2, eq3m, eq3, and_self, eln]
 generalize hS : Tr.set _ 5 _ = S
 have b2 : Slots.at S 2 = .ptr g.nx 0 := by rw [← hS]; simp only [zs, Nat.reduceEqDiff]
 have b3 : Slots.at S 3 = .ptr (g.nx + 1) 0 := by rw [← hS]; simp only [zs, Nat.reduceEqDiff]
 have b5 : Slots.at S 5 = .int .i64 ((0 : Nat) : Int) := by rw [← hS]; simp only [zs, Nat.reduceEqDiff]; rfl
 clear hS
 generalize hH : Heap.new (Heap.new g _) _ = H
 have ga : H.get g.nx = .cells [.int .u32 t, .int .u32 ep, .int .u64 now, .bool is, .int .i64 l0.b, .int .i64 l0.r, .int .i64 l0.p, .int .i64 l1.b, .int .i64 l1.r, .int .i64 l1.p, .int .i64 l2.b, .int .i64 l2.r, .int .i64 l2.p,
  .int .i64 c0, .int .i64 c1', .int .i64 lv, .int .i64 pt, .int .u64 tt, us.v eHg, en.v eHg, rv.v e32, .int .u64 n0, .int .u64 n1, .int .u64 n2] .cl := by rw [← hH]; simp only [↓zp, zz, zy, zq, seval, reduceIte, reduceCtorEq]
 have gb : H.get (g.nx + 1) = .cells [.int .u32 t, .int .u32 ep, .int .u64 now, .bool is, .int .i64 l0.b, .int .i64 l0.r, .int .i64 l0.p, .int .i64 l1.b, .int .i64 l1.r, .int .i64 l1.p, .int .i64 l2.b, .int .i64 l2.r, .int .i64 l2.p,
  .int .i64 c0, .int .i64 c1', .int .i64 lv, .int .i64 pt, .int .u64 tt, us'.v eHg, en'.v eHg, rv'.v e32, .int .u64 n0, .int .u64 n1, .int .u64 n2] .cl := by rw [← hH]; simp only [↓zp, zz, zy, zq, seval, reduceIte, reduceCtorEq]
 clear hH
 refine loop_ind (fun m s h => invSm rv g.nx (g.nx + 1) H m s h) ?_ rv.l.length ⟨0, by omega, by omega, b2, b3, b5, rfl⟩
 clear b2 b3 b5
 rintro m s h ⟨k, hk, hm, d2, d3, d5, rfl⟩
 by_cases hlt : k < rv.l.length
 case neg =>
  have hlt' : ¬ ((k : Int) < (rv.l.length : Int)) := by omega
  simp only [↓zp, zz, zy, zq, seval, reduceIte, reduceCtorEq, d2, d3, d5, ga, gb, hlt', m1, k1, k2, frzB]
  done
 have hlt' : (k : Int) < (rv.l.length : Int) := by omega
 have ws := wr_succ (k := k) (by omega)
 have hb : k < rv'.l.length := by omega
 have ek : rv'.l[k] = rv.l[k] := by simp only [e3]
 have ia1 := fun h => r_ia_v (h := h) (c := rv) e32_len (by decide) hlt rfl
 have ia2 : ∀ h, r_ia 1 (rv'.v e32) (.int .i64 (k : Int)) h = some (.iptr (e32 rv.l[k] ++ (rv'.l.drop (k + 1)).flatMap e32), h) := fun h => by rw [r_ia_v e32_len (by decide) hb rfl, ek]
 simp only [e32] at ia1 ia2
 simp only [↓zp, zz, zy, zq, seval, reduceIte, reduceCtorEq, d2, d3, d5, ga, gb, hlt', ia1, ia2, not_true, ws]
 exact ⟨_, by omega, k + 1, by omega, rfl, by simp only [zs, Nat.reduceEqDiff, d2], by simp only [zs, Nat.reduceEqDiff, d3], by simp only [zs, Nat.reduceEqDiff], rfl⟩
end
end
end Go.VE.LB
