/- What the functions of the law ModelCommands compute, on typed arguments (part 13). -/
import Derived.Test.YtdggjlfamjfdkaaGreatModelCommandsA12
set_option linter.all false
namespace Go.VE.LB
section
open Go Go.VE Classical
set_option maxRecDepth 100000
set_option linter.all false
set_option maxHeartbeats 4000000
theorem MOk.sml {now : Int} {ep : List Int} {l : List Acct} (ok : MOk now ep l) : Sml l := by
 refine ⟨by have := ok.len; omega, fun a ha => ?_⟩
 obtain ⟨k, hk, rfl⟩ := List.mem_iff_getElem.1 ha
 have a0 := ok.ok k hk
 have := a0.us.len
 have := a0.en.len
 have := a0.rl
 have := a0.d0
 have := a0.d1
 omega
theorem Sml.small {l : List Acct} (s : Sml l) : ∀ x ∈ l, Small x := fun x hx => by
 have := s.each x hx
 exact ⟨by omega, by omega, by omega⟩
theorem MOk.acc {now : Int} {ep : List Int} {l : List Acct} (ok : MOk now ep l) (ht : ∀ a ∈ l, TA a) (h0 : ∀ a ∈ l, 0 ≤ a.t) : AccOk l where
 n := by have := ok.len; omega
 ar := fun a ha => by
  obtain ⟨k, hk, rfl⟩ := List.mem_iff_getElem.1 ha
  have a0 := ok.ok k hk
  have t0 := ht _ ha
  have s0 := ok.sml.each _ ha
  refine ⟨⟨a0.own, t0.1⟩, fun x hx => ⟨?_, t0.2.1 x hx⟩, fun x hx => ⟨?_, t0.2.2 x hx⟩, by omega, by omega⟩
  ·obtain ⟨j, hj, rfl⟩ := List.mem_iff_getElem.1 hx
   exact (a0.us.each j hj).2.2.2
  ·obtain ⟨j, hj, rfl⟩ := List.mem_iff_getElem.1 hx
   exact (a0.en.each j hj).2.2.2
 rev := fun a ha => by
  obtain ⟨k, hk, rfl⟩ := List.mem_iff_getElem.1 ha
  have a0 := ok.ok k hk
  have := a0.rl
  exact ⟨by omega, fun j hj => by have := a0.inc j hj; omega⟩
 t := fun a ha => by
  obtain ⟨k, hk, rfl⟩ := List.mem_iff_getElem.1 ha
  have := (ok.ok k hk).t
  exact ⟨h0 _ ha, by omega⟩
 inc := fun k hk => by have := ok.inc k hk; omega
theorem iso_app {b o n c sz : Nat} : ∀ (l : List V) (m : Nat), frzs m h0 0 false (l ++ [.sl b o n c sz]) = none
 | [], 0 => rfl
 | [], 1 => rfl
 | [], m + 2 => rfl
 | x :: l, 0 => rfl
 | x :: l, m + 1 => by
  rw [List.cons_append, frzs, iso_app l m]
  cases frz m h0 0 false x <;> rfl
theorem iso_M (now : Int) (sd ep : List Int) (b o n c : Nat) : isoArgs 1 [.agg (encM now sd ep (.sl b o n c 24))] = none := by
 have e : frzs 999998 h0 0 false (encM now sd ep (.sl b o n c 24)) = none := by
  have := iso_app (b := b) (o := o) (n := n) (c := c) (sz := 24) (V.int .u64 now :: (sd.map (V.int .u8) ++ ep.map (V.int .u32))) 999998
  simp only [List.cons_append, List.append_assoc] at this
  exact this
 show (match (frzs 999998 h0 0 false (encM now sd ep (.sl b o n c 24))).map V.agg, frzs 999999 h0 0 false [] with | some x', some r' => some (x' :: r') | _, _ => none) = none
 rw [e]
 rfl
section
variable {vp : Nat → Option VFn}
structure LawK (vp : Nat → Option VFn) (c1 c2 c3 c4 c5 c6 c7 c8 : Nat) : Prop where
 al : modeOf vp c1 = some 1 ∧ ∀ h, callRes vp c1 [] h = some (.bool true, h)
 gr : vp c2 = some B_spigotref25_Great
 ck : modeOf vp c3 = some 1 ∧ ∀ (now : Int) (sd ep : List Int), MW sd ep → ∀ a : Sl Acct, Sml a.l → ∀ h, callRes vp c3 [.agg (encM now sd ep (a.v encA))] h = some (.int .i64 (if MOk now ep a.l then 0 else 8), h)
 cm : ∃ d1 d2, vp c4 = some (B_spigotref09_Command d1 d2) ∧ vp d1 = some B_spigotref09_used ∧ vp d2 = some B_spigotref03_CheckLimit
 do_ : modeOf vp c5 = some 1 ∧ ∀ (now : Int) (sd ep : List Int), MW sd ep → ∀ (a : Sl Acct) (c : Cmd), c.tg.length = 32 → 0 ≤ c.t → CmdOk c → u64 now → MOk now ep a.l → AccOk a.l → ∀ h, ∃ r, callRes vp c5 [.agg (encM now sd ep (a.v encA)), .agg (encC c)] h = some (r, h) ∧ DoR now sd ep a.l c r
 fi : vp c6 = some B_spigotref25_Find
 sm : ∃ d1 d2, vp c7 = some (B_spigotref25_Same d1) ∧ vp d1 = some (B_spigotref25_SameAccount d2) ∧ vp d2 = some B_spigotref25_SameHeld
 rv : vp c8 = some B_spigotref25_IsRevoked
theorem fidx_no' {t : Int} {l : List Acct} (h : ∀ a ∈ l, a.t ≠ t) : fidx (isTA t) l = -1 := fidx_none fun j hj => by
 have := h _ (List.getElem_mem hj)
 simpa [isTA] using this
theorem fidx_yes' {now : Int} {ep : List Int} {l : List Acct} (ok : MOk now ep l) {t : Int} {k : Nat} (hk : k < l.length) (h : l[k].t = t) : fidx (isTA t) l = (k : Int) := fidx_at hk (by simp [isTA, h]) fun j hj hjk => by
 have h1 := inc_lt ok (k - j) j hj (by omega) (by omega)
 have h2 : j + (k - j) = k := by omega
 simp only [h2] at h1
 simp only [isTA, decide_eq_false_iff_not]
 omega
theorem fidx_nrm {t : Int} {l m : List Acct} (h : l.map nrm = m.map nrm) : fidx (isTA t) l = fidx (isTA t) m := by
 have h1 : fidx (isTA t) (l.map nrm) = fidx (isTA t) l := fidx_map l
 have h2 : fidx (isTA t) (m.map nrm) = fidx (isTA t) m := fidx_map m
 rw [← h1, ← h2, h]
theorem eq9r {a1 a2 a3 a4 a5 a6 a7 a8 a9 : Int} {neg : Bool} {h : Heap} : r_eqa neg [0, 0, 0, 0, 0, 0, 0, 0, 0] (.agg [.int .i64 a1, .int .i64 a2, .int .i64 a3, .int .i64 a4, .int .i64 a5, .int .i64 a6, .int .i64 a7, .int .i64 a8, .int .i64 a9]) (.agg [.int .i64 a1, .int .i64 a2, .int .i64 a3, .int .i64 a4, .int .i64 a5, .int .i64 a6, .int .i64 a7, .int .i64 a8, .int .i64 a9]) h = some (.bool (!neg), h) := by
 have := eqaRefl (ks := [0, 0, 0, 0, 0, 0, 0, 0, 0]) (l := [a1, a2, a3, a4, a5, a6, a7, a8, a9]) (k := .i64) (h := h) rfl neg
 exact this
theorem nrm_f {x y : Acct} (h : nrm x = nrm y) : x.t = y.t ∧ x.l0 = y.l0 ∧ x.l1 = y.l1 ∧ x.l2 = y.l2 ∧ x.c0 = y.c0 ∧ x.c1 = y.c1 ∧ x.own = y.own ∧ x.users.l = y.users.l ∧ x.ends.l = y.ends.l ∧ x.rev.l = y.rev.l ∧ x.n0 = y.n0 ∧ x.n1 = y.n1 ∧ x.n2 = y.n2 := by
 cases x; cases y
 simp only [nrm, Acct.mk.injEq, Sl.mk.injEq, and_true] at h
 exact h
theorem nrm_new {c : Cmd} {now : Int} {x : Acct} (cok : CmdOk c) (hop : c.op = 1) (hnow : u64 now) (h : nrm x = nrm (newA c now)) : x.l0 = c.l0 ∧ x.l1 = c.l1 ∧ x.l2 = c.l2 ∧ x.c0 = c.us ∧ x.c1 = c.es ∧ x.own.lv = c.l0.b ∧ x.own.t = now ∧ (x.users.l.length : Int) = 0 ∧ (x.ends.l.length : Int) = 0 ∧ (x.rev.l.length : Int) = 0 ∧ (x.n0 = 0 ∧ x.n1 = 0 ∧ x.n2 = 0) := by
 obtain ⟨h1, h2, h3, h4, h5, h6, h7, h8, h9, h10, h11, h12, h13⟩ := nrm_f h
 refine ⟨h2, h3, h4, h5, h6, by rw [h7]; exact fullB_lv (cok.ls (.inl hop)).1, by rw [h7]; rfl, by rw [h8]; rfl, by rw [h9]; rfl, by rw [h10]; rfl, h11, h12, h13⟩
theorem bq1 : (true == true) = true := rfl
theorem bq2 : (false == false) = true := rfl
theorem bq3 : (true == false) = false := rfl
theorem bq4 : (false == true) = false := rfl
theorem law {f c1 c2 c3 c4 c5 c6 c7 c8 t1 t2 : Nat} (hf : vp f = some (B_spigotlaw25_ModelCommands c1 c2 c3 c4 c5 c6 c7 c8 t1 t2)) (K : LawK vp c1 c2 c3 c4 c5 c6 c7 c8)
  (now : Int) (sd ep : List Int) (w : MW sd ep) (a : Sl Acct) (c : Cmd) (hn : a.l.length ≤ 9223372036854775807) (hc : c.tg.length = 32) (hct : 0 ≤ c.t) (hnow : u64 now) (hta : ∀ x ∈ a.l, TA x) (h0 : ∀ x ∈ a.l, 0 ≤ x.t) (he0 : ∀ e ∈ ep, 0 ≤ e) (h : Heap) :
  callRes vp f [.agg (encM now sd ep (a.v encA)), .agg (encC c)] h = some (.bool true, h) := by
 obtain ⟨ma, ka⟩ := K.al
 have mg : modeOf vp c2 = some 1 := by simp [modeOf, K.gr, B_spigotref25_Great]
 obtain ⟨mk, kk⟩ := K.ck
 obtain ⟨e1, e2, h4, h4a, h4b⟩ := K.cm
 have mc : modeOf vp c4 = some 1 := by simp [modeOf, h4, B_spigotref09_Command]
 obtain ⟨md, kd⟩ := K.do_
 have mf : modeOf vp c6 = some 1 := by simp [modeOf, K.fi, B_spigotref25_Find]
 obtain ⟨e3, e4, h7, h7a, h7b⟩ := K.sm
 have ms : modeOf vp c7 = some 1 := by simp [modeOf, h7, B_spigotref25_Same]
 have mr : modeOf vp c8 = some 1 := by simp [modeOf, K.rv, B_spigotref25_IsRevoked]
 refine res_pure hf rfl rfl (fun g hg => ?_)
 have hlo := hlo hg
 clear hg
 obtain ⟨R, hR⟩ : ∃ R, c.tg.map (V.int .u8) = R := ⟨_, rfl⟩
 have lR : R.length = 32 := by rw [← hR, List.length_map, hc]
 have tR : takeN 32 R = some R := by rw [← lR]; exact takeN_all R
 have lM := w.len (v := a.v encA)
 have tM := w.tk (v := a.v encA)
 unfold B_spigotlaw25_ModelCommands
 obtain ⟨H1, hH1⟩ : ∃ H, (g.new (.cells (.int .u64 now :: mT sd ep (a.v encA)) .cl)).new (.cells (encC c) .cl) = H := ⟨_, rfl⟩
 have ga1 : H1.get g.nx = .cells (.int .u64 now :: mT sd ep (a.v encA)) .cl := by rw [← hH1]; simp only [↓zp, zz, zy, chkOk, Nat.reduceEqDiff, Nat.reduceAdd, Nat.reduceSub, Nat.reduceMul, Nat.reduceLT, Nat.reduceLeDiff, Int.reduceLT, Int.reduceLE, Int.reduceEq, Int.reduceAdd, Int.reduceNeg, reduceIte, r_st, r_nck, r_ix, r_iaa, takeN, VE.store, over, cellsAt, VE.part, blkX, gEval, fill, VE.unOp, resVs, resV, reduceCtorEq]
 have gb1 : H1.get (g.nx + 1) = .cells (encC c) .cl := by rw [← hH1]; simp only [↓zp, zz, zy, chkOk, Nat.reduceEqDiff, Nat.reduceAdd, Nat.reduceSub, Nat.reduceMul, Nat.reduceLT, Nat.reduceLeDiff, Int.reduceLT, Int.reduceLE, Int.reduceEq, Int.reduceAdd, Int.reduceNeg, reduceIte, r_st, r_nck, r_ix, r_iaa, takeN, VE.store, over, cellsAt, VE.part, blkX, gEval, fill, VE.unOp, resVs, resV, reduceCtorEq]
 have nx1 : H1.nx = g.nx + 2 := by rw [← hH1]; rfl
 have lo1 : H1.lo = g.lo := by rw [← hH1]; rfl
 obtain ⟨bg, kg, pg⟩ := great25_spec K.gr now sd ep w a hn H1
 obtain ⟨bc, kc, pc⟩ := rcmd_spec h4 h4a h4b c hc H1
 have kcE := kc
 unfold encC at hH1 gb1 kc
 rw [hR] at hH1 gb1 kc
 simp only [encM_T] at kg ⊢
 unfold encC
 rw [hR]
 cases bg with
 | true => simp only [↓zp, zz, zy, chkOk, Nat.reduceEqDiff, Nat.reduceAdd, Nat.reduceSub, Nat.reduceMul, Nat.reduceLT, Nat.reduceLeDiff, Int.reduceLT, Int.reduceLE, Int.reduceEq, Int.reduceAdd, Int.reduceNeg, reduceIte, r_st, r_nck, r_ix, r_iaa, takeN, VE.store, over, cellsAt, VE.part, blkX, gEval, fill, VE.unOp, resVs, resV, reduceCtorEq, lM, tM, lR, tR, hH1, ma, ka, ga1, mg, kg, frzB]
 | false =>
 have s1 := pg rfl
 have k1 := kk now sd ep w a s1 H1
 rw [encM_T] at k1
 by_cases ok : MOk now ep a.l
 case neg =>
  rw [if_neg ok] at k1
  simp only [↓zp, zz, zy, chkOk, Nat.reduceEqDiff, Nat.reduceAdd, Nat.reduceSub, Nat.reduceMul, Nat.reduceLT, Nat.reduceLeDiff, Int.reduceLT, Int.reduceLE, Int.reduceEq, Int.reduceAdd, Int.reduceNeg, reduceIte, r_st, r_nck, r_ix, r_iaa, takeN, VE.store, over, cellsAt, VE.part, blkX, gEval, fill, VE.unOp, resVs, resV, reduceCtorEq, lM, tM, lR, tR, hH1, ma, ka, ga1, mg, kg, mk, k1, not_false_eq_true, Int.reduceEq, frzB]
 rw [if_pos ok] at k1
 cases bc with
 | false => simp only [↓zp, zz, zy, chkOk, Nat.reduceEqDiff, Nat.reduceAdd, Nat.reduceSub, Nat.reduceMul, Nat.reduceLT, Nat.reduceLeDiff, Int.reduceLT, Int.reduceLE, Int.reduceEq, Int.reduceAdd, Int.reduceNeg, reduceIte, r_st, r_nck, r_ix, r_iaa, takeN, VE.store, over, cellsAt, VE.part, blkX, gEval, fill, VE.unOp, resVs, resV, reduceCtorEq, lM, tM, lR, tR, hH1, ma, ka, ga1, gb1, mg, kg, mk, k1, mc, kc, not_true_eq_false, frzB]
 | true =>
 have cok := pc rfl
 obtain ⟨r, kd, o, code, ep', l', rfl, w', dt, ho⟩ := kd now sd ep w a c hc hct cok hnow ok (ok.acc hta h0) H1
 have ok' := dt.ok ok cok hnow hta he0
 have okO := ok'.of_nrm ho
 have sO := okO.sml
 unfold encC at kd
 rw [hR] at kd
 simp only [encM_T] at kd
 have lO := w'.len (v := o.v encA)
 have tO := w'.tk (v := o.v encA)
 have ovO := w'.ov (v := o.v encA) oneCell_v
 obtain ⟨H2, hH2⟩ : ∃ H, (H1.new (.cells (.int .u64 0 :: z49) (.ct t1))).set H1.nx (.cells (.int .u64 now :: mT sd ep' (o.v encA)) (.ct t1)) = H := ⟨_, rfl⟩
 have ga2 : H2.get g.nx = .cells (.int .u64 now :: mT sd ep (a.v encA)) .cl := by rw [← hH2, Heap.get_set, if_neg (by omega), Heap.get_new, if_neg (by omega), ga1]
 have gb2' : H2.get (g.nx + 1) = H1.get (g.nx + 1) := by rw [← hH2, Heap.get_set, if_neg (by omega), Heap.get_new, if_neg (by omega)]
 have gb2 := gb2'.trans gb1
 have gc2 : H2.get (g.nx + 2) = .cells (.int .u64 now :: mT sd ep' (o.v encA)) (.ct t1) := by rw [← hH2, ← nx1, Heap.get_set, if_pos rfl]
 have nx2 : H2.nx = g.nx + 3 := by
  rw [← hH2]
  show H1.nx + 1 = _
  omega
 have lo2 : H2.lo = g.lo := by rw [← hH2]; exact lo1
 have k2 := kk now sd ep' w' o sO H2
 rw [if_pos okO, encM_T] at k2
 have f1 := find25_spec K.fi now sd ep w a (by have := s1.n; omega) c.t H2
 have f2 := find25_spec K.fi now sd ep' w' o (by have := sO.n; omega) c.t H2
 rw [fidx_nrm ho] at f2
 rw [encM_T] at f1 f2
 have l2 : ¬ g.nx + 2 < H1.lo := by omega
 simp only [z49] at hH2
 rw [nx1] at hH2
 simp only [↓zp, zz, zy, chkOk, Nat.reduceEqDiff, Nat.reduceAdd, Nat.reduceSub, Nat.reduceMul, Nat.reduceLT, Nat.reduceLeDiff, Int.reduceLT, Int.reduceLE, Int.reduceEq, Int.reduceAdd, Int.reduceNeg, reduceIte, r_st, r_nck, r_ix, r_iaa, takeN, VE.store, over, cellsAt, VE.part, blkX, gEval, fill, VE.unOp, resVs, resV, reduceCtorEq, lM, tM, lR, tR, hH1, ma, ka, ga1, gb1, mg, kg, mk, k1, mc, kc, not_true_eq_false, md, kd, nx1, l2, lO, ovO, hH2, gc2, tO, k2, ga2, gb2, mf, f1, f2]
 generalize hS : Tr.set _ 53 _ = S
 have b2 : Slots.at S 2 = .ptr g.nx 0 := by rw [← hS]; simp only [zs, Nat.reduceEqDiff]
 have b3 : Slots.at S 3 = .ptr (g.nx + 1) 0 := by rw [← hS]; simp only [zs, Nat.reduceEqDiff]
 have b5 : Slots.at S 5 = .bool true := by rw [← hS]; simp only [zs, Nat.reduceEqDiff]
 have b6 : Slots.at S 6 = .ptr (g.nx + 2) 0 := by rw [← hS]; simp only [zs, Nat.reduceEqDiff]
 have b7 : Slots.at S 7 = .int .u8 code := by rw [← hS]; simp only [zs, Nat.reduceEqDiff]
 have b9 : Slots.at S 9 = .int .i64 (fidx (isTA c.t) a.l) := by rw [← hS]; simp only [zs, Nat.reduceEqDiff]
 have b10 : Slots.at S 10 = .int .i64 (fidx (isTA c.t) l') := by rw [← hS]; simp only [zs, Nat.reduceEqDiff]
 have b53 : Slots.at S 53 = .bool (!decide (code = 4)) := by rw [← hS]; simp only [zs, Nat.reduceEqDiff, decide_not]
 clear hS hH2 hH1 kd k1 k2 kg kc f1 f2 ovO
 have lo3 : ¬ g.nx + 3 < H2.lo := by omega
 have same : ep' = ep → l' = a.l → callRes vp c7 [.agg (.int .u64 now :: mT sd ep (a.v encA)), .agg (.int .u64 now :: mT sd ep' (o.v encA))] H2 = some (.bool true, H2) := fun e1 e2 => by
  subst e1
  have := same25_spec h7 h7a h7b now sd ep' w a o s1 (by rw [ho, e2]) H2
  simp only [encM_T] at this
  exact this
 have acc : ∀ (j : Nat) (hj : j < l'.length), ∃ x : Acct, nrm x = nrm l'[j] ∧ x.rev.l.length ≤ 40 ∧ ∃ r : List V, ∀ h, r_ia 24 (o.v encA) (.int .i64 (j : Int)) h = some (.iptr (encA x ++ r), h) := fun j hj => by
  obtain ⟨e1, e2⟩ := map_at ho
  exact ⟨o.l[j]'(by omega), e2 j (by omega) hj, (sO.each _ (List.getElem_mem (by omega))).2.2, _, fun h => r_ia_v encA_len (by decide) (by omega) rfl⟩
 have d48o := w'.d48 (v := o.v encA)
 have d48a := w.d48 (v := a.v encA)
 have oo : oneCell (o.v encA) = true ∧ cellsO (o.v encA) = some [o.v encA] := ⟨oneCell_v, cellsO_v⟩
 have ia0 : ∀ (k : Nat) (hk : k < a.l.length), ∃ r, ∀ (h : Heap), r_ia 24 (a.v encA) (.int .i64 (k : Int)) h = some (.iptr (encA a.l[k] ++ r), h) := fun k hk => ⟨_, fun h => r_ia_v encA_len (by decide) hk rfl⟩
 generalize hov : o.v encA = ov at *
 generalize hav : a.v encA = av at *
 cases dt with
 | exists_ k hk ht hop =>
  have e9 := fidx_yes' ok hk ht
  have sm := same rfl rfl
  have hop' := eq_true hop
  have z : ((0 : Int) ≤ (k : Int)) := by omega
  simp only [Int.reduceEq, decide_false, Bool.not_false] at b53
  simp only [↓zp, zz, zy, chkOk, Nat.reduceEqDiff, Nat.reduceAdd, Nat.reduceSub, Nat.reduceMul, Nat.reduceLT, Nat.reduceLeDiff, Int.reduceLT, Int.reduceLE, Int.reduceEq, Int.reduceAdd, Int.reduceNeg, reduceIte, r_st, r_nck, r_ix, r_iaa, takeN, VE.store, over, cellsAt, VE.part, blkX, gEval, fill, VE.unOp, resVs, resV, reduceCtorEq, bq1, bq2, bq3, bq4, b2, b3, b5, b6, b7, b9, b10, b53, ga2, gb2, gc2, tM, tO, ms, sm, e9, hop', z, not_true_eq_false, frzB]
 | full hno hop hl =>
  have e9 := fidx_no' hno
  have sm := same rfl rfl
  have hop' := eq_true hop
  simp only [Int.reduceEq, decide_false, Bool.not_false] at b53
  simp only [↓zp, zz, zy, chkOk, Nat.reduceEqDiff, Nat.reduceAdd, Nat.reduceSub, Nat.reduceMul, Nat.reduceLT, Nat.reduceLeDiff, Int.reduceLT, Int.reduceLE, Int.reduceEq, Int.reduceAdd, Int.reduceNeg, reduceIte, r_st, r_nck, r_ix, r_iaa, takeN, VE.store, over, cellsAt, VE.part, blkX, gEval, fill, VE.unOp, resVs, resV, reduceCtorEq, bq1, bq2, bq3, bq4, b2, b3, b5, b6, b7, b9, b10, b53, ga2, gb2, gc2, tM, tO, ms, sm, e9, hop', not_true_eq_false, frzB]
 | missing hno hop =>
  have e9 := fidx_no' hno
  have sm := same rfl rfl
  simp only [Int.reduceEq, decide_false, Bool.not_false] at b53
  simp only [↓zp, zz, zy, chkOk, Nat.reduceEqDiff, Nat.reduceAdd, Nat.reduceSub, Nat.reduceMul, Nat.reduceLT, Nat.reduceLeDiff, Int.reduceLT, Int.reduceLE, Int.reduceEq, Int.reduceAdd, Int.reduceNeg, reduceIte, r_st, r_nck, r_ix, r_iaa, takeN, VE.store, over, cellsAt, VE.part, blkX, gEval, fill, VE.unOp, resVs, resV, reduceCtorEq, bq1, bq2, bq3, bq4, b2, b3, b5, b6, b7, b9, b10, b53, ga2, gb2, gc2, tM, tO, ms, sm, e9, hop, not_false_eq_true, frzB]
 | many k hk ht hop hin hl =>
  have e9 := fidx_yes' ok hk ht
  have sm := same rfl rfl
  have hop' : (c.op = 1) = False := by simp; omega
  have z : ¬ ((k : Int) < 0) := by omega
  simp only [Int.reduceEq, decide_false, Bool.not_false] at b53
  simp only [↓zp, zz, zy, chkOk, Nat.reduceEqDiff, Nat.reduceAdd, Nat.reduceSub, Nat.reduceMul, Nat.reduceLT, Nat.reduceLeDiff, Int.reduceLT, Int.reduceLE, Int.reduceEq, Int.reduceAdd, Int.reduceNeg, reduceIte, r_st, r_nck, r_ix, r_iaa, takeN, VE.store, over, cellsAt, VE.part, blkX, gEval, fill, VE.unOp, resVs, resV, reduceCtorEq, bq1, bq2, bq3, bq4, b2, b3, b5, b6, b7, b9, b10, b53, ga2, gb2, gc2, tM, tO, ms, sm, e9, hop', z, not_false_eq_true, frzB]
 | spent k hk ht hop he =>
  have e9 := fidx_yes' ok hk ht
  have sm := same rfl rfl
  have hop' : (c.op = 1) = False := by simp; omega
  have z : ¬ ((k : Int) < 0) := by omega
  simp only [Int.reduceEq, decide_false, Bool.not_false] at b53
  simp only [↓zp, zz, zy, chkOk, Nat.reduceEqDiff, Nat.reduceAdd, Nat.reduceSub, Nat.reduceMul, Nat.reduceLT, Nat.reduceLeDiff, Int.reduceLT, Int.reduceLE, Int.reduceEq, Int.reduceAdd, Int.reduceNeg, reduceIte, r_st, r_nck, r_ix, r_iaa, takeN, VE.store, over, cellsAt, VE.part, blkX, gEval, fill, VE.unOp, resVs, resV, reduceCtorEq, bq1, bq2, bq3, bq4, b2, b3, b5, b6, b7, b9, b10, b53, ga2, gb2, gc2, tM, tO, ms, sm, e9, hop', z, not_false_eq_true, frzB]
 | create hno hop hl p hp q1 q2 =>
  have e9 := fidx_no' hno
  have lp : p < (insA a.l (newA c now) p).length := by simp only [insA, List.length_append, List.length_cons, List.length_take, List.length_drop]; omega
  have ap : (insA a.l (newA c now) p)[p]'lp = newA c now := ins_eq a.l _ hp lp
  have e10 := fidx_yes' (t := c.t) ok' lp (by rw [ap]; rfl)
  obtain ⟨x, ex, xr, r, ix⟩ := acc p lp
  rw [ap] at ex
  obtain ⟨x1, x2, x3, x4, x5, x6, x7, x8, x9, x10, x11⟩ := nrm_new cok hop hnow ex
  have u1 := cok.cs hop
  have wu : wr .i64 c.us = c.us := wr_i64 (by omega) (by omega)
  have we : wr .i64 c.es = c.es := wr_i64 (by omega) (by omega)
  have hop' := eq_true hop
  have i2 : (c.op = 2) = False := by simp; omega
  have z : ¬ ((p : Int) < 0) := by omega
  simp only [Int.reduceEq, decide_true, Bool.not_true] at b53
  unfold encA at ix
  simp only [List.cons_append, List.nil_append, x1, x2, x3, x4, x5, x6, x7] at ix
  simp only [↓zp, zz, zy, chkOk, Nat.reduceEqDiff, Nat.reduceAdd, Nat.reduceSub, Nat.reduceMul, Nat.reduceLT, Nat.reduceLeDiff, Int.reduceLT, Int.reduceLE, Int.reduceEq, Int.reduceAdd, Int.reduceNeg, reduceIte, r_st, r_nck, r_ix, r_iaa, takeN, VE.store, over, cellsAt, VE.part, blkX, gEval, fill, VE.unOp, resVs, resV, reduceCtorEq, bq1, bq2, bq3, bq4, b2, b3, b5, b6, b7, b9, b10, b53, ga2, gb2, gc2, e9, e10, hop', i2, z, d48o, ix, nx2, lo3, eq9r, eq2, wu, we, x7, x8, x9, x10, x11, eq3, frzB]
 | limits k hk ht hop =>
  have e9 := fidx_yes' ok hk ht
  have lp : k < (a.l.set k (chgA a.l[k] c.l0 c.l1 c.l2 now)).length := by rw [List.length_set]; exact hk
  have ap : (a.l.set k (chgA a.l[k] c.l0 c.l1 c.l2 now))[k]'lp = chgA a.l[k] c.l0 c.l1 c.l2 now := List.getElem_set_self ..
  have e10 := fidx_yes' (t := c.t) ok' lp (by rw [ap]; exact ht)
  obtain ⟨x, ex, xr, r, ix⟩ := acc k lp
  rw [ap] at ex
  obtain ⟨x0, x1, x2, x3, x4, x5, x6, x7, x8, x9, x10, x11, x12⟩ := nrm_f ex
  have z : ¬ ((k : Int) < 0) := by omega
  simp only [Int.reduceEq, decide_true, Bool.not_true] at b53
  have i1 : (c.op = 1) = False := by simp; omega
  have i2 : (c.op = 2) = False := by simp; omega
  have i3 : (c.op = 3) = True := by simp; omega
  have i4 : (c.op = 4) = False := by simp; omega
  have xo : x.own.l = c.l0 := by rw [x6]; rfl
  have xp : x.own.pt = 0 := by rw [x6]; rfl
  have xt : x.own.t = now := by
   rw [x6]
   show (chgB a.l[k].own c.l0 now).t = now
   have := (late_of.1 (ok.late k hk)).1
   rw [chgB_t]
   split <;> omega
  have xu : (x.users.l.length : Int) = (a.l[k].users.l.length : Int) := by
   rw [x7]
   show ((a.l[k].users.l.map (chgH c.l1 now)).length : Int) = _
   rw [List.length_map]
  have x1 : x.l0 = c.l0 := x1
  have x2 : x.l1 = c.l1 := x2
  have x3 : x.l2 = c.l2 := x3
  obtain ⟨ra, ia⟩ := ia0 k hk
  unfold encA at ix ia
  simp only [List.cons_append, List.nil_append, x1, x2, x3, xo, xp, xt] at ix
  simp only [List.cons_append, List.nil_append] at ia
  simp only [↓zp, zz, zy, chkOk, Nat.reduceEqDiff, Nat.reduceAdd, Nat.reduceSub, Nat.reduceMul, Nat.reduceLT, Nat.reduceLeDiff, Int.reduceLT, Int.reduceLE, Int.reduceEq, Int.reduceAdd, Int.reduceNeg, reduceIte, r_st, r_nck, r_ix, r_iaa, takeN, VE.store, over, cellsAt, VE.part, blkX, gEval, fill, VE.unOp, resVs, resV, reduceCtorEq, bq1, bq2, bq3, bq4, b2, b3, b5, b6, b7, b9, b10, b53, ga2, gb2, gc2, e9, e10, i1, i2, i3, i4, z, d48o, d48a, ix, ia, nx2, lo3, eq9r, eq3, xu, frzB]
 | again k hk ht hop hin =>
  have e9 := fidx_yes' ok hk ht
  have e10 := e9
  obtain ⟨x, ex, xr, r, ix⟩ := acc k hk
  obtain ⟨x0, x1, x2, x3, x4, x5, x6, x7, x8, x9, x10, x11, x12⟩ := nrm_f ex
  have z : ¬ ((k : Int) < 0) := by omega
  simp only [Int.reduceEq, decide_true, Bool.not_true] at b53
  have i1 : (c.op = 1) = False := by simp; omega
  have i2 : (c.op = 2) = False := by simp; omega
  have i3 : (c.op = 3) = False := by simp; omega
  have i4 : (c.op = 4) = False := by simp; omega
  have xin : x.rev.l.any (isU c.u) = true := by
   rw [x9]
   exact List.any_eq_true.2 ⟨c.u, hin, by simp [isU]⟩
  have d32a := w.d32 (v := av)
  have d32o := w'.d32 (v := ov)
  have t16 : ∀ v, takeN 16 (ep.map (V.int .u32) ++ [v]) = some (ep.map (V.int .u32)) := fun v => by
   have := takeN_app (ep.map (V.int .u32)) [v]
   rw [List.length_map, w.ep] at this
   exact this
  have er : ∀ h, r_eqa false [0, 0, 0, 0, 0, 0, 0, 0, 0, 0, 0, 0, 0, 0, 0, 0] (.agg (ep.map (V.int .u32))) (.agg (ep.map (V.int .u32))) h = some (.bool true, h) := fun h => eqaRefl (by rw [w.ep]; rfl) false
  have kr := fun h => isRev_spec K.rv x c.u h (by omega)
  rw [xin] at kr
  unfold encA at ix kr
  simp only [List.cons_append, List.nil_append] at ix
  simp only [↓zp, zz, zy, chkOk, Nat.reduceEqDiff, Nat.reduceAdd, Nat.reduceSub, Nat.reduceMul, Nat.reduceLT, Nat.reduceLeDiff, Int.reduceLT, Int.reduceLE, Int.reduceEq, Int.reduceAdd, Int.reduceNeg, reduceIte, r_st, r_nck, r_ix, r_iaa, takeN, VE.store, over, cellsAt, VE.part, blkX, gEval, fill, VE.unOp, resVs, resV, reduceCtorEq, bq1, bq2, bq3, bq4, b2, b3, b5, b6, b7, b9, b10, b53, ga2, gb2, gc2, e9, e10, i1, i2, i3, i4, z, d48o, ix, nx2, lo3, mr, kr, d32a, d32o, t16, er, frzB]
 | revoke k hk ht hop hin hl i hi q1 q2 =>
  have e9 := fidx_yes' ok hk ht
  have lp : k < (a.l.set k ({ a.l[k] with rev := .mk (insI a.l[k].rev.l i c.u) none })).length := by rw [List.length_set]; exact hk
  have ap : (a.l.set k ({ a.l[k] with rev := .mk (insI a.l[k].rev.l i c.u) none }))[k]'lp = { a.l[k] with rev := .mk (insI a.l[k].rev.l i c.u) none } := List.getElem_set_self ..
  have e10 := fidx_yes' (t := c.t) ok' lp (by rw [ap]; exact ht)
  obtain ⟨x, ex, xr, r, ix⟩ := acc k lp
  rw [ap] at ex
  obtain ⟨x0, x1, x2, x3, x4, x5, x6, x7, x8, x9, x10, x11, x12⟩ := nrm_f ex
  have z : ¬ ((k : Int) < 0) := by omega
  simp only [Int.reduceEq, decide_true, Bool.not_true] at b53
  have i1 : (c.op = 1) = False := by simp; omega
  have i2 : (c.op = 2) = False := by simp; omega
  have i3 : (c.op = 3) = False := by simp; omega
  have i4 : (c.op = 4) = False := by simp; omega
  have xin : x.rev.l.any (isU c.u) = true := by
   rw [x9]
   exact List.any_eq_true.2 ⟨c.u, by
    show c.u ∈ insI a.l[k].rev.l i c.u
    simp [insI], by simp [isU]⟩
  have d32a := w.d32 (v := av)
  have d32o := w'.d32 (v := ov)
  have t16 : ∀ v, takeN 16 (ep.map (V.int .u32) ++ [v]) = some (ep.map (V.int .u32)) := fun v => by
   have := takeN_app (ep.map (V.int .u32)) [v]
   rw [List.length_map, w.ep] at this
   exact this
  have er : ∀ h, r_eqa false [0, 0, 0, 0, 0, 0, 0, 0, 0, 0, 0, 0, 0, 0, 0, 0] (.agg (ep.map (V.int .u32))) (.agg (ep.map (V.int .u32))) h = some (.bool true, h) := fun h => eqaRefl (by rw [w.ep]; rfl) false
  have kr := fun h => isRev_spec K.rv x c.u h (by omega)
  rw [xin] at kr
  unfold encA at ix kr
  simp only [List.cons_append, List.nil_append] at ix
  simp only [↓zp, zz, zy, chkOk, Nat.reduceEqDiff, Nat.reduceAdd, Nat.reduceSub, Nat.reduceMul, Nat.reduceLT, Nat.reduceLeDiff, Int.reduceLT, Int.reduceLE, Int.reduceEq, Int.reduceAdd, Int.reduceNeg, reduceIte, r_st, r_nck, r_ix, r_iaa, takeN, VE.store, over, cellsAt, VE.part, blkX, gEval, fill, VE.unOp, resVs, resV, reduceCtorEq, bq1, bq2, bq3, bq4, b2, b3, b5, b6, b7, b9, b10, b53, ga2, gb2, gc2, e9, e10, i1, i2, i3, i4, z, d48o, ix, nx2, lo3, mr, kr, d32a, d32o, t16, er, frzB]
 | rotate k hk ht hop e he hne =>
  have e9 := fidx_yes' ok hk ht
  have lp : k < (a.l.set k ({ a.l[k] with rev := .nil })).length := by rw [List.length_set]; exact hk
  have ap : (a.l.set k ({ a.l[k] with rev := .nil }))[k]'lp = { a.l[k] with rev := .nil } := List.getElem_set_self ..
  have e10 := fidx_yes' (t := c.t) ok' lp (by rw [ap]; exact ht)
  obtain ⟨x, ex, xr, r, ix⟩ := acc k lp
  rw [ap] at ex
  obtain ⟨x0, x1, x2, x3, x4, x5, x6, x7, x8, x9, x10, x11, x12⟩ := nrm_f ex
  have z : ¬ ((k : Int) < 0) := by omega
  simp only [Int.reduceEq, decide_true, Bool.not_true] at b53
  have i1 : (c.op = 1) = False := by simp; omega
  have i2 : (c.op = 2) = False := by simp; omega
  have i3 : (c.op = 3) = False := by simp; omega
  have i4 : (c.op = 4) = True := by simp; omega
  obtain ⟨j, hj⟩ : ∃ j, c.t.toNat = j := ⟨_, rfl⟩
  have hct' : c.t = (j : Int) := by omega
  have hj16 : j < 16 := by have := cok.t; omega
  have hje : j < ep.length := by rw [w.ep]; exact hj16
  rw [hj] at he w' gc2 d48o
  have ee : ep[j] = e := by rw [List.getElem?_eq_getElem hje] at he; exact Option.some.inj he
  have dka := w.dk (v := av) (now := now) hj16
  have dko := w'.dk (v := ov) (now := now) hj16
  rw [ee] at dka
  rw [List.getElem_set_self] at dko
  rw [hct'] at gb2
  have xv : (x.rev.l.length : Int) = 0 := by rw [x9]; rfl
  unfold encA at ix
  simp only [List.cons_append, List.nil_append] at ix
  simp only [↓zp, zz, zy, chkOk, Nat.reduceEqDiff, Nat.reduceAdd, Nat.reduceSub, Nat.reduceMul, Nat.reduceLT, Nat.reduceLeDiff, Int.reduceLT, Int.reduceLE, Int.reduceEq, Int.reduceAdd, Int.reduceNeg, reduceIte, r_st, r_nck, r_ix, r_iaa, takeN, VE.store, over, cellsAt, VE.part, blkX, gEval, fill, VE.unOp, resVs, resV, reduceCtorEq, bq1, bq2, bq3, bq4, b2, b3, b5, b6, b7, b9, b10, b53, ga2, gb2, gc2, e9, e10, i1, i2, i3, i4, z, d48o, ix, nx2, lo3, xv, hj16, dka, dko, frzB]
 | delete k hk ht hop e he hne =>
  have e9 := fidx_yes' ok hk ht
  have e10 : fidx (isTA c.t) (a.l.eraseIdx k) = -1 := fidx_no' fun y hy hyt => by
   obtain ⟨i, hi, rfl⟩ := List.mem_iff_getElem.1 hy
   have lE := List.length_eraseIdx_of_lt hk
   rw [List.getElem_eraseIdx] at hyt
   split at hyt
   ·rename_i h1
    have h2 := inc_lt ok (k - i) i (by omega) (by omega) (by omega)
    have h3 : i + (k - i) = k := by omega
    simp only [h3] at h2
    omega
   ·rename_i h1
    have h2 := inc_lt ok (i + 1 - k) k hk (by omega) (by omega)
    have h3 : k + (i + 1 - k) = i + 1 := by omega
    simp only [h3] at h2
    omega
  have z : ¬ ((k : Int) < 0) := by omega
  simp only [Int.reduceEq, decide_true, Bool.not_true] at b53
  have i1 : (c.op = 1) = False := by simp; omega
  have i2 : (c.op = 2) = True := by simp; omega
  have i3 : (c.op = 3) = False := by simp; omega
  have i4 : (c.op = 4) = False := by simp; omega
  obtain ⟨j, hj⟩ : ∃ j, c.t.toNat = j := ⟨_, rfl⟩
  have hct' : c.t = (j : Int) := by omega
  have hj16 : j < 16 := by have := cok.t; omega
  have hje : j < ep.length := by rw [w.ep]; exact hj16
  rw [hj] at he w' gc2 d48o
  have ee : ep[j] = e := by rw [List.getElem?_eq_getElem hje] at he; exact Option.some.inj he
  have dka := w.dk (v := av) (now := now) hj16
  have dko := w'.dk (v := ov) (now := now) hj16
  rw [ee] at dka
  rw [List.getElem_set_self] at dko
  rw [hct'] at gb2
  simp only [↓zp, zz, zy, chkOk, Nat.reduceEqDiff, Nat.reduceAdd, Nat.reduceSub, Nat.reduceMul, Nat.reduceLT, Nat.reduceLeDiff, Int.reduceLT, Int.reduceLE, Int.reduceEq, Int.reduceAdd, Int.reduceNeg, reduceIte, r_st, r_nck, r_ix, r_iaa, takeN, VE.store, over, cellsAt, VE.part, blkX, gEval, fill, VE.unOp, resVs, resV, reduceCtorEq, bq1, bq2, bq3, bq4, b2, b3, b5, b6, b7, b9, b10, b53, ga2, gb2, gc2, e9, e10, i1, i2, i3, i4, z, hj16, dka, dko, frzB]
end
end
end Go.VE.LB
