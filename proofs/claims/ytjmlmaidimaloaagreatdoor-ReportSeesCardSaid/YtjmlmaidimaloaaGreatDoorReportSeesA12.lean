/- What the functions of the law ReportSees compute, on typed arguments (part 12). -/
import Derived.Test.YtjmlmaidimaloaaGreatDoorReportSeesA11
set_option linter.all false
namespace Go.VE.LB
set_option maxRecDepth 100000
set_option maxHeartbeats 4000000
section
open Go Go.VE Classical
noncomputable def dec (n : Nat) : List UInt8 := if h : ∃ j, IsLen n j then digs (Classical.choose h) n else []
theorem dec_eq {n j : Nat} (h : IsLen n j) : digs j n = dec n := by
 unfold dec
 have e : ∃ j, IsLen n j := ⟨j, h⟩
 rw [dif_pos e, h.uniq (Classical.choose_spec e)]
theorem dec_len {n : Nat} (h : n < 18446744073709551616) : (dec n).length ≤ 20 := by
 unfold dec
 by_cases e : ∃ j, IsLen n j
 ·rw [dif_pos e, digs_len]
  exact IsLen.le20 h (Classical.choose_spec e).2.2
 ·rw [dif_neg e]; simp
def e64 (n : Nat) : List V := [.int .u64 (n : Int)]
theorem e64_len (n : Nat) : (e64 n).length = 1 := rfl
noncomputable def nums (l : List Nat) : List UInt8 := l.flatMap fun n => 32 :: dec n
theorem nums_len : ∀ {l : List Nat}, (∀ n ∈ l, n < 4294967296) → (nums l).length ≤ 21 * l.length
 | [], _ => by simp [nums]
 | n :: l, h => by
  have ih := nums_len (l := l) (fun m hm => h m (List.mem_cons_of_mem _ hm))
  have := dec_len (n := n) (by have := h n List.mem_cons_self; omega)
  simp only [nums, List.flatMap_cons, List.length_append, List.length_cons] at ih ⊢
  omega
section
variable {vp : Nat → Option VFn}
theorem hp_spec {f : Nat} (hf : vp f = some B_internal_stringslite_HasPrefix) (x : List UInt8) (c : UInt8) (h : Heap) : callRes vp f [.str (c :: x), .str [c]] h = some (.bool true, h) := by
 refine res_pure hf rfl rfl (fun g hg => ?_)
 unfold B_internal_stringslite_HasPrefix
 have l1 : ∀ h, r_lens (.str (c :: x)) h = some (.int .i64 ((x.length + 1 : Nat) : Int), h) := fun _ => rfl
 have l2 : ∀ h, r_lens (.str [c]) h = some (.int .i64 1, h) := fun _ => rfl
 have q : (1 : Int) ≤ ((x.length + 1 : Nat) : Int) := by omega
 have sl : ∀ h, r_pur (.slcs false true) [.str (c :: x), .str (c :: x), .int .i64 1] h = some (.str [c], h) := fun h => by
  have e1 : Nat.ble 1 (c :: x).length = true := by rw [ble_dec]; simp
  have e2 : Nat.ble 0 1 = true := rfl
  show (pureV (.slcs false true) _).map _ = _
  have a1 : asNat (.int .i64 1) = some 1 := rfl
  simp only [pureV, bound, cond_true, cond_false, a1, e1, e2, Option.map_some]
  rfl
 have eq : VE.binOp .eql (.str [c]) (.str [c]) = some (.bool true) := by
  show some (V.bool (eqBytes [c] [c])) = _
  simp only [eqBytes, beq_dec, decide_true, Bool.and_self, cond_true]
 simp only [↓zp, zz, zy, zq, seval, reduceIte, reduceCtorEq, l1, l2, q, sl, eq, frzB]
theorem itp_spec {f c1 : Nat} (hf : vp f = some (B_internal_stringslite_TrimPrefix c1)) (h1 : vp c1 = some B_internal_stringslite_HasPrefix) (x : List UInt8) (c : UInt8) (h : Heap) : callRes vp f [.str (c :: x), .str [c]] h = some (.str x, h) := by
 have m1 : modeOf vp c1 = some 1 := mo h1 rfl rfl
 have k := fun h => hp_spec h1 x c h
 refine res_pure hf rfl rfl (fun g hg => ?_)
 unfold B_internal_stringslite_TrimPrefix
 have l2 : ∀ h, r_lens (.str [c]) h = some (.int .i64 1, h) := fun _ => rfl
 have sl : ∀ h, r_pur (.slcs true false) [.str (c :: x), .int .i64 1, .str (c :: x)] h = some (.str x, h) := fun h => by
  have e2 : Nat.ble 1 (x.length + 1) = true := by rw [ble_dec]; simp
  have a1 : asNat (.int .i64 1) = some 1 := rfl
  show (pureV (.slcs true false) _).map _ = _
  simp only [pureV, bound, cond_true, cond_false, a1, e2, Option.map_some, List.drop_succ_cons, List.drop_zero, List.length_cons, Nat.add_sub_cancel, List.take_length]
 simp only [↓zp, zz, zy, zq, seval, reduceIte, reduceCtorEq, m1, k, l2, sl, frzS]
theorem tp_spec {f c0 c1 : Nat} (hf : vp f = some (B_strings_TrimPrefix c0)) (h0 : vp c0 = some (B_internal_stringslite_TrimPrefix c1)) (h1 : vp c1 = some B_internal_stringslite_HasPrefix) (x : List UInt8) (c : UInt8) (h : Heap) : callRes vp f [.str (c :: x), .str [c]] h = some (.str x, h) := by
 have m0 : modeOf vp c0 = some 1 := mo h0 rfl rfl
 have k := fun h => itp_spec h0 h1 x c h
 refine res_pure hf rfl rfl (fun g hg => ?_)
 unfold B_strings_TrimPrefix
 simp only [↓zp, zz, zy, zq, seval, reduceIte, reduceCtorEq, m0, k, frzS]
def invNu (v : V) (l : List Nat) (bb lo : Nat) (g : Heap) (m : Nat) (s : Slots) (h : Heap) : Prop :=
 ∃ k, k ≤ l.length ∧ m = l.length - k ∧ s.at 3 = .ptr bb 0 ∧ s.at 6 = v ∧ s.at 7 = .int .i64 (l.length : Int) ∧ s.at 8 = .int .i64 (k : Int) ∧ Bl bb (nums (l.take k)) h ∧ h.lo = lo ∧ Kp g h
theorem num_spec {f c1 c2 c3 d2 : Nat} (hf : vp f = some (B_report_numbers_v2 c1 c2 c3 84)) (m1 : modeOf vp c1 = some 1) (h2 : vp c2 = some (B_strings_Builder_WriteString_v2 d2)) (g2 : vp d2 = some B_strings_Builder_copyCheck_v2) (h3 : vp c3 = some B_strings_Builder_String_v2)
  (fm : ∀ n : Nat, n < 4294967296 → ∀ h : Heap, ∃ j, IsLen n j ∧ callRes vp c1 [.int .u64 (n : Int), .int .i64 10] h = some (.str (digs j n), h))
  (v : V) (l : List Nat) (hl : ∀ n ∈ l, n < 4294967296) (hn : l.length ≤ 100) (h : Heap) (hv : Rd e64 1 h v l) (hv2 : ∀ cs a b, v ≠ .isl cs a b) : callRes vp f [v] h = some (.str (nums l), h) := by
 refine res_pure hf rfl rfl (fun g hg => ?_)
 have hlo := hlo hg
 have hge : g.lo = g.nx := by
  rcases hg with ⟨rfl, _⟩ | ⟨e1, e2, _⟩
  ·rfl
  ·omega
 have hv := hv.enter (A := fun v => [v]) hg (fun _ _ _ _ => rfl)
 have ln := hv.len
 have fm : ∀ n : Nat, n < 4294967296 → ∀ h : Heap, callRes vp c1 [.int .u64 (n : Int), .int .i64 10] h = some (.str (dec n), h) := fun n hn h => by
  obtain ⟨j, hj, e⟩ := fm n hn h
  rw [e, dec_eq hj]
 unfold B_report_numbers_v2
 simp only [↓zp, zz, zy, zq, seval, reduceIte, reduceCtorEq, ln]
 generalize hS : Tr.set _ 8 _ = S
 have b3 : Slots.at S 3 = .ptr g.nx 0 := by rw [← hS]; simp only [zs, Nat.reduceEqDiff]
 have b6 : Slots.at S 6 = v := by rw [← hS]; simp only [zs, Nat.reduceEqDiff]
 have b7 : Slots.at S 7 = .int .i64 (l.length : Int) := by rw [← hS]; simp only [zs, Nat.reduceEqDiff]
 have b8 : Slots.at S 8 = .int .i64 ((0 : Nat) : Int) := by rw [← hS]; simp only [zs, Nat.reduceEqDiff]; rfl
 clear hS
 refine loop_ind (fun m s h => invNu v l g.nx g.lo g m s h) ?_ l.length ⟨0, by omega, by omega, b3, b6, b7, b8, ⟨by simp only [Heap.new_nx]; omega, by show g.lo ≤ g.nx; omega, .nilp, .nils, by rw [Heap.get_new, if_pos rfl], .inl ⟨rfl, rfl, rfl⟩⟩, rfl, (Kp.refl g).new _⟩
 clear b3 b6 b7 b8
 rintro m s h ⟨k, hk, hm, c3, c6, c7, c8, hb, hlh, kp⟩
 have ml : ∀ j, (nums (l.take j)).length ≤ 2100 := fun j => by
  have := nums_len (l := l.take j) (fun n hn => hl n (List.mem_of_mem_take hn))
  rw [List.length_take] at this
  omega
 by_cases hlt : k < l.length
 case neg =>
  have hlt' : ¬ ((k : Int) < (l.length : Int)) := by omega
  obtain ⟨h', e, _⟩ := str_spec h3 g.nx _ (by have := ml k; omega) h hb
  rw [List.take_of_length_le (by omega)] at e
  simp only [↓zp, zz, zy, zq, seval, reduceIte, reduceCtorEq, c3, c6, c7, c8, hlt', e, frzS]
  done
 have hlt' : (k : Int) < (l.length : Int) := by omega
 have ws := wr_succ (k := k) (by omega)
 obtain ⟨a, ia, el⟩ := hv.ia e64_len (by decide) hlt
 have ld := El.ld1 (cs := []) el kp
 have fm := fun h => fm l[k] (hl _ (List.getElem_mem hlt)) h
 have dl := dec_len (n := l[k]) (by have := hl _ (List.getElem_mem hlt); omega)
 have ad : VE.binOp .add (.str [32]) (.str (dec l[k])) = some (.str (32 :: dec l[k])) := bin_adds (by simp; omega)
 obtain ⟨w, h', e, hb', kb⟩ := ws_spec h2 g2 g.nx (nums (l.take k)) (32 :: dec l[k]) (by have := ml k; simp; omega) h hb
 simp only [↓zp, zz, zy, zq, seval, reduceIte, reduceCtorEq, c3, c6, c7, c8, hlt', ia, ld, m1, fm, ad, e, ws]
 refine ⟨_, by omega, k + 1, by omega, rfl, by simp only [zs, Nat.reduceEqDiff, c3], by simp only [zs, Nat.reduceEqDiff, c6], by simp only [zs, Nat.reduceEqDiff, c7], by simp only [zs, Nat.reduceEqDiff], ?_, kb.lo.trans hlh, ⟨kb.lo.trans kp.lo, by have := kb.nx; have := kp.nx; omega, fun c hc => ?_⟩⟩
 ·have e : nums (l.take (k + 1)) = nums (l.take k) ++ 32 :: dec l[k] := by
   unfold nums
   rw [List.take_succ_eq_append_getElem hlt, List.flatMap_append, List.flatMap_singleton]
  rw [e]
  exact hb'
 ·rw [kb.get c (by have := kp.nx; omega) (by omega) (.inl (by omega)), kp.get c hc]
end
end
section
open Go Go.VE Classical
noncomputable def rowB (x : Part) : List UInt8 := dec x.t.toNat ++ (32 :: dec x.own.lv.toNat ++ (32 :: dec (keysL x.us).length ++ (32 :: dec (keysL x.en).length ++ [10])))
noncomputable def brief (l : List Part) : List UInt8 := l.flatMap rowB
noncomputable def briefV (s : Srv) : V := if SvOk s then .tup [.str (brief s.ps.l), .int .i64 0] else .tup [.str [], .int .i64 8]
theorem briefV_y {s : Srv} (h : SvOk s) : briefV s = .tup [.str (brief s.ps.l), .int .i64 0] := if_pos h
theorem briefV_n {s : Srv} (h : ¬ SvOk s) : briefV s = .tup [.str [], .int .i64 8] := if_neg h
theorem frzTSI {h : Heap} {b : Nat} {l : List UInt8} {k : IntKind} {x : Int} : frz frzFuel h b false (.tup [.str l, .int k x]) = some (.tup [.str l, .int k x]) := rfl
theorem chkB_lv {b : Bucket} (h : chkB b = 0) : 0 ≤ b.lv ∧ b.lv ≤ 1000000000 := by
 unfold chkB at h
 by_cases q : bkBad b = true
 ·rw [if_pos q] at h; cases h
 ·have q : bkBad b = false := by simpa using q
  unfold bkBad limBad at q
  simp only [Bool.or_eq_false_iff, decide_eq_false_iff_not] at q
  omega
theorem rowB_len {x : Part} (o : PtOk x) (h0 : 0 ≤ x.t) : (rowB x).length ≤ 84 := by
 have h1 := dec_len (n := x.t.toNat) (by have := o.t; omega)
 have h2 := dec_len (n := x.own.lv.toNat) (by have := chkB_lv o.ow; omega)
 have h3 := dec_len (n := (keysL x.us).length) (by have := o.us.plen; simp only [keysL, List.length_map]; omega)
 have h4 := dec_len (n := (keysL x.en).length) (by have := o.en.plen; simp only [keysL, List.length_map]; omega)
 simp only [rowB, List.length_append, List.length_cons, List.length_nil]
 omega
theorem brief_len : ∀ {l : List Part}, (∀ x ∈ l, PtOk x ∧ 0 ≤ x.t) → (brief l).length ≤ 84 * l.length
 | [], _ => by simp [brief]
 | x :: l, h => by
  have ih := brief_len (l := l) (fun m hm => h m (List.mem_cons_of_mem _ hm))
  have := rowB_len (h x List.mem_cons_self).1 (h x List.mem_cons_self).2
  simp only [brief, List.flatMap_cons, List.length_append, List.length_cons] at ih ⊢
  omega
theorem Bl.kp {bb : Nat} {s : List UInt8} {h h' : Heap} (b : Bl bb s h) (k : Kp h h') : Bl bb s h' := by
 obtain ⟨b1, b2, a, v, b3, b4⟩ := b
 refine ⟨by have := k.nx; omega, by rw [k.lo]; exact b2, a, v, by rw [k.get _ b1, b3], ?_⟩
 rcases b4 with q | ⟨q, r⟩
 ·exact .inl q
 ·refine .inr ⟨q, ?_⟩
  rcases r with r | ⟨b, g1, g2, g3, g4, g5, g6⟩
  ·exact .inl r
  ·exact .inr ⟨b, g1, by rw [k.get _ g5, g2], g3, by rw [k.lo]; exact g4, by have := k.nx; omega, g6⟩
theorem rep4u : rep 4 [V.int .u64 0] = [.int .u64 0, .int .u64 0, .int .u64 0, .int .u64 0] := rfl
theorem brief_snoc {l : List Part} {k : Nat} (h : k < l.length) : brief (l.take (k + 1)) = brief (l.take k) ++ rowB l[k] := by
 unfold brief
 rw [List.take_succ_eq_append_getElem h, List.flatMap_append, List.flatMap_singleton]
section
variable {vp : Nat → Option VFn}
def invBr (s0 : Srv) (L : List V) (bx bb lo : Nat) (m : Nat) (s : Slots) (h : Heap) : Prop :=
 ∃ k, k ≤ s0.ps.l.length ∧ m = s0.ps.l.length - k ∧ s.at 1 = .ptr bx 0 ∧ s.at 5 = .ptr bb 0 ∧ s.at 17 = s0.ps.v encP ∧ s.at 18 = .int .i64 (s0.ps.l.length : Int) ∧ s.at 19 = .int .i64 (k : Int) ∧ h.get bx = .cells L .cl ∧ bx < h.nx ∧ h.lo = lo ∧ lo ≤ h.nx ∧ Bl bb (brief (s0.ps.l.take k)) h
theorem br_spec {f c1 c2 c3 c4 c5 c6 d1 t2 : Nat} (hf : vp f = some (B_report_Brief_v2 c1 c2 c3 c4 c5 c6 84 t2)) (m1 : modeOf vp c1 = some 1) (m2 : modeOf vp c2 = some 1) (m3 : modeOf vp c3 = some 1) (m4 : modeOf vp c4 = some 1)
  (h5 : vp c5 = some (B_strings_Builder_WriteString_v2 d1)) (g1 : vp d1 = some B_strings_Builder_copyCheck_v2) (h6 : vp c6 = some B_strings_Builder_String_v2)
  (vl : ∀ (s : Srv) (h : Heap), callRes vp c1 [.agg (encS s)] h = some (.int .i64 (chk (SvOk s)), h))
  (ks : ∀ t : Tab, TbOk t → ∀ h : Heap, ∃ c : Sl K32, callRes vp c2 [.agg (encT t)] h = some (.tup [c.v eK, .int .i64 0], h) ∧ c.l = keysL t)
  (nm : ∀ (v : V) (l : List Nat), (∀ n ∈ l, n < 4294967296) → l.length ≤ 100 → ∀ h : Heap, Rd e64 1 h v l → (∀ cs a b, v ≠ .isl cs a b) → callRes vp c3 [v] h = some (.str (nums l), h))
  (tp : ∀ (x : List UInt8) (c : UInt8) (h : Heap), callRes vp c4 [.str (c :: x), .str [c]] h = some (.str x, h))
  (s : Srv) (hps : ∀ x ∈ s.ps.l, 0 ≤ x.t) (h : Heap) : callRes vp f [.agg (encS s)] h = some (briefV s, h) := by
 refine res_pure hf rfl rfl (fun g hg => ?_)
 have hlo := hlo hg
 unfold B_report_Brief_v2
 have vl := fun h => vl s h
 obtain ⟨L, hL⟩ : ∃ L, encS1 s = L := ⟨_, rfl⟩
 have l1 : L.length = 49 := by rw [← hL, encS1_len]
 have l2 : L.drop 48 = [s.ps.v encP] := by rw [← hL, encS1_ps]
 have l4 : takeN 49 L = some L := by rw [← hL, encS1_take]
 unfold encS at vl ⊢
 rw [hL] at vl ⊢
 by_cases q1 : SvOk s
 case neg =>
  have e1 := chk_n q1
  simp only [↓zp, zz, zy, zq, seval, reduceIte, reduceCtorEq, l1, l4, m1, vl, e1, not_false_eq_true, briefV_n q1, frzTSI]
  done
 have e1 := chk_y q1
 obtain ⟨r1, r2⟩ := q1.ok
 have okp : ∀ x ∈ s.ps.l, PtOk x ∧ 0 ≤ x.t := fun x hx => by
  obtain ⟨i, hi, rfl⟩ := List.getElem_of_mem hx
  exact ⟨r2.ok i hi, hps _ hx⟩
 rw [briefV_y q1]
 simp only [↓zp, zz, zy, zq, seval, reduceIte, reduceCtorEq, l1, l2, l4, m1, vl, e1, not_true]
 generalize hS : Tr.set _ 19 _ = S
 have b1 : Slots.at S 1 = .ptr g.nx 0 := by rw [← hS]; simp only [zs, Nat.reduceEqDiff]
 have b5 : Slots.at S 5 = .ptr (g.nx + 1) 0 := by rw [← hS]; simp only [zs, Nat.reduceEqDiff]
 have b17 : Slots.at S 17 = s.ps.v encP := by rw [← hS]; simp only [zs, Nat.reduceEqDiff]
 have b18 : Slots.at S 18 = .int .i64 (s.ps.l.length : Int) := by rw [← hS]; simp only [zs, Nat.reduceEqDiff]
 have b19 : Slots.at S 19 = .int .i64 ((0 : Nat) : Int) := by rw [← hS]; simp only [zs, Nat.reduceEqDiff]; rfl
 clear hS
 generalize hH : Heap.new (Heap.new g _) _ = H
 have ga : H.get g.nx = .cells (.int .u64 s.now :: L) .cl := by rw [← hH]; simp only [↓zp, zz, zy, zq, seval, reduceIte, reduceCtorEq]
 have hnx : H.nx = g.nx + 2 := by rw [← hH]; rfl
 have hl : H.lo = g.lo := by rw [← hH]; rfl
 have hb : Bl (g.nx + 1) (brief (s.ps.l.take 0)) H := ⟨by omega, by omega, .nilp, .nils, by rw [← hH]; simp only [↓zp, zz, zy, zq, seval, reduceIte, reduceCtorEq], .inl ⟨rfl, rfl, rfl⟩⟩
 clear hH
 refine loop_ind (fun m q h => invBr s (.int .u64 s.now :: L) g.nx (g.nx + 1) g.lo m q h) ?_ s.ps.l.length ⟨0, by omega, by omega, b1, b5, b17, b18, b19, ga, by omega, hl, by omega, hb⟩
 clear b1 b5 b17 b18 b19 ga hnx hl hb
 rintro m q h ⟨k, hk, hm, c1', c5', c17, c18, c19, ga, hbx, hl, hx, hb⟩
 have bl : ∀ j, (brief (s.ps.l.take j)).length ≤ 84 * 8 := fun j => by
  have := brief_len (l := s.ps.l.take j) (fun x hx => okp x (List.mem_of_mem_take hx))
  rw [List.length_take] at this
  omega
 by_cases hlt : k < s.ps.l.length
 case neg =>
  have hlt' : ¬ ((k : Int) < (s.ps.l.length : Int)) := by omega
  obtain ⟨h', e, _⟩ := str_spec h6 (g.nx + 1) _ (by have := bl k; omega) h hb
  rw [List.take_of_length_le (by omega)] at e
  simp only [↓zp, zz, zy, zq, seval, reduceIte, reduceCtorEq, c1', c5', c17, c18, c19, hlt', e, frzTSI]
  done
 have hlt' : (k : Int) < (s.ps.l.length : Int) := by omega
 have hn : ¬ h.nx < h.lo := by omega
 have ws := wr_succ (k := k) (by omega)
 obtain ⟨o, ht0⟩ := okp s.ps.l[k] (List.getElem_mem hlt)
 obtain ⟨lv0, lv1⟩ := chkB_lv o.ow
 have ht1 := o.t
 obtain ⟨tn, htn⟩ : ∃ n : Nat, s.ps.l[k].t = (n : Int) := ⟨s.ps.l[k].t.toNat, by omega⟩
 obtain ⟨ln, hln⟩ : ∃ n : Nat, s.ps.l[k].own.lv = (n : Int) := ⟨s.ps.l[k].own.lv.toNat, by omega⟩
 have ia1 := fun h => r_ia_v (h := h) (c := s.ps) encP_len (by decide) hlt rfl
 obtain ⟨H1, hH1⟩ : ∃ H1, (h.new (.cells zP (.ct t2))).set h.nx (.cells (encP s.ps.l[k]) (.ct t2)) = H1 := ⟨_, rfl⟩
 have n1 : H1.nx = h.nx + 1 := by rw [← hH1]; rfl
 have gp : H1.get h.nx = .cells (encP s.ps.l[k]) (.ct t2) := by rw [← hH1, Heap.get_set, if_pos rfl]
 obtain ⟨cu, eu, du⟩ := ks s.ps.l[k].us o.us H1
 obtain ⟨ce, ee, de⟩ := ks s.ps.l[k].en o.en H1
 have ku : cu.l.length ≤ 8 := by have := o.us.plen; rw [du]; simpa [keysL] using this
 have ke : ce.l.length ≤ 8 := by have := o.en.plen; rw [de]; simpa [keysL] using this
 have w1 : wr .u64 (tn : Int) = (tn : Int) := wr_ul (by omega)
 have w2 : wr .u64 (ln : Int) = (ln : Int) := wr_ul (by omega)
 have w3 : wr .u64 (cu.l.length : Int) = (cu.l.length : Int) := wr_ul (by omega)
 have w4 : wr .u64 (ce.l.length : Int) = (ce.l.length : Int) := wr_ul (by omega)
 obtain ⟨H2, hH2⟩ : ∃ H2, H1.new (.cells [.int .u64 (tn : Int), .int .u64 (ln : Int), .int .u64 (cu.l.length : Int), .int .u64 (ce.l.length : Int)] .cl) = H2 := ⟨_, rfl⟩
 have n2 : H2.nx = h.nx + 2 := by rw [← hH2, Heap.new_nx, n1]
 have kp : Kp h H2 := by rw [← hH2, ← hH1]; exact ((((Kp.refl h).new _).set _ (Nat.le_refl _)).new _)
 have rd : Rd e64 1 H2 (.sl H1.nx 0 4 4 1) [tn, ln, cu.l.length, ce.l.length] := .inr ⟨H1.nx, 0, 4, 4, .cl, _, [], rfl, rfl, by rw [← hH2, Heap.get_new, if_pos rfl]; rfl, rfl, by omega⟩
 have en := nm (.sl H1.nx 0 4 4 1) [tn, ln, cu.l.length, ce.l.length] (by
  intro n hn
  simp only [List.mem_cons, List.not_mem_nil, or_false] at hn
  omega) (by simp) H2 rd (fun _ _ _ => by intro q; cases q)
 obtain ⟨T, hT⟩ : ∃ T, dec tn ++ (32 :: dec ln ++ (32 :: dec cu.l.length ++ (32 :: dec ce.l.length))) = T := ⟨_, rfl⟩
 have nT : nums [tn, ln, cu.l.length, ce.l.length] = 32 :: T := by
  rw [← hT]
  simp [nums]
 rw [nT] at en
 have hrow : rowB s.ps.l[k] = T ++ [10] := by
  unfold rowB
  rw [← hT, htn, hln, ← du, ← de]
  simp
 have rlen := rowB_len o ht0
 rw [hrow, List.length_append, List.length_singleton] at rlen
 have etp := fun h => tp T 32 h
 have ad : VE.binOp .add (.str T) (.str [10]) = some (.str (T ++ [10])) := bin_adds (by simp; omega)
 obtain ⟨w, h', ew, hb', kb⟩ := ws_spec h5 g1 (g.nx + 1) (brief (s.ps.l.take k)) (T ++ [10]) (by have := bl k; simp; omega) H2 (hb.kp kp)
 simp only [encP, encT, zP] at ia1 hH1 eu ee gp
 rw [htn, hln] at ia1 hH1 gp
 rw [n1] at en
 simp only [↓zp, zz, zy, zq, seval, reduceIte, reduceCtorEq, c1', c5', c17, c18, c19, hlt', ia1, hn, hH1, gp, m2, eu, ee, not_true, w1, w2, w3, w4, rep4u, n1, hH2, m3, en, m4, etp, ad, ew, ws]
 refine ⟨_, by omega, k + 1, by omega, rfl, by simp only [zs, Nat.reduceEqDiff, c1'], by simp only [zs, Nat.reduceEqDiff, c5'], by simp only [zs, Nat.reduceEqDiff, c17], by simp only [zs, Nat.reduceEqDiff, c18], by simp only [zs, Nat.reduceEqDiff], ?_, ?_, ?_, ?_, ?_⟩
 ·have e0 : H2.get g.nx = .cells (.int .u64 s.now :: L) .cl := by rw [kp.get _ hbx, ga]
  rw [kb.get _ (by omega) (by omega) (.inr (by rw [e0]; intro cs q; cases q)), e0]
 ·have := kb.nx; omega
 ·exact (kb.lo.trans kp.lo).trans hl
 ·have := kb.nx; omega
 ·rw [brief_snoc hlt, hrow]
  exact hb'
def invBR (s0 : Srv) (L : List V) (bx lo : Nat) (m : Nat) (s : Slots) (h : Heap) : Prop :=
 ∃ k, k ≤ s0.ps.l.length ∧ m = s0.ps.l.length - k ∧ s.at 1 = .ptr bx 0 ∧ s.at 5 = .str (brief (s0.ps.l.take k)) ∧ s.at 6 = .int .i64 (k : Int) ∧ h.get bx = .cells L .cl ∧ bx < h.nx ∧ h.lo = lo ∧ lo ≤ h.nx
theorem brR_spec {f c1 c2 c3 t2 : Nat} (hf : vp f = some (B_spigotref44_Brief c1 c2 c3 t2)) (m1 : modeOf vp c1 = some 1) (m2 : modeOf vp c2 = some 1) (m3 : modeOf vp c3 = some 1)
  (vl : ∀ (s : Srv) (h : Heap), callRes vp c1 [.agg (encS s)] h = some (.int .i64 (chk (SvOk s)), h))
  (dc : ∀ n : Nat, n < 18446744073709551616 → ∀ h : Heap, ∃ j, IsLen n j ∧ callRes vp c2 [.int .u64 (n : Int)] h = some (.str (digs j n), h))
  (ks : ∀ t : Tab, TbOk t → ∀ h : Heap, ∃ c : Sl K32, callRes vp c3 [.agg (encT t)] h = some (c.v eK, h) ∧ c.l = keysL t)
  (s : Srv) (hps : ∀ x ∈ s.ps.l, 0 ≤ x.t) (h : Heap) : callRes vp f [.agg (encS s)] h = some (briefV s, h) := by
 refine res_pure hf rfl rfl (fun g hg => ?_)
 have hlo := hlo hg
 unfold B_spigotref44_Brief
 have vl := fun h => vl s h
 have dc : ∀ n : Nat, n < 18446744073709551616 → ∀ h : Heap, callRes vp c2 [.int .u64 (n : Int)] h = some (.str (dec n), h) := fun n hn h => by
  obtain ⟨j, hj, e⟩ := dc n hn h
  rw [e, dec_eq hj]
 obtain ⟨L, hL⟩ : ∃ L, encS1 s = L := ⟨_, rfl⟩
 have l1 : L.length = 49 := by rw [← hL, encS1_len]
 have l2 : L.drop 48 = [s.ps.v encP] := by rw [← hL, encS1_ps]
 have l4 : takeN 49 L = some L := by rw [← hL, encS1_take]
 unfold encS at vl ⊢
 rw [hL] at vl ⊢
 by_cases q1 : SvOk s
 case neg =>
  have e1 := chk_n q1
  simp only [↓zp, zz, zy, zq, seval, reduceIte, reduceCtorEq, l1, l4, m1, vl, e1, not_false_eq_true, briefV_n q1, frzTSI]
  done
 have e1 := chk_y q1
 obtain ⟨r1, r2⟩ := q1.ok
 have okp : ∀ x ∈ s.ps.l, PtOk x ∧ 0 ≤ x.t := fun x hx => by
  obtain ⟨i, hi, rfl⟩ := List.getElem_of_mem hx
  exact ⟨r2.ok i hi, hps _ hx⟩
 rw [briefV_y q1]
 simp only [↓zp, zz, zy, zq, seval, reduceIte, reduceCtorEq, l1, l2, l4, m1, vl, e1, not_true]
 generalize hS : Tr.set _ 6 _ = S
 have b1 : Slots.at S 1 = .ptr g.nx 0 := by rw [← hS]; simp only [zs, Nat.reduceEqDiff]
 have b5 : Slots.at S 5 = .str (brief (s.ps.l.take 0)) := by rw [← hS]; simp only [zs, Nat.reduceEqDiff]; rfl
 have b6 : Slots.at S 6 = .int .i64 ((0 : Nat) : Int) := by rw [← hS]; simp only [zs, Nat.reduceEqDiff]; rfl
 clear hS
 generalize hH : Heap.new g _ = H
 have ga : H.get g.nx = .cells (.int .u64 s.now :: L) .cl := by rw [← hH]; simp only [↓zp, zz, zy, zq, seval, reduceIte, reduceCtorEq]
 have hnx : H.nx = g.nx + 1 := by rw [← hH]; rfl
 have hl : H.lo = g.lo := by rw [← hH]; rfl
 clear hH
 refine loop_ind (fun m q h => invBR s (.int .u64 s.now :: L) g.nx g.lo m q h) ?_ s.ps.l.length ⟨0, by omega, by omega, b1, b5, b6, ga, by omega, hl, by omega⟩
 clear b1 b5 b6 ga hnx hl
 rintro m q h ⟨k, hk, hm, c1', c5', c6, ga, hbx, hl, hx⟩
 have bl : ∀ j, (brief (s.ps.l.take j)).length ≤ 84 * 8 := fun j => by
  have := brief_len (l := s.ps.l.take j) (fun x hx => okp x (List.mem_of_mem_take hx))
  rw [List.length_take] at this
  omega
 by_cases hlt : k < s.ps.l.length
 case neg =>
  have hlt' : ¬ ((k : Int) < (s.ps.l.length : Int)) := by omega
  rw [List.take_of_length_le (by omega)] at c5'
  simp only [↓zp, zz, zy, zq, seval, reduceIte, reduceCtorEq, c1', c5', c6, ga, l2, hlt', frzTSI]
  done
 have hlt' : (k : Int) < (s.ps.l.length : Int) := by omega
 have hn : ¬ h.nx < h.lo := by omega
 have hb : ¬ g.nx = h.nx := by omega
 have ws := wr_succ (k := k) (by omega)
 obtain ⟨o, ht0⟩ := okp s.ps.l[k] (List.getElem_mem hlt)
 obtain ⟨lv0, lv1⟩ := chkB_lv o.ow
 have ht1 := o.t
 obtain ⟨tn, htn⟩ : ∃ n : Nat, s.ps.l[k].t = (n : Int) := ⟨s.ps.l[k].t.toNat, by omega⟩
 obtain ⟨ln, hln⟩ : ∃ n : Nat, s.ps.l[k].own.lv = (n : Int) := ⟨s.ps.l[k].own.lv.toNat, by omega⟩
 have ia1 := fun h => r_ia_v (h := h) (c := s.ps) encP_len (by decide) hlt rfl
 obtain ⟨H1, hH1⟩ : ∃ H1, (h.new (.cells zP (.ct t2))).set h.nx (.cells (encP s.ps.l[k]) (.ct t2)) = H1 := ⟨_, rfl⟩
 have gp : H1.get h.nx = .cells (encP s.ps.l[k]) (.ct t2) := by rw [← hH1, Heap.get_set, if_pos rfl]
 have gs : H1.get g.nx = .cells (.int .u64 s.now :: L) .cl := by rw [← hH1, Heap.get_set, if_neg hb, Heap.get_new, if_neg hb, ga]
 have n1 : H1.nx = h.nx + 1 := by rw [← hH1]; rfl
 have ll1 : H1.lo = g.lo := by rw [← hH1]; exact hl
 obtain ⟨cu, eu, du⟩ := ks s.ps.l[k].us o.us H1
 obtain ⟨ce, ee, de⟩ := ks s.ps.l[k].en o.en H1
 have ku : cu.l.length ≤ 8 := by have := o.us.plen; rw [du]; simpa [keysL] using this
 have ke : ce.l.length ≤ 8 := by have := o.en.plen; rw [de]; simpa [keysL] using this
 have w1 : wr .u64 (tn : Int) = (tn : Int) := wr_ul (by omega)
 have w2 : wr .u64 (ln : Int) = (ln : Int) := wr_ul (by omega)
 have w3 : wr .u64 (cu.l.length : Int) = (cu.l.length : Int) := wr_ul (by omega)
 have w4 : wr .u64 (ce.l.length : Int) = (ce.l.length : Int) := wr_ul (by omega)
 have x1 := fun h => dc tn (by omega) h
 have x2 := fun h => dc ln (by omega) h
 have x3 := fun h => dc cu.l.length (by omega) h
 have x4 := fun h => dc ce.l.length (by omega) h
 have y1 := dec_len (n := tn) (by omega)
 have y2 := dec_len (n := ln) (by omega)
 have y3 := dec_len (n := cu.l.length) (by omega)
 have y4 := dec_len (n := ce.l.length) (by omega)
 obtain ⟨D1, hD1⟩ : ∃ D, dec tn = D := ⟨_, rfl⟩
 obtain ⟨D2, hD2⟩ : ∃ D, dec ln = D := ⟨_, rfl⟩
 obtain ⟨D3, hD3⟩ : ∃ D, dec cu.l.length = D := ⟨_, rfl⟩
 obtain ⟨D4, hD4⟩ : ∃ D, dec ce.l.length = D := ⟨_, rfl⟩
 have hrow : rowB s.ps.l[k] = D1 ++ [32] ++ D2 ++ [32] ++ D3 ++ [32] ++ D4 ++ [10] := by
  unfold rowB
  rw [htn, hln, ← du, ← de, ← hD1, ← hD2, ← hD3, ← hD4]
  simp
 rw [hD1] at x1 y1
 rw [hD2] at x2 y2
 rw [hD3] at x3 y3
 rw [hD4] at x4 y4
 obtain ⟨E1, hE1⟩ : ∃ E, D1 ++ [32] = E := ⟨_, rfl⟩
 obtain ⟨E2, hE2⟩ : ∃ E, E1 ++ D2 = E := ⟨_, rfl⟩
 obtain ⟨E3, hE3⟩ : ∃ E, E2 ++ [32] = E := ⟨_, rfl⟩
 obtain ⟨E4, hE4⟩ : ∃ E, E3 ++ D3 = E := ⟨_, rfl⟩
 obtain ⟨E5, hE5⟩ : ∃ E, E4 ++ [32] = E := ⟨_, rfl⟩
 obtain ⟨E6, hE6⟩ : ∃ E, E5 ++ D4 = E := ⟨_, rfl⟩
 obtain ⟨E7, hE7⟩ : ∃ E, E6 ++ [10] = E := ⟨_, rfl⟩
 have z1 : E1.length ≤ 21 := by rw [← hE1]; simp; omega
 have z2 : E2.length ≤ 41 := by rw [← hE2, List.length_append]; omega
 have z3 : E3.length ≤ 42 := by rw [← hE3]; simp; omega
 have z4 : E4.length ≤ 62 := by rw [← hE4, List.length_append]; omega
 have z5 : E5.length ≤ 63 := by rw [← hE5]; simp; omega
 have z6 : E6.length ≤ 83 := by rw [← hE6, List.length_append]; omega
 have z7 : E7.length ≤ 84 := by rw [← hE7]; simp; omega
 have a1 : VE.binOp .add (.str D1) (.str [32]) = some (.str E1) := by rw [← hE1]; exact bin_adds (by simp; omega)
 have a2 : VE.binOp .add (.str E1) (.str D2) = some (.str E2) := by rw [← hE2]; exact bin_adds (by omega)
 have a3 : VE.binOp .add (.str E2) (.str [32]) = some (.str E3) := by rw [← hE3]; exact bin_adds (by simp; omega)
 have a4 : VE.binOp .add (.str E3) (.str D3) = some (.str E4) := by rw [← hE4]; exact bin_adds (by omega)
 have a5 : VE.binOp .add (.str E4) (.str [32]) = some (.str E5) := by rw [← hE5]; exact bin_adds (by simp; omega)
 have a6 : VE.binOp .add (.str E5) (.str D4) = some (.str E6) := by rw [← hE6]; exact bin_adds (by omega)
 have a7 : VE.binOp .add (.str E6) (.str [10]) = some (.str E7) := by rw [← hE7]; exact bin_adds (by simp; omega)
 have a8 : VE.binOp .add (.str (brief (s.ps.l.take k))) (.str E7) = some (.str (brief (s.ps.l.take k) ++ E7)) := bin_adds (by have := bl k; omega)
 simp only [encP, encT, zP] at ia1 hH1 eu ee gp
 rw [htn, hln] at ia1 hH1 gp
 simp only [↓zp, zz, zy, zq, seval, reduceIte, reduceCtorEq, c1', c5', c6, ga, l2, hlt', ia1, hn, hb, hH1, gp, gs, m2, m3, eu, ee, w1, w2, w3, w4, x1, x2, x3, x4, a1, a2, a3, a4, a5, a6, a7, a8, ws]
 refine ⟨_, by omega, k + 1, by omega, rfl, by simp only [zs, Nat.reduceEqDiff, c1'], ?_, by simp only [zs, Nat.reduceEqDiff], gs, by omega, ll1, by omega⟩
 simp only [zs, Nat.reduceEqDiff]
 rw [brief_snoc hlt, hrow, ← hE7, ← hE6, ← hE5, ← hE4, ← hE3, ← hE2, ← hE1]
end
end
section
open Go Go.VE Classical
section
variable {vp : Nat → Option VFn}
theorem gr13 {f : Nat} (hf : vp f = some B_spigotref13_Great) (nx : Sl Int) (us : Sl Bool) (fr : Int) (h : Heap) : ∃ b, callRes vp f [.agg [nx.v eI, us.v eO, .int .i64 fr]] h = some (.bool b, h) := by
 suffices q : ∃ r, callRes vp f [.agg [nx.v eI, us.v eO, .int .i64 fr]] h = some (r, h) ∧ ∃ b, r = .bool b by
  obtain ⟨r, e, b, rfl⟩ := q
  exact ⟨b, e⟩
 refine res_pure_ex hf rfl rfl (fun g hg => ?_)
 unfold B_spigotref13_Great
 by_cases q1 : 100 < (nx.l.length : Int)
 ·simp only [↓zp, zz, zy, zq, seval, reduceIte, reduceCtorEq, q1, frzB]
  exact ⟨_, rfl⟩
 ·simp only [↓zp, zz, zy, zq, seval, reduceIte, reduceCtorEq, q1, frzB]
  exact ⟨_, rfl⟩
theorem gr15 {f : Nat} (hf : vp f = some B_spigotref15_Great) (nx us : Sl Int) (hd tl : Int) (h : Heap) : ∃ b, callRes vp f [.agg [nx.v eI, us.v eI, .int .i64 hd, .int .i64 tl]] h = some (.bool b, h) := by
 suffices q : ∃ r, callRes vp f [.agg [nx.v eI, us.v eI, .int .i64 hd, .int .i64 tl]] h = some (r, h) ∧ ∃ b, r = .bool b by
  obtain ⟨r, e, b, rfl⟩ := q
  exact ⟨b, e⟩
 refine res_pure_ex hf rfl rfl (fun g hg => ?_)
 unfold B_spigotref15_Great
 by_cases q1 : 100 < (nx.l.length : Int)
 ·simp only [↓zp, zz, zy, zq, seval, reduceIte, reduceCtorEq, q1, frzB]
  exact ⟨_, rfl⟩
 ·simp only [↓zp, zz, zy, zq, seval, reduceIte, reduceCtorEq, q1, frzB]
  exact ⟨_, rfl⟩
theorem gr16 {f c1 c2 : Nat} (hf : vp f = some (B_spigotref16_Great c1 c2)) (h1 : vp c1 = some B_spigotref13_Great) (h2 : vp c2 = some B_spigotref15_Great) (t : Tab) (h : Heap) : ∃ b, callRes vp f [.agg (encT t)] h = some (.bool b, h) := by
 have m1 : modeOf vp c1 = some 1 := mo h1 rfl rfl
 have m2 : modeOf vp c2 = some 1 := mo h2 rfl rfl
 suffices q : ∃ r, callRes vp f [.agg (encT t)] h = some (r, h) ∧ ∃ b, r = .bool b by
  obtain ⟨r, e, b, rfl⟩ := q
  exact ⟨b, e⟩
 refine res_pure_ex hf rfl rfl (fun g hg => ?_)
 unfold B_spigotref16_Great
 obtain ⟨H, hH⟩ : ∃ H, g.new (.cells (encT t) .cl) = H := ⟨_, rfl⟩
 have ga : H.get g.nx = .cells (encT t) .cl := by rw [← hH]; simp only [↓zp, zz, zy, zq, seval, reduceIte, reduceCtorEq]
 obtain ⟨b1, e1⟩ := gr13 h1 t.nx t.us t.fr H
 obtain ⟨b2, e2⟩ := gr15 h2 t.op t.on t.hd t.tl H
 unfold encT at hH ga ⊢
 by_cases q1 : 100 < (t.ks.l.length : Int)
 ·simp only [↓zp, zz, zy, zq, seval, reduceIte, reduceCtorEq, hH, ga, q1, frzB]
  exact ⟨_, rfl⟩
 by_cases q2 : 100 < (t.bk.l.length : Int)
 ·simp only [↓zp, zz, zy, zq, seval, reduceIte, reduceCtorEq, hH, ga, q1, q2, frzB]
  exact ⟨_, rfl⟩
 by_cases q3 : 100 < (t.ix.l.length : Int)
 ·simp only [↓zp, zz, zy, zq, seval, reduceIte, reduceCtorEq, hH, ga, q1, q2, q3, frzB]
  exact ⟨_, rfl⟩
 cases b1
 ·simp only [↓zp, zz, zy, zq, seval, reduceIte, reduceCtorEq, hH, ga, q1, q2, q3, m1, e1, m2, e2, frzB]
  exact ⟨_, rfl⟩
 ·simp only [↓zp, zz, zy, zq, seval, reduceIte, reduceCtorEq, hH, ga, q1, q2, q3, m1, e1, frzB]
  exact ⟨_, rfl⟩
theorem gr18 {f c1 : Nat} (hf : vp f = some (B_spigotref18_Great c1)) (m1 : modeOf vp c1 = some 1) (k : ∀ (t : Tab) (h : Heap), ∃ b, callRes vp c1 [.agg (encT t)] h = some (.bool b, h)) (x : Part) (h : Heap) : ∃ b, callRes vp f [.agg (encP x)] h = some (.bool b, h) := by
 suffices q : ∃ r, callRes vp f [.agg (encP x)] h = some (r, h) ∧ ∃ b, r = .bool b by
  obtain ⟨r, e, b, rfl⟩ := q
  exact ⟨b, e⟩
 refine res_pure_ex hf rfl rfl (fun g hg => ?_)
 unfold B_spigotref18_Great
 obtain ⟨H, hH⟩ : ∃ H, g.new (.cells (encP x) .cl) = H := ⟨_, rfl⟩
 have ga : H.get g.nx = .cells (encP x) .cl := by rw [← hH]; simp only [↓zp, zz, zy, zq, seval, reduceIte, reduceCtorEq]
 obtain ⟨b1, e1⟩ := k x.us H
 obtain ⟨b2, e2⟩ := k x.en H
 unfold encP at hH ga ⊢
 unfold encT at e1 e2
 cases b1
 ·cases b2
  ·simp only [↓zp, zz, zy, zq, seval, reduceIte, reduceCtorEq, hH, ga, m1, e1, e2, frzB]
   exact ⟨_, rfl⟩
  ·simp only [↓zp, zz, zy, zq, seval, reduceIte, reduceCtorEq, hH, ga, m1, e1, e2, frzB]
   exact ⟨_, rfl⟩
 ·simp only [↓zp, zz, zy, zq, seval, reduceIte, reduceCtorEq, hH, ga, m1, e1, frzB]
  exact ⟨_, rfl⟩
def invG (ps : Sl Part) (H : Heap) (m : Nat) (s : Slots) (h : Heap) : Prop := ∃ k, k ≤ ps.l.length ∧ m = ps.l.length - k ∧ s.at 0 = ps.v encP ∧ s.at 3 = .int .i64 (k : Int) ∧ h = H
theorem gr19 {f c1 : Nat} (hf : vp f = some (B_spigotref19_Great c1)) (m1 : modeOf vp c1 = some 1) (k : ∀ (x : Part) (h : Heap), ∃ b, callRes vp c1 [.agg (encP x)] h = some (.bool b, h)) (ps : Sl Part) (h : Heap) : ∃ b, callRes vp f [ps.v encP] h = some (.bool b, h) := by
 suffices q : ∃ r, callRes vp f [ps.v encP] h = some (r, h) ∧ ∃ b, r = .bool b by
  obtain ⟨r, e, b, rfl⟩ := q
  exact ⟨b, e⟩
 refine res_pure_ex hf rfl rfl (fun g hg => ?_)
 unfold B_spigotref19_Great
 simp only [↓zp, zz, zy, zq, seval, reduceIte, reduceCtorEq]
 generalize hS : Tr.set _ 3 _ = S
 have b0 : Slots.at S 0 = ps.v encP := by rw [← hS]; simp only [zs, Nat.reduceEqDiff]
 have b3 : Slots.at S 3 = .int .i64 ((0 : Nat) : Int) := by rw [← hS]; simp only [zs, Nat.reduceEqDiff]; rfl
 clear hS
 refine loop_ind (fun m s h => invG ps g m s h) ?_ ps.l.length ⟨0, by omega, by omega, b0, b3, rfl⟩
 clear b0 b3
 rintro m s h ⟨i, hi, hm, c0, c3, rfl⟩
 by_cases hlt : i < ps.l.length
 case neg =>
  have hlt' : ¬ ((i : Int) < (ps.l.length : Int)) := by omega
  simp only [↓zp, zz, zy, zq, seval, reduceIte, reduceCtorEq, c0, c3, hlt', frzB]
  exact ⟨_, rfl⟩
 have hlt' : (i : Int) < (ps.l.length : Int) := by omega
 by_cases h20 : (i : Int) ≤ 20
 case neg =>
  simp only [↓zp, zz, zy, zq, seval, reduceIte, reduceCtorEq, c0, c3, hlt', h20, frzB]
  exact ⟨_, rfl⟩
 have ws := wr_succ (k := i) (by omega)
 have ia1 := fun h => r_ia_v (h := h) (c := ps) encP_len (by decide) hlt rfl
 obtain ⟨b, e⟩ := k ps.l[i] h
 simp only [encP] at ia1 e
 cases b
 ·simp only [↓zp, zz, zy, zq, seval, reduceIte, reduceCtorEq, c0, c3, hlt', h20, ia1, m1, e, ws]
  exact ⟨_, by omega, i + 1, by omega, rfl, by simp only [zs, Nat.reduceEqDiff, c0], by simp only [zs, Nat.reduceEqDiff], rfl⟩
 ·simp only [↓zp, zz, zy, zq, seval, reduceIte, reduceCtorEq, c0, c3, hlt', h20, ia1, m1, e, frzB]
  exact ⟨_, rfl⟩
theorem gr20 {f c1 : Nat} (hf : vp f = some (B_spigotref20_Great c1)) (m1 : modeOf vp c1 = some 1) (k : ∀ (ps : Sl Part) (h : Heap), ∃ b, callRes vp c1 [ps.v encP] h = some (.bool b, h)) (s : Srv) (h : Heap) : ∃ b, callRes vp f [.agg (encS s)] h = some (.bool b, h) := by
 suffices q : ∃ r, callRes vp f [.agg (encS s)] h = some (r, h) ∧ ∃ b, r = .bool b by
  obtain ⟨r, e, b, rfl⟩ := q
  exact ⟨b, e⟩
 refine res_pure_ex hf rfl rfl (fun g hg => ?_)
 unfold B_spigotref20_Great encS
 obtain ⟨L, hL⟩ : ∃ L, encS1 s = L := ⟨_, rfl⟩
 have l1 : L.length = 49 := by rw [← hL, encS1_len]
 have l2 : L.drop 48 = [s.ps.v encP] := by rw [← hL, encS1_ps]
 rw [hL]
 obtain ⟨b, e⟩ := k s.ps (g.new (.cells (.int .u64 s.now :: L) .cl))
 simp only [↓zp, zz, zy, zq, seval, reduceIte, reduceCtorEq, l1, l2, m1, e, frzB]
 exact ⟨_, rfl⟩
theorem eqBytes_refl : ∀ x : List UInt8, eqBytes x x = true
 | [] => rfl
 | a :: x => by
  have ih := eqBytes_refl x
  simp only [eqBytes, beq_dec, decide_true, cond_true, ih]
theorem eql_str (x : List UInt8) : VE.binOp .eql (.str x) (.str x) = some (.bool true) := by
 show some (V.bool (eqBytes x x)) = _
 rw [eqBytes_refl]
theorem briefV_is (s : Srv) : ∃ x e, briefV s = .tup [.str x, .int .i64 e] := by
 by_cases q : SvOk s
 ·exact ⟨_, _, briefV_y q⟩
 ·exact ⟨_, _, briefV_n q⟩
def zL : Limit := ⟨0, 0, 0⟩
theorem shown_two {s : Srv} {t : Nat} {r r' : V} (a : ShownIs s t r) (b : ShownIs s t r') : ∃ (tt ep now : Int) (is : Bool) (l0 l1 l2 : Limit) (e0 e1 lv pt ot n0 n1 n2 er : Int) (us en : Sl Hg) (rv : Sl Int) (us' en' : Sl Hg) (rv' : Sl Int),
  r = .tup [.agg (encG tt ep now is l0 l1 l2 e0 e1 lv pt ot us en rv n0 n1 n2), .int .i64 er] ∧ r' = .tup [.agg (encG tt ep now is l0 l1 l2 e0 e1 lv pt ot us' en' rv' n0 n1 n2), .int .i64 er] ∧ us.l = us'.l ∧ en.l = en'.l ∧ rv.l = rv'.l ∧ us.l.length ≤ 100000 ∧ en.l.length ≤ 100000 ∧ rv.l.length ≤ 100000 := by
 have zlen : (Sl.nil : Sl Hg).l.length ≤ 100000 := by simp [Sl.l]
 have zlen2 : (Sl.nil : Sl Int).l.length ≤ 100000 := by simp [Sl.l]
 rcases a with ⟨p1, rfl⟩ | ⟨p1, p2, rfl⟩ | ⟨p1, p2, p3, p4, rfl⟩ | ⟨p1, p2, k, hk, p3, p4, us, en, rv, p5, p6, p7, rfl⟩
 ·rcases b with ⟨q1, rfl⟩ | ⟨q1, q2, rfl⟩ | ⟨q1, q2, q3, q4, rfl⟩ | ⟨q1, q2, k', hk', q3, q4, us', en', rv', q5, q6, q7, rfl⟩
  ·exact ⟨0, 0, 0, false, zL, zL, zL, 0, 0, 0, 0, 0, 0, 0, 0, 8, .nil, .nil, .nil, .nil, .nil, .nil, rfl, rfl, rfl, rfl, rfl, zlen, zlen, zlen2⟩
  all_goals exact absurd q1 p1
 ·rcases b with ⟨q1, rfl⟩ | ⟨q1, q2, rfl⟩ | ⟨q1, q2, q3, q4, rfl⟩ | ⟨q1, q2, k', hk', q3, q4, us', en', rv', q5, q6, q7, rfl⟩
  ·exact absurd p1 q1
  ·exact ⟨0, 0, 0, false, zL, zL, zL, 0, 0, 0, 0, 0, 0, 0, 0, 2, .nil, .nil, .nil, .nil, .nil, .nil, rfl, rfl, rfl, rfl, rfl, zlen, zlen, zlen2⟩
  all_goals omega
 ·rcases b with ⟨q1, rfl⟩ | ⟨q1, q2, rfl⟩ | ⟨q1, q2, q3, q4, rfl⟩ | ⟨q1, q2, k', hk', q3, q4, us', en', rv', q5, q6, q7, rfl⟩
  ·exact absurd p1 q1
  ·omega
  ·exact ⟨t, s.ep[t], s.now, false, zL, zL, zL, 0, 0, 0, 0, 0, 0, 0, 0, 0, .nil, .nil, .nil, .nil, .nil, .nil, rfl, rfl, rfl, rfl, rfl, zlen, zlen, zlen2⟩
  ·omega
 ·rcases b with ⟨q1, rfl⟩ | ⟨q1, q2, rfl⟩ | ⟨q1, q2, q3, q4, rfl⟩ | ⟨q1, q2, k', hk', q3, q4, us', en', rv', q5, q6, q7, rfl⟩
  ·exact absurd p1 q1
  ·omega
  ·omega
  ·obtain rfl : k = k' := by omega
   have o := p1.ok.2.ok k hk
   have u1 := o.us.plen
   have u2 := o.en.plen
   have u3 := o.rl
   exact ⟨t, s.ep[t], s.now, true, s.ps.l[k].l0, s.ps.l[k].l1, s.ps.l[k].l2, s.ps.l[k].us.cap, s.ps.l[k].en.cap, s.ps.l[k].own.lv, s.ps.l[k].own.pt, s.ps.l[k].own.t, s.ps.l[k].n0, s.ps.l[k].n1, s.ps.l[k].n2, 0, us, en, rv, us', en', rv', rfl, rfl, by rw [p5, q5], by rw [p6, q6], by rw [p7, q7], by rw [p5, hgs, List.length_map]; omega, by rw [p6, hgs, List.length_map]; omega, by rw [p7]; omega⟩
theorem encG_len (tt ep now : Int) (is : Bool) (l0 l1 l2 : Limit) (e0 e1 lv pt ot n0 n1 n2 : Int) (us en : Sl Hg) (rv : Sl Int) : (encG tt ep now is l0 l1 l2 e0 e1 lv pt ot us en rv n0 n1 n2).length = 24 := rfl
theorem encG_one (tt ep now : Int) (is : Bool) (l0 l1 l2 : Limit) (e0 e1 lv pt ot n0 n1 n2 : Int) (us en : Sl Hg) (rv : Sl Int) : (encG tt ep now is l0 l1 l2 e0 e1 lv pt ot us en rv n0 n1 n2).all oneCell = true := by
 unfold encG
 simp only [List.all_cons, List.all_nil, one_v, Bool.and_true, Bool.true_and]
 rfl
theorem shown_same {f d1 : Nat} (h6 : vp f = some (B_spigotref44_Same d1)) (k1 : vp d1 = some B_spigotref44_sameHoldings) {s : Srv} {t : Nat} {r r' : V} (a : ShownIs s t r) (b : ShownIs s t r') :
  ∃ (C C' : List V) (er : Int), r = .tup [.agg C, .int .i64 er] ∧ r' = .tup [.agg C', .int .i64 er] ∧ C.length = 24 ∧ C'.length = 24 ∧ C.all oneCell = true ∧ C'.all oneCell = true ∧ ∀ h, callRes vp f [.agg C, .agg C'] h = some (.bool true, h) := by
 obtain ⟨tt, ep, now, is, l0, l1, l2, e0, e1, lv, pt, ot, n0, n1, n2, er, us, en, rv, us', en', rv', e, e', s1, s2, s3, s4, s5, s6⟩ := shown_two a b
 exact ⟨_, _, er, e, e', encG_len .., encG_len .., encG_one .., encG_one .., fun h => same_spec h6 k1 tt ep now is l0 l1 l2 e0 e1 lv pt ot us en rv n0 n1 n2 us' en' rv' s1 s2 s3 s4 s5 s6 h⟩
theorem over_all {C Z : List V} (h : C.length = Z.length) (ho : C.all oneCell = true) : over 0 Z C = some C := by
 have := over_mid [] C Z [] h ho
 simpa using this
theorem rs_law {f c1 c2 c3 c4 c5 c6 d1 t1 : Nat} (hf : vp f = some (B_spigotlaw44_ReportSees c1 c2 c3 c4 c5 c6 t1)) (m1 : modeOf vp c1 = some 1) (m2 : modeOf vp c2 = some 1) (m3 : modeOf vp c3 = some 1) (m4 : modeOf vp c4 = some 1) (m5 : modeOf vp c5 = some 1)
  (h6 : vp c6 = some (B_spigotref44_Same d1)) (k1 : vp d1 = some B_spigotref44_sameHoldings)
  (gr : ∀ (s : Srv) (h : Heap), ∃ b, callRes vp c1 [.agg (encS s)] h = some (.bool b, h))
  (o1 : ∀ (s : Srv) (t : Nat) (h : Heap), ∃ r, callRes vp c2 [.agg (encS s), .int .u32 (t : Int)] h = some (r, h) ∧ ShownIs s t r)
  (o2 : ∀ (s : Srv) (t : Nat) (h : Heap), ∃ r, callRes vp c3 [.agg (encS s), .int .u32 (t : Int)] h = some (r, h) ∧ ShownIs s t r)
  (b1 : ∀ (s : Srv), (∀ x ∈ s.ps.l, 0 ≤ x.t) → ∀ h : Heap, callRes vp c4 [.agg (encS s)] h = some (briefV s, h))
  (b2 : ∀ (s : Srv), (∀ x ∈ s.ps.l, 0 ≤ x.t) → ∀ h : Heap, callRes vp c5 [.agg (encS s)] h = some (briefV s, h))
  (s : Srv) (hps : ∀ x ∈ s.ps.l, 0 ≤ x.t) (t : Nat) (h : Heap) : callRes vp f [.agg (encS s), .int .u32 (t : Int)] h = some (.bool true, h) := by
 have m6 : modeOf vp c6 = some 1 := mo h6 rfl rfl
 refine res_pure hf rfl rfl (fun g hg => ?_)
 have hlo := hlo hg
 unfold B_spigotlaw44_ReportSees
 obtain ⟨L, hL⟩ : ∃ L, encS1 s = L := ⟨_, rfl⟩
 have l1 : L.length = 49 := by rw [← hL, encS1_len]
 have l4 : takeN 49 L = some L := by rw [← hL, encS1_take]
 have b1 := fun h => b1 s hps h
 have b2 := fun h => b2 s hps h
 obtain ⟨H, hH⟩ : ∃ H, g.new (.cells (encS s) .cl) = H := ⟨_, rfl⟩
 have ga : H.get g.nx = .cells (encS s) .cl := by rw [← hH]; simp only [↓zp, zz, zy, zq, seval, reduceIte, reduceCtorEq]
 have gn : H.nx = g.nx + 1 := by rw [← hH]; rfl
 have gl : H.lo = g.lo := by rw [← hH]; rfl
 obtain ⟨b, eg⟩ := gr s H
 cases b
 case true =>
  unfold encS at hH ga eg ⊢
  rw [hL] at hH ga eg ⊢
  simp only [↓zp, zz, zy, zq, seval, reduceIte, reduceCtorEq, l1, l4, hH, ga, m1, eg, frzB]
  done
 obtain ⟨r, e1, sh1⟩ := o1 s t H
 obtain ⟨X, eb, hB⟩ := briefV_is s
 rw [hB] at b1 b2
 obtain ⟨C, _, er, hr, _, n1, _, a1, _, _⟩ := shown_same h6 k1 sh1 sh1
 obtain ⟨G, hG⟩ : ∃ G, (H.new (.cells zX (.ct t1))).set (g.nx + 1) (.cells C (.ct t1)) = G := ⟨_, rfl⟩
 obtain ⟨r', e2, sh2⟩ := o2 s t G
 obtain ⟨C1, C', er1, hr1, hr', _, n2, _, a2, sm⟩ := shown_same h6 k1 sh1 sh2
 rw [hr] at hr1
 injection hr1 with hr1
 injection hr1 with q1 q2
 injection q1 with q1
 injection q2 with q2 _
 injection q2 with _ q2
 subst q1
 subst q2
 subst hr
 subst hr'
 have gG : G.get g.nx = .cells (encS s) .cl := by rw [← hG, Heap.get_set, if_neg (by omega), Heap.get_new, if_neg (by omega), ga]
 have gG1 : G.get (g.nx + 1) = .cells C (.ct t1) := by rw [← hG, Heap.get_set, if_pos rfl]
 have nG : G.nx = g.nx + 2 := by rw [← hG, Heap.set_nx, Heap.new_nx, gn]
 have lG : G.lo = g.lo := by rw [← hG]; exact gl
 obtain ⟨x1, D1, rfl⟩ : ∃ x l, C = x :: l := by
  cases C with
  | nil => simp at n1
  | cons x l => exact ⟨x, l, rfl⟩
 obtain ⟨x2, D2, rfl⟩ : ∃ x l, C' = x :: l := by
  cases C' with
  | nil => simp at n2
  | cons x l => exact ⟨x, l, rfl⟩
 simp only [List.length_cons, List.all_cons, Bool.and_eq_true, Nat.reduceEqDiff] at n1 n2 a1 a2
 obtain ⟨a1, a1'⟩ := a1
 obtain ⟨a2, a2'⟩ := a2
 have n1 : D1.length = 23 := by omega
 have n2 : D2.length = 23 := by omega
 have ov1 := over_all (Z := zX.tail) (C := D1) n1 a1'
 have ov2 := over_all (Z := zX.tail) (C := D2) n2 a2'
 have tk1 : takeN 23 D1 = some D1 := by rw [← n1]; exact takeN_self
 have tk2 : takeN 23 D2 = some D2 := by rw [← n2]; exact takeN_self
 have z1 : ¬ g.nx + 1 < g.lo := by omega
 have z2 : ¬ g.nx + 2 < g.lo := by omega
 unfold encS at hH ga eg b1 b2 e1 e2 gG ⊢
 rw [hL] at hH ga eg b1 b2 e1 e2 gG ⊢
 unfold zX at hG ov1 ov2
 simp only [List.tail_cons] at ov1 ov2
 simp only [↓zp, zz, zy, zq, seval, reduceIte, reduceCtorEq, l1, l4, hH, ga, gn, gl, m1, eg, m2, e1, n1, ov1, a1, z1, hG, gG, gG1, nG, lG, m3, e2, n2, ov2, a2, z2, m4, b1, m5, b2, tk1, tk2, m6, sm, eql_str, frzB]
 done
end
end
end Go.VE.LB
