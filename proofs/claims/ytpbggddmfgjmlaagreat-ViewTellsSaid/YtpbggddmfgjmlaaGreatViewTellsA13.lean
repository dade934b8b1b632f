/- What the functions of the law ViewTells compute, on typed arguments (part 13). -/
import Derived.Test.YtpbggddmfgjmlaaGreatViewTellsA3
import Derived.Test.YtpbggddmfgjmlaaGreatViewTellsA1
import Derived.Test.YtpbggddmfgjmlaaGreatViewTellsA2
set_option linter.all false
namespace Go.VE.LB
set_option maxRecDepth 100000
set_option maxHeartbeats 4000000
section
open Go Go.VE Classical
structure Bt where
 a : Nat
 lt : a < 256
theorem bt_ext {x y : Bt} (h : x.a = y.a) : x = y := by
 cases x
 cases y
 cases h
 rfl
def eY (x : Bt) : List V := [.int .u8 (x.a : Int)]
theorem eY_len (x : Bt) : (eY x).length = 1 := rfl
theorem eY_scal (x : Bt) : (eY x).all VE.scal = true := rfl
theorem eY_one (x : Bt) : (eY x).all oneCell = true := rfl
def num (l : List Bt) : Nat := l.foldl (fun n x => n * 256 + x.a) 0
theorem num_snoc (l : List Bt) (x : Bt) : num (l ++ [x]) = num l * 256 + x.a := by unfold num; rw [List.foldl_append]; rfl
theorem num_lt' : ∀ (l : List Bt) (n : Nat), l.foldl (fun n x => n * 256 + x.a) n < (n + 1) * 256 ^ l.length
 | [], n => by simp
 | x :: l, n => by
  have h := num_lt' l (n * 256 + x.a)
  have hx := x.lt
  have : (n * 256 + x.a + 1) * 256 ^ l.length ≤ ((n + 1) * 256) * 256 ^ l.length := Nat.mul_le_mul_right _ (by omega)
  rw [List.length_cons, Nat.pow_succ, List.foldl_cons, Nat.mul_comm (256 ^ l.length) 256, ← Nat.mul_assoc]
  omega
theorem num_lt (l : List Bt) : num l < 256 ^ l.length := by
 have := num_lt' l 0
 simpa [num] using this
theorem slc_mid {α : Type} {enc : α → List V} {sz : Nat} (he : ∀ x, (enc x).length = sz) {c : Sl α} {a b : Nat} (ha : a ≤ b) (hb : b ≤ c.l.length) : ∃ c' : Sl α, c'.l = (c.l.drop a).take (b - a) ∧ ∀ h, r_slc sz (c.v enc) (some (.int .i64 (a : Int))) (some (.int .i64 (b : Int))) none h = some (c'.v enc, h) := by
 cases c with
 | nil =>
  obtain rfl : b = 0 := by simpa [Sl.l] using hb
  obtain rfl : a = 0 := by omega
  exact ⟨.nil, rfl, fun h => rfl⟩
 | mk l cap =>
  have hb' : b ≤ l.length := hb
  have e0 : ((l.drop a).take (b - a)).length = b - a := by simp; omega
  have ht : takeN ((b - a) * sz) ((l.flatMap enc).drop (a * sz)) = some (((l.drop a).take (b - a)).flatMap enc) := by
   have e1 : (l.flatMap enc).drop (a * sz) = (l.drop a).flatMap enc := by
    have e2 : l.flatMap enc = (l.take a).flatMap enc ++ (l.drop a).flatMap enc := by rw [← List.flatMap_append, List.take_append_drop]
    have e3 : ((l.take a).flatMap enc).length = a * sz := by rw [flat_len2 he]; simp; rw [Nat.min_eq_left (by omega)]
    rw [e2, ← e3, List.drop_left]
   have e4 : (l.drop a).flatMap enc = ((l.drop a).take (b - a)).flatMap enc ++ ((l.drop a).drop (b - a)).flatMap enc := by rw [← List.flatMap_append, List.take_append_drop]
   have e5 : (((l.drop a).take (b - a)).flatMap enc).length = (b - a) * sz := by rw [flat_len2 he, e0]
   rw [e1, e4, ← e5]
   exact takeN_app _ _
  have hm : b ≤ Nat.min l.length l.length := by simp; omega
  refine ⟨.mk ((l.drop a).take (b - a)) (cap.map (· - a)), rfl, fun h => ?_⟩
  simp only [r_slc, sliceV, Sl.v, bound, asNatN, ble_dec, ha, hm, hb', decide_true, cond_true, Nat.zero_le, ht, Option.map_some, e0]
theorem slc_none {α : Type} {enc : α → List V} {sz : Nat} {c : Sl α} {hi : Option V} {h : Heap} : r_slc sz (c.v enc) none hi none h = r_slc sz (c.v enc) (some (.int .i64 ((0 : Nat) : Int))) hi none h := by
 cases c with
 | nil => simp only [r_slc, sliceV, Sl.v, bound, asNatN, ble_dec, Nat.zero_le, decide_true, cond_true]
 | mk l cap => simp only [r_slc, sliceV, Sl.v, bound, asNatN, ble_dec, Nat.zero_le, decide_true, cond_true]
theorem slc_end {α : Type} {enc : α → List V} {sz : Nat} {c : Sl α} {lo : Option V} {h : Heap} : r_slc sz (c.v enc) lo none none h = r_slc sz (c.v enc) lo (some (.int .i64 (c.l.length : Int))) none h := by
 cases c with
 | nil => simp only [r_slc, sliceV, Sl.v, Sl.l, bound, List.length_nil, asNatN, ble_dec, Nat.zero_le, decide_true, cond_true]
 | mk l cap =>
  have hm : l.length ≤ Nat.min l.length l.length := by simp
  simp only [r_slc, sliceV, Sl.v, Sl.l, bound, asNatN, ble_dec, Nat.zero_le, hm, decide_true, cond_true]
theorem slc_drop {α : Type} {enc : α → List V} {sz : Nat} (he : ∀ x, (enc x).length = sz) {c : Sl α} {a : Nat} (ha : a ≤ c.l.length) : ∃ c' : Sl α, c'.l = c.l.drop a ∧ ∀ h, r_slc sz (c.v enc) (some (.int .i64 (a : Int))) none none h = some (c'.v enc, h) := by
 obtain ⟨c', h1, h2⟩ := slc_mid he ha (Nat.le_refl c.l.length)
 refine ⟨c', ?_, fun h => by rw [slc_end, h2]⟩
 rw [h1, List.take_of_length_le (by simp)]
def wd : Nat → Nat
 | 2 => 1
 | 3 => 2
 | 4 => 4
 | 5 => 8
 | 6 => 32
 | _ => 0
def mx : Nat → Nat
 | 6 => 0
 | k => 256 ^ wd k - 1
structure Kd (k : Nat) : Prop where
 lo : 2 ≤ k
 hi : k ≤ 6
theorem Kd.cs {k : Nat} (h : Kd k) : k = 2 ∨ k = 3 ∨ k = 4 ∨ k = 5 ∨ k = 6 := by
 have := h.lo
 have := h.hi
 omega
structure Fl where
 k : Nat
 n : Nat
 d : List Bt
 dl : d.length = 32
def mY (d : List Bt) : List V := d.map fun x => .int .u8 (x.a : Int)
theorem mY_len (d : List Bt) : (mY d).length = d.length := by simp [mY]
def eF (x : Fl) : List V := .int .u8 (x.k : Int) :: .int .u64 (x.n : Int) :: mY x.d
theorem eF_len (x : Fl) : (eF x).length = 34 := by simp [eF, mY_len, x.dl]
theorem mY_scal (d : List Bt) : (mY d).all VE.scal = true := by
 unfold mY
 rw [List.all_map]
 exact List.all_eq_true.2 fun x _ => rfl
theorem mY_one (d : List Bt) : (mY d).all oneCell = true := by
 unfold mY
 rw [List.all_map]
 exact List.all_eq_true.2 fun x _ => rfl
theorem mY_flat (d : List Bt) : d.flatMap eY = mY d := by
 induction d with
 | nil => rfl
 | cons x d ih => rw [List.flatMap_cons, ih]; rfl
theorem eF_scal (x : Fl) : (eF x).all VE.scal = true := by
 show (true && (true && _)) = true
 rw [Bool.true_and, Bool.true_and]
 exact mY_scal _
theorem eF_one (x : Fl) : (eF x).all oneCell = true := by
 show (true && (true && _)) = true
 rw [Bool.true_and, Bool.true_and]
 exact mY_one _
def b0 : Bt := ⟨0, by decide⟩
def zD : List Bt := List.replicate 32 b0
def zV : List V := [.int .u8 0, .int .u8 0, .int .u8 0, .int .u8 0, .int .u8 0, .int .u8 0, .int .u8 0, .int .u8 0, .int .u8 0, .int .u8 0, .int .u8 0, .int .u8 0, .int .u8 0, .int .u8 0, .int .u8 0, .int .u8 0, .int .u8 0, .int .u8 0, .int .u8 0, .int .u8 0, .int .u8 0, .int .u8 0, .int .u8 0, .int .u8 0, .int .u8 0, .int .u8 0, .int .u8 0, .int .u8 0, .int .u8 0, .int .u8 0, .int .u8 0, .int .u8 0]
theorem zD_v : mY zD = zV := rfl
section
variable {vp : Nat → Option VFn}
theorem width_spec {f t1 : Nat} (hf : vp f = some (Zzap t1)) {k : Nat} (hk : Kd k) (h : Heap) : callRes vp f [.int .u8 (k : Int)] h = some (.int .i64 (wd k : Int), h) := by
 refine res_pure hf rfl rfl (fun g hg => ?_)
 have hlo := hlo hg
 have z1 : ¬ g.nx < g.lo := by omega
 have z8 : rep 8 [V.int .i64 0] = [.int .i64 0, .int .i64 0, .int .i64 0, .int .i64 0, .int .i64 0, .int .i64 0, .int .i64 0, .int .i64 0] := rfl
 unfold Zzap
 have q2 : wr .i64 ((2 : Nat) : Int) = 2 := rfl
 have q3 : wr .i64 ((3 : Nat) : Int) = 3 := rfl
 have q4 : wr .i64 ((4 : Nat) : Int) = 4 := rfl
 have q5 : wr .i64 ((5 : Nat) : Int) = 5 := rfl
 have q6 : wr .i64 ((6 : Nat) : Int) = 6 := rfl
 rcases hk.cs with rfl | rfl | rfl | rfl | rfl <;>
  simp only [↓zp, zz, zy, zq, Nat.reduceEqDiff, Nat.reduceAdd, Nat.reduceSub, Nat.reduceMul, Nat.reduceLT, Nat.reduceLeDiff, Int.reduceLT, Int.reduceLE, Int.reduceEq, Int.reduceAdd, Int.reduceNeg, reduceIte, reduceCtorEq, z8, z1, q2, q3, q4, q5, q6, asNatN, blt_dec, Nat.mul_one, Int.reduceLE, frzI, List.drop_succ_cons, List.drop_zero] <;> rfl
theorem most_spec {f c1 t1 : Nat} (hf : vp f = some (Zzao c1)) (h1 : vp c1 = some (Zzap t1)) {k : Nat} (hk : Kd k) (h : Heap) : callRes vp f [.int .u8 (k : Int)] h = some (.int .u64 (mx k : Int), h) := by
 have m1 : modeOf vp c1 = some 1 := mo h1 rfl rfl
 have kw := fun h => width_spec h1 hk h
 refine res_pure hf rfl rfl (fun g hg => ?_)
 unfold Zzao
 have p2 : VE.binOp .mul (.int .i64 8) (.int .i64 ((wd 2 : Nat) : Int)) = some (.int .i64 8) := rfl
 have p3 : VE.binOp .mul (.int .i64 8) (.int .i64 ((wd 3 : Nat) : Int)) = some (.int .i64 16) := rfl
 have p4 : VE.binOp .mul (.int .i64 8) (.int .i64 ((wd 4 : Nat) : Int)) = some (.int .i64 32) := rfl
 have p5 : VE.binOp .mul (.int .i64 8) (.int .i64 ((wd 5 : Nat) : Int)) = some (.int .i64 64) := rfl
 have s2 : VE.binOp .shl (.int .u64 1) (.int .i64 8) = some (.int .u64 256) := rfl
 have s3 : VE.binOp .shl (.int .u64 1) (.int .i64 16) = some (.int .u64 65536) := rfl
 have s4 : VE.binOp .shl (.int .u64 1) (.int .i64 32) = some (.int .u64 4294967296) := rfl
 have s5 : VE.binOp .shl (.int .u64 1) (.int .i64 64) = some (.int .u64 0) := rfl
 have e2 : ((2 : Nat) : Int) = 2 := rfl
 have e3 : ((3 : Nat) : Int) = 3 := rfl
 have e4 : ((4 : Nat) : Int) = 4 := rfl
 have e5 : ((5 : Nat) : Int) = 5 := rfl
 have e6 : ((6 : Nat) : Int) = 6 := rfl
 rcases hk.cs with rfl | rfl | rfl | rfl | rfl <;>
  simp only [↓zp, zz, zy, zq, Nat.reduceEqDiff, Nat.reduceAdd, Nat.reduceSub, Nat.reduceMul, Nat.reduceLT, Nat.reduceLeDiff, Int.reduceLT, Int.reduceLE, Int.reduceEq, Int.reduceAdd, Int.reduceNeg, reduceIte, reduceCtorEq, e2, e3, e4, e5, e6, m1, p2, p3, p4, p5, s2, s3, s4, s5, frzI] <;> first | rfl | (simp only [↓zp, zz, zy, zq, Nat.reduceEqDiff, Nat.reduceAdd, Nat.reduceSub, Nat.reduceMul, Nat.reduceLT, Nat.reduceLeDiff, Int.reduceLT, Int.reduceLE, Int.reduceEq, Int.reduceAdd, Int.reduceNeg, reduceIte, reduceCtorEq, ← e2, ← e3, ← e4, ← e5, m1, kw, p2, p3, p4, p5, s2, s3, s4, s5, frzI] <;> rfl)
theorem fcheck_spec {f c1 c2 t1 : Nat} (hf : vp f = some (Zzak c1 c2)) (h1 : vp c1 = some (Zzap t1)) (h2 : vp c2 = some (Zzao c1)) (x : Fl) (hk : Kd x.k) (hn : x.n ≤ mx x.k) (hd : x.k = 6 ∨ x.d = zD) (h : Heap) :
  callRes vp f [.agg (eF x)] h = some (.int .i64 0, h) := by
 have m1 : modeOf vp c1 = some 1 := mo h1 rfl rfl
 have m2 : modeOf vp c2 = some 1 := mo h2 rfl rfl
 have kw := fun h => width_spec h1 hk h
 have km := fun h => most_spec h2 h1 hk h
 refine res_pure hf rfl rfl (fun g hg => ?_)
 unfold Zzak eF
 have z3 : rep 32 [V.int .u8 0] = zV := rfl
 have nw : ¬ ((wd x.k : Nat) : Int) = 0 := by
  have : wd x.k ≠ 0 := by rcases hk.cs with e | e | e | e | e <;> rw [e] <;> decide
  omega
 have nm : ¬ ((mx x.k : Nat) : Int) < (x.n : Int) := by omega
 have ld := x.dl
 by_cases h6 : x.k = 6
 ·have h6' : ((x.k : Nat) : Int) = 6 := by omega
  simp only [↓zp, zv, seval, mY_len, ld, m1, kw, m2, km, nw, nm, eq_true h6', frzI]
 ·have h6' : ¬ ((x.k : Nat) : Int) = 6 := by omega
  have hd := hd.resolve_left h6
  rw [hd, zD_v]
  have ke : ∀ h, r_eqa true [0, 0, 0, 0, 0, 0, 0, 0, 0, 0, 0, 0, 0, 0, 0, 0, 0, 0, 0, 0, 0, 0, 0, 0, 0, 0, 0, 0, 0, 0, 0, 0] (.agg zV) (.agg zV) h = some (.bool false, h) := fun h => rfl
  have lz : zV.length = 32 := rfl
  have tz : takeN 32 zV = some zV := rfl
  have oz : over 0 zV [] = some zV := rfl
  simp only [↓zp, zv, seval, z3, lz, tz, m1, kw, m2, km, nw, nm, h6', not_false_eq_true, ke, frzI]
theorem fn1_spec {f c1 t1 : Nat} (hf : vp f = some (Zzam c1)) (h1 : vp c1 = some (Zzap t1)) {k : Nat} (hk : Kd k) (h : Heap) : callRes vp f [.int .u8 (k : Int)] h = some (.bool false, h) := by
 have m1 : modeOf vp c1 = some 1 := mo h1 rfl rfl
 have kw := fun h => width_spec h1 hk h
 refine res_pure hf rfl rfl (fun g hg => ?_)
 have nw : ¬ ((wd k : Nat) : Int) = 0 := by
  have : wd k ≠ 0 := by rcases hk.cs with e | e | e | e | e <;> rw [e] <;> decide
  omega
 unfold Zzam
 simp only [↓zp, zv, seval, m1, kw, nw, frzB]
def eN (k : Nat) : List V := [.int .u8 (k : Int)]
theorem eN_len (k : Nat) : (eN k).length = 1 := rfl
def invKi (v w : V) (ks : List Nat) (g : Heap) (m : Nat) (s : Slots) (h : Heap) : Prop :=
 ∃ k, k ≤ ks.length ∧ m = ks.length - k ∧ s.at 0 = v ∧ s.at 1 = w ∧ s.at 7 = .int .i64 (ks.length : Int) ∧ s.at 8 = .int .i64 (k : Int) ∧ h = g
theorem kidx_spec {f c2 c1 t1 : Nat} (hf : vp f = some Zzck) (h2 : vp c2 = some (Zzam c1)) (h1 : vp c1 = some (Zzap t1)) (v : V) (ks : List Nat) (hk : ∀ k ∈ ks, Kd k) (hn : ks.length ≤ 100) (h : Heap) (r : Rd eN 1 h v ks) :
  callRes vp f [v, .fn c2 []] h = some (.int .i64 (-1), h) := by
 refine res_pure hf rfl rfl (fun g hg => ?_)
 have hlo := hlo hg
 have r := r.enter (A := fun v => [v, .fn c2 []]) hg (fun _ _ _ _ => rfl)
 have ln := r.len
 unfold Zzck
 simp only [↓zp, zv, seval, ln]
 generalize hS : Tr.set _ 8 _ = S
 have b0 : Slots.at S 0 = v := by rw [← hS]; simp only [zs, seval]
 have b1 : Slots.at S 1 = .fn c2 [] := by rw [← hS]; simp only [zs, seval]
 have b7 : Slots.at S 7 = .int .i64 (ks.length : Int) := by rw [← hS]; simp only [zs, seval]
 have b8 : Slots.at S 8 = .int .i64 ((0 : Nat) : Int) := by rw [← hS]; simp only [zs, seval] <;> rfl
 clear hS
 refine loop_ind (fun m s h => invKi v (.fn c2 []) ks g m s h) ?_ ks.length ⟨0, by omega, by omega, b0, b1, b7, b8, rfl⟩
 clear b0 b1 b7 b8
 rintro m s h' ⟨k, hk', hm, c0, c1', c7, c8, rfl⟩
 by_cases hlt : k < ks.length
 case neg =>
  have hlt' : ¬ ((k : Int) < (ks.length : Int)) := by omega
  simp only [↓zp, zv, seval, c0, c1', c7, c8, hlt', frzI]
 have hlt' : (k : Int) < (ks.length : Int) := by omega
 have ws := wr_succ (k := k) (by omega)
 obtain ⟨a, ia, el⟩ := r.ia eN_len (by decide) hlt
 have l1 := el.ld1 (Kp.refl h')
 have kc := fun h => callVRes_fn (args := [.int .u8 (ks[k] : Int)]) (caps := []) (fn1_spec h2 h1 (hk _ (List.getElem_mem hlt)) h)
 simp only [↓zp, zv, seval, c0, c1', c7, c8, hlt', ia, l1, kc, ws]
 exact ⟨_, by omega, k + 1, by omega, rfl, by simp only [zs, seval, c0], by simp only [zs, seval, c1'], by simp only [zs, seval, c7], by simp only [zs, seval], rfl⟩
theorem kcon_spec {f c3 c2 c1 t1 : Nat} (hf : vp f = some (Zzcb c3)) (h3 : vp c3 = some Zzck) (h2 : vp c2 = some (Zzam c1)) (h1 : vp c1 = some (Zzap t1)) (v : V) (ks : List Nat) (hk : ∀ k ∈ ks, Kd k) (hn : ks.length ≤ 100) (h : Heap) (r : Rd eN 1 h v ks) :
  callRes vp f [v, .fn c2 []] h = some (.bool false, h) := by
 have m3 : modeOf vp c3 = some 1 := mo h3 rfl rfl
 refine res_pure hf rfl rfl (fun g hg => ?_)
 have r := r.enter (A := fun v => [v, .fn c2 []]) hg (fun _ _ _ _ => rfl)
 have kx := kidx_spec h3 h2 h1 v ks hk hn g r
 unfold Zzcb
 simp only [↓zp, zv, seval, m3, kx, frzB]
end
end
section
open Go Go.VE Classical
theorem cpy32 {bx : Nat} {x0 x1 : V} {Z : List V} {tag : Tag} {h : Heap} (hz : Z.length = 32) (hg : h.get bx = .cells (x0 :: x1 :: Z) tag) (hlo : ¬ bx < h.lo) (c : Sl Bt) (hc : 32 ≤ c.l.length) :
  r_cpy 1 (.sl bx 2 32 32 1) (c.v eY) h = some (.int .i64 32, h.set bx (.cells (x0 :: x1 :: mY (c.l.take 32)) tag)) := by
 have hl : lenOf (c.v eY) = some c.l.length := by cases c <;> rfl
 have hr : rowOf h 1 (c.v eY) = some (mY c.l) := by
  cases c with
  | nil => rfl
  | mk l cap => simp only [Sl.v, rowOf, Sl.l, flat_len2 eY_len, mY_flat, mY_len, Nat.mul_one, beq_dec, decide_true, cond_true]
 have hm : Nat.min c.l.length 32 = 32 := Nat.min_eq_right hc
 have ht : takeN 32 (mY c.l) = some (mY (c.l.take 32)) := by
  have e1 : mY c.l = mY (c.l.take 32) ++ mY (c.l.drop 32) := by unfold mY; rw [← List.map_append, List.take_append_drop]
  have e2 : (mY (c.l.take 32)).length = 32 := by rw [mY_len]; simp; omega
  rw [e1]
  have := takeN_app (mY (c.l.take 32)) (mY (c.l.drop 32))
  rw [e2] at this
  exact this
 have lo' : Nat.blt bx h.lo = false := by rw [blt_dec]; simpa using hlo
 have ho := over_mid [x0, x1] (mY (c.l.take 32)) Z [] (by rw [mY_len, hz]; simp; omega) (mY_one _)
 simp only [List.length_cons, List.length_nil, List.append_nil, List.cons_append, List.nil_append] at ho
 have hs : VE.store h bx 2 (mY (c.l.take 32)) = some (h.set bx (.cells (x0 :: x1 :: mY (c.l.take 32)) tag)) := by
  have e2 : (mY (c.l.take 32)).length = 32 := by rw [mY_len]; simp; omega
  cases hX : mY (c.l.take 32) with
  | nil => rw [hX] at e2; simp at e2
  | cons a l =>
   rw [hX] at ho
   simp only [VE.store, lo', cond_false, hg, ho]
 unfold r_cpy copyV
 have hd : lenOf (.sl bx 2 32 32 1) = some 32 := rfl
 simp only [hd, hl, hm, srcCells, hr, Nat.mul_one, ht, copyTo, beq_dec, decide_true, cond_true, hs]
 rfl
theorem slca_all {n sz b off : Nat} {C : List V} {T : Tag} {h : Heap} (hg : h.get b = .cells C T) (ht : T.opn = false) (hl : off + n * sz ≤ C.length) : r_slca n sz (.ptr b off) none none none h = some (.sl b off n n sz, h) := by
 simp only [r_slca, bound, hg, ht, Bool.false_and, cond_false, ble_dec, Nat.le_refl, Nat.zero_le, decide_true, cond_true, hl, Nat.zero_mul, Nat.add_zero, Nat.sub_zero]
theorem over_zz : over 0 [.int .u8 0, .int .u8 0, .int .u8 0, .int .u8 0, .int .u8 0, .int .u8 0, .int .u8 0, .int .u8 0, .int .u8 0, .int .u8 0, .int .u8 0, .int .u8 0, .int .u8 0, .int .u8 0, .int .u8 0, .int .u8 0, .int .u8 0, .int .u8 0, .int .u8 0, .int .u8 0, .int .u8 0, .int .u8 0, .int .u8 0, .int .u8 0, .int .u8 0, .int .u8 0, .int .u8 0, .int .u8 0, .int .u8 0, .int .u8 0, .int .u8 0, .int .u8 0] zV = some zV := rfl
theorem over_zW {W : List V} (h1 : W.length = 32) (h2 : W.all oneCell = true) : over 0 [.int .u8 0, .int .u8 0, .int .u8 0, .int .u8 0, .int .u8 0, .int .u8 0, .int .u8 0, .int .u8 0, .int .u8 0, .int .u8 0, .int .u8 0, .int .u8 0, .int .u8 0, .int .u8 0, .int .u8 0, .int .u8 0, .int .u8 0, .int .u8 0, .int .u8 0, .int .u8 0, .int .u8 0, .int .u8 0, .int .u8 0, .int .u8 0, .int .u8 0, .int .u8 0, .int .u8 0, .int .u8 0, .int .u8 0, .int .u8 0, .int .u8 0, .int .u8 0] W = some W := by
 have := over_mid [] W zV [] h1 h2
 simp only [List.length_nil, List.nil_append, List.append_nil] at this
 exact this
def pad (l : List Bt) : List Bt := (l ++ zD).take 32
theorem pad_len (l : List Bt) : (pad l).length = 32 := by
 have : zD.length = 32 := rfl
 simp [pad, this]
theorem pad_eq {l : List Bt} (h : l.length = 32) : pad l = l := by
 unfold pad
 rw [List.take_append_of_le_length (by omega), List.take_of_length_le (by omega)]
def fl (k : Nat) (b : List Bt) : Fl := if k = 6 then ⟨6, 0, pad (b.take 32), pad_len _⟩ else ⟨k, num (b.take (wd k)), zD, rfl⟩
def flds : List Nat → List Bt → List Fl
 | [], _ => []
 | k :: ks, b => fl k b :: flds ks (b.drop (wd k))
def tot : List Nat → Nat
 | [] => 0
 | k :: ks => wd k + tot ks
theorem wd_le {k : Nat} (h : Kd k) (h6 : k ≠ 6) : wd k ≤ 8 := by rcases h.cs with rfl | rfl | rfl | rfl | rfl <;> first | decide | exact absurd rfl h6
theorem fl_mx {k : Nat} (hk : Kd k) (b : List Bt) (hb : wd k ≤ b.length) : (fl k b).k = k ∧ (fl k b).n ≤ mx k ∧ ((fl k b).k = 6 ∨ (fl k b).d = zD) := by
 unfold fl
 split
 ·rename_i h6
  subst h6
  exact ⟨rfl, Nat.zero_le _, .inl rfl⟩
 ·rename_i h6
  refine ⟨rfl, ?_, .inr rfl⟩
  have h1 := num_lt (b.take (wd k))
  have h2 : (b.take (wd k)).length = wd k := by simp; omega
  rw [h2] at h1
  have : mx k = 256 ^ wd k - 1 := by rcases hk.cs with rfl | rfl | rfl | rfl | rfl <;> first | rfl | exact absurd rfl h6
  show num (b.take (wd k)) ≤ mx k
  omega
theorem num_take {l : List Bt} {j : Nat} (hj : j < l.length) : num (l.take (j + 1)) = num (l.take j) * 256 + l[j].a := by
 rw [List.take_succ_eq_append_getElem hj, num_snoc]
theorem pushB {α : Type} {enc : α → List V} {sz bytes : Nat} (he : ∀ x, (enc x).length = sz) (ho : ∀ x, (enc x).all oneCell = true) {h : Heap} {v : V} {l : List α} (a : Acc enc sz h v l) (hlo : h.lo ≤ h.nx) (c : α) (hb : (l.length + 1) * bytes ≤ 140737488355328) :
  ∃ v' h', r_app sz bytes v (.sl h.nx 0 1 1 sz) (h.new (.cells (enc c) .cl)) = some (v', h') ∧ Ex h h' ∧ Acc enc sz h' v' (l ++ [c]) ∧ ∀ b, b < h.lo → h'.get b = h.get b := by
 obtain ⟨v', h', e1, e2, e3⟩ := push he ho a hlo c hb
 refine ⟨v', h', e1, e2, e3, fun b hbl => ?_⟩
 have hg : (h.new (.cells (enc c) .cl)).get b = h.get b := by rw [Heap.get_new, if_neg (by omega)]
 have hrow : rowOf (h.new (.cells (enc c) .cl)) sz (.sl h.nx 0 1 1 sz) = some (enc c) := by
  have : takeN sz (enc c) = some (enc c) := by rw [← he c]; exact takeN_all _
  simp only [rowOf, beq_dec, decide_true, cond_true, Heap.get_new, if_true, Nat.one_mul, List.drop_zero, this]
 have hlen : lenOf (.sl h.nx 0 1 1 sz) = some 1 := rfl
 have hnb : Nat.blt 140737488355328 ((l.length + 1) * bytes) = false := by rw [blt_dec]; simp; omega
 rcases a with ⟨rfl, rfl⟩ | ⟨b0, rfl, q1, q2, q3, q4⟩
 ·have hnb' : Nat.blt 140737488355328 (1 * bytes) = false := by simpa using hnb
  simp only [r_app, hrow, hlen, appendV, hnb', cond_false, Option.some.injEq, Prod.mk.injEq] at e1
  rw [← e1.2, Heap.get_new, if_neg (by simp [Heap.new]; omega), hg]
 ·have hcl : (l.flatMap enc).length = l.length * sz := flat_len2 he l
  have ht : takeN (l.length * sz) ((l.flatMap enc).drop 0) = some (l.flatMap enc) := by rw [List.drop_zero, ← hcl]; exact takeN_all _
  have hlt : Nat.ble (l.length + 1) l.length = false := by rw [ble_dec]; simp
  have n0 : b0 ≠ h.nx := by omega
  have q3' : (h.new (.cells (enc c) .cl)).get b0 = .cells (l.flatMap enc) .op := by rw [Heap.get_new, if_neg n0, q3]
  have hlb : Nat.blt b0 (h.new (.cells (enc c) .cl)).lo = false := by
   show Nat.blt b0 h.lo = false
   rw [blt_dec]
   simp
   omega
  simp only [r_app, hrow, hlen, appendV, beq_dec, decide_true, cond_true, q3', hlt, cond_false, hnb, ht, Tag.opn, hcl, Nat.zero_add, Bool.and_self, hlb, ho, Bool.not_true, Bool.or_self, tagM, Option.some.injEq, Prod.mk.injEq] at e1
  have n1 : b ≠ ((h.new (.cells (enc c) .cl)).set b0 .dead).nx := by show b ≠ h.nx + 1; omega
  have n2 : b ≠ b0 := by omega
  rw [← e1.2, Heap.get_new, if_neg n1, Heap.get_set, if_neg n2, hg]
section
variable {vp : Nat → Option VFn}
theorem cloneY_spec {f : Nat} (hf : vp f = some Zzbw) (c : Sl Bt) (h : Heap) (hn : c.l.length ≤ 100000) : ∃ o : Sl Bt, o.l = c.l ∧ callRes vp f [c.v eY] h = some (o.v eY, h) := by
 suffices q : ∃ r, callRes vp f [c.v eY] h = some (r, h) ∧ ∃ o : Sl Bt, o.l = c.l ∧ r = o.v eY by
  obtain ⟨r, e, o, h1, rfl⟩ := q
  exact ⟨o, h1, e⟩
 refine res_pure_ex hf rfl rfl (fun g hg => ?_)
 unfold Zzbw
 cases c with
 | nil =>
  simp only [↓zp, zv, seval, Sl.v, rn_nils]
  exact ⟨_, rfl, .nil, rfl, rfl⟩
 | mk l cap =>
  have hn' : l.length ≤ 100000 := hn
  obtain ⟨b', tag, h', e, q1, q2, q3, q4⟩ := app_new (bytes := 1) eY_len (c := .mk l cap) (b := g.nx) (h := g.new (.cells [] .cl)) (by rw [Heap.get_new, if_pos rfl]) (by simp [Heap.new]) (by simp only [Sl.l]; omega)
  simp only [Sl.v, Sl.l] at e q1
  simp only [↓zp, zv, seval, Sl.v, rn_isl, e]
  obtain ⟨o, o1, o2⟩ := FzV.row (base := g.nx) eY_len eY_scal q2 (n := l.length) (c := l.length) rfl q1
  exact ⟨_, o2 _ (by show _ ≤ 1000000; omega), o, o1, rfl⟩
def invFr (kv : V) (ks : List Nat) (A : List Fl) (lo bk : Nat) (g : Heap) (m : Nat) (s : Slots) (h : Heap) : Prop :=
 ∃ k, k ≤ ks.length ∧ m = ks.length - k ∧ s.at 19 = kv ∧ s.at 20 = .int .i64 (ks.length : Int) ∧ s.at 21 = .int .i64 (k : Int) ∧ h.lo = lo ∧ lo ≤ h.nx ∧ Kp g h ∧
  (∃ c : Sl Bt, s.at 1 = c.v eY ∧ c.l.length = tot (ks.drop k) ∧ ∃ o, o.length = k ∧ o ++ flds (ks.drop k) c.l = A ∧ ∃ v, s.at 7 = v ∧ Acc eF 34 h v o)
structure InB (kv : V) (kl : Nat) (i : Nat) (kd : Nat) (w : Nat) (bv u : V) (x : Sl Bt) (h0 : Heap) (T : Tag) (k : Nat) (s : Slots) (h : Heap) : Prop where
 s1 : s.at 1 = bv
 s7 : s.at 7 = u
 s9 : s.at 9 = .int .u8 (kd : Int)
 s10 : s.at 10 = .int .i64 (w : Int)
 s11 : s.at 11 = .ptr h0.nx 0
 s19 : s.at 19 = kv
 s20 : s.at 20 = .int .i64 (kl : Int)
 s21 : s.at 21 = .int .i64 (i : Int)
 s41 : s.at 41 = x.v eY
 s42 : s.at 42 = .int .i64 (x.l.length : Int)
 s43 : s.at 43 = .int .i64 (k : Int)
 gx : h.get h0.nx = .cells (.int .u8 (kd : Int) :: .int .u64 (num (x.l.take k) : Int) :: zV) T
 lo : h.lo = h0.lo
 nx : h.nx = h0.nx + 1
 get : ∀ b, b < h0.nx → h.get b = h0.get b
theorem fzT3 {h : Heap} {base : Nat} {v v' w : V} {k : IntKind} {x : Int} (hs : scal w = true) (f : FzV h base 800000 v v') : frz frzFuel h base false (.tup [v, w, .int k x]) = some (.tup [v', w, .int k x]) := by
 have z : FzL h base 800000 [] [] := fun n hn => FzL.nil n (by omega)
 have q1 : FzL h base 800003 [.int k x] [.int k x] := fun n hn => FzL.cons (.scal rfl) z (by omega) n (by omega)
 have q2 : FzL h base 800006 [w, .int k x] [w, .int k x] := fun n hn => FzL.cons (.scal hs) q1 (by omega) n (by omega)
 exact (FzV.tup (FzL.cons f q2 (by omega))) frzFuel (by show _ ≤ 1000000; omega)
theorem first_spec {f c1 c2 c3 c4 c5 t1 d1 d2 t2 : Nat} (hf : vp f = some (Zzal c1 c2 c3 c4 c5 t1)) (h1 : vp c1 = some (Zzcb d1)) (h1' : vp d1 = some Zzck) (h2 : vp c2 = some (Zzam c3)) (h3 : vp c3 = some (Zzap t2)) (h4 : vp c4 = some (Zzak c3 d2)) (h4' : vp d2 = some (Zzao c3)) (h5 : vp c5 = some Zzbw)
  (v : V) (ks : List Nat) (hk : ∀ k ∈ ks, Kd k) (hn : ks.length ≤ 40) (b : Sl Bt) (hb : b.l.length = tot ks) (h : Heap) (r : Rd eN 1 h v ks) :
  ∃ o : Sl Fl, ∃ e : Sl Bt, o.l = flds ks b.l ∧ e.l = [] ∧ callRes vp f [v, b.v eY] h = some (.tup [o.v eF, e.v eY, .int .i64 0], h) := by
 have m1 : modeOf vp c1 = some 1 := mo h1 rfl rfl
 have m3 : modeOf vp c3 = some 1 := mo h3 rfl rfl
 have m4 : modeOf vp c4 = some 1 := mo h4 rfl rfl
 have m5 : modeOf vp c5 = some 1 := mo h5 rfl rfl
 suffices q : ∃ r, callRes vp f [v, b.v eY] h = some (r, h) ∧ ∃ o : Sl Fl, ∃ e : Sl Bt, o.l = flds ks b.l ∧ e.l = [] ∧ r = .tup [o.v eF, e.v eY, .int .i64 0] by
  obtain ⟨r, e, o, w, h1, h2, rfl⟩ := q
  exact ⟨o, w, h1, h2, e⟩
 refine res_pure_ex hf rfl rfl (fun g hg => ?_)
 have hlo := hlo hg
 have hge : g.lo = g.nx := by
  rcases hg with ⟨rfl, _⟩ | ⟨e1, e2, _⟩
  ·rfl
  ·omega
 have r := r.enter (A := fun v => [v, b.v eY]) hg (fun _ _ _ _ => rfl)
 have kc := kcon_spec h1 h1' h2 h3 v ks hk (by omega) g r
 have ln := r.len
 have n40 : ¬ (40 < (ks.length : Int)) := by omega
 unfold Zzal
 simp only [↓zp, zv, seval, ln, n40, m1, kc]
 generalize hS : Tr.set _ 21 _ = S
 have b1 : Slots.at S 1 = b.v eY := by rw [← hS]; simp only [zs, seval]
 have b7 : Slots.at S 7 = .nils := by rw [← hS]; simp only [zs, seval]
 have b19 : Slots.at S 19 = v := by rw [← hS]; simp only [zs, seval]
 have b20 : Slots.at S 20 = .int .i64 (ks.length : Int) := by rw [← hS]; simp only [zs, seval]
 have b21 : Slots.at S 21 = .int .i64 ((0 : Nat) : Int) := by rw [← hS]; simp only [zs, seval] <;> rfl
 clear hS
 refine loop_ind (fun m s h => invFr v ks (flds ks b.l) g.lo 0 g m s h) ?_ ks.length ⟨0, by omega, by omega, b19, b20, b21, rfl, hlo, Kp.refl g, b, b1, by simpa using hb, [], rfl, by simp, .nils, b7, Acc.nil⟩
 clear b1 b7 b19 b20 b21 kc
 rintro m s h' ⟨k, hk', hm, c19, c20, c21, hl, hnl, kp, cb, c1', cl, o, ol, oe, u, c7, ac⟩
 by_cases hlt : k < ks.length
 case neg =>
  have hlt' : ¬ ((k : Int) < (ks.length : Int)) := by omega
  have hd : ks.drop k = [] := List.drop_eq_nil_of_le (by omega)
  rw [hd] at cl oe
  have c0 : cb.l = [] := List.length_eq_zero_iff.1 cl
  obtain ⟨e, e1, e2⟩ := cloneY_spec h5 cb h' (by rw [c0]; simp)
  obtain ⟨w, wl, wf⟩ := Acc.fz (base := g.nx) eF_len eF_scal ac (by omega)
  simp only [↓zp, zv, seval, c1', c7, c19, c20, c21, hlt', m5, e2]
  exact ⟨_, fzT3 scal_v (wf.le (by simp; omega)), w, e, by rw [wl, ← oe]; simp [flds], by rw [e1, c0], rfl⟩
 have hlt' : (k : Int) < (ks.length : Int) := by omega
 have ws := wr_succ (k := k) (by omega)
 obtain ⟨a, ia, el⟩ := (r.keep kp).ia eN_len (by decide) hlt
 have l1 := el.ld1 (Kp.refl h')
 have hd : ks.drop k = ks[k] :: ks.drop (k + 1) := List.drop_eq_getElem_cons hlt
 have kk := hk _ (List.getElem_mem hlt)
 rw [hd] at cl oe
 generalize ks[k] = kd at *
 have hw : wd kd ≤ cb.l.length := by rw [cl]; simp [tot]
 have kw := fun h => width_spec h3 kk h
 obtain ⟨q1, q2, q3⟩ := fl_mx kk cb.l hw
 have kf := fun h => fcheck_spec h4 h3 h4' (fl kd cb.l) (by rw [q1]; exact kk) (by rw [q1]; exact q2) q3 h
 obtain ⟨cn, cn1, cn2⟩ := slc_drop eY_len (c := cb) hw
 have nlt : ¬ ((cb.l.length : Int) < ((wd kd : Nat) : Int)) := by omega
 have z0 : ¬ h'.nx < h'.lo := by omega
 obtain ⟨G, hG⟩ : ∃ G, (h'.new (.cells (.int .u8 0 :: .int .u64 0 :: zV) (.ct t1))).set h'.nx (.cells (.int .u8 (kd : Int) :: .int .u64 0 :: zV) (.ct t1)) = G := ⟨_, rfl⟩
 have gG : G.get h'.nx = .cells (.int .u8 (kd : Int) :: .int .u64 0 :: zV) (.ct t1) := by rw [← hG, Heap.get_set, if_pos rfl]
 have nG : G.nx = h'.nx + 1 := by rw [← hG]; rfl
 have lG : G.lo = h'.lo := by rw [← hG]; rfl
 have aG : ∀ b, b < h'.nx → G.get b = h'.get b := fun b hb => by rw [← hG, Heap.get_set, if_neg (by omega), Heap.get_new, if_neg (by omega)]
 simp only [zV] at hG
 have lz : zV.length = 32 := rfl
 have tz : takeN 32 zV = some zV := rfl
 have tail : ∀ G2 : Heap, G2.nx = h'.nx + 1 → G2.lo = h'.lo → (∀ b, b < h'.nx → G2.get b = h'.get b) → ∃ v' h2, r_app 34 48 u (.sl (h'.nx + 1) 0 1 1 34) (G2.new (.cells (eF (fl kd cb.l)) .cl)) = some (v', h2) ∧ h2.lo = g.lo ∧ g.lo ≤ h2.nx ∧ Kp g h2 ∧ Acc eF 34 h2 v' (o ++ [fl kd cb.l]) := fun G2 e1 e2 e3 => by
  have ac := ac.keep (h' := G2) e2 (by omega) (fun b cs hb _ => e3 b hb)
  obtain ⟨v', h2, p1, p2, p3, p4⟩ := pushB eF_len eF_one (bytes := 48) ac (by omega) (fl kd cb.l) (by rw [ol]; omega)
  have lo2 := p2.lo
  have nx2 := p2.nx
  rw [e1] at p1
  refine ⟨v', h2, p1, by omega, by omega, ⟨by omega, by have := kp.nx; omega, fun b hb => ?_⟩, p3⟩
  have hb2 : b < h'.nx := Nat.lt_of_lt_of_le hb kp.nx
  rw [p4 b (by omega), e3 b hb2, kp.get b hb]
 by_cases h6 : kd = 6
 ·subst h6
  have e6 : ((6 : Nat) : Int) = 6 := rfl
  have ed : eF (fl 6 cb.l) = .int .u8 6 :: .int .u64 0 :: mY (cb.l.take 32) := by
   have : fl 6 cb.l = ⟨6, 0, pad (cb.l.take 32), pad_len _⟩ := rfl
   rw [this]
   have e : pad (cb.l.take 32) = cb.l.take 32 := pad_eq (by have : wd 6 = 32 := rfl; simp; omega)
   show V.int .u8 ((6 : Nat) : Int) :: V.int .u64 ((0 : Nat) : Int) :: mY (pad (cb.l.take 32)) = _
   rw [e]
   rfl
  rw [e6] at hG l1 kw gG
  have ksl := slca_all (n := 32) (sz := 1) (off := 2) gG rfl (by simp [zV])
  have kcp := cpy32 (Z := zV) rfl gG (by omega) cb hw
  have l32 : (mY (cb.l.take 32)).length = 32 := by rw [mY_len]; have : wd 6 = 32 := rfl; simp; omega
  have t32 : takeN 32 (mY (cb.l.take 32)) = some (mY (cb.l.take 32)) := by have := takeN_all (mY (cb.l.take 32)); rwa [l32] at this
  obtain ⟨G2, hG2⟩ : ∃ G2, G.set h'.nx (.cells (.int .u8 6 :: .int .u64 0 :: mY (cb.l.take 32)) (.ct t1)) = G2 := ⟨_, rfl⟩
  have gG2 : G2.get h'.nx = .cells (.int .u8 6 :: .int .u64 0 :: mY (cb.l.take 32)) (.ct t1) := by rw [← hG2, Heap.get_set, if_pos rfl]
  have nG2 : G2.nx = h'.nx + 1 := by rw [← hG2]; exact nG
  obtain ⟨v', h2, p1, p2, p3, p4, p5⟩ := tail G2 nG2 (by rw [← hG2]; exact lG) (fun b hb => by rw [← hG2, Heap.get_set, if_neg (by omega), aG b hb])
  have ov := over_zW l32 (mY_one _)
  rw [hG2] at kcp
  rw [ed] at kf p1
  simp only [↓zp, zv, seval, c1', c7, c19, c20, c21, hlt', ia, l1, m3, kw, nlt, z0, hG, gG, nG, lz, ksl, kcp, gG2, nG2, l32, t32, m4, kf, ov, p1, cn2, ws]
  refine ⟨_, by omega, k + 1, by omega, rfl, by simp only [zs, seval, c19], by simp only [zs, seval, c20], by simp only [zs, seval], p2, p3, p4, cn, by simp only [zs, seval], ?_, o ++ [fl 6 cb.l], by simp [ol], ?_, v', by simp only [zs, seval], p5⟩
  ·rw [cn1, List.length_drop, cl]
   simp only [tot]
   omega
  ·rw [cn1, ← oe, List.append_assoc]
   rfl
 have h6' : ¬ ((kd : Nat) : Int) = 6 := by omega
 obtain ⟨x, x1, x2⟩ := slc_mid eY_len (c := cb) (Nat.zero_le (wd kd)) hw
 have x2 := fun h => (slc_none (enc := eY) (sz := 1)).trans (x2 h)
 have x1 : x.l = cb.l.take (wd kd) := by simpa using x1
 have xl : x.l.length = wd kd := by rw [x1]; simp; omega
 have w8 := wd_le kk h6
 simp only [↓zp, zv, seval, c1', c7, c19, c20, c21, hlt', ia, l1, m3, kw, nlt, z0, hG, gG, nG, h6', lz, x2]
 generalize hS : Tr.set _ 43 _ = S
 have d1 : Slots.at S 1 = cb.v eY := by rw [← hS]; simp only [zs, seval, c1']
 have d7 : Slots.at S 7 = u := by rw [← hS]; simp only [zs, seval, c7]
 have d9 : Slots.at S 9 = .int .u8 (kd : Int) := by rw [← hS]; simp only [zs, seval]
 have d10 : Slots.at S 10 = .int .i64 (wd kd : Int) := by rw [← hS]; simp only [zs, seval]
 have d11 : Slots.at S 11 = .ptr h'.nx 0 := by rw [← hS]; simp only [zs, seval]
 have d19 : Slots.at S 19 = v := by rw [← hS]; simp only [zs, seval, c19]
 have d20 : Slots.at S 20 = .int .i64 (ks.length : Int) := by rw [← hS]; simp only [zs, seval, c20]
 have d21 : Slots.at S 21 = .int .i64 (k : Int) := by rw [← hS]; simp only [zs, seval, c21]
 have d41 : Slots.at S 41 = x.v eY := by rw [← hS]; simp only [zs, seval]
 have d42 : Slots.at S 42 = .int .i64 (x.l.length : Int) := by rw [← hS]; simp only [zs, seval]
 have d43 : Slots.at S 43 = .int .i64 ((0 : Nat) : Int) := by rw [← hS]; simp only [zs, seval] <;> rfl
 clear hS
 refine loop_ind (fun m s h => ∃ j, j ≤ x.l.length ∧ m = x.l.length - j ∧ InB v ks.length k kd (wd kd) (cb.v eY) u x h' (.ct t1) j s h) ?_ x.l.length ⟨0, by omega, by omega, d1, d7, d9, d10, d11, d19, d20, d21, d41, d42, d43, gG, lG, nG, aG⟩
 clear d1 d7 d9 d10 d11 d19 d20 d21 d41 d42 d43 gG lG nG aG hG
 rintro m' s' h'' ⟨j, hj, hm', I⟩
 by_cases hjl : j < x.l.length
 case pos =>
  have hjl' : (j : Int) < (x.l.length : Int) := by omega
  have wj := wr_succ (k := j) (by omega)
  have iaj := fun h => r_ia_v (enc := eY) eY_len (by decide) (h := h) hjl rfl
  have hN := num_take hjl
  have nl : num (x.l.take j) < 256 ^ 7 := by
   have h1 := num_lt (x.l.take j)
   have h2 : 256 ^ (x.l.take j).length ≤ 256 ^ 7 := Nat.pow_le_pow_right (by decide) (by simp; omega)
   omega
  have bl := x.l[j].lt
  have s8 : VE.binOp .shl (.int .u64 (num (x.l.take j) : Int)) (.int .u64 8) = some (.int .u64 ((num (x.l.take j) * 256 : Nat) : Int)) := by
   have := bn_shl (a := num (x.l.take j)) (y := 8) (k := .u64) (by decide)
   rw [Nat.mod_eq_of_lt (by omega)] at this
   exact this
  have o8 : VE.binOp .or (.int .u64 ((num (x.l.take j) * 256 : Nat) : Int)) (.int .u64 (x.l[j].a : Int)) = some (.int .u64 ((num (x.l.take j) * 256 + x.l[j].a : Nat) : Int)) := bn_or (s := 8) (by omega) ⟨_, Nat.mul_comm _ _⟩ (by omega) (by omega)
  have wb : wr .u64 (x.l[j].a : Int) = (x.l[j].a : Int) := wr_ul (by omega)
  have z1 : ¬ h'.nx < h''.lo := by have := I.lo; omega
  have oz : over 0 zV [] = some zV := rfl
  simp only [eY] at iaj
  simp only [↓zp, zv, seval, I.s1, I.s7, I.s9, I.s10, I.s11, I.s19, I.s20, I.s21, I.s41, I.s42, I.s43, hjl', iaj, I.gx, s8, wb, o8, z1, oz, wj]
  refine ⟨_, by omega, j + 1, by omega, rfl, by simp only [zs, seval, I.s1], by simp only [zs, seval, I.s7], by simp only [zs, seval, I.s9], by simp only [zs, seval, I.s10], by simp only [zs, seval, I.s11], by simp only [zs, seval, I.s19], by simp only [zs, seval, I.s20], by simp only [zs, seval, I.s21], by simp only [zs, seval, I.s41], by simp only [zs, seval, I.s42], by simp only [zs, seval], by rw [Heap.get_set, if_pos rfl, hN], by rw [Heap.set_lo, I.lo], by rw [Heap.set_nx, I.nx], fun b hb => by rw [Heap.get_set, if_neg (by omega), I.get b hb]⟩
 have hjl' : ¬ ((j : Int) < (x.l.length : Int)) := by omega
 have ej : x.l.take j = x.l := List.take_of_length_le (by omega)
 have gx := I.gx
 rw [ej, x1] at gx
 have ed : eF (fl kd cb.l) = .int .u8 (kd : Int) :: .int .u64 (num (cb.l.take (wd kd)) : Int) :: zV := by
  have : fl kd cb.l = ⟨kd, num (cb.l.take (wd kd)), zD, rfl⟩ := if_neg h6
  rw [this]
  rfl
 obtain ⟨v', h2, p1, p2, p3, p4, p5⟩ := tail h'' I.nx I.lo I.get
 rw [ed] at kf p1
 simp only [↓zp, zv, seval, I.s1, I.s7, I.s9, I.s10, I.s11, I.s19, I.s20, I.s21, I.s41, I.s42, I.s43, hjl', gx, I.nx, lz, tz, m4, kf, over_zz, p1, cn2, ws]
 refine ⟨_, by omega, k + 1, by omega, rfl, by simp only [zs, seval, I.s19], by simp only [zs, seval, I.s20], by simp only [zs, seval], p2, p3, p4, cn, by simp only [zs, seval], ?_, o ++ [fl kd cb.l], by simp [ol], ?_, v', by simp only [zs, seval], p5⟩
 ·rw [cn1, List.length_drop, cl]
  simp only [tot]
  omega
 ·rw [cn1, ← oe, List.append_assoc]
  rfl
end
end
section
open Go Go.VE Classical
theorem fzTs {h : Heap} {base : Nat} {v : V} {k : IntKind} {x : Int} (hs : scal v = true) : frz frzFuel h base false (.tup [v, .int k x]) = some (.tup [v, .int k x]) := fzTx rfl (fun n hn => FzV.scal hs n (by omega))
theorem fzAg {h : Heap} {base : Nat} {l : List V} {k : IntKind} {x : Int} (hs : l.all VE.scal = true) (hl : l.length ≤ 1000) : frz frzFuel h base false (.tup [.agg l, .int k x]) = some (.tup [.agg l, .int k x]) :=
 fzTx rfl (fun n hn => by
  obtain ⟨m, rfl⟩ : ∃ m, n = m + 1 := ⟨n - 1, by omega⟩
  rw [frz, frzs_scal l hs (by omega), Option.map_some])
theorem fzA1 {h : Heap} {base : Nat} {l : List V} (hs : l.all VE.scal = true) (hl : l.length ≤ 1000) : frz frzFuel h base false (.agg l) = some (.agg l) := frzA hs (by omega)
section
variable {vp : Nat → Option VFn}
theorem read_spec {f cf c1 c2 c3 c4 c5 t1 d1 d2 t2 : Nat} (hf : vp f = some (Zzan cf)) (hcf : vp cf = some (Zzal c1 c2 c3 c4 c5 t1)) (h1 : vp c1 = some (Zzcb d1)) (h1' : vp d1 = some Zzck) (h2 : vp c2 = some (Zzam c3)) (h3 : vp c3 = some (Zzap t2)) (h4 : vp c4 = some (Zzak c3 d2)) (h4' : vp d2 = some (Zzao c3)) (h5 : vp c5 = some Zzbw)
  (v : V) (ks : List Nat) (hk : ∀ k ∈ ks, Kd k) (hn : ks.length ≤ 40) (b : Sl Bt) (hb : b.l.length = tot ks) (h : Heap) (r : Rd eN 1 h v ks) :
  ∃ o : Sl Fl, o.l = flds ks b.l ∧ callRes vp f [v, b.v eY] h = some (.tup [o.v eF, .int .i64 0], h) := by
 have m1 : modeOf vp cf = some 1 := mo hcf rfl rfl
 suffices q : ∃ r, callRes vp f [v, b.v eY] h = some (r, h) ∧ ∃ o : Sl Fl, o.l = flds ks b.l ∧ r = .tup [o.v eF, .int .i64 0] by
  obtain ⟨r, e, o, h1, rfl⟩ := q
  exact ⟨o, h1, e⟩
 refine res_pure_ex hf rfl rfl (fun g hg => ?_)
 have r := r.enter (A := fun v => [v, b.v eY]) hg (fun _ _ _ _ => rfl)
 obtain ⟨o, e, o1, e1, kf⟩ := first_spec hcf h1 h1' h2 h3 h4 h4' h5 v ks hk hn b hb g r
 have e0 : e.l.length = 0 := by rw [e1]; rfl
 have i0 : ((0 : Nat) : Int) = 0 := rfl
 unfold Zzan
 simp only [↓zp, zv, seval, m1, kf, e0, i0]
 exact ⟨_, fzTs scal_v, o, o1, rfl⟩
def rowK : List Nat := [2, 2, 4, 4, 4, 4, 4, 4, 4, 4, 4, 4, 4, 2, 2, 5, 6]
def rowF : List Fl := (⟨2, 2, zD, rfl⟩ : Fl) :: rowK.tail.map fun k => ⟨k, 0, zD, rfl⟩
def zC : List V := .int .u8 0 :: .int .u32 0 :: .int .u32 0 :: rep 9 [.int .i64 0] ++ .int .u8 0 :: .int .u8 0 :: .int .u64 0 :: zV
theorem row_run (t1 : Nat) : (match exec vp 200 (Zzav t1).body (argSlots [.agg zC]) h0 with
  | some (.ret, s', h') => (resOf s' h' (Zzav t1).res).bind fun v => frz frzFuel h' 0 false v
  | _ => none) = some (Sl.v eF (.mk rowF none)) := by kernel_rfl
theorem row_spec {f t1 : Nat} (hf : vp f = some (Zzav t1)) (h : Heap) : callRes vp f [.agg zC] h = some (Sl.v eF (.mk rowF none), h) := by
 have e := row_run (vp := vp) t1
 split at e
 ·rename_i s' h' ex
  rw [Option.bind_eq_some_iff] at e
  obtain ⟨v, e1, e2⟩ := e
  refine callRes_of (n := 201) ?_
  have hi : isoArgs 1 [.agg zC] = some [.agg zC] := rfl
  have p : (Zzav t1).prim = none := rfl
  have q : (Zzav t1).mode = 1 := rfl
  simp only [callF, hf, p, q, hi, ex, e1, finishI, e2, Option.map_some]
 ·cases e
theorem ia_fl {o : Sl Fl} {k : Nat} {n : Int} {x : Fl} (hx : o.l[k]? = some x) (hn : n = k) : ∃ r, ∀ h, r_ia 34 (o.v eF) (.int .i64 n) h = some (.iptr (.int .u8 (x.k : Int) :: .int .u64 (x.n : Int) :: (mY x.d ++ r)), h) := by
 obtain ⟨hk, e⟩ := List.getElem?_eq_some_iff.1 hx
 refine ⟨(o.l.drop (k + 1)).flatMap eF, fun h => ?_⟩
 rw [r_ia_v eF_len (by decide) hk hn, e]
 rfl
theorem wr32 {a : Nat} (h : a < 4294967296) : wr .u32 (a : Int) = (a : Int) := by
 show ((a % 4294967296 : Nat) : Int) = _
 rw [Nat.mod_eq_of_lt h]
theorem wr16 {a : Nat} (h : a < 65536) : wr .u16 (a : Int) = (a : Int) := by
 show ((a % 65536 : Nat) : Int) = _
 rw [Nat.mod_eq_of_lt h]
theorem wr8 {a : Nat} (h : a < 256) : wr .u8 (a : Int) = (a : Int) := by
 show ((a % 256 : Nat) : Int) = _
 rw [Nat.mod_eq_of_lt h]
theorem num4 (l : List Bt) : num (l.take 4) < 4294967296 := by
 have h := num_lt (l.take 4)
 have : 256 ^ (l.take 4).length ≤ 256 ^ 4 := Nat.pow_le_pow_right (by decide) (by simp; omega)
 omega
theorem num2 (l : List Bt) : num (l.take 2) < 65536 := by
 have h := num_lt (l.take 2)
 have : 256 ^ (l.take 2).length ≤ 256 ^ 2 := Nat.pow_le_pow_right (by decide) (by simp; omega)
 omega
theorem num1 (l : List Bt) : num (l.take 1) < 256 := by
 have h := num_lt (l.take 1)
 have : 256 ^ (l.take 1).length ≤ 256 ^ 1 := Nat.pow_le_pow_right (by decide) (by simp; omega)
 omega
def w4 (b : List Bt) (i : Nat) : Int := (num ((b.drop i).take 4) : Nat)
def tokL (b : List Bt) : List V := .int .u32 (w4 b 0) :: .int .u32 (w4 b 4) :: .int .u32 (w4 b 8) :: .int .u64 ((num ((b.drop 12).take 8) : Nat) : Int) :: mY (pad ((b.drop 20).take 32))
theorem tokL_scal (b : List Bt) : (tokL b).all VE.scal = true := mY_scal _
theorem over_zV {W : List V} (h1 : W.length = 32) (h2 : W.all oneCell = true) : over 0 zV W = some W := over_zW h1 h2
theorem over_4W {a b c d : V} {W : List V} (h1 : W.length = 32) (h2 : W.all oneCell = true) : over 4 (a :: b :: c :: d :: [.int .u8 0, .int .u8 0, .int .u8 0, .int .u8 0, .int .u8 0, .int .u8 0, .int .u8 0, .int .u8 0, .int .u8 0, .int .u8 0, .int .u8 0, .int .u8 0, .int .u8 0, .int .u8 0, .int .u8 0, .int .u8 0, .int .u8 0, .int .u8 0, .int .u8 0, .int .u8 0, .int .u8 0, .int .u8 0, .int .u8 0, .int .u8 0, .int .u8 0, .int .u8 0, .int .u8 0, .int .u8 0, .int .u8 0, .int .u8 0, .int .u8 0, .int .u8 0]) W = some (a :: b :: c :: d :: W) := by
 have := over_mid [a, b, c, d] W zV [] h1 h2
 simp only [List.length_cons, List.length_nil, List.cons_append, List.nil_append, List.append_nil] at this
 exact this
theorem tread_spec {f c0 cr cf c1 c2 c3 c4 c5 t0 t1 d1 d2 t2 : Nat} (hf : vp f = some (Zzeu c0 cr t0)) (h0 : vp c0 = some Zzbw) (hcr : vp cr = some (Zzan cf)) (hcf : vp cf = some (Zzal c1 c2 c3 c4 c5 t1)) (h1 : vp c1 = some (Zzcb d1)) (h1' : vp d1 = some Zzck) (h2 : vp c2 = some (Zzam c3)) (h3 : vp c3 = some (Zzap t2)) (h4 : vp c4 = some (Zzak c3 d2)) (h4' : vp d2 = some (Zzao c3)) (h5 : vp c5 = some Zzbw)
  (b : Sl Bt) (hb : b.l.length = 52) (h : Heap) : callRes vp f [b.v eY] h = some (.tup [.agg (tokL b.l), .int .i64 0], h) := by
 have m0 : modeOf vp c0 = some 1 := mo h0 rfl rfl
 have m1 : modeOf vp cr = some 1 := mo hcr rfl rfl
 refine res_pure hf rfl rfl (fun g hg => ?_)
 have hlo := hlo hg
 have z0 : ¬ g.nx < g.lo := by omega
 obtain ⟨H, hH⟩ : ∃ H, (g.new (.cells (.int .u32 0 :: .int .u32 0 :: .int .u32 0 :: .int .u64 0 :: zV) (.ct t0))).new (.cells [.int .u8 4, .int .u8 4, .int .u8 4, .int .u8 5, .int .u8 6] .cl) = H := ⟨_, rfl⟩
 have gH : H.get g.nx = .cells (.int .u32 0 :: .int .u32 0 :: .int .u32 0 :: .int .u64 0 :: zV) (.ct t0) := by
  rw [← hH, Heap.get_new, Heap.new_nx, if_neg (show ¬ g.nx = g.nx + 1 by omega), Heap.get_new, if_pos rfl]
 have nH : H.nx = g.nx + 2 := by rw [← hH]; rfl
 have lH : H.lo = g.lo := by rw [← hH]; rfl
 have rk : Rd eN 1 H (.sl (g.nx + 1) 0 5 5 1) [4, 4, 4, 5, 6] := .inr ⟨g.nx + 1, 0, 5, 5, .cl, [.int .u8 4, .int .u8 4, .int .u8 4, .int .u8 5, .int .u8 6], [], rfl, rfl, by rw [← hH, Heap.get_new]; exact if_pos rfl, rfl, by omega⟩
 simp only [zV] at hH
 obtain ⟨b', e1, e2⟩ := cloneY_spec h0 b H (by omega)
 obtain ⟨o, o1, kr⟩ := read_spec hcr hcf h1 h1' h2 h3 h4 h4' h5 _ [4, 4, 4, 5, 6] (by intro k hk; simp at hk; rcases hk with rfl | rfl | rfl <;> exact ⟨by decide, by decide⟩) (by decide) b' (by rw [e1, hb]; rfl) H rk
 rw [e1] at o1
 have of : o.l = [⟨4, num (b.l.take 4), zD, rfl⟩, ⟨4, num ((b.l.drop 4).take 4), zD, rfl⟩, ⟨4, num ((b.l.drop 8).take 4), zD, rfl⟩, ⟨5, num ((b.l.drop 12).take 8), zD, rfl⟩, ⟨6, 0, pad ((b.l.drop 20).take 32), pad_len _⟩] := by
  rw [o1]
  simp only [flds, fl, wd, List.drop_drop, Nat.reduceAdd, Nat.reduceEqDiff, if_false, if_true]
 obtain ⟨r0, i0⟩ := ia_fl (o := o) (k := 0) (n := 0) (by rw [of]; rfl) rfl
 obtain ⟨r1, i1⟩ := ia_fl (o := o) (k := 1) (n := 1) (by rw [of]; rfl) rfl
 obtain ⟨r2, i2⟩ := ia_fl (o := o) (k := 2) (n := 2) (by rw [of]; rfl) rfl
 obtain ⟨r3, i3⟩ := ia_fl (o := o) (k := 3) (n := 3) (by rw [of]; rfl) rfl
 obtain ⟨r4, i4⟩ := ia_fl (o := o) (k := 4) (n := 4) (by rw [of]; rfl) rfl
 have w0 := wr32 (num4 b.l)
 have w1 := wr32 (num4 (b.l.drop 4))
 have w2 := wr32 (num4 (b.l.drop 8))
 have pl := pad_len ((b.l.drop 20).take 32)
 have fz := fun (H : Heap) (c : Nat) => fzAg (h := H) (base := c) (k := .i64) (x := 0) (tokL_scal b.l) (by show _ ≤ 1000; simp [tokL, mY_len, pl])
 have T := tokL_scal b.l
 unfold tokL w4 at fz ⊢
 simp only [List.drop_zero] at fz ⊢
 obtain ⟨D, hD⟩ : ∃ D, pad ((b.l.drop 20).take 32) = D := ⟨_, rfl⟩
 have i4 : ∀ h, r_ia 34 (o.v eF) (.int .i64 4) h = some (.iptr (.int .u8 6 :: .int .u64 0 :: (mY D ++ r4)), h) := fun h => by rw [← hD]; exact i4 h
 rw [hD] at pl fz ⊢
 have lD : (mY D).length = 32 := by rw [mY_len, pl]
 have tD : takeN 32 (mY D) = some (mY D) := by have := takeN_all (mY D); rwa [lD] at this
 have tE : ∀ r, takeN 32 (mY D ++ r) = some (mY D) := fun r => by have := takeN_app (mY D) r; rwa [lD] at this
 have o4 := fun a b c d => over_4W (a := a) (b := b) (c := c) (d := d) lD (mY_one D)
 have o0 := over_zW lD (mY_one D)
 have o1 := over_zV lD (mY_one D)
 unfold Zzeu
 have z5 : rep 5 [V.int .u8 0] = [.int .u8 0, .int .u8 0, .int .u8 0, .int .u8 0, .int .u8 0] := rfl
 simp only [↓zp, zv, seval, z5, hH, m0, e2, m1, kr, i0, i1, i2, i3, i4, w0, w1, w2, lD, tD, tE, o4, o0, o1, gH, nH, lH, z0, fz]
end
end
section
open Go Go.VE Classical
def reqL (b : List Bt) : List V := tokL ((b.drop 1).take 52) ++ [.int .u16 ((num ((b.drop 53).take 2) : Nat) : Int), .int .u32 (w4 b 55)]
theorem reqL_scal (b : List Bt) : (reqL b).all VE.scal = true := by
 unfold reqL
 rw [List.all_append, tokL_scal]
 rfl
theorem over_zW2 {W : List V} {a b : V} (h1 : W.length = 32) (h2 : W.all oneCell = true) : over 0 [.int .u8 0, .int .u8 0, .int .u8 0, .int .u8 0, .int .u8 0, .int .u8 0, .int .u8 0, .int .u8 0, .int .u8 0, .int .u8 0, .int .u8 0, .int .u8 0, .int .u8 0, .int .u8 0, .int .u8 0, .int .u8 0, .int .u8 0, .int .u8 0, .int .u8 0, .int .u8 0, .int .u8 0, .int .u8 0, .int .u8 0, .int .u8 0, .int .u8 0, .int .u8 0, .int .u8 0, .int .u8 0, .int .u8 0, .int .u8 0, .int .u8 0, .int .u8 0, a, b] W = some (W ++ [a, b]) := by
 have := over_mid [] W zV [a, b] h1 h2
 exact this
theorem over_32 {W r : List V} {a v : V} (h1 : W.length = 32) (h2 : oneCell v = true) : over 32 (W ++ a :: r) [v] = some (W ++ v :: r) := by
 have := over_mid W [v] [a] r rfl (by simp [h2])
 rw [h1] at this
 exact this
theorem over_33 {W r : List V} {a c v : V} (h1 : W.length = 32) (h2 : oneCell v = true) : over 33 (W ++ a :: c :: r) [v] = some (W ++ a :: v :: r) := by
 have := over_mid (W ++ [a]) [v] [c] r rfl (by simp [h2])
 rw [List.length_append, h1] at this
 simp only [List.append_assoc, List.cons_append, List.nil_append] at this
 exact this
theorem apart_i {c : List V} {v : V} : apartV (.iptr c) v = true := by cases v <;> rfl
section
variable {vp : Nat → Option VFn}
structure Rdr (vp : Nat → Option VFn) (cr cf c1 c2 c3 c4 c5 t1 d1 d2 t2 : Nat) : Prop where
 cr : vp cr = some (Zzan cf)
 cf : vp cf = some (Zzal c1 c2 c3 c4 c5 t1)
 h1 : vp c1 = some (Zzcb d1)
 h1' : vp d1 = some Zzck
 h2 : vp c2 = some (Zzam c3)
 h3 : vp c3 = some (Zzap t2)
 h4 : vp c4 = some (Zzak c3 d2)
 h4' : vp d2 = some (Zzao c3)
 h5 : vp c5 = some Zzbw
theorem Rdr.read {cr cf c1 c2 c3 c4 c5 t1 d1 d2 t2 : Nat} (r : Rdr vp cr cf c1 c2 c3 c4 c5 t1 d1 d2 t2) (v : V) (ks : List Nat) (hk : ∀ k ∈ ks, Kd k) (hn : ks.length ≤ 40) (b : Sl Bt) (hb : b.l.length = tot ks) (h : Heap) (rd : Rd eN 1 h v ks) :
  ∃ o : Sl Fl, o.l = flds ks b.l ∧ callRes vp cr [v, b.v eY] h = some (.tup [o.v eF, .int .i64 0], h) := read_spec r.cr r.cf r.h1 r.h1' r.h2 r.h3 r.h4 r.h4' r.h5 v ks hk hn b hb h rd
theorem req_spec {f ct c0 t0 tf cr cf c1 c2 c3 c4 c5 t1 d1 d2 t2 : Nat} (hf : vp f = some (Zzau ct cr tf)) (ht : vp ct = some (Zzeu c0 cr t0)) (h0 : vp c0 = some Zzbw) (R : Rdr vp cr cf c1 c2 c3 c4 c5 t1 d1 d2 t2)
  (b : Sl Bt) (hb : b.l.length = 59) (h : Heap) : callRes vp f [b.v eY] h = some (.agg (reqL b.l), h) := by
 have m0 : modeOf vp ct = some 1 := mo ht rfl rfl
 have m1 : modeOf vp cr = some 1 := by simp [modeOf, R.cr, Zzan]
 refine res_pure hf rfl rfl (fun g hg => ?_)
 have hlo := hlo hg
 have z0 : ¬ g.nx < g.lo := by omega
 obtain ⟨x, x1, x2⟩ := slc_mid eY_len (c := b) (a := 1) (b := 53) (by decide) (by omega)
 have x2 : ∀ h, r_slc 1 (b.v eY) (some (.int .i64 1)) (some (.int .i64 53)) none h = some (x.v eY, h) := x2
 obtain ⟨y, y1, y2⟩ := slc_drop eY_len (c := b) (a := 53) (by omega)
 have y2 : ∀ h, r_slc 1 (b.v eY) (some (.int .i64 53)) none none h = some (y.v eY, h) := y2
 have kt := fun h => tread_spec ht h0 R.cr R.cf R.h1 R.h1' R.h2 R.h3 R.h4 R.h4' R.h5 x (by rw [x1]; simp; omega) h
 rw [x1] at kt
 have pl := pad_len ((((b.l.drop 1).take 52).drop 20).take 32)
 have T := reqL_scal b.l
 have fz := fun (H : Heap) (c : Nat) => fzA1 (h := H) (base := c) T (by show _ ≤ 1000; simp [reqL, tokL, mY_len, pad_len])
 unfold reqL at fz ⊢
 have e53 : 53 - 1 = 52 := rfl
 rw [e53] at kt
 unfold tokL at kt fz ⊢
 obtain ⟨D, hD⟩ : ∃ D, pad ((((b.l.drop 1).take 52).drop 20).take 32) = D := ⟨_, rfl⟩
 rw [hD] at pl kt fz ⊢
 have lD : (mY D).length = 32 := by rw [mY_len, pl]
 simp only [List.cons_append, List.nil_append] at fz ⊢
 obtain ⟨X0, hX0⟩ : ∃ X, V.int .u32 (w4 ((b.l.drop 1).take 52) 0) = X := ⟨_, rfl⟩
 obtain ⟨X1, hX1⟩ : ∃ X, V.int .u32 (w4 ((b.l.drop 1).take 52) 4) = X := ⟨_, rfl⟩
 obtain ⟨X2, hX2⟩ : ∃ X, V.int .u32 (w4 ((b.l.drop 1).take 52) 8) = X := ⟨_, rfl⟩
 obtain ⟨X3, hX3⟩ : ∃ X, V.int .u64 ((num ((((b.l.drop 1).take 52).drop 12).take 8) : Nat) : Int) = X := ⟨_, rfl⟩
 have n0 : oneCell X0 = true := by rw [← hX0]; rfl
 have n1 : oneCell X1 = true := by rw [← hX1]; rfl
 have n2 : oneCell X2 = true := by rw [← hX2]; rfl
 have n3 : oneCell X3 = true := by rw [← hX3]; rfl
 simp only [hX0, hX1, hX2, hX3] at kt fz ⊢
 obtain ⟨G, hG⟩ : ∃ G, (g.new (.cells (.int .u32 0 :: .int .u32 0 :: .int .u32 0 :: .int .u64 0 :: (zV ++ [.int .u16 0, .int .u32 0])) (.ct tf))).set g.nx (.cells (X0 :: X1 :: X2 :: X3 :: (mY D ++ [.int .u16 0, .int .u32 0])) (.ct tf)) = G := ⟨_, rfl⟩
 obtain ⟨H, hH⟩ : ∃ H, G.new (.cells [.int .u8 3, .int .u8 4] .cl) = H := ⟨_, rfl⟩
 have nG : G.nx = g.nx + 1 := by rw [← hG]; rfl
 have gH : H.get g.nx = .cells (X0 :: X1 :: X2 :: X3 :: (mY D ++ [.int .u16 0, .int .u32 0])) (.ct tf) := by
  rw [← hH, Heap.get_new, nG, if_neg (show ¬ g.nx = g.nx + 1 by omega), ← hG, Heap.get_set, if_pos rfl]
 have nH : H.nx = g.nx + 2 := by rw [← hH, Heap.new_nx, nG]
 have lH : H.lo = g.lo := by rw [← hH, ← hG]; rfl
 have rk : Rd eN 1 H (.sl (g.nx + 1) 0 2 2 1) [3, 4] := .inr ⟨g.nx + 1, 0, 2, 2, .cl, [.int .u8 3, .int .u8 4], [], rfl, rfl, by rw [← hH, Heap.get_new, nG]; exact if_pos rfl, rfl, by omega⟩
 obtain ⟨o, o1, kr⟩ := R.read _ [3, 4] (by intro k hk; simp at hk; rcases hk with rfl | rfl <;> exact ⟨by decide, by decide⟩) (by decide) y (by rw [y1]; simp [tot, wd]; omega) H rk
 have of : o.l = [⟨3, num ((b.l.drop 53).take 2), zD, rfl⟩, ⟨4, num ((b.l.drop 55).take 4), zD, rfl⟩] := by
  rw [o1, y1]
  simp only [flds, fl, wd, List.drop_drop, Nat.reduceAdd, Nat.reduceEqDiff, if_false, if_true]
 obtain ⟨r0, i0⟩ := ia_fl (o := o) (k := 0) (n := 0) (by rw [of]; rfl) rfl
 obtain ⟨r1, i1⟩ := ia_fl (o := o) (k := 1) (n := 1) (by rw [of]; rfl) rfl
 have w0 := wr16 (num2 (b.l.drop 53))
 have w1 := wr32 (num4 (b.l.drop 55))
 have tD : takeN 32 (mY D) = some (mY D) := by have := takeN_all (mY D); rwa [lD] at this
 have t34 : ∀ u v, takeN 34 (mY D ++ [u, v]) = some (mY D ++ [u, v]) := fun u v => by have := takeN_all (mY D ++ [u, v]); rw [List.length_append, lD] at this; exact this
 have z2 := fun a b => over_zW2 (a := a) (b := b) lD (mY_one D)
 have z3 := fun x y => over_32 (W := mY D) (r := [y]) (a := x) (v := .int .u16 ((num ((b.l.drop 53).take 2) : Nat) : Int)) lD rfl
 have z4 := fun x y => over_33 (W := mY D) (r := []) (a := x) (c := y) (v := .int .u32 ((num ((b.l.drop 55).take 4) : Nat) : Int)) lD rfl
 have oo : over 0 (mY D ++ [.int .u16 ((num ((b.l.drop 53).take 2) : Nat) : Int), .int .u32 ((num ((b.l.drop 55).take 4) : Nat) : Int)]) (mY D ++ [.int .u16 ((num ((b.l.drop 53).take 2) : Nat) : Int), .int .u32 ((num ((b.l.drop 55).take 4) : Nat) : Int)]) = some (mY D ++ [.int .u16 ((num ((b.l.drop 53).take 2) : Nat) : Int), .int .u32 ((num ((b.l.drop 55).take 4) : Nat) : Int)]) := by
  have := over_mid [] (mY D ++ [.int .u16 ((num ((b.l.drop 53).take 2) : Nat) : Int), .int .u32 ((num ((b.l.drop 55).take 4) : Nat) : Int)]) (mY D ++ [.int .u16 ((num ((b.l.drop 53).take 2) : Nat) : Int), .int .u32 ((num ((b.l.drop 55).take 4) : Nat) : Int)]) [] rfl (by rw [List.all_append, mY_one]; rfl)
  simpa using this
 have n0' : cellsO X0 = some [X0] := by rw [← hX0]; rfl
 simp only [zV, List.cons_append, List.nil_append] at hG
 unfold Zzau
 unfold w4 at fz ⊢
 simp only [↓zp, zv, seval, x2, m0, kt, z2, n0, n1, n2, n3, lD, List.length_append, z0, hG, nG, hH, y2, m1, kr, gH, nH, lH, i0, i1, w0, w1, z3, z4, t34, oo, apart_i, fz]
end
end
end Go.VE.LB
