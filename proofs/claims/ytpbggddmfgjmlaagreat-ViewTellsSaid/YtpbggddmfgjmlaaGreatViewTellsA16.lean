/- What the functions of the law ViewTells compute, on typed arguments (part 16). -/
import Derived.Test.YtpbggddmfgjmlaaGreatViewTellsA15
set_option linter.all false
namespace Go.VE.LB
set_option maxRecDepth 100000
set_option maxHeartbeats 4000000
section
open Go Go.VE Classical
structure Wrb (h : Heap) (b : Nat) (v : V) (l : List Bt) : Prop where
 v : v = .sl b 0 l.length l.length 1
 lo : h.lo ≤ b
 nx : b < h.nx
 get : ∃ tag, h.get b = .cells (mY l) tag
theorem Wrb.keep {g h : Heap} {b : Nat} {v : V} {l : List Bt} (w : Wrb g b v l) (k : Kp g h) : Wrb h b v l := by
 obtain ⟨t, e⟩ := w.get
 exact ⟨w.v, by rw [k.lo]; exact w.lo, Nat.lt_of_lt_of_le w.nx k.nx, t, by rw [k.get b w.nx, e]⟩
theorem Wrb.rd {h : Heap} {b : Nat} {v : V} {l : List Bt} (w : Wrb h b v l) : Rd eY 1 h v l := by
 obtain ⟨t, e⟩ := w.get
 exact .inr ⟨b, 0, _, _, t, mY l, [], w.v, rfl, e, by rw [mY_flat]; simp, w.nx⟩
theorem Rd.row {h : Heap} {x : V} {l : List Bt} (r : Rd eY 1 h x l) : rowOf h 1 x = some (mY l) ∧ lenOf x = some l.length := by
 rcases r with ⟨c, rfl, rfl⟩ | ⟨b, o, n, c, tag, all, r, rfl, rfl, h1, h3, h2⟩
 ·cases c with
  | nil => exact ⟨rfl, rfl⟩
  | mk l cap => exact ⟨by simp only [Sl.v, rowOf, Sl.l, flat_len2 eY_len, mY_flat, mY_len, Nat.mul_one, beq_dec, decide_true, cond_true], rfl⟩
 ·refine ⟨?_, rfl⟩
  rw [mY_flat] at h3
  have := takeN_app (mY l) r
  rw [mY_len] at this
  simp only [rowOf, beq_dec, decide_true, cond_true, h1, h3, Nat.mul_one, this]
theorem Wrb.app {h : Heap} {b : Nat} {v x : V} {l l' : List Bt} (w : Wrb h b v l) (r : Rd eY 1 h x l') (hl : 0 < l'.length) (hs : l.length + l'.length ≤ 1000000) (hlo : h.lo ≤ h.nx) :
  ∃ v' h', r_app 1 1 v x h = some (v', h') ∧ Wrb h' h.nx v' (l ++ l') ∧ h'.lo = h.lo ∧ h'.nx = h.nx + 1 ∧ ∀ c, c < h.nx → c ≠ b → h'.get c = h.get c := by
 obtain ⟨r1, r2⟩ := r.row
 obtain ⟨t, e⟩ := w.get
 have lo := w.lo
 have nx := w.nx
 obtain ⟨n, hn⟩ : ∃ n, l'.length = n + 1 := ⟨l'.length - 1, by omega⟩
 have h1 : Nat.ble (l.length + (n + 1)) l.length = false := by rw [ble_dec]; simp
 have h2 : Nat.blt 140737488355328 ((l.length + (n + 1)) * 1) = false := by rw [blt_dec]; simp; omega
 have ht : takeN (l.length * 1) ((mY l).drop 0) = some (mY l) := by rw [List.drop_zero, Nat.mul_one]; have := takeN_all (mY l); rwa [mY_len] at this
 have hb : Nat.blt b h.lo = false := by rw [blt_dec]; simp; omega
 have ap : mY l ++ mY l' = mY (l ++ l') := by unfold mY; rw [List.map_append]
 rw [w.v]
 have e0 : r_app 1 1 (.sl b 0 l.length l.length 1) x h = (bif t.opn && Nat.beq (0 + l.length * 1) (mY l).length then some (.sl h.nx 0 (l.length + (n + 1)) (l.length + (n + 1)) 1, (h.set b .dead).new (.cells (mY l ++ mY l') (tagM t 0 none))) else some (.sl h.nx 0 (l.length + (n + 1)) (l.length + (n + 1)) 1, h.new (.cells (mY l ++ mY l') (tagN none)))) := by
  simp only [r_app, r2, r1, hn, appendV, beq_dec, decide_true, cond_true, e, h1, cond_false, h2, ht, hb, mY_one, Bool.not_true, Bool.or_self, Bool.false_or]
 rw [e0, ap]
 have el : (l ++ l').length = l.length + (n + 1) := by rw [List.length_append, hn]
 cases t.opn && Nat.beq (0 + l.length * 1) (mY l).length
 ·refine ⟨_, _, rfl, ⟨by rw [el], hlo, by show h.nx < h.nx + 1; omega, tagN none, (Heap.get_new h _ h.nx).trans (if_pos rfl)⟩, rfl, rfl, fun c hc hb => by rw [Heap.get_new, if_neg (by omega)]⟩
 ·refine ⟨_, _, rfl, ⟨by rw [el], hlo, by show h.nx < h.nx + 1; omega, tagM t 0 none, ?_⟩, rfl, rfl, fun c hc hb => ?_⟩
  ·exact (Heap.get_new (h.set b .dead) _ h.nx).trans (if_pos rfl)
  ·have n1 : c ≠ (h.set b .dead).nx := by show c ≠ h.nx; omega
   rw [Heap.get_new, if_neg n1, Heap.get_set, if_neg hb]
def bts : Nat → Nat → List Bt
 | 0, _ => []
 | n + 1, x => ⟨x / 256 ^ n % 256, Nat.mod_lt _ (by decide)⟩ :: bts n x
theorem bts_len : ∀ (n x : Nat), (bts n x).length = n
 | 0, _ => rfl
 | n + 1, x => by rw [bts, List.length_cons, bts_len n x]
theorem bts_at : ∀ (n x k : Nat) (h : k < (bts n x).length), ((bts n x)[k]).a = x / 256 ^ (n - 1 - k) % 256
 | 0, x, k, h => by simp [bts] at h
 | n + 1, x, 0, h => by
  show x / 256 ^ n % 256 = _
  simp
 | n + 1, x, k + 1, h => by
  have h' : k < (bts n x).length := by simpa [bts] using h
  have := bts_at n x k h'
  show ((bts n x)[k]).a = _
  rw [this]
  congr 3
  omega
theorem num_cons (x : Bt) (l : List Bt) : num (x :: l) = x.a * 256 ^ l.length + num l := by
 have key : ∀ (l : List Bt) (n : Nat), l.foldl (fun n x => n * 256 + x.a) n = n * 256 ^ l.length + num l := by
  intro l
  induction l with
  | nil => intro n; simp [num]
  | cons y l ih =>
   intro n
   rw [List.foldl_cons, ih]
   show _ = n * 256 ^ (l.length + 1) + l.foldl _ (0 * 256 + y.a)
   rw [ih, Nat.pow_succ, Nat.add_mul, Nat.mul_assoc, Nat.mul_comm 256, Nat.zero_mul, Nat.zero_add, Nat.add_assoc]
 show l.foldl _ (0 * 256 + x.a) = _
 rw [key, Nat.zero_mul, Nat.zero_add]
theorem bts_num : ∀ (l : List Bt) (y : Nat), y % 256 ^ l.length = num l → bts l.length y = l
 | [], y, _ => rfl
 | x :: l, y, h => by
  rw [num_cons, List.length_cons, Nat.pow_succ] at h
  have hx := x.lt
  have hn := num_lt l
  have hp : 0 < 256 ^ l.length := Nat.pow_pos (by decide)
  have e1 : y % 256 ^ l.length = num l := by
   have : y % (256 ^ l.length * 256) % 256 ^ l.length = y % 256 ^ l.length := Nat.mod_mul_right_mod _ _ _
   rw [← this, h, Nat.mul_comm, Nat.mul_add_mod, Nat.mod_eq_of_lt hn]
  have e2 : y / 256 ^ l.length % 256 = x.a := by
   rw [← Nat.mod_mul_right_div_self, h, Nat.mul_comm x.a, Nat.mul_add_div hp, Nat.div_eq_of_lt hn, Nat.add_zero]
  rw [List.length_cons, bts, bts_num l y e1]
  congr 1
  exact bt_ext e2
theorem bts_of {l : List Bt} {n : Nat} (h : l.length = n) : bts n (num l) = l := by
 subst h
 exact bts_num l _ (Nat.mod_eq_of_lt (num_lt l))
section
variable {vp : Nat → Option VFn}
def invNuY (c : Sl Bt) (g : Heap) (m : Nat) (s : Slots) (h : Heap) : Prop :=
 ∃ k, k ≤ c.l.length ∧ m = c.l.length - k ∧ s.at 0 = c.v eY ∧ s.at 4 = .int .i64 (k : Int) ∧ s.at 3 = .int .u64 ((num (c.l.take k) : Nat) : Int) ∧ h = g
theorem num_spec' {f : Nat} (hf : vp f = some Zzct) (c : Sl Bt) (hn : c.l.length ≤ 8) (h : Heap) : callRes vp f [c.v eY] h = some (.int .u64 ((num c.l : Nat) : Int), h) := by
 refine res_pure hf rfl rfl (fun g hg => ?_)
 unfold Zzct
 simp only [↓zp, zv, seval]
 generalize hS : Tr.set _ 4 _ = S
 have b0 : Slots.at S 0 = c.v eY := by rw [← hS]; simp only [zs, seval]
 have b3 : Slots.at S 3 = .int .u64 ((num (c.l.take 0) : Nat) : Int) := by rw [← hS]; simp only [zs, seval] <;> rfl
 have b4 : Slots.at S 4 = .int .i64 ((0 : Nat) : Int) := by rw [← hS]; simp only [zs, seval] <;> rfl
 clear hS
 refine loop_ind (fun m s h => invNuY c g m s h) ?_ c.l.length ⟨0, by omega, by omega, b0, b4, b3, rfl⟩
 clear b0 b3 b4
 rintro m s h ⟨k, hk, hm, c0, c4, c3, rfl⟩
 by_cases hlt : k < c.l.length
 case neg =>
  have hlt' : ¬ ((k : Int) < (c.l.length : Int)) := by omega
  rw [List.take_of_length_le (by omega)] at c3
  simp only [↓zp, zv, seval, c0, c3, c4, hlt', frzI]
 have hlt' : (k : Int) < (c.l.length : Int) := by omega
 have ws := wr_succ (k := k) (by omega)
 have ia := fun h => r_ia_v (enc := eY) eY_len (by decide) (h := h) hlt rfl
 simp only [eY] at ia
 have hN := num_take hlt
 have nl : num (c.l.take k) < 256 ^ 7 := by
  have h1 := num_lt (c.l.take k)
  have h2 : 256 ^ (c.l.take k).length ≤ 256 ^ 7 := Nat.pow_le_pow_right (by decide) (by simp; omega)
  omega
 have bl := (c.l[k]).lt
 have m8 : VE.binOp .mul (.int .u64 256) (.int .u64 ((num (c.l.take k) : Nat) : Int)) = some (.int .u64 ((num (c.l.take k) * 256 : Nat) : Int)) := by
  have := bn_mul (a := 256) (b := num (c.l.take k))
  rw [Nat.mod_eq_of_lt (by omega), Nat.mul_comm] at this
  exact this
 have wb : wr .u64 ((c.l[k]).a : Int) = ((c.l[k]).a : Int) := wr_ul (by omega)
 have wa : wr .u64 (((num (c.l.take k) * 256 : Nat) : Int) + ((c.l[k]).a : Int)) = ((num (c.l.take (k + 1)) : Nat) : Int) := by
  rw [hN]
  have : ((num (c.l.take k) * 256 : Nat) : Int) + ((c.l[k]).a : Int) = ((num (c.l.take k) * 256 + (c.l[k]).a : Nat) : Int) := by push_cast; rfl
  rw [this, wr_ul (by omega)]
 simp only [↓zp, zv, seval, c0, c3, c4, hlt', ia, m8, wb, wa, ws]
 exact ⟨_, by omega, k + 1, by omega, rfl, by simp only [zs, seval, c0], by simp only [zs, seval], by simp only [zs, seval], rfl⟩
theorem word_spec {f c1 : Nat} (hf : vp f = some (Zzde c1)) (h1 : vp c1 = some Zzct) (c : Sl Bt) (i : Nat) (hi : i + 4 ≤ c.l.length) (hn : c.l.length ≤ 1000) (h : Heap) : callRes vp f [c.v eY, .int .i64 (i : Int)] h = some (.int .u32 (w4 c.l i), h) := by
 have m1 := mo' h1 rfl rfl
 obtain ⟨x, x1, x2⟩ := slc_mid eY_len (c := c) (a := i) (b := i + 4) (by omega) hi
 have e4 : i + 4 - i = 4 := by omega
 rw [e4] at x1
 have kn := fun h => num_spec' h1 x (by rw [x1]; simp; omega) h
 rw [x1] at kn
 have wi : wr .i64 ((i : Int) + 4) = ((i + 4 : Nat) : Int) := by
  rw [wr_i64 (by omega) (by omega)]
  push_cast
  rfl
 have w := wr32 (num4 (c.l.drop i))
 refine res_pure hf rfl rfl (fun g hg => ?_)
 unfold Zzde w4
 simp only [↓zp, zv, seval, wi, x2, m1, kn, w, frzI]
end
end
section
open Go Go.VE Classical
section
variable {vp : Nat → Option VFn}
def invBy (n x : Nat) (g : Heap) (m : Nat) (s : Slots) (h : Heap) : Prop :=
 ∃ k, k ≤ n ∧ m = n - k ∧ s.at 0 = .int .u64 (x : Int) ∧ s.at 6 = .int .i64 ((n : Int) - 1 - k) ∧ h.lo = g.nx ∧ g.nx ≤ h.nx ∧ (∀ b, b < g.nx → h.get b = g.get b) ∧ ∃ v, s.at 5 = v ∧ Acc eY 1 h v ((bts n x).take k)
def OwnB (h h' : Heap) (v : V) (l : List Bt) : Prop := (∃ b, h.nx ≤ b ∧ Wrb h' b v l) ∧ Kp h h'
theorem bytes_spec {f : Nat} (hf : vp f = some Zzcs) (n x : Nat) (h0 : 0 < n) (hn : n ≤ 8) (h : Heap) (hl : h.lo ≤ h.nx) : ∃ v h', callRes vp f [.int .u64 (x : Int), .int .i64 (n : Int)] h = some (v, h') ∧ OwnB h h' v (bts n x) := by
 refine res_own hf rfl rfl ?_
 unfold Zzcs
 have wn : wr .i64 ((n : Int) - 1) = (n : Int) - 1 := wr_i64 (by omega) (by omega)
 simp only [↓zp, zv, seval, wn]
 generalize hS : Tr.set _ 6 _ = S
 have b0 : Slots.at S 0 = .int .u64 (x : Int) := by rw [← hS]; simp only [zs, seval]
 have b5 : Slots.at S 5 = .nils := by rw [← hS]; simp only [zs, seval]
 have b6 : Slots.at S 6 = .int .i64 ((n : Int) - 1 - ((0 : Nat) : Int)) := by
  rw [← hS]; simp only [zs, seval]
  congr 1
  omega
 clear hS
 refine loop_ind (fun m s h' => invBy n x h m s h') ?_ n ⟨0, by omega, by omega, b0, b6, rfl, Nat.le_refl _, fun _ _ => rfl, .nils, b5, Acc.nil⟩
 clear b0 b5 b6
 rintro m s h' ⟨k, hk, hm, c0, c6, lo, nx, get, v, c5, ac⟩
 by_cases hlt : k < n
 case neg =>
  have hlt' : ¬ (0 ≤ (n : Int) - 1 - (k : Int)) := by omega
  rw [List.take_of_length_le (by rw [bts_len]; omega)] at ac
  simp only [↓zp, zv, seval, c0, c5, c6, hlt']
  rcases ac with ⟨_, e⟩ | ⟨b, e, q1, q2, q3, q4⟩
  ·have := bts_len n x
   rw [e] at this
   simp at this
   omega
  ·rw [mY_flat] at q3
   exact ⟨⟨b, by omega, e, by show h.lo ≤ b; omega, q2, _, q3⟩, rfl, nx, get⟩
 have hlt' : 0 ≤ (n : Int) - 1 - (k : Int) := by omega
 have ei : (n : Int) - 1 - (k : Int) = ((n - 1 - k : Nat) : Int) := by omega
 have m8 : VE.binOp .mul (.int .i64 8) (.int .i64 ((n : Int) - 1 - (k : Int))) = some (.int .i64 ((8 * (n - 1 - k) : Nat) : Int)) := by
  rw [ei]
  have : (8 : Int) * ((n - 1 - k : Nat) : Int) = ((8 * (n - 1 - k) : Nat) : Int) := by push_cast; rfl
  simp only [VE.binOp, kEq_refl, cond_true, binInt, this]
  rw [wr_i64 (by omega) (by omega)]
 have sh : VE.binOp .shr (.int .u64 (x : Int)) (.int .i64 ((8 * (n - 1 - k) : Nat) : Int)) = some (.int .u64 ((x / 256 ^ (n - 1 - k) : Nat) : Int)) := by
  rw [bn_shr (by omega), Nat.pow_mul]
 have hkb : k < (bts n x).length := by rw [bts_len]; exact hlt
 have w8 : wr .u8 ((x / 256 ^ (n - 1 - k) : Nat) : Int) = (((bts n x)[k]).a : Int) := by
  rw [bts_at]
  rfl
 have wd : wr .i64 ((n : Int) - 1 - (k : Int) - 1) = (n : Int) - 1 - ((k + 1 : Nat) : Int) := by
  rw [wr_i64 (by omega) (by omega)]
  omega
 obtain ⟨v', h2, e3, e4, e5, e6⟩ := pushB eY_len eY_one (bytes := 1) ac (by omega) (bts n x)[k] (by simp; omega)
 have lo2 := e4.lo
 have nx2 := e4.nx
 simp only [eY] at e3
 simp only [↓zp, zv, seval, c0, c5, c6, hlt', m8, sh, w8, e3, wd]
 refine ⟨_, by omega, k + 1, by omega, rfl, by simp only [zs, seval, c0], by simp only [zs, seval], by omega, by omega, fun b hb => by rw [e6 b (by omega), get b hb], v', by simp only [zs, seval], ?_⟩
 rw [List.take_succ_eq_append_getElem hkb]
 exact e5
structure CatB (h1 h3 : Heap) (b : Nat) (v' : V) (l : List Bt) : Prop where
 w : ∃ b', h1.nx ≤ b' ∧ Wrb h3 b' v' l
 lo : h3.lo = h1.lo
 nx : h1.nx ≤ h3.nx
 get : ∀ c, c < h1.nx → c ≠ b → h3.get c = h1.get c
theorem catB {h1 h2 : Heap} {b : Nat} {v x : V} {l l' : List Bt} (w : Wrb h1 b v l) (o : OwnB h1 h2 x l') (hl : 0 < l'.length) (hs : l.length + l'.length ≤ 1000000) (hlo : h1.lo ≤ h1.nx) : ∃ v' h3, r_app 1 1 v x h2 = some (v', h3) ∧ CatB h1 h3 b v' (l ++ l') := by
 obtain ⟨⟨b2, q1, q2⟩, k⟩ := o
 have kl := k.lo
 have kn := k.nx
 obtain ⟨v', h3, e1, e2, e3, e4, e5⟩ := (w.keep k).app q2.rd hl hs (by omega)
 exact ⟨v', h3, e1, ⟨_, by omega, e2⟩, by omega, by omega, fun c hc hb => by rw [e5 c (by omega) hb, k.get c hc]⟩
theorem Wrb.apart {h : Heap} {b c o : Nat} {v : V} {l : List Bt} (w : Wrb h b v l) (hc : b ≠ c) : apartV v (.ptr c o) = true := by
 rw [w.v]
 show (!(Nat.beq b c)) = true
 rw [beq_dec, decide_eq_false hc]
 rfl
theorem msg8_spec {f c1 : Nat} (hf : vp f = some (Zzcu c1)) (h1 : vp c1 = some Zzcs) (a1 a2 a3 a4 : Nat) (k1 : a1 < 18446744073709551616) (k2 : a2 < 18446744073709551616) (k3 : a3 < 18446744073709551616) (D : List V) (hD : D.length = 32) (h : Heap) (hl : h.lo ≤ h.nx) :
  ∃ v h', callRes vp f [.agg (.int .u32 (a1 : Int) :: .int .u32 (a2 : Int) :: .int .u32 (a3 : Int) :: .int .u64 (a4 : Int) :: D)] h = some (v, h') ∧ OwnB h h' v (bts 4 a1 ++ bts 4 a2 ++ bts 4 a3 ++ bts 8 a4) := by
 have m1 : modeOf vp c1 = some 2 := mo h1 rfl rfl
 refine res_own hf rfl rfl ?_
 obtain ⟨G, hG⟩ : ∃ G : Heap, { h with lo := h.nx } = G := ⟨_, rfl⟩
 have nG : G.nx = h.nx := by rw [← hG]
 have lG : G.lo = h.nx := by rw [← hG]
 have aG : ∀ b, G.get b = h.get b := fun b => by rw [← hG]; rfl
 rw [hG]
 obtain ⟨H0, hH0⟩ : ∃ H, G.new (.cells (.int .u32 (a1 : Int) :: .int .u32 (a2 : Int) :: .int .u32 (a3 : Int) :: .int .u64 (a4 : Int) :: D) .cl) = H := ⟨_, rfl⟩
 have g0 : H0.get G.nx = .cells (.int .u32 (a1 : Int) :: .int .u32 (a2 : Int) :: .int .u32 (a3 : Int) :: .int .u64 (a4 : Int) :: D) .cl := by rw [← hH0, Heap.get_new, if_pos rfl]
 have n0 : H0.nx = h.nx + 1 := by rw [← hH0, Heap.new_nx, nG]
 have l0 : H0.lo = h.nx := by rw [← hH0, Heap.new_lo, lG]
 have b0 : ∀ b, b < h.nx → H0.get b = h.get b := fun b hb => by rw [← hH0, Heap.get_new, if_neg (by omega), aG]
 obtain ⟨v1, H1, e1, o1⟩ := bytes_spec h1 4 a1 (by decide) (by decide) H0 (by omega)
 obtain ⟨⟨d1, p1, w1⟩, kp1⟩ := o1
 have x1 := kp1.lo
 have y1 := kp1.nx
 have g1 := (kp1.get G.nx (by omega)).trans g0
 obtain ⟨v2, H2, e2, o2⟩ := bytes_spec h1 4 a2 (by decide) (by decide) H1 (by omega)
 obtain ⟨v3, H3, e3, c3⟩ := catB w1 o2 (by rw [bts_len]; decide) (by rw [bts_len, bts_len]; decide) (by omega)
 obtain ⟨⟨d3, p3, w3⟩, x3, y3, z3⟩ := c3
 have g3 := (z3 G.nx (by omega) (by omega)).trans g1
 have ap := w3.apart (c := G.nx) (o := 3) (by omega)
 obtain ⟨v4, H4, e4, o4⟩ := bytes_spec h1 4 a3 (by decide) (by decide) H3 (by omega)
 obtain ⟨v5, H5, e5, c5⟩ := catB w3 o4 (by rw [bts_len]; decide) (by simp only [List.length_append, bts_len]; decide) (by omega)
 obtain ⟨⟨d5, p5, w5⟩, x5, y5, z5⟩ := c5
 have g5 := (z5 G.nx (by omega) (by omega)).trans g3
 obtain ⟨v6, H6, e6, o6⟩ := bytes_spec h1 8 a4 (by decide) (by decide) H5 (by omega)
 obtain ⟨v7, H7, e7, c7⟩ := catB w5 o6 (by rw [bts_len]; decide) (by simp only [List.length_append, bts_len]; decide) (by omega)
 obtain ⟨⟨d7, p7, w7⟩, x7, y7, z7⟩ := c7
 have u1 : wr .u64 (a1 : Int) = (a1 : Int) := wr_ul k1
 have u2 : wr .u64 (a2 : Int) = (a2 : Int) := wr_ul k2
 have u3 : wr .u64 (a3 : Int) = (a3 : Int) := wr_ul k3
 have i4 : ((4 : Nat) : Int) = 4 := rfl
 have i8 : ((8 : Nat) : Int) = 8 := rfl
 rw [i4] at e1 e2 e4
 rw [i8] at e6
 have s3 : Wrb H3 d3 v3 (bts 4 a1 ++ bts 4 a2) := w3
 unfold Zzcu
 simp only [↓zp, zv, seval, hD, hH0, g0, g1, g3, g5, m1, u1, u2, u3, e1, e2, e3, e4, e5, e6, e7, ap]
 refine ⟨⟨d7, by omega, w7.v, by show h.lo ≤ d7; omega, w7.nx, w7.get⟩, rfl, by show h.nx ≤ H7.nx; omega, fun b hb => ?_⟩
 show H7.get b = h.get b
 rw [z7 b (by omega) (by omega), z5 b (by omega) (by omega), z3 b (by omega) (by omega), kp1.get b (by omega), b0 b hb]
end
end
section
open Go Go.VE Classical
theorem fzW {h : Heap} {base b : Nat} {v : V} {l : List Bt} (w : Wrb h b v l) (hb : base ≤ b) (hl : l.length ≤ 1000) : ∃ o : Sl Bt, o.l = l ∧ frz frzFuel h base false v = some (o.v eY) := by
 obtain ⟨t, e⟩ := w.get
 rw [← mY_flat] at e
 obtain ⟨o, o1, o2⟩ := FzV.row (base := base) eY_len eY_scal hb (n := l.length) (c := l.length) rfl e
 rw [w.v]
 exact ⟨o, o1, o2 _ (by show _ ≤ 1000000; omega)⟩
def bb1 : Bt := ⟨1, by decide⟩
def bb2 : Bt := ⟨2, by decide⟩
theorem tk_add {l : List Bt} {i n m : Nat} : (l.drop i).take n ++ (l.drop (i + n)).take m = (l.drop i).take (n + m) := by
 rw [List.take_add, List.drop_drop]
theorem mY_at1 {b : List Bt} {i : Nat} (h : i < b.length) : mY ((b.drop i).take 1) = [.int .u8 (n1 b i)] := by
 have e : (b.drop i).take 1 = [b[i]] := by rw [List.drop_eq_getElem_cons h, List.take_succ_cons, List.take_zero]
 have e2 : num [b[i]] = (b[i]).a := by simp [num]
 rw [n1, e, e2]
 rfl
theorem bts4 {b : List Bt} {i : Nat} (h : i + 4 ≤ b.length) : bts 4 (num ((b.drop i).take 4)) = (b.drop i).take 4 := bts_of (by simp; omega)
theorem bts8 {b : List Bt} {i : Nat} (h : i + 8 ≤ b.length) : bts 8 (num ((b.drop i).take 8)) = (b.drop i).take 8 := bts_of (by simp; omega)
theorem bts2 {b : List Bt} {i : Nat} (h : i + 2 ≤ b.length) : bts 2 (num ((b.drop i).take 2)) = (b.drop i).take 2 := bts_of (by simp; omega)
section
variable {vp : Nat → Option VFn}
theorem tmsg_spec {f c1 : Nat} (hf : vp f = some (Zzcu c1)) (h1 : vp c1 = some Zzcs) (b : List Bt) (hb : b.length = 52) (h : Heap) (hl : h.lo ≤ h.nx) :
  ∃ v h', callRes vp f [.agg (tokL b)] h = some (v, h') ∧ OwnB h h' v (b.take 20) := by
 have k1 := num4 (b.drop 0)
 have k2 := num4 (b.drop 4)
 have k3 := num4 (b.drop 8)
 obtain ⟨v, h', e, o⟩ := msg8_spec hf h1 (num ((b.drop 0).take 4)) (num ((b.drop 4).take 4)) (num ((b.drop 8).take 4)) (num ((b.drop 12).take 8)) (by omega) (by omega) (by omega) (mY (pad ((b.drop 20).take 32))) (by rw [mY_len, pad_len]) h hl
 refine ⟨v, h', e, ?_⟩
 rw [bts4 (by omega), bts4 (by omega), bts4 (by omega), bts8 (by omega)] at o
 have q1 := tk_add (l := b) (i := 0) (n := 4) (m := 4)
 have q2 := tk_add (l := b) (i := 0) (n := 8) (m := 4)
 have q3 := tk_add (l := b) (i := 0) (n := 12) (m := 8)
 rw [q1, q2, q3] at o
 exact o
theorem twrite_spec {f c0 c1 : Nat} (hf : vp f = some (Zzcw c0)) (h0 : vp c0 = some (Zzcu c1)) (h1 : vp c1 = some Zzcs) (b : List Bt) (hb : b.length = 52) (h : Heap) :
  ∃ o : Sl Bt, o.l = b ∧ callRes vp f [.agg (tokL b)] h = some (o.v eY, h) := by
 have m0 : modeOf vp c0 = some 2 := mo h0 rfl rfl
 suffices q : ∃ r, callRes vp f [.agg (tokL b)] h = some (r, h) ∧ ∃ o : Sl Bt, o.l = b ∧ r = o.v eY by
  obtain ⟨r, e, o, h1, rfl⟩ := q
  exact ⟨o, h1, e⟩
 refine res_pure_ex hf rfl rfl (fun g hg => ?_)
 have hlo := hlo hg
 have el : pad ((b.drop 20).take 32) = b.drop 20 := by
  rw [pad_eq (by simp; omega), List.take_of_length_le (by simp; omega)]
 obtain ⟨H0, hH0⟩ : ∃ H, g.new (.cells (tokL b) .cl) = H := ⟨_, rfl⟩
 have g0 : H0.get g.nx = .cells (tokL b) .cl := by rw [← hH0, Heap.get_new, if_pos rfl]
 have n0 : H0.nx = g.nx + 1 := by rw [← hH0]; rfl
 have l0 : H0.lo = g.lo := by rw [← hH0]; rfl
 obtain ⟨v1, H1, e1, ⟨d1, p1, w1⟩, kp1⟩ := tmsg_spec h0 h1 b hb H0 (by omega)
 have x1 := kp1.lo
 have y1 := kp1.nx
 have g1 := (kp1.get g.nx (by omega)).trans g0
 have rd : Rd eY 1 H1 (.sl g.nx 4 32 32 1) (b.drop 20) := .inr ⟨g.nx, 4, 32, 32, .cl, tokL b, [], rfl, by simp; omega, g1, by
  rw [mY_flat, ← el, List.append_nil]; rfl, by omega⟩
 obtain ⟨v2, H2, e2, w2, x2, y2, z2⟩ := w1.app rd (by simp; omega) (by simp; omega) (by omega)
 have e20 : b.take 20 ++ b.drop 20 = b := List.take_append_drop 20 b
 rw [e20] at w2
 obtain ⟨o, o1, o2⟩ := fzW (base := g.nx) w2 (by omega) (by omega)
 have sl := slca_all (n := 32) (sz := 1) (off := 4) g1 rfl (by simp [tokL, mY_len, pad_len])
 have l36 : (tokL b).length = 36 := by simp [tokL, mY_len, pad_len]
 have t36 : takeN 36 (tokL b) = some (tokL b) := by rw [← l36]; exact takeN_all _
 have cb : ∀ h, r_box 36 (.agg (tokL b)) h = some (.ptr h.nx 0, h.new (.cells (tokL b) .cl)) := fun h => by
  simp only [r_box, cellsO, l36, beq_dec, decide_true, cond_true]
 unfold Zzcw
 simp only [↓zp, zv, seval, l36, t36, hH0, g0, m0, e1, sl, e2]
 exact ⟨_, o2, o, o1, rfl⟩
def mW (b : List Bt) (n : Nat) : List Bt := bb2 :: (b.drop 1).take n
theorem mW_len {b : List Bt} {n : Nat} (h : n + 1 ≤ b.length) : (mW b n).length = n + 1 := by simp [mW]; omega
theorem mW_add {b : List Bt} {n m : Nat} : mW b n ++ (b.drop (1 + n)).take m = mW b (n + m) := by
 unfold mW
 rw [List.cons_append, tk_add]
def cL (b : List Bt) (j i : Nat) : Int := w4 b (10 + 12 * j + 4 * i)
structure CmI (b : List Bt) (bx bl lw : Nat) (base : Heap) (n : Nat) (s : Slots) (h : Heap) : Prop where
 s1 : s.at 1 = .ptr bx 0
 gx : h.get bx = .cells (encC (cmdOf b)) .cl
 lo : h.lo = lw
 nx : bx < h.nx
 nl : lw ≤ h.nx
 w : ∃ d, bl ≤ d ∧ d ≠ bx ∧ Wrb h d (s.at 3) (mW b n)
 get : ∀ c, c < base.nx → h.get c = base.get c
theorem encC_eq (b : List Bt) : encC (cmdOf b) = .int .u8 (n1 b 1) :: .int .u32 (w4 b 2) :: .int .u32 (w4 b 6) :: .int .i64 (cL b 0 0) :: .int .i64 (cL b 0 1) :: .int .i64 (cL b 0 2) :: .int .i64 (cL b 1 0) :: .int .i64 (cL b 1 1) :: .int .i64 (cL b 1 2) :: .int .i64 (cL b 2 0) :: .int .i64 (cL b 2 1) :: .int .i64 (cL b 2 2) :: .int .u8 (n1 b 46) :: .int .u8 (n1 b 47) :: .int .u64 ((num ((b.drop 48).take 8) : Nat) : Int) :: mY (pad ((b.drop 56).take 32)) := rfl
theorem cat4 {c1 d n i : Nat} {a : Int} (h1 : vp c1 = some Zzcs) {b : List Bt} (hb : b.length = 88) {v : V} {h : Heap} (w : Wrb h d v (mW b n)) (hi : i = 1 + n) (hn : n + 5 ≤ 88) (ha : a = w4 b i) (hlo : h.lo ≤ h.nx) :
  wr .u64 a = a ∧ ∃ x h1 v' h2, callRes vp c1 [.int .u64 a, .int .i64 4] h = some (x, h1) ∧ r_app 1 1 v x h1 = some (v', h2) ∧ CatB h h2 d v' (mW b (n + 4)) ∧ Kp h h1 ∧ Wrb h1 d v (mW b n) := by
 subst ha hi
 have k4 := num4 (b.drop (1 + n))
 refine ⟨wr_ul (by omega), ?_⟩
 obtain ⟨x, h1', e1, o⟩ := bytes_spec h1 4 (num ((b.drop (1 + n)).take 4)) (by decide) (by decide) h hlo
 rw [bts4 (by omega)] at o
 obtain ⟨v', h2, e2, cb⟩ := catB w o (by simp; omega) (by rw [mW_len (by omega)]; simp; omega) hlo
 rw [mW_add] at cb
 exact ⟨x, h1', v', h2, e1, e2, cb, o.2, w.keep o.2⟩
theorem cmsg_spec {f c1 t1 : Nat} (hf : vp f = some (Zzda c1 t1)) (h1 : vp c1 = some Zzcs) (b : List Bt) (hb : b.length = 88) (h : Heap) (hl : h.lo ≤ h.nx) :
  ∃ v h', callRes vp f [.agg (encC (cmdOf b))] h = some (v, h') ∧ OwnB h h' v (mW b 55) := by
 have m1 : modeOf vp c1 = some 2 := mo h1 rfl rfl
 refine res_own hf rfl rfl ?_
 obtain ⟨G, hG⟩ : ∃ G : Heap, { h with lo := h.nx } = G := ⟨_, rfl⟩
 have nG : G.nx = h.nx := by rw [← hG]
 have lG : G.lo = h.nx := by rw [← hG]
 have aG : ∀ b, G.get b = h.get b := fun b => by rw [← hG]; rfl
 rw [hG]
 have lc := encC_len (cmdOf_tg b)
 unfold Zzda
 simp only []
 rw [w_ass, w_ass]
 refine w_cut (CmI b G.nx h.nx h.nx h 9) ?_ (fun s H I => ?_)
 ·obtain ⟨H0, hH0⟩ : ∃ H, G.new (.cells (encC (cmdOf b)) .cl) = H := ⟨_, rfl⟩
  have g0 : H0.get G.nx = .cells (encC (cmdOf b)) .cl := by rw [← hH0, Heap.get_new, if_pos rfl]
  have n0 : H0.nx = h.nx + 1 := by rw [← hH0, Heap.new_nx, nG]
  have l0 : H0.lo = h.nx := by rw [← hH0, Heap.new_lo, lG]
  have b0 : ∀ b, b < h.nx → H0.get b = h.get b := fun b hb => by rw [← hH0, Heap.get_new, if_neg (by omega), aG]
  obtain ⟨H1, hH1⟩ : ∃ H, H0.new (.cells [.int .u8 2, .int .u8 (n1 b 1)] .cl) = H := ⟨_, rfl⟩
  have g1 : H1.get G.nx = .cells (encC (cmdOf b)) .cl := by rw [← hH1, Heap.get_new, if_neg (by omega), g0]
  have n1' : H1.nx = h.nx + 2 := by rw [← hH1, Heap.new_nx, n0]
  have l1 : H1.lo = h.nx := by rw [← hH1, Heap.new_lo, l0]
  have b1 : ∀ b, b < h.nx → H1.get b = h.get b := fun b hb => by rw [← hH1, Heap.get_new, if_neg (by omega), b0 b hb]
  have w1 : Wrb H1 (h.nx + 1) (.sl (h.nx + 1) 0 2 2 1) (mW b 1) := by
   have e : mY (mW b 1) = [.int .u8 2, .int .u8 (n1 b 1)] := by
    show _ :: mY ((b.drop 1).take 1) = _
    rw [mY_at1 (by omega)]
    rfl
   refine ⟨by rw [mW_len (by omega)], by omega, by omega, .cl, ?_⟩
   rw [e, ← hH1, Heap.get_new, if_pos n0.symm]
  obtain ⟨u2, x2, K2, v3, H3, e2, e3, c3, k2, _⟩ := cat4 (i := 2) (a := w4 b 2) h1 hb w1 rfl (by decide) rfl (by omega)
  obtain ⟨⟨d3, p3, w3⟩, x3, y3, z3⟩ := c3
  have g2 := (k2.get G.nx (by omega)).trans g1
  have g3 := (z3 G.nx (by omega) (by omega)).trans g1
  obtain ⟨u4, x4, K4, v5, H5, e4, e5, c5, k4, _⟩ := cat4 (i := 6) (a := w4 b 6) h1 hb w3 rfl (by decide) rfl (by omega)
  obtain ⟨⟨d5, p5, w5⟩, x5, y5, z5⟩ := c5
  have g5 := (z5 G.nx (by omega) (by omega)).trans g3
  have ap := w1.apart (c := G.nx) (o := 2) (by omega)
  rw [encC_eq] at hH0 g0 g1 g2 g3 lc ⊢
  have lD : (mY (pad ((b.drop 56).take 32))).length = 32 := by rw [mY_len, pad_len]
  simp only [↓zp, zv, seval, lD, hH0, g0, n0, hH1, g1, g3, m1, u2, u4, e2, e3, e4, e5, ap]
  refine ⟨by simp only [zs, seval], by rw [encC_eq]; exact g5, by omega, by omega, by omega, ⟨d5, by omega, by omega, by simp only [zs, seval]; exact w5⟩, fun c hc => ?_⟩
  rw [z5 c (by omega) (by omega), z3 c (by omega) (by omega), b1 c hc]
 have sr1 := I.s1
 refine w_cut (fun s H => CmI b G.nx h.nx h.nx h 45 s H) ?_ (fun s H I => ?_)
 ·simp only [↓zp, zv, seval, sr1]
  generalize hS : Tr.set _ 4 _ = S
  have b4 : Slots.at S 4 = .int .i64 ((0 : Nat) : Int) := by rw [← hS]; simp only [zs, seval] <;> rfl
  have I' : CmI b G.nx h.nx h.nx h (9 + 12 * 0) S H := ⟨by rw [← hS]; simp only [zs, seval, sr1], I.gx, I.lo, I.nx, I.nl, by rw [← hS]; simp only [zs, seval]; exact I.w, I.get⟩
  clear hS
  refine loop_ind (fun m s h' => ∃ j, j ≤ 3 ∧ m = 3 - j ∧ s.at 4 = .int .i64 (j : Int) ∧ CmI b G.nx h.nx h.nx h (9 + 12 * j) s h') ?_ 3 ⟨0, by omega, by omega, b4, I'⟩
  clear I' I b4 sr1
  rintro m s h' ⟨j, hj, hm, c4, I⟩
  have c1' := I.s1
  by_cases h3 : j = 3
  ·subst h3
   have e3 : ((3 : Nat) : Int) = 3 := rfl
   rw [e3] at c4
   simp only [↓zp, zv, seval, c1', c4]
   exact ⟨by simp only [zs, seval, c1'], I.gx, I.lo, I.nx, I.nl, by simp only [zs, seval]; exact I.w, I.get⟩
  have hlt : j < 3 := by omega
  have hlt' : (j : Int) < 3 := by omega
  have ws := wr_succ (k := j) (by omega)
  have lo := I.lo
  have nx := I.nx
  have nl := I.nl
  obtain ⟨d0, p0, q0, w0⟩ := I.w
  obtain ⟨v0, hv0⟩ : ∃ v, s.at 3 = v := ⟨_, rfl⟩
  rw [hv0] at w0
  obtain ⟨C, hC⟩ : ∃ C, encC (cmdOf b) = C := ⟨_, rfl⟩
  have gC := I.gx
  rw [hC] at gC
  obtain ⟨R, hdr⟩ : ∃ R, C.drop (3 + j * 3) = .int .i64 (cL b j 0) :: .int .i64 (cL b j 1) :: .int .i64 (cL b j 2) :: R := by
   rw [← hC, encC_eq]
   have : j = 0 ∨ j = 1 ∨ j = 2 := by omega
   rcases this with rfl | rfl | rfl <;> exact ⟨_, rfl⟩
  obtain ⟨H0, hH0⟩ : ∃ H, (h'.new (.cells [.int .i64 0, .int .i64 0, .int .i64 0] (.ct t1))).set h'.nx (.cells [.int .i64 (cL b j 0), .int .i64 (cL b j 1), .int .i64 (cL b j 2)] (.ct t1)) = H := ⟨_, rfl⟩
  have k0 : Kp h' H0 := by rw [← hH0]; exact ((Kp.refl h').new _).set _ (Nat.le_refl _)
  have g0 : H0.get h'.nx = .cells [.int .i64 (cL b j 0), .int .i64 (cL b j 1), .int .i64 (cL b j 2)] (.ct t1) := by rw [← hH0, Heap.get_set, if_pos rfl]
  have n0 : H0.nx = h'.nx + 1 := by rw [← hH0]; rfl
  have l0 := k0.lo
  have w0' := w0.keep k0
  have d0n := w0.nx
  have z0 : ¬ h'.nx < h'.lo := by omega
  obtain ⟨u1, x1, K1, v1, H1, e1, a1, cb1, k1, _⟩ := cat4 (i := 10 + 12 * j + 4 * 0) (a := cL b j 0) h1 hb w0' (by omega) (by omega) rfl (by omega)
  obtain ⟨⟨d1, p1, w1⟩, y1, nx1, z1⟩ := cb1
  have gk1 := (k1.get h'.nx (by omega)).trans g0
  have g1 := (z1 h'.nx (by omega) (by omega)).trans g0
  obtain ⟨u2, x2, K2, v2, H2, e2, a2, cb2, k2, _⟩ := cat4 (i := 10 + 12 * j + 4 * 1) (a := cL b j 1) h1 hb w1 (by omega) (by omega) rfl (by omega)
  obtain ⟨⟨d2, p2, w2⟩, y2, nx2, z2⟩ := cb2
  have g2 := (z2 h'.nx (by omega) (by omega)).trans g1
  obtain ⟨u3, x3, K3, v3, H3, e3, a3, cb3, k3, _⟩ := cat4 (i := 10 + 12 * j + 4 * 2) (a := cL b j 2) h1 hb w2 (by omega) (by omega) rfl (by omega)
  obtain ⟨⟨d3, p3, w3⟩, y3, nx3, z3⟩ := cb3
  have ap1 := w0.apart (c := h'.nx) (o := 1) (by omega)
  have ap2 := w0.apart (c := h'.nx) (o := 2) (by omega)
  have ap3 := w1.apart (c := h'.nx) (o := 2) (by omega)
  simp only [↓zp, zv, seval, c1', c4, hv0, hlt', hlt, gC, hdr, z0, hH0, g0, m1, u1, u2, u3, e1, a1, g1, e2, a2, g2, e3, a3, ap1, ap2, ap3, ws]
  refine ⟨_, by omega, j + 1, by omega, rfl, by simp only [zs, seval], by simp only [zs, seval, c1'], ?_, by omega, by omega, by omega, ⟨d3, by omega, by omega, ?_⟩, fun c hc => ?_⟩
  ·rw [z3 _ (by omega) (by omega), z2 _ (by omega) (by omega), z1 _ (by omega) (by omega), k0.get _ (by omega)]
   exact I.gx
  ·simp only [zs, seval]
   have e : 9 + 12 * j + 4 + 4 + 4 = 9 + 12 * (j + 1) := by omega
   rw [← e]
   exact w3
  ·rw [z3 _ (by omega) (by omega), z2 _ (by omega) (by omega), z1 _ (by omega) (by omega), k0.get _ (by omega)]
   exact I.get c hc
 have s1 := I.s1
 have gx := I.gx
 have lo := I.lo
 have nx := I.nx
 have nl := I.nl
 obtain ⟨d0, p0, q0, w0⟩ := I.w
 obtain ⟨v0, hv0⟩ : ∃ v, s.at 3 = v := ⟨_, rfl⟩
 rw [hv0] at w0
 obtain ⟨H0, hH0⟩ : ∃ X, H.new (.cells [.int .u8 (n1 b 46), .int .u8 (n1 b 47)] .cl) = X := ⟨_, rfl⟩
 have k0 : Kp H H0 := by rw [← hH0]; exact (Kp.refl H).new _
 have n0 : H0.nx = H.nx + 1 := by rw [← hH0]; rfl
 have l0 := k0.lo
 have rd : Rd eY 1 H0 (.sl H.nx 0 2 2 1) ((b.drop 46).take 2) := by
  refine .inr ⟨H.nx, 0, 2, 2, .cl, [.int .u8 (n1 b 46), .int .u8 (n1 b 47)], [], rfl, by simp; omega, by rw [← hH0, Heap.get_new, if_pos rfl], ?_, by omega⟩
  have e : (b.drop 46).take 2 = (b.drop 46).take 1 ++ (b.drop 47).take 1 := (tk_add (l := b) (i := 46) (n := 1) (m := 1)).symm
  have e2 : mY ((b.drop 46).take 2) = mY ((b.drop 46).take 1) ++ mY ((b.drop 47).take 1) := by rw [e]; unfold mY; rw [List.map_append]
  rw [mY_flat, e2, mY_at1 (by omega), mY_at1 (by omega)]
  rfl
 obtain ⟨v1, H1, e1, w1, l1, n1', z1⟩ := (w0.keep k0).app rd (by simp; omega) (by rw [mW_len (by omega)]; simp; omega) (by omega)
 rw [show mW b 45 ++ (b.drop 46).take 2 = mW b 47 from mW_add] at w1
 have w0n := w0.nx
 have g1 := (z1 G.nx (by omega) (by omega)).trans ((k0.get G.nx (by omega)).trans gx)
 obtain ⟨v2, H2, e2, o2⟩ := bytes_spec h1 8 (num ((b.drop 48).take 8)) (by decide) (by decide) H1 (by omega)
 rw [bts8 (by omega)] at o2
 obtain ⟨v3, H3, e3, c3⟩ := catB w1 o2 (by simp; omega) (by rw [mW_len (by omega)]; simp; omega) (by omega)
 rw [show mW b 47 ++ (b.drop 48).take 8 = mW b 55 from mW_add] at c3
 obtain ⟨⟨d3, p3, w3⟩, x3, y3, z3⟩ := c3
 have ap := w0.apart (c := G.nx) (o := 14) (by omega)
 have i8 : ((8 : Nat) : Int) = 8 := rfl
 rw [i8] at e2
 rw [encC_eq] at gx g1
 simp only [↓zp, zv, seval, s1, hv0, gx, hH0, e1, g1, m1, e2, e3, ap]
 refine ⟨⟨d3, by omega, w3.v, by show h.lo ≤ d3; omega, w3.nx, w3.get⟩, rfl, by show h.nx ≤ H3.nx; omega, fun c hc => ?_⟩
 show H3.get c = h.get c
 rw [z3 c (by omega) (by omega), z1 c (by omega) (by omega), k0.get c (by omega), I.get c hc]
end
end
end Go.VE.LB
