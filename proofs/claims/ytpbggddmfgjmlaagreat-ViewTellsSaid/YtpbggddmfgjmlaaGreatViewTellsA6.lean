/- What the functions of the law ViewTells compute, on typed arguments (part 6). -/
import Derived.Test.YtpbggddmfgjmlaaGreatViewTellsA5
set_option linter.all false
namespace Go.VE.LB
set_option maxRecDepth 100000
set_option maxHeartbeats 4000000
section
open Go Go.VE Classical
section
variable {vp : Nat → Option VFn}
def invR1 (t : Tab) (l : List Int) (ov : V) (bx : Nat) (H : Heap) (m : Nat) (s : Slots) (h : Heap) : Prop :=
 ∃ k, k ≤ t.us.l.length ∧ m = t.us.l.length - k ∧ s.at 1 = .ptr bx 0 ∧ s.at 3 = ov ∧ s.at 5 = .int .i64 (k : Int) ∧ h = H ∧
  ∀ i (h1 : i < t.ks.l.length) (h2 : i < t.bk.l.length) (h3 : i < t.us.l.length), i < k → RPl l t.ix.l i t.ks.l[i] t.bk.l[i] t.us.l[i]
theorem tbR_spec {f c1 c2 c3 c4 c5 c6 c7 c8 : Nat} (hf : vp f = some (Zzdx c1 c2 c3 c4 c5 c6 c7 c8)) (m1 : modeOf vp c1 = some 1) (m2 : modeOf vp c2 = some 1) (m3 : modeOf vp c3 = some 1) (m8 : modeOf vp c8 = some 1)
  (h4 : vp c4 = some (Zzdq c7)) (h5 : vp c5 = some Zzdn) (h6 : vp c6 = some Zzec) (h7 : vp c7 = some Zzdi)
  (ar : ∀ (nx : Sl Int) (u : Sl Bool) (fr : Int) (h : Heap), callRes vp c1 [.agg [nx.v eI, u.v eO, .int .i64 fr]] h = some (.int .i64 (chk (ArOk nx.l u.l fr)), h))
  (ix : ∀ (x : Sl Cell) (h : Heap), callRes vp c2 [x.v eC] h = some (.int .i64 (chk (IxOk x.l)), h))
  (od : ∀ (pr nx : Sl Int) (hd tl : Int) (h : Heap), callRes vp c3 [.agg [pr.v eI, nx.v eI, .int .i64 hd, .int .i64 tl]] h = some (.int .i64 (chk (OrOk pr.l nx.l hd tl)), h))
  (bk : ∀ (b : Bucket) (h : Heap), callRes vp c8 [.agg (encB b)] h = some (.int .i64 (chkB b), h))
  (t : Tab) (h : Heap) : callRes vp f [.agg (encT t)] h = some (.int .i64 (chk (TbOk t)), h) := by
 have m4 : modeOf vp c4 = some 1 := mo h4 rfl rfl
 have m5 : modeOf vp c5 = some 1 := mo h5 rfl rfl
 have m6 : modeOf vp c6 = some 1 := mo h6 rfl rfl
 have m7 : modeOf vp c7 = some 1 := mo h7 rfl rfl
 refine res_pure hf rfl rfl (fun g hg => ?_)
 have hlo := hlo hg
 have ar := fun h => ar t.nx t.us t.fr h
 have ix := fun h => ix t.ix h
 have od := fun h => od t.op t.on t.hd t.tl h
 unfold Zzdx encT
 by_cases q1 : t.cap < 1
 ·have e := chk_n (p := TbOk t) (fun o => by have := o.sz.lo; omega)
  simp only [↓zp, zv, seval, q1, e, frzI]
 by_cases q2 : 8 < t.cap
 ·have e := chk_n (p := TbOk t) (fun o => by have := o.sz.hi; omega)
  simp only [↓zp, zv, seval, q1, q2, e, frzI]
 by_cases z1 : (t.ks.l.length : Int) = t.cap
 case neg =>
  have e := chk_n (p := TbOk t) (fun o => z1 o.sz.ks)
  simp only [↓zp, zv, seval, q1, q2, z1, not_false_eq_true, e, frzI]
 have z1' := eq_true z1
 by_cases z2 : (t.bk.l.length : Int) = t.cap
 case neg =>
  have e := chk_n (p := TbOk t) (fun o => z2 o.sz.bk)
  simp only [↓zp, zv, seval, q1, q2, z1', z2, not_true, not_false_eq_true, e, frzI]
 have z2' := eq_true z2
 by_cases z3 : (t.nx.l.length : Int) = t.cap
 case neg =>
  have e := chk_n (p := TbOk t) (fun o => z3 o.sz.nx)
  simp only [↓zp, zv, seval, q1, q2, z1', z2', z3, not_true, not_false_eq_true, e, frzI]
 have z3' := eq_true z3
 by_cases z4 : (t.op.l.length : Int) = t.cap
 case neg =>
  have e := chk_n (p := TbOk t) (fun o => z4 o.sz.op)
  simp only [↓zp, zv, seval, q1, q2, z1', z2', z3', z4, not_true, not_false_eq_true, e, frzI]
 have z4' := eq_true z4
 by_cases q4 : ArOk t.nx.l t.us.l t.fr
 case neg =>
  have e4 := chk_n q4
  have e := chk_n (p := TbOk t) (fun o => q4 o.ar)
  simp only [↓zp, zv, seval, q1, q2, z1', z2', z3', z4', not_true, m1, ar, e4, e, frzI]
 have e4 := chk_y q4
 by_cases q5 : IxOk t.ix.l
 case neg =>
  have e5 := chk_n q5
  have e := chk_n (p := TbOk t) (fun o => q5 o.ix)
  simp only [↓zp, zv, seval, q1, q2, z1', z2', z3', z4', not_true, m1, ar, e4, m2, ix, e5, e, frzI]
 have e5 := chk_y q5
 by_cases q6 : OrOk t.op.l t.on.l t.hd t.tl
 case neg =>
  have e6 := chk_n q6
  have e := chk_n (p := TbOk t) (fun o => q6 o.od)
  simp only [↓zp, zv, seval, q1, q2, z1', z2', z3', z4', not_true, m1, ar, e4, m2, ix, e5, m3, od, e6, e, frzI]
 have e6 := chk_y q6
 obtain ⟨H, hH⟩ : ∃ H, g.new (.cells [.int .i64 t.cap, t.ks.v eK, t.bk.v encB, t.nx.v eI, t.us.v eO, .int .i64 t.fr, t.ix.v eC, t.op.v eI, t.on.v eI, .int .i64 t.hd, .int .i64 t.tl] .cl) = H := ⟨_, rfl⟩
 have hga : H.get g.nx = .cells [.int .i64 t.cap, t.ks.v eK, t.bk.v encB, t.nx.v eI, t.us.v eO, .int .i64 t.fr, t.ix.v eC, t.op.v eI, t.on.v eI, .int .i64 t.hd, .int .i64 t.tl] .cl := by rw [← hH]; simp only [↓zp, zv, seval]
 have acc := q6.acc
 have lon := q6.2.2.1
 have lix := q5.1
 have lus : t.us.l.length = t.nx.l.length := q4.2.2.1
 obtain ⟨r, er, o, b, rfl, hr⟩ := all_spec h4 h7 t.op t.on t.hd t.tl H (by omega)
 rcases hr with ⟨rfl, hw⟩ | ⟨rfl, hw⟩
 case inr => rw [q6.lst] at hw; cases hw
 have ho : o.l = lst t.on.l t.hd := by rw [q6.lst] at hw; exact (Option.some.inj hw).symm
 have cn := fun h => cn_spec h5 t.ix h (by omega)
 have iff := pl_ref (l := o.l) (ks := t.ks.l) (bk := t.bk.l) (us := t.us.l) q5 (by omega) (by omega) (by rw [ho, lus, show t.nx.l.length = t.op.l.length by omega]; exact acc)
 have tbr : TbOk t → (t.ix.l.countP (fun c => c.u) = o.l.length ∧ ∀ i (h1 : i < t.ks.l.length) (h2 : i < t.bk.l.length) (h3 : i < t.us.l.length), RPl o.l t.ix.l i t.ks.l[i] t.bk.l[i] t.us.l[i]) := fun x => iff.1 ⟨fun i h1 h2 h3 => by rw [ho]; exact x.pl i h1 h2 h3, x.ct⟩
 by_cases q7 : t.ix.l.countP (fun c => c.u) = o.l.length
 case neg =>
  have q7' : ¬ ((t.ix.l.countP (fun c => c.u) : Nat) : Int) = (o.l.length : Int) := by omega
  have e := chk_n (p := TbOk t) (fun x => q7 (tbr x).1)
  simp only [↓zp, zv, seval, q1, q2, z1', z2', z3', z4', not_true, m1, hH, hga, ar, e4, m2, ix, e5, m3, od, e6, m4, er, m5, cn, q7', not_false_eq_true, e, frzI]
 have q7' := eq_true (show ((t.ix.l.countP (fun c => c.u) : Nat) : Int) = (o.l.length : Int) by omega)
 simp only [↓zp, zv, seval, q1, q2, z1', z2', z3', z4', not_true, m1, hH, hga, ar, e4, m2, ix, e5, m3, od, e6, m4, er, m5, cn, q7']
 generalize hS : Tr.set _ 5 _ = S
 have b1 : Slots.at S 1 = .ptr g.nx 0 := by rw [← hS]; simp only [zs, seval]
 have b3 : Slots.at S 3 = o.v eI := by rw [← hS]; simp only [zs, seval]
 have b5 : Slots.at S 5 = .int .i64 ((0 : Nat) : Int) := by rw [← hS]; simp only [zs, seval] <;> rfl
 clear hS
 refine loop_ind (fun m s h => invR1 t o.l (o.v eI) g.nx H m s h) ?_ t.us.l.length ⟨0, by omega, by omega, b1, b3, b5, rfl, fun _ _ _ _ hj => by omega⟩
 clear b1 b3 b5 hH er
 rintro m s h ⟨k, hk, hm, c1', c3', c5', rfl, hinc⟩
 have hcap : t.cap = (t.us.l.length : Int) := by omega
 by_cases hlt : k < t.us.l.length
 case neg =>
  have hlt' : ¬ ((k : Int) < t.cap) := by omega
  have e := chk_y (p := TbOk t) (by
   obtain ⟨pl, ct⟩ := iff.2 ⟨q7, fun i h1 h2 h3 => hinc i h1 h2 h3 (by omega)⟩
   exact ⟨⟨by omega, by omega, z1, z2, z3, z4⟩, q4, q5, q6, fun i h1 h2 h3 => ho ▸ pl i h1 h2 h3, ct⟩)
  simp only [↓zp, zv, seval, c1', c3', c5', hga, hlt', e, frzI]
 have hlt' : (k : Int) < t.cap := by omega
 have hkk : k < t.ks.l.length := by omega
 have hkb : k < t.bk.l.length := by omega
 have ws := wr_succ (k := k) (by omega)
 have ia1 : ∀ h, r_ia 1 (t.us.v eO) (.int .i64 (k : Int)) h = some (.iptr (.bool t.us.l[k] :: (t.us.l.drop (k + 1)).flatMap eO), h) := fun h => by rw [r_ia_v eO_len (by decide) hlt rfl]; rfl
 have ia2 : ∀ h, r_ia 1 (t.ks.v eK) (.int .i64 (k : Int)) h = some (.iptr (.int .u32 (t.ks.l[k].a : Int) :: (t.ks.l.drop (k + 1)).flatMap eK), h) := fun h => by rw [r_ia_v eK_len (by decide) hkk rfl]; rfl
 have ia3 := fun h => r_ia_v (h := h) (c := t.bk) encB_len (by decide) hkb rfl
 have inn := in_spec h7 (o.v eI) o.l k h (Rd.sl o) (by have := acc.len; rw [ho]; omega)
 have ce := fun h => cells_spec h6 t.ix k t.ks.l[k].a h (by omega)
 have bk := fun h => bk t.bk.l[k] h
 simp only [encB] at ia3 bk
 have bad : ¬ RPl o.l t.ix.l k t.ks.l[k] t.bk.l[k] t.us.l[k] → chk (TbOk t) = 8 := fun hb => chk_n (fun x => hb ((tbr x).2 k hkk hkb hlt))
 have good : RPl o.l t.ix.l k t.ks.l[k] t.bk.l[k] t.us.l[k] → ∀ i (h1 : i < t.ks.l.length) (h2 : i < t.bk.l.length) (h3 : i < t.us.l.length), i < k + 1 → RPl o.l t.ix.l i t.ks.l[i] t.bk.l[i] t.us.l[i] := fun hp i h1 h2 h3 hik => by
  rcases Nat.lt_or_ge i k with r | r
  ·exact hinc i h1 h2 h3 r
  ·have : i = k := by omega
   subst this
   exact hp
 have cd : decide (((t.ix.l.countP (isP k) : Nat) : Int) = 1) = decide (t.ix.l.countP (isP k) = 1) := by
  by_cases h : t.ix.l.countP (isP k) = 1
  ·rw [h]; rfl
  ·have : ¬ ((t.ix.l.countP (isP k) : Nat) : Int) = 1 := by omega
   simp [h, this]
 cases hu : t.us.l[k] <;> cases hi : o.l.any (isN k) <;> simp only [hu] at ia1 bad good
 ·cases hc : decide (t.ix.l.countP (isP k) = 1)
  case true =>
   have e := bad (fun p => by have := p.2.1; rw [hc] at this; cases this)
   rw [hc] at cd
   simp only [↓zp, zv, seval, c1', c3', c5', hlt', hga, ia1, ia2, m6, ce, m7, inn, hi, eqb_ff, cd, eqb_ft, e, frzI]
  rw [hc] at cd
  cases hs : smK k t.ks.l[k].a t.ix.l
  case false =>
   have e := bad (fun p => by have := p.2.2.1; rw [hs] at this; cases this)
   simp only [↓zp, zv, seval, c1', c3', c5', hlt', hga, ia1, ia2, m6, ce, m7, inn, hi, eqb_ff, cd, hs, e, frzI]
  by_cases kz : t.ks.l[k].a = 0
  case neg =>
   have kz' : ¬ (t.ks.l[k].a : Int) = 0 := by omega
   have e := bad (fun p => kz (p.2.2.2.2 rfl).1)
   simp only [↓zp, zv, seval, c1', c3', c5', hlt', hga, ia1, ia2, m6, ce, m7, inn, hi, eqb_ff, cd, hs, kz', not_false_eq_true, e, frzI]
  have kz' := eq_true (show (t.ks.l[k].a : Int) = 0 by omega)
  by_cases bz : BZ t.bk.l[k]
  case neg =>
   have bz' := decide_eq_false bz
   have e := bad (fun p => bz (p.2.2.2.2 rfl).2)
   simp only [↓zp, zv, seval, c1', c3', c5', hlt', hga, ia1, ia2, ia3, m6, ce, m7, inn, hi, eqb_ff, cd, hs, kz', eqBZ, bz', not_true, e, frzI]
  have bz' := decide_eq_true bz
  have pl : RPl o.l t.ix.l k t.ks.l[k] t.bk.l[k] false := ⟨hi.symm, hc.symm, hs, fun h => (by cases h), fun _ => ⟨kz, bz⟩⟩
  simp only [↓zp, zv, seval, c1', c3', c5', hlt', hga, ia1, ia2, ia3, m6, ce, m7, inn, hi, eqb_ff, cd, hs, kz', eqBZ, bz', not_true, ws]
  exact ⟨_, by omega, k + 1, by omega, rfl, by simp only [zs, seval, c1'], by simp only [zs, seval, c3'], by simp only [zs, seval], rfl, good pl⟩
 ·have e := bad (fun p => by have := p.1; rw [hi] at this; cases this)
  simp only [↓zp, zv, seval, c1', c3', c5', hlt', hga, ia1, ia2, m6, ce, m7, inn, hi, eqb_ft, e, frzI]
 ·have e := bad (fun p => by have := p.1; rw [hi] at this; cases this)
  simp only [↓zp, zv, seval, c1', c3', c5', hlt', hga, ia1, ia2, m6, ce, m7, inn, hi, eqb_tf, e, frzI]
 ·cases hc : decide (t.ix.l.countP (isP k) = 1)
  case false =>
   have e := bad (fun p => by have := p.2.1; rw [hc] at this; cases this)
   rw [hc] at cd
   simp only [↓zp, zv, seval, c1', c3', c5', hlt', hga, ia1, ia2, m6, ce, m7, inn, hi, eqb_tt, cd, eqb_tf, e, frzI]
  rw [hc] at cd
  cases hs : smK k t.ks.l[k].a t.ix.l
  case false =>
   have e := bad (fun p => by have := p.2.2.1; rw [hs] at this; cases this)
   simp only [↓zp, zv, seval, c1', c3', c5', hlt', hga, ia1, ia2, m6, ce, m7, inn, hi, eqb_tt, cd, hs, e, frzI]
  by_cases cb : chkB t.bk.l[k] = 0
  case neg =>
   have e := bad (fun p => cb (p.2.2.2.1 rfl))
   simp only [↓zp, zv, seval, c1', c3', c5', hlt', hga, ia1, ia2, ia3, m6, ce, m7, inn, hi, eqb_tt, cd, hs, m8, bk, cb, not_false_eq_true, e, frzI]
  have cb' := eq_true cb
  have pl : RPl o.l t.ix.l k t.ks.l[k] t.bk.l[k] true := ⟨hi.symm, hc.symm, hs, fun _ => cb, fun h => (by cases h)⟩
  simp only [↓zp, zv, seval, c1', c3', c5', hlt', hga, ia1, ia2, ia3, m6, ce, m7, inn, hi, eqb_tt, cd, hs, m8, bk, cb', not_true, ws]
  exact ⟨_, by omega, k + 1, by omega, rfl, by simp only [zs, seval, c1'], by simp only [zs, seval, c3'], by simp only [zs, seval], rfl, good pl⟩
end
end
section
open Go Go.VE Classical
section
variable {vp : Nat → Option VFn}
theorem sv {α : Type} {enc : α → List V} {c : Sl α} : scal (c.v enc) = true := by cases c <;> rfl
theorem frz_fn1 {n base c b : Nat} {h : Heap} {cs : List V} {tag : Tag} (hb : ¬ b < base) (hg : h.get b = .cells cs tag) (hf : frzs n h base true cs = some cs) : frz (n + 3) h base false (.fn c [.ptr b 0]) = some (.fn c [.iptr cs]) := by
 have hlb : Nat.blt b base = false := by rw [blt_dec]; simp; omega
 simp only [frz, frzs, hlb, cond_false, hg, List.drop_zero, hf, Option.map_some]
theorem wp_rng {f : Opd} {ps : List Nat} {asg body : VCode} {s : Slots} {h : Heap} {Q : VX → Slots → Heap → Prop} {g : Nat} {caps : List V} (hf : f.ev s = .fn g caps)
  (w : ∃ v h', callRes vp g (.yld h.nx :: caps) (h.new (.loop 0 none s ps asg body)) = some (v, h') ∧ ∃ st pend tm ps' asg' body', h'.get h.nx = .loop st pend tm ps' asg' body' ∧ st ≠ 1 ∧ (match pend with
   | none => Q .norm s (h'.set h.nx .dead)
   | some x => Q x s (h'.set h.nx .dead))) : wp vp (.rngf f ps asg body) s h Q := by
 obtain ⟨v, h', e, st, pend, tm, ps', asg', body', hg, hst, hq⟩ := w
 obtain ⟨n, en⟩ := callRes_run e
 have hb : Nat.beq st 1 = false := by rw [beq_dec]; simp [hst]
 cases pend with
 | none => exact ⟨n + 1, .norm, s, h'.set h.nx .dead, by simp only [exec, hf, en, hg, hb, cond_false], hq⟩
 | some x => exact ⟨n + 1, x, s, h'.set h.nx .dead, by simp only [exec, hf, en, hg, hb, cond_false], hq⟩
theorem yld_run {b : Nat} {args : List V} {h : Heap} {pd : Option VX} {tm : Slots} {ps : List Nat} {asg body : VCode} {R : V → Heap → Prop} (hb : h.get b = .loop 0 pd tm ps asg body) (hlo : ¬ b < h.lo) (hl : ps.length = args.length)
  (w : wp vp asg ((ps.zip args).foldl (fun s p => s.set p.1 p.2) tm) h fun x s h1 => x = .norm ∧ ∃ pd tm1 ps1 asg1 body1, h1.get b = .loop 0 pd tm1 ps1 asg1 body1 ∧
   wp vp body s (h1.set b (.loop 1 pd tm1 ps1 asg1 body1)) fun x _ h2 => ∃ st pd tm2 ps2 asg2 body2, h2.get b = .loop st pd tm2 ps2 asg2 body2 ∧ (match x with
    | .norm => R (.bool true) (h2.set b (.loop 0 none tm2 ps2 asg2 body2))
    | x => R (.bool false) (h2.set b (.loop 2 (some x) tm2 ps2 asg2 body2)))) : ∃ v h', callVRes vp (.yld b) args h = some (v, h') ∧ R v h' := by
 obtain ⟨n1, x1, s1, h1, e1, rfl, pd1, tm1, ps1, asg1, body1, hg1, w1⟩ := wp_sound w
 obtain ⟨n2, x2, s2, h2, e2, st, pd2, tm2, ps2, asg2, body2, hg2, hr⟩ := wp_sound w1
 have e1' := exec_mono vp (Nat.le_max_left n1 n2) e1
 have e2' := exec_mono vp (Nat.le_max_right n1 n2) e2
 have hlb : Nat.blt b h.lo = false := by rw [blt_dec]; simp; omega
 have hll : Nat.beq ps.length args.length = true := by rw [beq_dec]; simp [hl]
 cases x2 with
 | norm => exact ⟨.bool true, h2.set b (.loop 0 none tm2 ps2 asg2 body2), callVRes_of (n := max n1 n2 + 1) (by simp only [callV, hlb, cond_false, hb, hll, cond_true, e1', hg1, e2', hg2]), hr⟩
 | exit i => exact ⟨.bool false, h2.set b (.loop 2 (some (.exit i)) tm2 ps2 asg2 body2), callVRes_of (n := max n1 n2 + 1) (by simp only [callV, hlb, cond_false, hb, hll, cond_true, e1', hg1, e2', hg2]), hr⟩
 | ret => exact ⟨.bool false, h2.set b (.loop 2 (some .ret) tm2 ps2 asg2 body2), callVRes_of (n := max n1 n2 + 1) (by simp only [callV, hlb, cond_false, hb, hll, cond_true, e1', hg1, e2', hg2]), hr⟩
theorem keyed_spec {f c1 : Nat} (hf : vp f = some (Zzbb c1)) (t : Tab) (h : Heap) : callRes vp f [.agg (encT t)] h = some (.fn c1 [.iptr (encT t)], h) := by
 refine res_pure hf rfl rfl (fun g hg => ?_)
 unfold Zzbb
 have sc : (encT t).all scal = true := by simp only [encT, List.all_cons, List.all_nil, sv, Bool.and_true]; rfl
 have fz : ∀ h : Heap, frzs 999997 h g.nx true (encT t) = some (encT t) := fun h => frzs_scal _ sc (by simp [encT])
 simp only [encT] at fz
 simp only [encT, ↓zp, zv, seval]
 exact frz_fn1 (n := 999997) (tag := .cl) (by omega) (by rw [Heap.get_new, if_pos rfl]) (fz _)
def invK (l : Nat) (t : Tab) (I : Nat → Heap → Prop) (m : Nat) (s : Slots) (h : Heap) : Prop :=
 ∃ k, k ≤ t.us.l.length ∧ m = t.us.l.length - k ∧ s.at 0 = .yld l ∧ s.at 1 = .iptr (encT t) ∧ s.at 7 = t.us.v eO ∧ s.at 8 = .int .i64 (t.us.l.length : Int) ∧ s.at 9 = .int .i64 (k : Int) ∧ I k h
theorem keyed1_spec {c : Nat} (hf : vp c = some Zzbc) (t : Tab) (h1 : t.us.l.length = t.ks.l.length) (h2 : t.us.l.length = t.bk.l.length) (h3 : t.us.l.length ≤ 1000) (l : Nat) {I : Nat → Heap → Prop} {J : Heap → Prop}
  (stepU : ∀ k (h1 : k < t.us.l.length) (h2 : k < t.ks.l.length) (h3 : k < t.bk.l.length), t.us.l[k] = true → ∀ h, I k h → ∃ b h', callVRes vp (.yld l) [.int .u32 (t.ks.l[k].a : Int), .agg [.int .i64 t.bk.l[k].l.b, .int .i64 t.bk.l[k].l.r, .int .i64 t.bk.l[k].l.p]] h = some (.bool b, h') ∧ (b = true → I (k + 1) h') ∧ (b = false → J h'))
  (stepF : ∀ k (h1 : k < t.us.l.length), t.us.l[k] = false → ∀ h, I k h → I (k + 1) h) (h : Heap) (h0 : I 0 h) :
  ∃ v h', callRes vp c [.yld l, .iptr (encT t)] h = some (v, h') ∧ (I t.us.l.length h' ∨ J h') := by
 refine res_raw hf rfl rfl ?_
 unfold Zzbc
 simp only [encT, ↓zp, zv, seval]
 generalize hS : Tr.set _ 9 _ = S
 have b0 : Slots.at S 0 = .yld l := by rw [← hS]; simp only [zs, seval]
 have b1 : Slots.at S 1 = .iptr (encT t) := by rw [← hS]; simp only [zs, seval] <;> rfl
 have b7 : Slots.at S 7 = t.us.v eO := by rw [← hS]; simp only [zs, seval]
 have b8 : Slots.at S 8 = .int .i64 (t.us.l.length : Int) := by rw [← hS]; simp only [zs, seval]
 have b9 : Slots.at S 9 = .int .i64 ((0 : Nat) : Int) := by rw [← hS]; simp only [zs, seval] <;> rfl
 clear hS
 refine loop_ind (fun m s h => invK l t I m s h) ?_ t.us.l.length ⟨0, by omega, by omega, b0, b1, b7, b8, b9, h0⟩
 clear b0 b1 b7 b8 b9 h0
 rintro m s h ⟨k, hk, hm, c0, c1, c7, c8, c9, hi⟩
 by_cases hlt : k < t.us.l.length
 case neg =>
  have hlt' : ¬ ((k : Int) < (t.us.l.length : Int)) := by omega
  obtain rfl : k = t.us.l.length := by omega
  simp only [↓zp, zv, seval, c0, c1, c7, c8, c9, hlt']
  exact .inl hi
 have hlt' : (k : Int) < (t.us.l.length : Int) := by omega
 have hkk : k < t.ks.l.length := by omega
 have hkb : k < t.bk.l.length := by omega
 have ws := wr_succ (k := k) (by omega)
 have ia1 : ∀ h, r_ia 1 (t.us.v eO) (.int .i64 (k : Int)) h = some (.iptr (.bool t.us.l[k] :: (t.us.l.drop (k + 1)).flatMap eO), h) := fun h => by rw [r_ia_v eO_len (by decide) hlt rfl]; rfl
 have ia2 : ∀ h, r_ia 1 (t.ks.v eK) (.int .i64 (k : Int)) h = some (.iptr (.int .u32 (t.ks.l[k].a : Int) :: (t.ks.l.drop (k + 1)).flatMap eK), h) := fun h => by rw [r_ia_v eK_len (by decide) hkk rfl]; rfl
 have ia3 := fun h => r_ia_v (h := h) (c := t.bk) encB_len (by decide) hkb rfl
 simp only [encB] at ia3
 simp only [encT] at c1
 have st : ∀ h', I (k + 1) h' → ∃ k', k' < m ∧ ∃ j, j ≤ t.us.l.length ∧ k' = t.us.l.length - j ∧ j = k + 1 ∧ I j h' := fun h' hi => ⟨t.us.l.length - (k + 1), by omega, k + 1, by omega, rfl, rfl, hi⟩
 cases hu : t.us.l[k]
 ·have hi2 := stepF k hlt hu h hi
  simp only [↓zp, zv, seval, c0, c1, c7, c8, c9, hlt', ia1, hu, ws]
  exact ⟨_, by omega, k + 1, by omega, rfl, by simp only [zs, seval, c0], by simp only [zs, seval, c1]; rfl, by simp only [zs, seval, c7], by simp only [zs, seval, c8], by simp only [zs, seval], hi2⟩
 ·obtain ⟨b, h', cv, i1, i2⟩ := stepU k hlt hkk hkb hu h hi
  cases b
  ·simp only [↓zp, zv, seval, c0, c1, c7, c8, c9, hlt', ia1, hu, ia2, ia3, cv]
   exact .inr (i2 rfl)
  ·simp only [↓zp, zv, seval, c0, c1, c7, c8, c9, hlt', ia1, hu, ia2, ia3, cv, ws]
   exact ⟨_, by omega, k + 1, by omega, rfl, by simp only [zs, seval, c0], by simp only [zs, seval, c1]; rfl, by simp only [zs, seval, c7], by simp only [zs, seval, c8], by simp only [zs, seval], i1 rfl⟩
end
end
section
open Go Go.VE Classical
structure Part where
 t : Int
 l0 : Limit
 l1 : Limit
 l2 : Limit
 own : Bucket
 us : Tab
 en : Tab
 rev : Sl Int
 n0 : Int
 n1 : Int
 n2 : Int
def encP (p : Part) : List V := [.int .u32 p.t, .int .i64 p.l0.b, .int .i64 p.l0.r, .int .i64 p.l0.p, .int .i64 p.l1.b, .int .i64 p.l1.r, .int .i64 p.l1.p, .int .i64 p.l2.b, .int .i64 p.l2.r, .int .i64 p.l2.p,
 .int .i64 p.own.l.b, .int .i64 p.own.l.r, .int .i64 p.own.l.p, .int .i64 p.own.lv, .int .i64 p.own.pt, .int .u64 p.own.t,
 .int .i64 p.us.cap, p.us.ks.v eK, p.us.bk.v encB, p.us.nx.v eI, p.us.us.v eO, .int .i64 p.us.fr, p.us.ix.v eC, p.us.op.v eI, p.us.on.v eI, .int .i64 p.us.hd, .int .i64 p.us.tl,
 .int .i64 p.en.cap, p.en.ks.v eK, p.en.bk.v encB, p.en.nx.v eI, p.en.us.v eO, .int .i64 p.en.fr, p.en.ix.v eC, p.en.op.v eI, p.en.on.v eI, .int .i64 p.en.hd, .int .i64 p.en.tl,
 p.rev.v e32, .int .u64 p.n0, .int .u64 p.n1, .int .u64 p.n2]
theorem encP_len (p : Part) : (encP p).length = 42 := rfl
def lim3 (a b c : Limit) : List V := [.int .i64 a.b, .int .i64 a.r, .int .i64 a.p, .int .i64 b.b, .int .i64 b.r, .int .i64 b.p, .int .i64 c.b, .int .i64 c.r, .int .i64 c.p]
def Lim3 (a b c : Limit) : Prop := limBad a = false ∧ limBad b = false ∧ limBad c = false
theorem chkLim_y {x : Limit} (h : limBad x = false) : chkLim x = 0 := by unfold chkLim; rw [h]; rfl
theorem chkLim_n {x : Limit} (h : limBad x = true) : chkLim x = 8 := by unfold chkLim; rw [h]; rfl
section
variable {vp : Nat → Option VFn}
theorem lims_spec {f c1 : Nat} (hf : vp f = some (Zzef c1)) (m1 : modeOf vp c1 = some 1) (li : ∀ (x : Limit) (h : Heap), callRes vp c1 [.agg [.int .i64 x.b, .int .i64 x.r, .int .i64 x.p]] h = some (.int .i64 (chkLim x), h)) (a b c : Limit) (h : Heap) :
  callRes vp f [.agg (lim3 a b c)] h = some (.bool (decide (Lim3 a b c)), h) := by
 refine res_pure hf rfl rfl (fun g hg => ?_)
 unfold Zzef lim3
 simp only [↓zp, zv, seval]
 refine w_loop1 ?_
 cases qa : limBad a
 case true =>
  have e := chkLim_n qa
  have d : decide (Lim3 a b c) = false := decide_eq_false (fun x => by rw [x.1] at qa; cases qa)
  simp only [↓zp, zv, seval, m1, li, e, d, frzB]
 have ea := chkLim_y qa
 simp only [↓zp, zv, seval, m1, li, ea]
 refine w_loop1 ?_
 cases qb : limBad b
 case true =>
  have e := chkLim_n qb
  have d : decide (Lim3 a b c) = false := decide_eq_false (fun x => by rw [x.2.1] at qb; cases qb)
  simp only [↓zp, zv, seval, m1, li, e, d, frzB]
 have eb := chkLim_y qb
 simp only [↓zp, zv, seval, m1, li, eb]
 refine w_loop1 ?_
 cases qc : limBad c
 case true =>
  have e := chkLim_n qc
  have d : decide (Lim3 a b c) = false := decide_eq_false (fun x => by rw [x.2.2] at qc; cases qc)
  simp only [↓zp, zv, seval, m1, li, e, d, frzB]
 have ec := chkLim_y qc
 simp only [↓zp, zv, seval, m1, li, ec]
 refine w_loop1 ?_
 have d : decide (Lim3 a b c) = true := decide_eq_true ⟨qa, qb, qc⟩
 simp only [↓zp, zv, seval, d, frzB]
theorem pval_spec {f c1 t1 : Nat} (hf : vp f = some (Zzbd c1 t1)) (m1 : modeOf vp c1 = some 1) (li : ∀ (x : Limit) (h : Heap), callRes vp c1 [.agg [.int .i64 x.b, .int .i64 x.r, .int .i64 x.p]] h = some (.int .i64 (chkLim x), h)) (a b c : Limit) (h : Heap) :
  callRes vp f [.agg (lim3 a b c)] h = some (.bool (decide (Lim3 a b c)), h) := by
 refine res_pure hf rfl rfl (fun g hg => ?_)
 have hlo := hlo hg
 have z1 : ¬ g.nx + 1 < g.lo := by omega
 have z2 : ¬ g.nx + 2 < g.lo := by omega
 have z3 : ¬ g.nx + 3 < g.lo := by omega
 unfold Zzbd lim3
 simp only [↓zp, zv, seval]
 refine w_loop1 ?_
 cases qa : limBad a
 case true =>
  have e := chkLim_n qa
  have d : decide (Lim3 a b c) = false := decide_eq_false (fun x => by rw [x.1] at qa; cases qa)
  simp only [↓zp, zv, seval, z1, m1, li, e, d, frzB]
 have ea := chkLim_y qa
 simp only [↓zp, zv, seval, z1, m1, li, ea]
 refine w_loop1 ?_
 cases qb : limBad b
 case true =>
  have e := chkLim_n qb
  have d : decide (Lim3 a b c) = false := decide_eq_false (fun x => by rw [x.2.1] at qb; cases qb)
  simp only [↓zp, zv, seval, z2, m1, li, e, d, frzB]
 have eb := chkLim_y qb
 simp only [↓zp, zv, seval, z2, m1, li, eb]
 refine w_loop1 ?_
 cases qc : limBad c
 case true =>
  have e := chkLim_n qc
  have d : decide (Lim3 a b c) = false := decide_eq_false (fun x => by rw [x.2.2] at qc; cases qc)
  simp only [↓zp, zv, seval, z3, m1, li, e, d, frzB]
 have ec := chkLim_y qc
 simp only [↓zp, zv, seval, z3, m1, li, ec]
 refine w_loop1 ?_
 have d : decide (Lim3 a b c) = true := decide_eq_true ⟨qa, qb, qc⟩
 simp only [↓zp, zv, seval, d, frzB]
def KL (t : Tab) (l : Limit) (most : Nat) : Prop := ∀ i (h1 : i < t.us.l.length) (h2 : i < t.bk.l.length) (h3 : i < t.ks.l.length), t.us.l[i] = true → t.bk.l[i].l = l ∧ t.ks.l[i].a ≤ most
def invAl (t : Tab) (l : Limit) (most : Nat) (b1 b2 : Nat) (H : Heap) (m : Nat) (s : Slots) (h : Heap) : Prop :=
 ∃ k, k ≤ t.us.l.length ∧ m = t.us.l.length - k ∧ s.at 2 = .int .u32 (most : Int) ∧ s.at 3 = .ptr b1 0 ∧ s.at 4 = .ptr b2 0 ∧ s.at 7 = .int .i64 (k : Int) ∧ h = H ∧ ∀ i (h1 : i < t.us.l.length) (h2 : i < t.bk.l.length) (h3 : i < t.ks.l.length), i < k → t.us.l[i] = true → t.bk.l[i].l = l ∧ t.ks.l[i].a ≤ most
theorem TbOk.lens {t : Tab} (o : TbOk t) : (t.us.l.length : Int) = t.cap ∧ (t.ks.l.length : Int) = t.cap ∧ (t.bk.l.length : Int) = t.cap ∧ t.us.l.length ≤ 8 := by
 have := o.ar.2.2.1
 have := o.sz.nx
 have := o.sz.ks
 have := o.sz.bk
 have := o.sz.hi
 omega
theorem lim_ext {x : Limit} {a b c : Int} (h : a = x.b ∧ b = x.r ∧ c = x.p) : (⟨a, b, c⟩ : Limit) = x := by
 obtain ⟨rfl, rfl, rfl⟩ := h
 rfl
theorem alike_spec {f : Nat} (hf : vp f = some Zzei) (t : Tab) (o : TbOk t) (l : Limit) (most : Nat) (h : Heap) :
  callRes vp f [.agg (encT t), .agg [.int .i64 l.b, .int .i64 l.r, .int .i64 l.p], .int .u32 (most : Int)] h = some (.bool (decide (KL t l most)), h) := by
 obtain ⟨n1, n2, n3, n4⟩ := o.lens
 refine res_pure hf rfl rfl (fun g hg => ?_)
 unfold Zzei encT
 simp only [↓zp, zv, seval]
 generalize hS : Tr.set _ 7 _ = S
 have b2 : Slots.at S 2 = .int .u32 (most : Int) := by rw [← hS]; simp only [zs, seval]
 have b3 : Slots.at S 3 = .ptr g.nx 0 := by rw [← hS]; simp only [zs, seval]
 have b4 : Slots.at S 4 = .ptr (g.nx + 1) 0 := by rw [← hS]; simp only [zs, seval]
 have b7 : Slots.at S 7 = .int .i64 ((0 : Nat) : Int) := by rw [← hS]; simp only [zs, seval] <;> rfl
 clear hS
 generalize hH : Heap.new (Heap.new g _) _ = H
 have ga : H.get g.nx = .cells [.int .i64 t.cap, t.ks.v eK, t.bk.v encB, t.nx.v eI, t.us.v eO, .int .i64 t.fr, t.ix.v eC, t.op.v eI, t.on.v eI, .int .i64 t.hd, .int .i64 t.tl] .cl := by rw [← hH]; simp only [↓zp, zv, seval]
 have gb : H.get (g.nx + 1) = .cells [.int .i64 l.b, .int .i64 l.r, .int .i64 l.p] .cl := by rw [← hH]; simp only [↓zp, zv, seval]
 clear hH
 refine loop_ind (fun m s h => invAl t l most g.nx (g.nx + 1) H m s h) ?_ t.us.l.length ⟨0, by omega, by omega, b2, b3, b4, b7, rfl, fun _ _ _ _ hj => by omega⟩
 clear b2 b3 b4 b7
 rintro m s h ⟨k, hk, hm, c2, c3, c4, c7, rfl, hinc⟩
 by_cases hlt : k < t.us.l.length
 case neg =>
  have hlt' : ¬ ((k : Int) < t.cap) := by omega
  have d : decide (KL t l most) = true := decide_eq_true (fun i h1 h2 h3 hu => hinc i h1 h2 h3 (by omega) hu)
  simp only [↓zp, zv, seval, c2, c3, c4, c7, ga, gb, hlt', d, frzB]
 have hlt' : (k : Int) < t.cap := by omega
 have hkk : k < t.ks.l.length := by omega
 have hkb : k < t.bk.l.length := by omega
 have ws := wr_succ (k := k) (by omega)
 have ia1 : ∀ h, r_ia 1 (t.us.v eO) (.int .i64 (k : Int)) h = some (.iptr (.bool t.us.l[k] :: (t.us.l.drop (k + 1)).flatMap eO), h) := fun h => by rw [r_ia_v eO_len (by decide) hlt rfl]; rfl
 have ia2 : ∀ h, r_ia 1 (t.ks.v eK) (.int .i64 (k : Int)) h = some (.iptr (.int .u32 (t.ks.l[k].a : Int) :: (t.ks.l.drop (k + 1)).flatMap eK), h) := fun h => by rw [r_ia_v eK_len (by decide) hkk rfl]; rfl
 have ia3 := fun h => r_ia_v (h := h) (c := t.bk) encB_len (by decide) hkb rfl
 simp only [encB] at ia3
 have good : (t.us.l[k] = true → t.bk.l[k].l = l ∧ t.ks.l[k].a ≤ most) → ∀ i (h1 : i < t.us.l.length) (h2 : i < t.bk.l.length) (h3 : i < t.ks.l.length), i < k + 1 → t.us.l[i] = true → t.bk.l[i].l = l ∧ t.ks.l[i].a ≤ most := fun hp i h1 h2 h3 hik => by
  rcases Nat.lt_or_ge i k with r | r
  ·exact hinc i h1 h2 h3 r
  ·have : i = k := by omega
   subst this
   exact hp
 have bad : t.us.l[k] = true → ¬ (t.bk.l[k].l = l ∧ t.ks.l[k].a ≤ most) → decide (KL t l most) = false := fun hu hn => decide_eq_false (fun x => hn (x k hlt hkb hkk hu))
 cases hu : t.us.l[k]
 ·rw [hu] at good
  simp only [↓zp, zv, seval, c2, c3, c4, c7, ga, gb, hlt', ia1, hu, ws]
  exact ⟨_, by omega, k + 1, by omega, rfl, by simp only [zs, seval, c2], by simp only [zs, seval, c3], by simp only [zs, seval, c4], by simp only [zs, seval], rfl, good (fun h => by cases h)⟩
 ·by_cases ql : t.bk.l[k].l.b = l.b ∧ t.bk.l[k].l.r = l.r ∧ t.bk.l[k].l.p = l.p
  case neg =>
   have ql' := decide_eq_false ql
   have d := bad hu (fun x => ql (by rw [x.1]; exact ⟨rfl, rfl, rfl⟩))
   simp only [↓zp, zv, seval, c2, c3, c4, c7, ga, gb, hlt', ia1, hu, ia2, ia3, eq3, ql', d, frzB]
  have ql' := decide_eq_true ql
  by_cases qk : most < t.ks.l[k].a
  ·have qk' : (most : Int) < (t.ks.l[k].a : Int) := by omega
   have d := bad hu (fun x => by omega)
   simp only [↓zp, zv, seval, c2, c3, c4, c7, ga, gb, hlt', ia1, hu, ia2, ia3, eq3, ql', qk', d, frzB]
  ·have qk' : ¬ (most : Int) < (t.ks.l[k].a : Int) := by omega
   simp only [↓zp, zv, seval, c2, c3, c4, c7, ga, gb, hlt', ia1, hu, ia2, ia3, eq3, ql', qk', ws]
   exact ⟨_, by omega, k + 1, by omega, rfl, by simp only [zs, seval, c2], by simp only [zs, seval, c3], by simp only [zs, seval, c4], by simp only [zs, seval], rfl, good (fun _ => ⟨lim_ext ql, by omega⟩)⟩
end
end
section
open Go Go.VE Classical
structure PtOk (p : Part) : Prop where
 t : p.t < 16
 li : Lim3 p.l0 p.l1 p.l2
 ow : chkB p.own = 0
 ol : p.own.l = p.l0
 us : TbOk p.us
 en : TbOk p.en
 ku : KL p.us p.l1 4294967295
 ke : KL p.en p.l2 65535
 rl : p.rev.l.length ≤ 8
 rs : ∀ i (h : i + 1 < p.rev.l.length), p.rev.l[i] < p.rev.l[i + 1]
theorem lim_iff {x y : Limit} : x = y ↔ x.b = y.b ∧ x.r = y.r ∧ x.p = y.p := by
 constructor
 ·rintro rfl
  exact ⟨rfl, rfl, rfl⟩
 ·cases x
  cases y
  rintro ⟨h1, h2, h3⟩
  simp only at h1 h2 h3
  rw [h1, h2, h3]
theorem eq9l {a b c d e f : Limit} {neg : Bool} {h : Heap} : r_eqa neg [0, 0, 0, 0, 0, 0, 0, 0, 0] (.agg [.int .i64 a.b, .int .i64 a.r, .int .i64 a.p, .int .i64 b.b, .int .i64 b.r, .int .i64 b.p, .int .i64 c.b, .int .i64 c.r, .int .i64 c.p])
  (.agg [.int .i64 d.b, .int .i64 d.r, .int .i64 d.p, .int .i64 e.b, .int .i64 e.r, .int .i64 e.p, .int .i64 f.b, .int .i64 f.r, .int .i64 f.p]) h = some (.bool (bif neg then !decide (a = d ∧ b = e ∧ c = f) else decide (a = d ∧ b = e ∧ c = f)), h) :=
 eqaInts [(.i64, a.b, d.b), (.i64, a.r, d.r), (.i64, a.p, d.p), (.i64, b.b, e.b), (.i64, b.r, e.r), (.i64, b.p, e.p), (.i64, c.b, f.b), (.i64, c.r, f.r), (.i64, c.p, f.p)] (P := a = d ∧ b = e ∧ c = f) rfl rfl rfl (by simp [lim_iff, and_assoc])
theorem eq3l {a d : Limit} {neg : Bool} {h : Heap} : r_eqa neg [0, 0, 0] (.agg [.int .i64 a.b, .int .i64 a.r, .int .i64 a.p]) (.agg [.int .i64 d.b, .int .i64 d.r, .int .i64 d.p]) h = some (.bool (bif neg then !decide (a = d) else decide (a = d)), h) :=
 eqaInts [(.i64, a.b, d.b), (.i64, a.r, d.r), (.i64, a.p, d.p)] (P := a = d) rfl rfl rfl (by simp [lim_iff, and_assoc])
section
variable {vp : Nat → Option VFn}
def invPR (p : Part) (bx : Nat) (H : Heap) (m : Nat) (s : Slots) (h : Heap) : Prop :=
 ∃ k, 1 ≤ k ∧ (k ≤ p.rev.l.length ∨ k = 1) ∧ m = p.rev.l.length - k ∧ s.at 1 = .ptr bx 0 ∧ s.at 3 = .int .i64 (k : Int) ∧ h = H ∧ ∀ i (h : i + 1 < p.rev.l.length), i + 1 < k → p.rev.l[i] < p.rev.l[i + 1]
theorem ptR_spec {f c1 c2 c3 c4 : Nat} (hf : vp f = some (Zzed c1 c2 c3 c4)) (m1 : modeOf vp c1 = some 1) (m2 : modeOf vp c2 = some 1) (m3 : modeOf vp c3 = some 1) (h4 : vp c4 = some Zzei)
  (lm : ∀ (a b c : Limit) (h : Heap), callRes vp c1 [.agg (lim3 a b c)] h = some (.bool (decide (Lim3 a b c)), h))
  (bk : ∀ (b : Bucket) (h : Heap), callRes vp c2 [.agg (encB b)] h = some (.int .i64 (chkB b), h))
  (tb : ∀ (t : Tab) (h : Heap), callRes vp c3 [.agg (encT t)] h = some (.int .i64 (chk (TbOk t)), h))
  (p : Part) (h : Heap) : callRes vp f [.agg (encP p)] h = some (.int .i64 (chk (PtOk p)), h) := by
 have m4 : modeOf vp c4 = some 1 := mo h4 rfl rfl
 refine res_pure hf rfl rfl (fun g hg => ?_)
 have lm := fun h => lm p.l0 p.l1 p.l2 h
 have bk := fun h => bk p.own h
 have tu := fun h => tb p.us h
 have te := fun h => tb p.en h
 clear tb
 unfold Zzed encP
 simp only [lim3, encB, encT] at lm bk tu te
 by_cases q1 : p.t < 16
 case neg =>
  have q1' : 16 ≤ p.t := by omega
  have e := chk_n (p := PtOk p) (fun o => q1 o.t)
  simp only [↓zp, zv, seval, q1', e, frzI]
 have q1' : ¬ 16 ≤ p.t := by omega
 by_cases q2 : Lim3 p.l0 p.l1 p.l2
 case neg =>
  have e := chk_n (p := PtOk p) (fun o => q2 o.li)
  have q2' := decide_eq_false q2
  simp only [↓zp, zv, seval, q1', m1, lm, q2', Bool.not_false, e, frzI]
 have q2' := decide_eq_true q2
 by_cases q3 : chkB p.own = 0
 case neg =>
  have e := chk_n (p := PtOk p) (fun o => q3 o.ow)
  simp only [↓zp, zv, seval, q1', m1, lm, q2', m2, bk, q3, not_false_eq_true, e, frzI]
 have q3' := eq_true q3
 by_cases q4 : p.own.l = p.l0
 case neg =>
  have e := chk_n (p := PtOk p) (fun o => q4 o.ol)
  have q4' := decide_eq_false q4
  simp only [↓zp, zv, seval, q1', m1, lm, q2', m2, bk, q3', not_true, eq3l, q4', e, frzI]
 have q4' := decide_eq_true q4
 by_cases q5 : TbOk p.us
 case neg =>
  have e := chk_n (p := PtOk p) (fun o => q5 o.us)
  have e5 := chk_n q5
  simp only [↓zp, zv, seval, q1', m1, lm, q2', m2, bk, q3', not_true, eq3l, q4', m3, tu, e5, e, frzI]
 have e5 := chk_y q5
 by_cases q6 : TbOk p.en
 case neg =>
  have e := chk_n (p := PtOk p) (fun o => q6 o.en)
  have e6 := chk_n q6
  simp only [↓zp, zv, seval, q1', m1, lm, q2', m2, bk, q3', not_true, eq3l, q4', m3, tu, e5, te, e6, e, frzI]
 have e6 := chk_y q6
 have al1 := fun h => alike_spec h4 p.us q5 p.l1 4294967295 h
 have al2 := fun h => alike_spec h4 p.en q6 p.l2 65535 h
 have c1e : ((4294967295 : Nat) : Int) = 4294967295 := rfl
 have c2e : ((65535 : Nat) : Int) = 65535 := rfl
 rw [c1e] at al1
 rw [c2e] at al2
 simp only [encT] at al1 al2
 by_cases q7 : KL p.us p.l1 4294967295
 case neg =>
  have e := chk_n (p := PtOk p) (fun o => q7 o.ku)
  have q7' := decide_eq_false q7
  simp only [↓zp, zv, seval, q1', m1, lm, q2', m2, bk, q3', not_true, eq3l, q4', m3, tu, e5, te, e6, m4, al1, q7', e, frzI]
 have q7' := decide_eq_true q7
 by_cases q8 : KL p.en p.l2 65535
 case neg =>
  have e := chk_n (p := PtOk p) (fun o => q8 o.ke)
  have q8' := decide_eq_false q8
  simp only [↓zp, zv, seval, q1', m1, lm, q2', m2, bk, q3', not_true, eq3l, q4', m3, tu, e5, te, e6, m4, al1, q7', al2, q8', e, frzI]
 have q8' := decide_eq_true q8
 by_cases q9 : 8 < (p.rev.l.length : Int)
 ·have e := chk_n (p := PtOk p) (fun o => by have := o.rl; omega)
  simp only [↓zp, zv, seval, q1', m1, lm, q2', m2, bk, q3', not_true, eq3l, q4', m3, tu, e5, te, e6, m4, al1, q7', al2, q8', q9, e, frzI]
 simp only [↓zp, zv, seval, q1', m1, lm, q2', m2, bk, q3', not_true, eq3l, q4', m3, tu, e5, te, e6, m4, al1, q7', al2, q8', q9]
 generalize hS : Tr.set _ 3 _ = S
 have b1 : Slots.at S 1 = .ptr g.nx 0 := by rw [← hS]; simp only [zs, seval]
 have b3 : Slots.at S 3 = .int .i64 ((1 : Nat) : Int) := by rw [← hS]; simp only [zs, seval] <;> rfl
 clear hS
 generalize hH : Heap.new g _ = H
 have ga : H.get g.nx = .cells (encP p) .cl := by rw [← hH]; simp only [encP, ↓zp, zv, seval]
 simp only [encP] at ga
 clear hH
 refine loop_ind (fun m s h => invPR p g.nx H m s h) ?_ (p.rev.l.length - 1) ⟨1, by omega, .inr rfl, by omega, b1, b3, rfl, fun _ _ hj => by omega⟩
 clear b1 b3
 rintro m s h ⟨k, hk1, hk, hm, c1', c3, rfl, hinc⟩
 by_cases hlt : k < p.rev.l.length
 case neg =>
  have hlt' : ¬ ((k : Int) < (p.rev.l.length : Int)) := by omega
  have e := chk_y (p := PtOk p) ⟨q1, q2, q3, q4, q5, q6, q7, q8, by omega, fun i h => hinc i h (by omega)⟩
  simp only [↓zp, zv, seval, c1', c3, ga, hlt', e, frzI]
 have hlt' : (k : Int) < (p.rev.l.length : Int) := by omega
 have hk' : k - 1 < p.rev.l.length := by omega
 have ws := wr_succ (k := k) (by omega)
 have wp1 := wr_pred (k := k) (by omega) (by omega)
 have ia1 : ∀ h, r_ia 1 (p.rev.v e32) (.int .i64 ((k - 1 : Nat) : Int)) h = some (.iptr (.int .u32 p.rev.l[k - 1] :: (p.rev.l.drop (k - 1 + 1)).flatMap e32), h) := fun h => by rw [r_ia_v e32_len (by decide) hk' rfl]; rfl
 have ia2 : ∀ h, r_ia 1 (p.rev.v e32) (.int .i64 (k : Int)) h = some (.iptr (.int .u32 p.rev.l[k] :: (p.rev.l.drop (k + 1)).flatMap e32), h) := fun h => by rw [r_ia_v e32_len (by decide) hlt rfl]; rfl
 by_cases ql : p.rev.l[k] ≤ p.rev.l[k - 1]
 ·have e := chk_n (p := PtOk p) (fun o => by
   have := o.rs (k - 1) (by omega)
   have e : k - 1 + 1 = k := by omega
   simp only [e] at this
   omega)
  simp only [↓zp, zv, seval, c1', c3, ga, hlt', wp1, ia1, ia2, ql, e, frzI]
 ·simp only [↓zp, zv, seval, c1', c3, ga, hlt', wp1, ia1, ia2, ql, ws]
  refine ⟨_, by omega, k + 1, by omega, .inl (by omega), rfl, by simp only [zs, seval, c1'], by simp only [zs, seval], rfl, fun i h hi => ?_⟩
  rcases Nat.lt_or_ge (i + 1) k with r | r
  ·exact hinc i h r
  ·obtain rfl : k = i + 1 := by omega
   simp only [Nat.add_sub_cancel] at ql
   omega
end
end
end Go.VE.LB
