/- What the functions of the law ViewTells compute, on typed arguments (part 15). -/
import Derived.Test.YtpbggddmfgjmlaaGreatViewTellsA14
set_option linter.all false
namespace Go.VE.LB
set_option maxRecDepth 100000
set_option maxHeartbeats 4000000
section
open Go Go.VE Classical
def zLm : Limit := ⟨0, 0, 0⟩
def lm (c : Cmd) : Nat → Limit
 | 0 => c.l0
 | 1 => c.l1
 | _ => c.l2
def okl (c : Cmd) (j : Nat) : Prop := if c.op = 1 ∨ c.op = 3 then limBad (lm c j) = false else lm c j = zLm
theorem cok_iff {c : Cmd} : CmdOk c ↔ c.t < 16 ∧ (c.op = 1 ∨ c.op = 2 ∨ c.op = 3 ∨ c.op = 4 ∨ c.op = 5) ∧ (c.op = 5 ∨ c.u = 0) ∧ (okl c 0 ∧ okl c 1 ∧ okl c 2) ∧ (if c.op = 1 then (1 ≤ c.us ∧ c.us ≤ 8) ∧ 1 ≤ c.es ∧ c.es ≤ 8 else c.us = 0 ∧ c.es = 0) := by
 unfold CmdOk okl
 by_cases h : c.op = 1 ∨ c.op = 3
 ·simp only [if_pos h]
  exact Iff.rfl
 ·simp only [if_neg h, lm, zLm, limit_ext]
  exact Iff.rfl
section
variable {vp : Nat → Option VFn}
theorem frzT4 {h : Heap} {b : Nat} {x y z w : Bool} : frz frzFuel h b false (.tup [.bool x, .bool y, .bool z, .bool w]) = some (.tup [.bool x, .bool y, .bool z, .bool w]) := rfl
theorem used_spec {f : Nat} (hf : vp f = some Zzdd) (op : Int) (h : Heap) : callRes vp f [.int .u8 op] h = some (.tup [.bool (decide (op = 1) || decide (op = 3)), .bool (decide (op = 1)), .bool (decide (op = 5)), .bool (decide (1 ≤ op) && decide (op ≤ 5))], h) := by
 refine res_pure hf rfl rfl (fun g hg => ?_)
 unfold Zzdd
 by_cases q1 : op = 1
 ·subst q1
  simp only [↓zp, zv, seval, frzT4, Int.reduceLE, Int.reduceEq]
 ·by_cases q2 : 1 ≤ op
  ·simp only [↓zp, zv, seval, q1, q2, frzT4]
  ·simp only [↓zp, zv, seval, q1, q2, frzT4]
def invRc (c : Cmd) (L C : Bool) (bx : Nat) (Y : List V) (lo : Nat) (m : Nat) (s : Slots) (h : Heap) : Prop :=
 ∃ j, j ≤ 3 ∧ m = 3 - j ∧ s.at 1 = .ptr bx 0 ∧ s.at 3 = .bool L ∧ s.at 4 = .bool C ∧ s.at 7 = .int .i64 (j : Int) ∧ h.get bx = .cells (.int .u8 c.op :: .int .u32 c.t :: .int .u32 c.u :: .int .i64 c.l0.b :: .int .i64 c.l0.r :: .int .i64 c.l0.p :: .int .i64 c.l1.b :: .int .i64 c.l1.r :: .int .i64 c.l1.p :: .int .i64 c.l2.b :: .int .i64 c.l2.r :: .int .i64 c.l2.p :: .int .u8 c.us :: .int .u8 c.es :: .int .u64 c.ex :: Y) .cl ∧ h.lo = lo ∧ ∀ i, i < j → okl c i
theorem rcmd_spec {f c1 c2 : Nat} (hf : vp f = some (Zzcz c1 c2)) (h1 : vp c1 = some Zzdd) (h2 : vp c2 = some Zzcq) (c : Cmd) (hc : c.tg.length = 32) (h : Heap) :
  callRes vp f [.agg (encC c)] h = some (.bool (decide (CmdOk c)), h) := by
 have m1 : modeOf vp c1 = some 1 := mo h1 rfl rfl
 have m2 : modeOf vp c2 = some 1 := mo h2 rfl rfl
 have ku := fun h => used_spec h1 c.op h
 have kl := fun x h => lim_spec2 h2 x h
 have ez : ∀ (x : Limit) (h : Heap), r_eqa true [0, 0, 0] (.agg [.int .i64 x.b, .int .i64 x.r, .int .i64 x.p]) (.agg [.int .i64 0, .int .i64 0, .int .i64 0]) h = some (.bool (!decide (x = zLm)), h) := fun x h => eqc3 (y := zLm)
 have no := fun q => decide_eq_false (p := CmdOk c) (fun k => absurd (cok_iff.1 k) q)
 refine res_pure hf rfl rfl (fun g hg => ?_)
 have lR : (mY c.tg).length = 32 := by rw [mY_len, hc]
 generalize hD : decide (CmdOk c) = D at no
 unfold encC Zzcz
 generalize mY c.tg = R at lR
 by_cases hI : c.op = 1 ∨ c.op = 2 ∨ c.op = 3 ∨ c.op = 4 ∨ c.op = 5
 case neg =>
  have e : (decide (1 ≤ c.op) && decide (c.op ≤ 5)) = false := by rw [← Bool.decide_and, decide_eq_false_iff_not]; omega
  rw [e] at ku
  have no := no (fun q => hI q.2.1)
  simp only [↓zp, zv, seval, lR, m1, ku, frzB, no]
 have e : (decide (1 ≤ c.op) && decide (c.op ≤ 5)) = true := by rw [← Bool.decide_and, decide_eq_true_eq]; omega
 rw [e] at ku
 by_cases t16 : 16 ≤ c.t
 ·have no := no (fun q => absurd q.1 (by omega))
  simp only [↓zp, zv, seval, lR, m1, ku, t16, frzB, no]
 by_cases hu : c.op = 5 ∨ c.u = 0
 case neg =>
  have e5 : ¬ c.op = 5 := fun q => hu (.inl q)
  have eu : ¬ c.u = 0 := fun q => hu (.inr q)
  have no := no (fun q => hu q.2.2.1)
  rw [decide_eq_false e5] at ku
  simp only [↓zp, zv, seval, lR, m1, ku, t16, eu, not_false_eq_true, frzB, no]
 generalize hL : (decide (c.op = 1) || decide (c.op = 3)) = L at ku
 generalize hC : decide (c.op = 1) = C at ku
 generalize hU : decide (c.op = 5) = U at ku
 have hu' : U = true ∨ U = false ∧ (c.u = 0) = True := by
  cases U
  ·exact .inr ⟨rfl, eq_true (hu.resolve_left (of_decide_eq_false hU))⟩
  ·exact .inl rfl
 simp only []
 rw [w_ass, w_ass]
 refine w_cut (fun s h => s.at 1 = .ptr g.nx 0 ∧ s.at 3 = .bool L ∧ s.at 4 = .bool C ∧ h = g.new (.cells (.int .u8 c.op :: .int .u32 c.t :: .int .u32 c.u :: .int .i64 c.l0.b :: .int .i64 c.l0.r :: .int .i64 c.l0.p :: .int .i64 c.l1.b :: .int .i64 c.l1.r :: .int .i64 c.l1.p :: .int .i64 c.l2.b :: .int .i64 c.l2.r :: .int .i64 c.l2.p :: .int .u8 c.us :: .int .u8 c.es :: .int .u64 c.ex :: R) .cl)) ?_ ?_
 ·rcases hu' with rfl | ⟨rfl, eu⟩
  ·simp only [↓zp, zv, seval, lR, m1, ku, t16]
  ·simp only [↓zp, zv, seval, lR, m1, ku, t16, eu, not_true_eq_false]
 clear ku hu'
 rintro s h ⟨s1, s3, s4, rfl⟩
 simp only [↓zp, zv, seval, s1, s3, s4]
 generalize hS : Tr.set _ 7 _ = S
 have a1 : Slots.at S 1 = .ptr g.nx 0 := by rw [← hS]; simp only [zs, seval, s1]
 have a3 : Slots.at S 3 = .bool L := by rw [← hS]; simp only [zs, seval, s3]
 have a4 : Slots.at S 4 = .bool C := by rw [← hS]; simp only [zs, seval, s4]
 have a7 : Slots.at S 7 = .int .i64 ((0 : Nat) : Int) := by rw [← hS]; simp only [zs, seval] <;> rfl
 clear hS s1 s3 s4
 refine loop_ind (fun m s h => invRc c L C g.nx R g.lo m s h) ?_ 3 ⟨0, by omega, by omega, a1, a3, a4, a7, by rw [Heap.get_new, if_pos rfl], rfl, fun i hi => absurd hi (by omega)⟩
 clear a1 a3 a4 a7
 rintro m s h ⟨j, hj, hm, s1, s3, s4, s7, gH, lo, ih⟩
 by_cases h3 : j = 3
 ·subst h3
  have e3 : ((3 : Nat) : Int) = 3 := rfl
  rw [e3] at s7
  have k0 := ih 0 (by omega)
  have k1 := ih 1 (by omega)
  have k2 := ih 2 (by omega)
  have ok : CmdOk c ↔ (if c.op = 1 then (1 ≤ c.us ∧ c.us ≤ 8) ∧ 1 ≤ c.es ∧ c.es ≤ 8 else c.us = 0 ∧ c.es = 0) := by
   rw [cok_iff]
   exact ⟨fun q => q.2.2.2.2, fun q => ⟨by omega, hI, hu, ⟨k0, k1, k2⟩, q⟩⟩
  have hT : CmdOk c → D = true := fun q => by rw [← hD]; exact decide_eq_true q
  have hF : ¬ CmdOk c → D = false := fun q => by rw [← hD]; exact decide_eq_false q
  rw [ok] at hT hF
  cases C with
  | true =>
   have o1 := of_decide_eq_true hC
   rw [if_pos o1] at hT hF
   by_cases q1 : 1 ≤ c.us
   ·by_cases q2 : c.us ≤ 8
    ·by_cases q3 : 1 ≤ c.es
     ·by_cases q4 : c.es ≤ 8
      ·simp only [↓zp, zv, seval, s1, s3, s4, s7, gH, q1, q2, q3, q4, hT ⟨⟨q1, q2⟩, q3, q4⟩, frzB]
      ·simp only [↓zp, zv, seval, s1, s3, s4, s7, gH, q1, q2, q3, q4, hF (fun q => q4 q.2.2), frzB]
     ·simp only [↓zp, zv, seval, s1, s3, s4, s7, gH, q1, q2, q3, hF (fun q => q3 q.2.1), frzB]
    ·simp only [↓zp, zv, seval, s1, s3, s4, s7, gH, q1, q2, hF (fun q => q2 q.1.2), frzB]
   ·simp only [↓zp, zv, seval, s1, s3, s4, s7, gH, q1, hF (fun q => q1 q.1.1), frzB]
  | false =>
   have o1 := of_decide_eq_false hC
   rw [if_neg o1] at hT hF
   by_cases q1 : c.us = 0
   ·have q1' := eq_true q1
    by_cases q2 : c.es = 0
    ·simp only [↓zp, zv, seval, s1, s3, s4, s7, gH, q1', eq_true q2, hT ⟨q1, q2⟩, frzB]
    ·simp only [↓zp, zv, seval, s1, s3, s4, s7, gH, q1', q2, hF (fun q => q2 q.2), frzB]
   ·simp only [↓zp, zv, seval, s1, s3, s4, s7, gH, q1, hF (fun q => q1 q.1), frzB]
 have fin : ∀ S' : Slots, ∀ (hh : okl c j) , S'.at 1 = .ptr g.nx 0 → S'.at 3 = .bool L → S'.at 4 = .bool C → S'.at 7 = .int .i64 ((j : Int) + 1) → ∃ k', k' < m ∧ invRc c L C g.nx R g.lo k' S' h := fun S' hh e1 e3 e4 e7 =>
  ⟨3 - (j + 1), by omega, j + 1, by omega, rfl, e1, e3, e4, e7, gH, lo, fun i hi => by
   by_cases hij : i = j
   ·rw [hij]; exact hh
   ·exact ih i (by omega)⟩
 have bad : ¬ okl c j → D = false := fun q => no (fun k => by
  obtain ⟨k0, k1, k2⟩ := k.2.2.2.1
  have : j = 0 ∨ j = 1 ∨ j = 2 := by omega
  rcases this with rfl | rfl | rfl
  ·exact q k0
  ·exact q k1
  ·exact q k2)
 have hj3 : j = 0 ∨ j = 1 ∨ j = 2 := by omega
 have e0 : ((0 : Nat) : Int) = 0 := rfl
 have e1 : ((1 : Nat) : Int) = 1 := rfl
 have e2 : ((2 : Nat) : Int) = 2 := rfl
 unfold okl at fin bad
 cases L with
 | true =>
  have hop : c.op = 1 ∨ c.op = 3 := by rwa [← Bool.decide_or, decide_eq_true_eq] at hL
  simp only [if_pos hop] at fin bad
  rcases hj3 with rfl | rfl | rfl
  ·rw [e0] at s7
   cases hb : limBad c.l0 with
   | true =>
    have bad := bad (by simp [lm, hb])
    simp only [↓zp, zv, seval, s1, s3, s4, s7, gH, m2, kl, chkLim, hb, bad, frzB]
   | false =>
    simp only [↓zp, zv, seval, s1, s3, s4, s7, gH, m2, kl, chkLim, hb]
    exact fin _ hb (by simp only [zs, seval, s1]) (by simp only [zs, seval, s3]) (by simp only [zs, seval, s4]) (by simp only [zs, seval] <;> rfl)
  ·rw [e1] at s7
   cases hb : limBad c.l1 with
   | true =>
    have bad := bad (by simp [lm, hb])
    simp only [↓zp, zv, seval, s1, s3, s4, s7, gH, m2, kl, chkLim, hb, bad, frzB]
   | false =>
    simp only [↓zp, zv, seval, s1, s3, s4, s7, gH, m2, kl, chkLim, hb]
    exact fin _ hb (by simp only [zs, seval, s1]) (by simp only [zs, seval, s3]) (by simp only [zs, seval, s4]) (by simp only [zs, seval] <;> rfl)
  ·rw [e2] at s7
   cases hb : limBad c.l2 with
   | true =>
    have bad := bad (by simp [lm, hb])
    simp only [↓zp, zv, seval, s1, s3, s4, s7, gH, m2, kl, chkLim, hb, bad, frzB]
   | false =>
    simp only [↓zp, zv, seval, s1, s3, s4, s7, gH, m2, kl, chkLim, hb]
    exact fin _ hb (by simp only [zs, seval, s1]) (by simp only [zs, seval, s3]) (by simp only [zs, seval, s4]) (by simp only [zs, seval] <;> rfl)
 | false =>
  have hop : ¬ (c.op = 1 ∨ c.op = 3) := by rwa [← Bool.decide_or, decide_eq_false_iff_not] at hL
  simp only [if_neg hop] at fin bad
  rcases hj3 with rfl | rfl | rfl
  ·rw [e0] at s7
   by_cases hb : c.l0 = zLm
   ·have hb' := eq_true hb
    simp only [↓zp, zv, seval, s1, s3, s4, s7, gH, ez, hb']
    exact fin _ hb (by simp only [zs, seval, s1]) (by simp only [zs, seval, s3]) (by simp only [zs, seval, s4]) (by simp only [zs, seval] <;> rfl)
   ·have bad := bad hb
    simp only [↓zp, zv, seval, s1, s3, s4, s7, gH, ez, hb, bad, frzB]
  ·rw [e1] at s7
   by_cases hb : c.l1 = zLm
   ·have hb' := eq_true hb
    simp only [↓zp, zv, seval, s1, s3, s4, s7, gH, ez, hb']
    exact fin _ hb (by simp only [zs, seval, s1]) (by simp only [zs, seval, s3]) (by simp only [zs, seval, s4]) (by simp only [zs, seval] <;> rfl)
   ·have bad := bad hb
    simp only [↓zp, zv, seval, s1, s3, s4, s7, gH, ez, hb, bad, frzB]
  ·rw [e2] at s7
   by_cases hb : c.l2 = zLm
   ·have hb' := eq_true hb
    simp only [↓zp, zv, seval, s1, s3, s4, s7, gH, ez, hb']
    exact fin _ hb (by simp only [zs, seval, s1]) (by simp only [zs, seval, s3]) (by simp only [zs, seval, s4]) (by simp only [zs, seval] <;> rfl)
   ·have bad := bad hb
    simp only [↓zp, zv, seval, s1, s3, s4, s7, gH, ez, hb, bad, frzB]
end
end
section
open Go Go.VE Classical
def zR : List V := .int .u32 0 :: .int .u32 0 :: .int .u64 0 :: (zV ++ [.int .u16 0, .int .u32 0])
def fr (k t : Int) (R C : List V) : List V := .int .u8 k :: .int .u32 t :: (R ++ C)
theorem zR_len : zR.length = 37 := rfl
theorem zC_len : zC.length = 47 := rfl
theorem encC_len {c : Cmd} (h : c.tg.length = 32) : (encC c).length = 47 := by simp [encC, mY_len, h]
theorem eqZC {h : Heap} : r_eqa false [0, 0, 0, 0, 0, 0, 0, 0, 0, 0, 0, 0, 0, 0, 0, 0, 0, 0, 0, 0, 0, 0, 0, 0, 0, 0, 0, 0, 0, 0, 0, 0, 0, 0, 0, 0, 0, 0, 0, 0, 0, 0, 0, 0, 0, 0, 0] (.agg zC) (.agg [.int .u8 0, .int .u32 0, .int .u32 0, .int .i64 0, .int .i64 0, .int .i64 0, .int .i64 0, .int .i64 0, .int .i64 0, .int .i64 0, .int .i64 0, .int .i64 0, .int .u8 0, .int .u8 0, .int .u64 0, .int .u8 0, .int .u8 0, .int .u8 0, .int .u8 0, .int .u8 0, .int .u8 0, .int .u8 0, .int .u8 0, .int .u8 0, .int .u8 0, .int .u8 0, .int .u8 0, .int .u8 0, .int .u8 0, .int .u8 0, .int .u8 0, .int .u8 0, .int .u8 0, .int .u8 0, .int .u8 0, .int .u8 0, .int .u8 0, .int .u8 0, .int .u8 0, .int .u8 0, .int .u8 0, .int .u8 0, .int .u8 0, .int .u8 0, .int .u8 0, .int .u8 0, .int .u8 0]) h = some (.bool true, h) := rfl
theorem eqZR {h : Heap} : r_eqa false [0, 0, 0, 0, 0, 0, 0, 0, 0, 0, 0, 0, 0, 0, 0, 0, 0, 0, 0, 0, 0, 0, 0, 0, 0, 0, 0, 0, 0, 0, 0, 0, 0, 0, 0, 0, 0, 0] (.agg (.int .u32 0 :: zR)) (.agg [.int .u32 0, .int .u32 0, .int .u32 0, .int .u64 0, .int .u8 0, .int .u8 0, .int .u8 0, .int .u8 0, .int .u8 0, .int .u8 0, .int .u8 0, .int .u8 0, .int .u8 0, .int .u8 0, .int .u8 0, .int .u8 0, .int .u8 0, .int .u8 0, .int .u8 0, .int .u8 0, .int .u8 0, .int .u8 0, .int .u8 0, .int .u8 0, .int .u8 0, .int .u8 0, .int .u8 0, .int .u8 0, .int .u8 0, .int .u8 0, .int .u8 0, .int .u8 0, .int .u8 0, .int .u8 0, .int .u8 0, .int .u8 0, .int .u16 0, .int .u32 0]) h = some (.bool true, h) := rfl
section
variable {vp : Nat → Option VFn}
theorem chkR_spec {f c1 : Nat} (hf : vp f = some (Zzaq c1)) (t : Int) (R : List V) (hR : R.length = 37) (h : Heap) : callRes vp f [.agg (fr 1 t R zC)] h = some (.int .i64 (if t < 16 then 0 else 8), h) := by
 refine res_pure hf rfl rfl (fun g hg => ?_)
 have d37 : (R ++ zC).drop 37 = zC := by rw [← hR]; exact List.drop_left
 have tC : takeN 47 zC = some zC := rfl
 unfold Zzaq fr
 by_cases ht : t < 16
 ·simp only [↓zp, zv, seval, List.length_append, hR, zC_len, d37, tC, eqZC, ht, frzI]
 ·simp only [↓zp, zv, seval, List.length_append, hR, zC_len, d37, tC, eqZC, ht, frzI]
theorem chkC_spec {f c1 d1 d2 t1 t2 t3 : Nat} (hf : vp f = some (Zzaq c1)) (h1 : vp c1 = some (Zzaw d1 t1 t2)) (h2 : vp d1 = some (Zzax d2 t3)) (h3 : vp d2 = some Zzag) (c : Cmd) (hc : c.tg.length = 32) (h : Heap) : callRes vp f [.agg (fr 2 0 zR (encC c))] h = some (.int .i64 (if CmdOk c then 0 else 8), h) := by
 have m1 : modeOf vp c1 = some 1 := mo h1 rfl rfl
 have kv := fun h => fvalid_spec h1 h2 h3 c hc h
 have lC := encC_len hc
 refine res_pure hf rfl rfl (fun g hg => ?_)
 generalize encC c = C at kv lC
 have d37 : (zR ++ C).drop 37 = C := by rw [← zR_len]; exact List.drop_left
 have tC : takeN 47 C = some C := by rw [← lC]; exact takeN_all C
 have tR : takeN 37 (zR ++ C) = some zR := by rw [← zR_len]; exact takeN_app zR C
 unfold Zzaq fr
 by_cases ht : CmdOk c
 ·rw [decide_eq_true ht] at kv
  simp only [↓zp, zv, seval, List.length_append, zR_len, lC, d37, tC, tR, eqZR, m1, kv, ht, frzI]
 ·rw [decide_eq_false ht] at kv
  simp only [↓zp, zv, seval, List.length_append, zR_len, lC, d37, tC, tR, eqZR, m1, kv, ht, frzI]
theorem chkZ_spec {f c1 : Nat} (hf : vp f = some (Zzaq c1)) (h : Heap) : callRes vp f [.agg (fr 0 0 zR zC)] h = some (.int .i64 8, h) := by
 refine res_pure hf rfl rfl (fun g hg => ?_)
 unfold Zzaq fr
 simp only [↓zp, zv, seval, List.length_append, zR_len, zC_len, frzI]
theorem rchkR_spec {f c1 : Nat} (hf : vp f = some (Zzcy c1)) (t : Int) (R : List V) (hR : R.length = 37) (h : Heap) : callRes vp f [.agg (fr 1 t R zC)] h = some (.int .i64 (if t < 16 then 0 else 8), h) := by
 refine res_pure hf rfl rfl (fun g hg => ?_)
 have d37 : (R ++ zC).drop 37 = zC := by rw [← hR]; exact List.drop_left
 have tC : takeN 47 zC = some zC := rfl
 unfold Zzcy fr
 by_cases ht : t < 16
 ·simp only [↓zp, zv, seval, List.length_append, hR, zC_len, d37, tC, eqZC, ht, frzI]
 ·simp only [↓zp, zv, seval, List.length_append, hR, zC_len, d37, tC, eqZC, ht, frzI]
theorem rchkC_spec {f c1 d1 d2 : Nat} (hf : vp f = some (Zzcy c1)) (h1 : vp c1 = some (Zzcz d1 d2)) (h2 : vp d1 = some Zzdd) (h3 : vp d2 = some Zzcq) (c : Cmd) (hc : c.tg.length = 32) (h : Heap) : callRes vp f [.agg (fr 2 0 zR (encC c))] h = some (.int .i64 (if CmdOk c then 0 else 8), h) := by
 have m1 : modeOf vp c1 = some 1 := mo h1 rfl rfl
 have kv := fun h => rcmd_spec h1 h2 h3 c hc h
 have lC := encC_len hc
 refine res_pure hf rfl rfl (fun g hg => ?_)
 generalize encC c = C at kv lC
 have d37 : (zR ++ C).drop 37 = C := by rw [← zR_len]; exact List.drop_left
 have tC : takeN 47 C = some C := by rw [← lC]; exact takeN_all C
 have tR : takeN 37 (zR ++ C) = some zR := by rw [← zR_len]; exact takeN_app zR C
 unfold Zzcy fr
 by_cases ht : CmdOk c
 ·rw [decide_eq_true ht] at kv
  simp only [↓zp, zv, seval, List.length_append, zR_len, lC, d37, tC, tR, eqZR, m1, kv, ht, frzI]
 ·rw [decide_eq_false ht] at kv
  simp only [↓zp, zv, seval, List.length_append, zR_len, lC, d37, tC, tR, eqZR, m1, kv, ht, frzI]
theorem tenR_spec {f c1 d1 : Nat} (hf : vp f = some (Zzas c1)) (h1 : vp c1 = some (Zzaq d1)) (t : Int) (ht : t < 16) (R : List V) (hR : R.length = 37) (h : Heap) : callRes vp f [.agg (fr 1 t R zC)] h = some (.tup [.int .u32 t, .int .i64 0], h) := by
 have m1 : modeOf vp c1 = some 1 := mo h1 rfl rfl
 have kc := fun h => chkR_spec h1 t R hR h
 rw [if_pos ht] at kc
 refine res_pure hf rfl rfl (fun g hg => ?_)
 have t84 : takeN 84 (R ++ zC) = some (R ++ zC) := by have := takeN_all (R ++ zC); rw [List.length_append, hR, zC_len] at this; exact this
 have fz : ∀ (H : Heap) (b : Nat), frz frzFuel H b false (.tup [.int .u32 t, .int .i64 0]) = some (.tup [.int .u32 t, .int .i64 0]) := fun _ _ => rfl
 unfold fr at kc
 unfold Zzas fr
 simp only [↓zp, zv, seval, List.length_append, hR, zC_len, t84, m1, kc, fz]
theorem tenC_spec {f c1 d1 d2 d3 t1 t2 t3 : Nat} (hf : vp f = some (Zzas c1)) (h1 : vp c1 = some (Zzaq d1)) (h2 : vp d1 = some (Zzaw d2 t1 t2)) (h3 : vp d2 = some (Zzax d3 t3)) (h4 : vp d3 = some Zzag) (c : Cmd) (hc : c.tg.length = 32) (ok : CmdOk c) (h : Heap) : callRes vp f [.agg (fr 2 0 zR (encC c))] h = some (.tup [.int .u32 c.t, .int .i64 0], h) := by
 have m1 : modeOf vp c1 = some 1 := mo h1 rfl rfl
 have kc := fun h => chkC_spec h1 h2 h3 h4 c hc h
 rw [if_pos ok] at kc
 have lC := encC_len hc
 refine res_pure hf rfl rfl (fun g hg => ?_)
 obtain ⟨C, hC⟩ : ∃ C, encC c = .int .u8 c.op :: .int .u32 c.t :: C := ⟨_, rfl⟩
 rw [hC] at kc lC ⊢
 have lC' : C.length = 45 := by simpa using lC
 have t84 : takeN 84 (zR ++ .int .u8 c.op :: .int .u32 c.t :: C) = some (zR ++ .int .u8 c.op :: .int .u32 c.t :: C) := by have := takeN_all (zR ++ .int .u8 c.op :: .int .u32 c.t :: C); rw [List.length_append, zR_len, lC] at this; exact this
 have fz : ∀ (H : Heap) (b : Nat), frz frzFuel H b false (.tup [.int .u32 c.t, .int .i64 0]) = some (.tup [.int .u32 c.t, .int .i64 0]) := fun _ _ => rfl
 have d38 : (zR ++ .int .u8 c.op :: .int .u32 c.t :: C).drop 38 = .int .u32 c.t :: C := by
  have : (zR ++ [V.int .u8 c.op]).length = 38 := rfl
  have e : zR ++ .int .u8 c.op :: .int .u32 c.t :: C = (zR ++ [V.int .u8 c.op]) ++ .int .u32 c.t :: C := by simp
  rw [e, ← this]
  exact List.drop_left
 unfold fr at kc
 unfold Zzas fr
 simp only [↓zp, zv, seval, List.length_append, zR_len, lC', t84, d38, m1, kc, fz]
theorem rofR_spec {f : Nat} (hf : vp f = some Zzdb) (t : Int) (R : List V) (hR : R.length = 37) (h : Heap) : callRes vp f [.agg (fr 1 t R zC)] h = some (.int .u32 t, h) := by
 refine res_pure hf rfl rfl (fun g hg => ?_)
 unfold Zzdb fr
 simp only [↓zp, zv, seval, List.length_append, hR, zC_len, frzI]
theorem ofC_spec {f : Nat} (hf : vp f = some Zzdb) (c : Cmd) (hc : c.tg.length = 32) (h : Heap) : callRes vp f [.agg (fr 2 0 zR (encC c))] h = some (.int .u32 c.t, h) := by
 have lC := encC_len hc
 refine res_pure hf rfl rfl (fun g hg => ?_)
 obtain ⟨C, hC⟩ : ∃ C, encC c = .int .u8 c.op :: .int .u32 c.t :: C := ⟨_, rfl⟩
 rw [hC] at lC ⊢
 have lC' : C.length = 45 := by simpa using lC
 have d38 : (zR ++ .int .u8 c.op :: .int .u32 c.t :: C).drop 38 = .int .u32 c.t :: C := by
  have : (zR ++ [V.int .u8 c.op]).length = 38 := rfl
  have e : zR ++ .int .u8 c.op :: .int .u32 c.t :: C = (zR ++ [V.int .u8 c.op]) ++ .int .u32 c.t :: C := by simp
  rw [e, ← this]
  exact List.drop_left
 unfold Zzdb fr
 simp only [↓zp, zv, seval, List.length_append, zR_len, lC', d38, frzI]
end
end
section
open Go Go.VE Classical
def zTl : List V := zR ++ zC
theorem fold84 : V.int .u32 0 :: V.int .u32 0 :: V.int .u64 0 :: V.int .u8 0 :: V.int .u8 0 :: V.int .u8 0 :: V.int .u8 0 :: V.int .u8 0 :: V.int .u8 0 :: V.int .u8 0 :: V.int .u8 0 :: V.int .u8 0 :: V.int .u8 0 :: V.int .u8 0 :: V.int .u8 0 :: V.int .u8 0 :: V.int .u8 0 :: V.int .u8 0 :: V.int .u8 0 :: V.int .u8 0 :: V.int .u8 0 :: V.int .u8 0 :: V.int .u8 0 :: V.int .u8 0 :: V.int .u8 0 :: V.int .u8 0 :: V.int .u8 0 :: V.int .u8 0 :: V.int .u8 0 :: V.int .u8 0 :: V.int .u8 0 :: V.int .u8 0 :: V.int .u8 0 :: V.int .u8 0 :: V.int .u8 0 :: V.int .u16 0 :: V.int .u32 0 :: V.int .u8 0 :: V.int .u32 0 :: V.int .u32 0 :: V.int .i64 0 :: V.int .i64 0 :: V.int .i64 0 :: V.int .i64 0 :: V.int .i64 0 :: V.int .i64 0 :: V.int .i64 0 :: V.int .i64 0 :: V.int .i64 0 :: V.int .u8 0 :: V.int .u8 0 :: V.int .u64 0 :: V.int .u8 0 :: V.int .u8 0 :: V.int .u8 0 :: V.int .u8 0 :: V.int .u8 0 :: V.int .u8 0 :: V.int .u8 0 :: V.int .u8 0 :: V.int .u8 0 :: V.int .u8 0 :: V.int .u8 0 :: V.int .u8 0 :: V.int .u8 0 :: V.int .u8 0 :: V.int .u8 0 :: V.int .u8 0 :: V.int .u8 0 :: V.int .u8 0 :: V.int .u8 0 :: V.int .u8 0 :: V.int .u8 0 :: V.int .u8 0 :: V.int .u8 0 :: V.int .u8 0 :: V.int .u8 0 :: V.int .u8 0 :: V.int .u8 0 :: V.int .u8 0 :: V.int .u8 0 :: V.int .u8 0 :: V.int .u8 0 :: V.int .u8 0 :: [] = zTl := rfl
theorem zT_len : zTl.length = 84 := rfl
theorem scal_one {l : List V} (h : l.all VE.scal = true) : l.all oneCell = true := by
 rw [List.all_eq_true] at h ⊢
 intro v hv
 have := h v hv
 cases v <;> first | rfl | cases this
theorem fr_z {k t : Int} : fr k t zR zC = .int .u8 k :: .int .u32 t :: zTl := rfl
theorem frz_fr {h : Heap} {b : Nat} {k t : Int} {R C : List V} {x : Int} (hR : R.all VE.scal = true) (hC : C.all VE.scal = true) (lR : R.length = 37) (lC : C.length = 47) : frz frzFuel h b false (.tup [.agg (fr k t R C), .int .i64 x]) = some (.tup [.agg (fr k t R C), .int .i64 x]) :=
 fzAg (by unfold fr; simp only [List.all_cons, List.all_append, hR, hC, Bool.and_true]; rfl) (by unfold fr; simp [lR, lC])
def reqT (b : List Bt) : List V := (reqL b).tail
theorem reqL_eq (b : List Bt) : reqL b = .int .u32 (w4 ((b.drop 1).take 52) 0) :: reqT b := rfl
theorem reqT_len (b : List Bt) : (reqT b).length = 37 := by simp [reqT, reqL, tokL, mY_len, pad_len]
theorem reqT_scal (b : List Bt) : (reqT b).all VE.scal = true := by
 have := reqL_scal b
 rw [reqL_eq, List.all_cons, Bool.and_eq_true] at this
 exact this.2
def isR (b : List Bt) : Prop := b.length = 59 ∧ b.head? = some ⟨1, by decide⟩
def isCm (b : List Bt) : Prop := b.length = 88 ∧ b.head? = some ⟨2, by decide⟩
def tR (b : List Bt) : Int := w4 ((b.drop 1).take 52) 0
noncomputable def ownT (b : List Bt) : Option Int := if isR b ∧ tR b < 16 then some (tR b) else if isCm b ∧ CmdOk (cmdOf b) then some (cmdOf b).t else none
def Prs (b : List Bt) (v : V) : Prop := (isR b ∧ tR b < 16 ∧ v = .tup [.agg (fr 1 (tR b) (reqT b) zC), .int .i64 0]) ∨ (isCm b ∧ CmdOk (cmdOf b) ∧ v = .tup [.agg (fr 2 0 zR (encC (cmdOf b))), .int .i64 0]) ∨ (ownT b = none ∧ v = .tup [.agg (fr 0 0 zR zC), .int .i64 12])
theorem own_R {b : List Bt} (h : isR b) (t : tR b < 16) : ownT b = some (tR b) := if_pos ⟨h, t⟩
theorem not_RC {b : List Bt} (h : isR b) : ¬ isCm b := fun k => by
 have h1 := h.1
 have h2 := k.1
 omega
theorem own_C {b : List Bt} (h : isCm b) (t : CmdOk (cmdOf b)) : ownT b = some (cmdOf b).t := by
 unfold ownT
 rw [if_neg (fun k => not_RC k.1 h), if_pos ⟨h, t⟩]
theorem cmdOf_tg (b : List Bt) : (cmdOf b).tg.length = 32 := pad_len _
section
variable {vp : Nat → Option VFn}
structure Prg (vp : Nat → Option VFn) (cq cm ck ct c0 t0 tf cw tw tc tl cr cf c1 c2 c3 c4 c5 t1 d1 d2 t2 e1 e2 e3 u1 u2 u3 : Nat) : Prop where
 hq : vp cq = some (Zzau ct cr tf)
 ht : vp ct = some (Zzeu c0 cr t0)
 h0 : vp c0 = some Zzbw
 hm : vp cm = some (Zzat cw cr tc tl)
 hw : vp cw = some (Zzav tw)
 R : Rdr vp cr cf c1 c2 c3 c4 c5 t1 d1 d2 t2
 hk : vp ck = some (Zzaq e1)
 he : vp e1 = some (Zzaw e2 u1 u2)
 he' : vp e2 = some (Zzax e3 u3)
 he2 : vp e3 = some Zzag
theorem parse_spec {f cq cm ck tp ct c0 t0 tf cw tw tc tl cr cf c1 c2 c3 c4 c5 t1 d1 d2 t2 e1 e2 e3 u1 u2 u3 : Nat} (hf : vp f = some (Zzar cq cm ck tp)) (P : Prg vp cq cm ck ct c0 t0 tf cw tw tc tl cr cf c1 c2 c3 c4 c5 t1 d1 d2 t2 e1 e2 e3 u1 u2 u3)
  (b : Sl Bt) (h : Heap) : ∃ v, callRes vp f [b.v eY] h = some (v, h) ∧ Prs b.l v := by
 have mq : modeOf vp cq = some 1 := by simp [modeOf, P.hq, Zzau]
 have mm : modeOf vp cm = some 1 := by simp [modeOf, P.hm, Zzat]
 have mk : modeOf vp ck = some 1 := by simp [modeOf, P.hk, Zzaq]
 suffices q : ∃ r, callRes vp f [b.v eY] h = some (r, h) ∧ Prs b.l r from q
 refine res_pure_ex hf rfl rfl (fun g hg => ?_)
 have hlo := hlo hg
 have z0 : ¬ g.nx < g.lo := by omega
 have z1 : ¬ g.nx + 1 < g.lo := by omega
 have tz : takeN 84 zTl = some zTl := rfl
 have oz : over 0 zTl zTl = some zTl := over_id rfl
 unfold Zzar
 have hdA : ∀ (x : Nat) (hx : x < 256) (hb : 0 < b.l.length), (b.l[0]'hb).a = x → b.l.head? = some ⟨x, hx⟩ := fun x hx hb e => by
  rw [List.head?_eq_getElem?, List.getElem?_eq_getElem hb]
  exact congrArg some (bt_ext e)
 have hdB : ∀ (x : Nat) (hx : x < 256) (hb : 0 < b.l.length), ¬ (b.l[0]'hb).a = x → ¬ b.l.head? = some ⟨x, hx⟩ := fun x hx hb e q => by
  rw [List.head?_eq_getElem?, List.getElem?_eq_getElem hb] at q
  exact e (congrArg Bt.a (Option.some.inj q))
 have kz := fun h => chkZ_spec P.hk h
 have fz := fun (H : Heap) (c : Nat) => frz_fr (h := H) (b := c) (k := 0) (t := 0) (R := zR) (C := zC) (x := 12) rfl rfl rfl rfl
 rw [fr_z] at kz fz
 have bad : ∀ S : V, ownT b.l = none → S = .tup [.agg (.int .u8 0 :: .int .u32 0 :: zTl), .int .i64 12] → Prs b.l S := fun S o e => .inr (.inr ⟨o, e⟩)
 have noo : ¬ (isR b.l ∧ tR b.l < 16) → ¬ (isCm b.l ∧ CmdOk (cmdOf b.l)) → ownT b.l = none := fun a c => by
  unfold ownT
  rw [if_neg a, if_neg c]
 by_cases h59 : b.l.length = 59
 case pos =>
  have h59' : ((b.l.length : Nat) : Int) = 59 := by omega
  have n88 : ¬ ((b.l.length : Nat) : Int) = 88 := by omega
  have ia0 : ∀ h, r_ia 1 (b.v eY) (.int .i64 0) h = some (.iptr (.int .u8 ((b.l[0]'(by omega)).a : Int) :: (b.l.drop 1).flatMap eY), h) := fun h => r_ia_v eY_len (by decide) (by omega) rfl
  have nc : ¬ isCm b.l := fun k => by have := k.1; omega
  by_cases hk : (b.l[0]'(by omega)).a = 1
  case pos =>
   have hk' : (((b.l[0]'(by omega)).a : Nat) : Int) = 1 := by omega
   have is : isR b.l := ⟨h59, hdA 1 (by decide) (by omega) hk⟩
   have kq := fun h => req_spec P.hq P.ht P.h0 P.R b h59 h
   have kc := fun h => chkR_spec P.hk (tR b.l) (reqT b.l) (reqT_len _) h
   have fy := fun (H : Heap) (c : Nat) => frz_fr (h := H) (b := c) (k := 1) (t := tR b.l) (R := reqT b.l) (C := zC) (x := 0) (reqT_scal _) rfl (reqT_len _) rfl
   have lR := reqT_len b.l
   have oR := over_mid [] (reqT b.l) zR zC (by rw [lR]; rfl) (scal_one (reqT_scal _))
   have oU := over_mid [] (reqT b.l ++ zC) zTl [] (by rw [List.length_append, lR]; rfl) (by rw [List.all_append, scal_one (reqT_scal _)]; rfl)
   have lU : (reqT b.l ++ zC).length = 84 := by rw [List.length_append, lR]; rfl
   have tU : takeN 84 (reqT b.l ++ zC) = some (reqT b.l ++ zC) := by have := takeN_all (reqT b.l ++ zC); rwa [lU] at this
   have oV := over_id (W := reqT b.l ++ zC) (by rw [List.all_append, scal_one (reqT_scal _)]; rfl)
   simp only [List.length_nil, List.nil_append, List.append_nil] at oR oU
   have oR : over 0 zTl (reqT b.l) = some (reqT b.l ++ zC) := oR
   rw [reqL_eq] at kq
   unfold fr at kc fy
   have fin : ∀ v, tR b.l < 16 → v = .tup [.agg (.int .u8 1 :: .int .u32 (tR b.l) :: (reqT b.l ++ zC)), .int .i64 0] → Prs b.l v := fun v h1 h2 => .inl ⟨is, h1, h2⟩
   have bad := fun v (h1 : ¬ tR b.l < 16) => bad v (noo (fun k => h1 k.2) (fun k => nc k.1))
   have et : w4 ((b.l.drop 1).take 52) 0 = tR b.l := rfl
   rw [et] at kq
   generalize reqT b.l = R at *
   generalize tR b.l = t at *
   by_cases ht : t < 16
   ·rw [if_pos ht] at kc
    simp only [↓zp, zv, seval, fold84, zT_len, h59', ia0, hk', mq, kq, lR, oR, oU, lU, tU, oV, z0, z1, zC_len, List.length_append, mk, kc]
    exact ⟨_, fy _ _, fin _ ht rfl⟩
   ·rw [if_neg ht] at kc
    simp only [↓zp, zv, seval, fold84, zT_len, h59', ia0, hk', mq, kq, lR, oR, oU, lU, tU, oV, z0, z1, zC_len, List.length_append, mk, kc, tz, oz]
    exact ⟨_, fz _ _, bad _ ht rfl⟩
  have hk' : ¬ (((b.l[0]'(by omega)).a : Nat) : Int) = 1 := by omega
  simp only [↓zp, zv, seval, fold84, zT_len, h59', ia0, hk', n88, mk, kz, tz, oz, z0, z1]
  exact ⟨_, fz _ _, bad _ (noo (fun k => hdB 1 (by decide) (by omega) hk k.1.2) (fun k => nc k.1)) rfl⟩
 have n59 : ¬ ((b.l.length : Nat) : Int) = 59 := by omega
 have nr : ¬ isR b.l := fun k => h59 k.1
 by_cases h88 : b.l.length = 88
 case pos =>
  have h88' : ((b.l.length : Nat) : Int) = 88 := by omega
  have ia0 : ∀ h, r_ia 1 (b.v eY) (.int .i64 0) h = some (.iptr (.int .u8 ((b.l[0]'(by omega)).a : Int) :: (b.l.drop 1).flatMap eY), h) := fun h => r_ia_v eY_len (by decide) (by omega) rfl
  by_cases hk : (b.l[0]'(by omega)).a = 2
  case pos =>
   have hk' : (((b.l[0]'(by omega)).a : Nat) : Int) = 2 := by omega
   have is : isCm b.l := ⟨h88, hdA 2 (by decide) (by omega) hk⟩
   have km := fun h => cmd_spec P.hm P.hw P.R b h88 h
   have kc := fun h => chkC_spec P.hk P.he P.he' P.he2 (cmdOf b.l) (cmdOf_tg _) h
   have lC := encC_len (cmdOf_tg b.l)
   have sC := encC_scal (cmdOf b.l)
   have fy := fun (H : Heap) (c : Nat) => frz_fr (h := H) (b := c) (k := 2) (t := 0) (R := zR) (C := encC (cmdOf b.l)) (x := 0) rfl sC rfl lC
   unfold fr at kc fy
   have fin : ∀ v, CmdOk (cmdOf b.l) → v = .tup [.agg (.int .u8 2 :: .int .u32 0 :: (zR ++ encC (cmdOf b.l))), .int .i64 0] → Prs b.l v := fun v h1 h2 => .inr (.inl ⟨is, h1, h2⟩)
   generalize encC (cmdOf b.l) = C at *
   have o39 : ∀ x y : V, over 39 (x :: y :: zTl) C = some (x :: y :: (zR ++ C)) := fun x y => by
    have := over_mid (x :: y :: zR) C zC [] (by rw [lC]; rfl) (scal_one sC)
    simp only [List.append_nil, List.cons_append] at this
    exact this
   have lU : (zR ++ C).length = 84 := by rw [List.length_append, lC]; rfl
   have aU : (zR ++ C).all oneCell = true := by rw [List.all_append, scal_one sC]; rfl
   have oU := over_mid [] (zR ++ C) zTl [] (by rw [lU]; rfl) aU
   have tU : takeN 84 (zR ++ C) = some (zR ++ C) := by have := takeN_all (zR ++ C); rwa [lU] at this
   have oV := over_id (W := zR ++ C) aU
   simp only [List.length_nil, List.nil_append, List.append_nil] at oU
   by_cases ok : CmdOk (cmdOf b.l)
   ·rw [if_pos ok] at kc
    simp only [↓zp, zv, seval, fold84, zT_len, n59, h88', ia0, hk', mm, km, lC, o39, oU, lU, tU, oV, z0, z1, zR_len, List.length_append, mk, kc]
    exact ⟨_, fy _ _, fin _ ok rfl⟩
   ·rw [if_neg ok] at kc
    simp only [↓zp, zv, seval, fold84, zT_len, n59, h88', ia0, hk', mm, km, lC, o39, oU, lU, tU, oV, z0, z1, zR_len, List.length_append, mk, kc, tz, oz]
    exact ⟨_, fz _ _, bad _ (noo (fun k => nr k.1) (fun k => ok k.2)) rfl⟩
  have hk' : ¬ (((b.l[0]'(by omega)).a : Nat) : Int) = 2 := by omega
  simp only [↓zp, zv, seval, fold84, zT_len, n59, h88', ia0, hk', mk, kz, tz, oz, z0, z1]
  exact ⟨_, fz _ _, bad _ (noo (fun k => nr k.1) (fun k => hdB 2 (by decide) (by omega) hk k.1.2)) rfl⟩
 have n88 : ¬ ((b.l.length : Nat) : Int) = 88 := by omega
 simp only [↓zp, zv, seval, fold84, zT_len, n59, n88, mk, kz, tz, oz, z0, z1]
 exact ⟨_, fz _ _, bad _ (noo (fun k => nr k.1) (fun k => h88 k.1.1)) rfl⟩
end
end
section
open Go Go.VE Classical
section
variable {vp : Nat → Option VFn}
theorem mo' {f : Nat} {b : VFn} (h : vp f = some b) (p : b.prim = none) (e : b.mode = 1) : modeOf vp f = some 1 := by
 simp only [modeOf, h, p, e]
structure CellF (k t : Int) (R C : List V) : Prop where
 lR : R.length = 37
 lC : C.length = 47
 aR : R.all VE.scal = true
 aC : C.all VE.scal = true
theorem CellF.st {k t : Int} {R C : List V} (c : CellF k t R C) : over 0 zTl (R ++ C) = some (R ++ C) ∧ (R ++ C).length = 84 ∧ takeN 84 (R ++ C) = some (R ++ C) ∧ over 0 (R ++ C) (R ++ C) = some (R ++ C) := by
 have aU : (R ++ C).all oneCell = true := by rw [List.all_append, scal_one c.aR, scal_one c.aC]; rfl
 have lU : (R ++ C).length = 84 := by rw [List.length_append, c.lR, c.lC]
 have oU := over_mid [] (R ++ C) zTl [] (by rw [lU]; rfl) aU
 simp only [List.length_nil, List.nil_append, List.append_nil] at oU
 refine ⟨oU, lU, ?_, over_id aU⟩
 have := takeN_all (R ++ C)
 rwa [lU] at this
theorem belongs_spec {f f1 f2 tb cq cm ck tp ct c0 t0 tf cw tw tc tl cr cf c1 c2 c3 c4 c5 t1 d1 d2 t2 e1 e2 e3 u1 u2 u3 : Nat} (hf : vp f = some (Zzez f1 f2 tb)) (h1 : vp f1 = some (Zzar cq cm ck tp)) (h2 : vp f2 = some (Zzas ck)) (P : Prg vp cq cm ck ct c0 t0 tf cw tw tc tl cr cf c1 c2 c3 c4 c5 t1 d1 d2 t2 e1 e2 e3 u1 u2 u3)
  (b : Sl Bt) (tn : Int) (h : Heap) : callRes vp f [b.v eY, .int .u32 tn] h = some (.bool (decide (ownT b.l = some tn)), h) := by
 have m1 := mo' h1 rfl rfl
 have m2 := mo' h2 rfl rfl
 refine res_pure hf rfl rfl (fun g hg => ?_)
 have hlo := hlo hg
 have z0 : ¬ g.nx < g.lo := by omega
 unfold Zzez
 obtain ⟨v, kp, pr⟩ := parse_spec h1 P b g
 obtain ⟨G, hG⟩ : ∃ G, g = G := ⟨_, rfl⟩
 rcases pr with ⟨is, ht, rfl⟩ | ⟨is, ok, rfl⟩ | ⟨o, rfl⟩
 ·have c : CellF 1 (tR b.l) (reqT b.l) zC := ⟨reqT_len _, rfl, reqT_scal _, rfl⟩
  have kt := fun h => tenR_spec h2 P.hk (tR b.l) ht (reqT b.l) (reqT_len _) h
  have e := own_R is ht
  obtain ⟨q1, q2, q3, q4⟩ := c.st
  unfold fr at kp kt
  rw [e]
  generalize reqT b.l ++ zC = U at *
  by_cases et : tR b.l = tn
  ·have ed : decide (some (tR b.l) = some tn) = true := decide_eq_true (congrArg some et)
   rw [ed]
   simp only [↓zp, zv, seval, fold84, zT_len, m1, kp, z0, q1, q2, q3, q4, m2, kt, eq_true et, frzB]
  ·have ed : decide (some (tR b.l) = some tn) = false := decide_eq_false (fun q => et (Option.some.inj q))
   rw [ed]
   simp only [↓zp, zv, seval, fold84, zT_len, m1, kp, z0, q1, q2, q3, q4, m2, kt, et, frzB]
 ·have c : CellF 2 0 zR (encC (cmdOf b.l)) := ⟨rfl, encC_len (cmdOf_tg _), rfl, encC_scal _⟩
  have kt := fun h => tenC_spec h2 P.hk P.he P.he' P.he2 (cmdOf b.l) (cmdOf_tg _) ok h
  have e := own_C is ok
  obtain ⟨q1, q2, q3, q4⟩ := c.st
  unfold fr at kp kt
  rw [e]
  generalize zR ++ encC (cmdOf b.l) = U at *
  by_cases et : (cmdOf b.l).t = tn
  ·have ed : decide (some (cmdOf b.l).t = some tn) = true := decide_eq_true (congrArg some et)
   rw [ed]
   simp only [↓zp, zv, seval, fold84, zT_len, m1, kp, z0, q1, q2, q3, q4, m2, kt, eq_true et, frzB]
  ·have ed : decide (some (cmdOf b.l).t = some tn) = false := decide_eq_false (fun q => et (Option.some.inj q))
   rw [ed]
   simp only [↓zp, zv, seval, fold84, zT_len, m1, kp, z0, q1, q2, q3, q4, m2, kt, et, frzB]
 ·have ed : decide (none = some tn) = false := decide_eq_false (fun q => by cases q)
  have oz : over 0 zTl zTl = some zTl := over_id rfl
  rw [o, ed]
  rw [fr_z] at kp
  simp only [↓zp, zv, seval, fold84, zT_len, m1, kp, z0, oz, frzB]
theorem fArg_spec {f : Nat} (hf : vp f = some Zzey) (tn : Int) (h : Heap) : callRes vp f [.int .u32 tn] h = some (.int .i64 (if 16 ≤ tn then 2 else 0), h) := by
 refine res_pure hf rfl rfl (fun g hg => ?_)
 unfold Zzey
 by_cases ht : 16 ≤ tn <;> simp only [↓zp, zv, seval, ht, frzI]
theorem frzBI {h : Heap} {b : Nat} {x : Bool} {k : IntKind} {y : Int} : frz frzFuel h b false (.tup [.bool x, .int k y]) = some (.tup [.bool x, .int k y]) := rfl
theorem vBel_spec {f fa fb f1 f2 tb cq cm ck tp ct c0 t0 tf cw tw tc tl cr cf c1 c2 c3 c4 c5 t1 d1 d2 t2 e1 e2 e3 u1 u2 u3 : Nat} (hf : vp f = some (Zzev fa fb)) (ha : vp fa = some Zzey) (hb : vp fb = some (Zzez f1 f2 tb)) (h1 : vp f1 = some (Zzar cq cm ck tp)) (h2 : vp f2 = some (Zzas ck)) (P : Prg vp cq cm ck ct c0 t0 tf cw tw tc tl cr cf c1 c2 c3 c4 c5 t1 d1 d2 t2 e1 e2 e3 u1 u2 u3)
  (b : Sl Bt) (tn : Int) (h : Heap) : callRes vp f [b.v eY, .int .u32 tn] h = some (if 16 ≤ tn then .tup [.bool false, .int .i64 2] else .tup [.bool (decide (ownT b.l = some tn)), .int .i64 0], h) := by
 have m1 := mo' ha rfl rfl
 have m2 := mo' hb rfl rfl
 have ka := fun h => fArg_spec ha tn h
 have kb := fun h => belongs_spec hb h1 h2 P b tn h
 refine res_pure hf rfl rfl (fun g hg => ?_)
 unfold Zzev
 by_cases ht : 16 ≤ tn
 ·rw [if_pos ht] at ka ⊢
  simp only [↓zp, zv, seval, m1, ka, frzBI]
 ·rw [if_neg ht] at ka ⊢
  simp only [↓zp, zv, seval, m1, ka, m2, kb, frzBI]
end
end
end Go.VE.LB
