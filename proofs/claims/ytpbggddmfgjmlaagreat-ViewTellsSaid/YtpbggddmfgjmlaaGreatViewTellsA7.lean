/- What the functions of the law ViewTells compute, on typed arguments (part 7). -/
import Derived.Test.YtpbggddmfgjmlaaGreatViewTellsA6
import Derived.Test.YtpbggddmfgjmlaaGreatViewTellsA2
set_option linter.all false
namespace Go.VE.LB
set_option maxRecDepth 100000
set_option maxHeartbeats 4000000
section
open Go Go.VE Classical
def pcA1 (t3 : Nat) : VCode := (.reg [p 5 (.alloc t3 [(.int .i64 0), (.int .i64 0), (.int .i64 0)]), n (.st 3 (.t 5) (.t 51))] [])
def pcB1 : VCode := (.block 1 (.seq (.reg [p 52 (.ld (some 3) (.t 5)), p 53 (.iaa 3 3 (.t 3) (.k (.int .i64 1))), n (.st 3 (.t 53) (.t 52))] [])
  (.seq (.reg [p 54 (.ld (some 9) (.t 3)), p 55 (.fa 1 (.t 1)), p 56 (.ld (some 9) (.t 55)), p 57 (.eqa true [0, 0, 0, 0, 0, 0, 0, 0, 0] (.t 54) (.t 56))] [])
  (.cond (.t 57) (.seq (.reg [n (.st 1 (.t 2) (.k (.int .i64 8)))] [])
   .ret)
  .skip))))
def pcA2 (t3 : Nat) : VCode := (.seq (.reg [p 6 (.mv (.t 61))] [])
 (.reg [p 7 (.alloc t3 [(.int .i64 0), (.int .i64 0), (.int .i64 0)]), n (.st 3 (.t 7) (.t 62))] []))
def pcB2 : VCode := (.block 3 (.seq (.reg [p 63 (.ld (some 3) (.t 7)), p 64 (.iaa 3 3 (.t 3) (.k (.int .i64 2))), n (.st 3 (.t 64) (.t 63))] [])
  (.seq (.reg [p 65 (.ld (some 9) (.t 3)), p 66 (.fa 1 (.t 1)), p 67 (.ld (some 9) (.t 66)), p 68 (.eqa true [0, 0, 0, 0, 0, 0, 0, 0, 0] (.t 65) (.t 67)), p 69 (.mv (.t 68)), g 70 69 false (.mv (.t 6)), g 71 69 false (.bin .gtr (.t 70) (.k (.int .u32 65535))), p 72 (.pick (.t 69) (.k (.bool true)) (.t 71))] [])
  (.cond (.t 72) (.seq (.reg [n (.st 1 (.t 2) (.k (.int .i64 8)))] [])
   .ret)
  .skip))))
theorem rep9 : rep 9 [V.int .i64 0] = [.int .i64 0, .int .i64 0, .int .i64 0, .int .i64 0, .int .i64 0, .int .i64 0, .int .i64 0, .int .i64 0, .int .i64 0] := rfl
structure PcH (x : Part) (t1 t2 b : Nat) (h : Heap) : Prop where
 lo : h.lo ≤ b
 nx : b + 3 ≤ h.nx
 h0 : h.get b = .cells (encP x) .cl
 h1 : h.get (b + 1) = .cells [.int .i64 0] (.ct t1)
 h2 : h.get (b + 2) = .cells (lim3 x.own.l x.l1 x.l2) (.ct t2)
structure PcJ (x : Part) (t1 b : Nat) (h : Heap) : Prop where
 lo : h.lo ≤ b
 h1 : h.get (b + 1) = .cells [.int .i64 8] (.ct t1)
section
variable {vp : Nat → Option VFn}
theorem yld_run2 {b p1 p2 : Nat} {x1 x2 : V} {h : Heap} {pd : Option VX} {tm : Slots} {asg body : VCode} {R : V → Heap → Prop} (hb : h.get b = .loop 0 pd tm [p1, p2] asg body) (hlo : ¬ b < h.lo)
  (w : wp vp asg (Tr.set (Tr.set tm p1 x1) p2 x2) h fun x s h1 => x = .norm ∧ ∃ pd tm1 ps1 asg1 body1, h1.get b = .loop 0 pd tm1 ps1 asg1 body1 ∧
   wp vp body s (h1.set b (.loop 1 pd tm1 ps1 asg1 body1)) fun x _ h2 => ∃ st pd tm2 ps2 asg2 body2, h2.get b = .loop st pd tm2 ps2 asg2 body2 ∧ (match x with
    | .norm => R (.bool true) (h2.set b (.loop 0 none tm2 ps2 asg2 body2))
    | x => R (.bool false) (h2.set b (.loop 2 (some x) tm2 ps2 asg2 body2)))) : ∃ v h', callVRes vp (.yld b) [x1, x2] h = some (v, h') ∧ R v h' := yld_run hb hlo rfl w
theorem pc_loop1 {c t1 t2 t3 : Nat} (hf : vp c = some Zzbc) (x : Part) (o : TbOk x.us) {S : Slots} {H : Heap} {b : Nat} (s1 : S.at 1 = .ptr b 0) (s2 : S.at 2 = .ptr (b + 1) 0) (s3 : S.at 3 = .ptr (b + 2) 0) (hp : PcH x t1 t2 b H) :
  ∃ v h', callRes vp c [.yld H.nx, .iptr (encT x.us)] (H.new (.loop 0 none S [50, 51] (pcA1 t3) pcB1)) = some (v, h') ∧
   ((h'.get H.nx = .loop 0 none S [50, 51] (pcA1 t3) pcB1 ∧ H.nx < h'.nx ∧ PcH x t1 t2 b h' ∧ KL x.us x.l1 4294967295) ∨ (h'.get H.nx = .loop 2 (some .ret) S [50, 51] (pcA1 t3) pcB1 ∧ H.nx < h'.nx ∧ PcJ x t1 b h' ∧ ¬ (x.own.l = x.l0 ∧ KL x.us x.l1 4294967295))) := by
 obtain ⟨n1, n2, n3, n4⟩ := o.lens
 have hnx := hp.nx
 have hlo := hp.lo
 refine Exists.elim (keyed1_spec hf x.us (by omega) (by omega) (by omega) H.nx
  (I := fun k h => h.get H.nx = .loop 0 none S [50, 51] (pcA1 t3) pcB1 ∧ H.nx < h.nx ∧ PcH x t1 t2 b h ∧ ∀ i (h1 : i < x.us.us.l.length) (h2 : i < x.us.bk.l.length) (h3 : i < x.us.ks.l.length), i < k → x.us.us.l[i] = true → x.us.bk.l[i].l = x.l1 ∧ x.us.ks.l[i].a ≤ 4294967295)
  (J := fun h => h.get H.nx = .loop 2 (some .ret) S [50, 51] (pcA1 t3) pcB1 ∧ H.nx < h.nx ∧ PcJ x t1 b h ∧ ¬ (x.own.l = x.l0 ∧ KL x.us x.l1 4294967295)) ?_ ?_ (H.new (.loop 0 none S [50, 51] (pcA1 t3) pcB1)) ?_) ?_
 ·rintro k h1 h2 h3 hu h ⟨i1, i2, i3, i4⟩
  have hb1 := x.us.ks.l[k].ok
  have fh : ¬ H.nx < h.lo := by have := i3.lo; omega
  have fb : ¬ b < h.lo := by have := i3.lo; omega
  have ⟨e1, e2, e3, e4, e5, e6⟩ : (¬ b = h.nx) ∧ (¬ b + 1 = h.nx) ∧ (¬ b + 2 = h.nx) ∧ (¬ H.nx = h.nx) ∧ (¬ H.nx = b + 2) ∧ (¬ b = H.nx) := by omega
  have ⟨e7, e8, e9, e10, e11, e12⟩ : (¬ b + 1 = H.nx) ∧ (¬ b + 2 = H.nx) ∧ (¬ h.nx = H.nx) ∧ (¬ h.nx = b + 2) ∧ (¬ b + 2 < h.lo) ∧ (¬ h.nx < h.lo) := by omega
  have ⟨e13, e14⟩ : (¬ H.nx = b + 1) ∧ (¬ b + 1 < h.lo) := by omega
  have g0 := i3.h0
  have g1 := i3.h1
  have g2 := i3.h2
  have e15 : ¬ h.nx = b + 1 := by omega
  simp only [encP, lim3] at g0 g2
  have st : ∃ v h', callVRes vp (.yld H.nx) [.int .u32 (x.us.ks.l[k].a : Int), .agg [.int .i64 x.us.bk.l[k].l.b, .int .i64 x.us.bk.l[k].l.r, .int .i64 x.us.bk.l[k].l.p]] h = some (v, h') ∧
    ((v = .bool true ∧ h'.get H.nx = .loop 0 none S [50, 51] (pcA1 t3) pcB1 ∧ H.nx < h'.nx ∧ PcH x t1 t2 b h' ∧ (x.own.l = x.l0 ∧ x.us.bk.l[k].l = x.l1)) ∨ (v = .bool false ∧ h'.get H.nx = .loop 2 (some .ret) S [50, 51] (pcA1 t3) pcB1 ∧ H.nx < h'.nx ∧ PcJ x t1 b h' ∧ ¬ (x.own.l = x.l0 ∧ x.us.bk.l[k].l = x.l1))) := by
   refine yld_run2 i1 fh ?_
   refine wp_mono (Q := fun y s h1 => y = .norm ∧ s = Tr.set (Tr.set (Tr.set S 50 (.int .u32 (x.us.ks.l[k].a : Int))) 51 (.agg [.int .i64 x.us.bk.l[k].l.b, .int .i64 x.us.bk.l[k].l.r, .int .i64 x.us.bk.l[k].l.p])) 5 (.ptr h.nx 0) ∧ h1 = (h.new (.cells [.int .i64 0, .int .i64 0, .int .i64 0] (.ct t3))).set h.nx (.cells [.int .i64 x.us.bk.l[k].l.b, .int .i64 x.us.bk.l[k].l.r, .int .i64 x.us.bk.l[k].l.p] (.ct t3))) ?_ ?_
   ·rintro y s h1 ⟨rfl, rfl, rfl⟩
    refine ⟨rfl, none, S, [50, 51], pcA1 t3, pcB1, by rw [Heap.get_set, if_neg e4, Heap.get_new, if_neg e4]; exact i1, ?_⟩
    unfold pcB1
    by_cases q : x.own.l = x.l0 ∧ x.us.bk.l[k].l = x.l1
    ·have q' := decide_eq_true q
     simp only [↓zp, zv, seval, s1, s2, s3, g0, g1, g2, e1, e2, e3, e4, e5, e6, e7, e8, e9, e10, e11, e12, e13, e14, eq9l, q']
     refine ⟨1, none, S, [50, 51], pcA1 t3, pcB1, rfl, .inl ⟨rfl, by omega, ⟨?_, ?_, ?_, ?_, ?_⟩, q⟩⟩
     ·simp only [Heap.set_lo, Heap.new_lo]; exact i3.lo
     ·simp only [Heap.set_nx, Heap.new_nx]; omega
     ·simp only [↓zp, zv, seval, e1, e2, e3, e4, e5, e6, e7, e8, e9, e10, e11, e12, e13, e14, e15, g0, encP]
     ·simp only [↓zp, zv, seval, e1, e2, e3, e4, e5, e6, e7, e8, e9, e10, e11, e12, e13, e14, e15, g1]
     ·simp only [↓zp, zv, seval, e1, e2, e3, e4, e5, e6, e7, e8, e9, e10, e11, e12, e13, e14, e15, lim3, q.2]
    ·have q' := decide_eq_false q
     simp only [↓zp, zv, seval, s1, s2, s3, g0, g1, g2, e1, e2, e3, e4, e5, e6, e7, e8, e9, e10, e11, e12, e13, e14, eq9l, q']
     refine ⟨1, none, S, [50, 51], pcA1 t3, pcB1, rfl, .inr ⟨rfl, by omega, ⟨?_, ?_⟩, q⟩⟩
     ·simp only [Heap.set_lo, Heap.new_lo]; exact i3.lo
     ·simp only [↓zp, zv, seval, e1, e2, e3, e4, e5, e6, e7, e8, e9, e10, e11, e12, e13, e14, e15]
   ·unfold pcA1
    simp only [↓zp, zv, seval, e12]
  obtain ⟨v, h', e, r⟩ := st
  rcases r with ⟨rfl, r1, r2, r3, r4⟩ | ⟨rfl, r1, r2, r3, r4⟩
  ·refine ⟨true, h', e, fun _ => ⟨r1, r2, r3, fun i h1 h2 h3 hi hu => ?_⟩, fun z => by cases z⟩
   rcases Nat.lt_or_ge i k with r | r
   ·exact i4 i h1 h2 h3 r hu
   ·obtain rfl : i = k := by omega
    exact ⟨r4.2, by omega⟩
  ·exact ⟨false, h', e, fun z => (by cases z), fun _ => ⟨r1, r2, r3, fun z => r4 ⟨z.1, (z.2 k h1 h3 h2 hu).1⟩⟩⟩
 ·rintro k h1 hu h ⟨i1, i2, i3, i4⟩
  refine ⟨i1, i2, i3, fun i h1 h2 h3 hi hu2 => ?_⟩
  rcases Nat.lt_or_ge i k with r | r
  ·exact i4 i h1 h2 h3 r hu2
  ·obtain rfl : i = k := by omega
   rw [hu] at hu2
   cases hu2
 ·refine ⟨by rw [Heap.get_new, if_pos rfl], by simp only [Heap.new_nx]; omega, ⟨by simp only [Heap.new_lo]; exact hlo, by simp only [Heap.new_nx]; omega, ?_, ?_, ?_⟩, fun i h1 h2 h3 hi hu => by omega⟩
  ·rw [Heap.get_new, if_neg (by omega)]; exact hp.h0
  ·rw [Heap.get_new, if_neg (by omega)]; exact hp.h1
  ·rw [Heap.get_new, if_neg (by omega)]; exact hp.h2
 ·rintro v ⟨h', e, r⟩
  refine ⟨v, h', e, ?_⟩
  rcases r with ⟨r1, r2, r3, r4⟩ | r
  ·exact .inl ⟨r1, r2, r3, fun i h1 h2 h3 hu => r4 i h1 h2 h3 h1 hu⟩
  ·exact .inr r
theorem pc_loop2 {c t1 t2 t3 : Nat} (hf : vp c = some Zzbc) (x : Part) (o : TbOk x.en) {S : Slots} {H : Heap} {b : Nat} (s1 : S.at 1 = .ptr b 0) (s2 : S.at 2 = .ptr (b + 1) 0) (s3 : S.at 3 = .ptr (b + 2) 0) (hp : PcH x t1 t2 b H) :
  ∃ v h', callRes vp c [.yld H.nx, .iptr (encT x.en)] (H.new (.loop 0 none S [61, 62] (pcA2 t3) pcB2)) = some (v, h') ∧
   ((h'.get H.nx = .loop 0 none S [61, 62] (pcA2 t3) pcB2 ∧ H.nx < h'.nx ∧ PcH x t1 t2 b h' ∧ KL x.en x.l2 65535) ∨ (h'.get H.nx = .loop 2 (some .ret) S [61, 62] (pcA2 t3) pcB2 ∧ H.nx < h'.nx ∧ PcJ x t1 b h' ∧ ¬ (x.own.l = x.l0 ∧ KL x.en x.l2 65535))) := by
 obtain ⟨n1, n2, n3, n4⟩ := o.lens
 have hnx := hp.nx
 have hlo := hp.lo
 refine Exists.elim (keyed1_spec hf x.en (by omega) (by omega) (by omega) H.nx
  (I := fun k h => h.get H.nx = .loop 0 none S [61, 62] (pcA2 t3) pcB2 ∧ H.nx < h.nx ∧ PcH x t1 t2 b h ∧ ∀ i (h1 : i < x.en.us.l.length) (h2 : i < x.en.bk.l.length) (h3 : i < x.en.ks.l.length), i < k → x.en.us.l[i] = true → x.en.bk.l[i].l = x.l2 ∧ x.en.ks.l[i].a ≤ 65535)
  (J := fun h => h.get H.nx = .loop 2 (some .ret) S [61, 62] (pcA2 t3) pcB2 ∧ H.nx < h.nx ∧ PcJ x t1 b h ∧ ¬ (x.own.l = x.l0 ∧ KL x.en x.l2 65535)) ?_ ?_ (H.new (.loop 0 none S [61, 62] (pcA2 t3) pcB2)) ?_) ?_
 ·rintro k h1 h2 h3 hu h ⟨i1, i2, i3, i4⟩
  have hb1 := x.en.ks.l[k].ok
  have fh : ¬ H.nx < h.lo := by have := i3.lo; omega
  have fb : ¬ b < h.lo := by have := i3.lo; omega
  have ⟨e1, e2, e3, e4, e5, e6⟩ : (¬ b = h.nx) ∧ (¬ b + 1 = h.nx) ∧ (¬ b + 2 = h.nx) ∧ (¬ H.nx = h.nx) ∧ (¬ H.nx = b + 2) ∧ (¬ b = H.nx) := by omega
  have ⟨e7, e8, e9, e10, e11, e12⟩ : (¬ b + 1 = H.nx) ∧ (¬ b + 2 = H.nx) ∧ (¬ h.nx = H.nx) ∧ (¬ h.nx = b + 2) ∧ (¬ b + 2 < h.lo) ∧ (¬ h.nx < h.lo) := by omega
  have ⟨e13, e14⟩ : (¬ H.nx = b + 1) ∧ (¬ b + 1 < h.lo) := by omega
  have g0 := i3.h0
  have g1 := i3.h1
  have g2 := i3.h2
  have e15 : ¬ h.nx = b + 1 := by omega
  simp only [encP, lim3] at g0 g2
  have st : ∃ v h', callVRes vp (.yld H.nx) [.int .u32 (x.en.ks.l[k].a : Int), .agg [.int .i64 x.en.bk.l[k].l.b, .int .i64 x.en.bk.l[k].l.r, .int .i64 x.en.bk.l[k].l.p]] h = some (v, h') ∧
    ((v = .bool true ∧ h'.get H.nx = .loop 0 none S [61, 62] (pcA2 t3) pcB2 ∧ H.nx < h'.nx ∧ PcH x t1 t2 b h' ∧ (x.own.l = x.l0 ∧ x.en.bk.l[k].l = x.l2 ∧ x.en.ks.l[k].a ≤ 65535)) ∨ (v = .bool false ∧ h'.get H.nx = .loop 2 (some .ret) S [61, 62] (pcA2 t3) pcB2 ∧ H.nx < h'.nx ∧ PcJ x t1 b h' ∧ ¬ (x.own.l = x.l0 ∧ x.en.bk.l[k].l = x.l2 ∧ x.en.ks.l[k].a ≤ 65535))) := by
   refine yld_run2 i1 fh ?_
   refine wp_mono (Q := fun y s h1 => y = .norm ∧ s = Tr.set (Tr.set (Tr.set (Tr.set S 61 (.int .u32 (x.en.ks.l[k].a : Int))) 62 (.agg [.int .i64 x.en.bk.l[k].l.b, .int .i64 x.en.bk.l[k].l.r, .int .i64 x.en.bk.l[k].l.p])) 6 (.int .u32 (x.en.ks.l[k].a : Int))) 7 (.ptr h.nx 0) ∧ h1 = (h.new (.cells [.int .i64 0, .int .i64 0, .int .i64 0] (.ct t3))).set h.nx (.cells [.int .i64 x.en.bk.l[k].l.b, .int .i64 x.en.bk.l[k].l.r, .int .i64 x.en.bk.l[k].l.p] (.ct t3))) ?_ ?_
   ·rintro y s h1 ⟨rfl, rfl, rfl⟩
    refine ⟨rfl, none, S, [61, 62], pcA2 t3, pcB2, by rw [Heap.get_set, if_neg e4, Heap.get_new, if_neg e4]; exact i1, ?_⟩
    unfold pcB2
    by_cases q : x.own.l = x.l0 ∧ x.en.bk.l[k].l = x.l2
    ·have q' := decide_eq_true q
     by_cases qk : x.en.ks.l[k].a ≤ 65535
     ·have qk' : ¬ 65535 < (x.en.ks.l[k].a : Int) := by omega
      simp only [↓zp, zv, seval, s1, s2, s3, g0, g1, g2, e1, e2, e3, e4, e5, e6, e7, e8, e9, e10, e11, e12, e13, e14, eq9l, q', qk']
      refine ⟨1, none, S, [61, 62], pcA2 t3, pcB2, rfl, .inl ⟨rfl, by omega, ⟨?_, ?_, ?_, ?_, ?_⟩, q.1, q.2, qk⟩⟩
      ·simp only [Heap.set_lo, Heap.new_lo]; exact i3.lo
      ·simp only [Heap.set_nx, Heap.new_nx]; omega
      ·simp only [↓zp, zv, seval, e1, e2, e3, e4, e5, e6, e7, e8, e9, e10, e11, e12, e13, e14, e15, g0, encP]
      ·simp only [↓zp, zv, seval, e1, e2, e3, e4, e5, e6, e7, e8, e9, e10, e11, e12, e13, e14, e15, g1]
      ·simp only [↓zp, zv, seval, e1, e2, e3, e4, e5, e6, e7, e8, e9, e10, e11, e12, e13, e14, e15, lim3, q.2]
     have qk' : 65535 < (x.en.ks.l[k].a : Int) := by omega
     simp only [↓zp, zv, seval, s1, s2, s3, g0, g1, g2, e1, e2, e3, e4, e5, e6, e7, e8, e9, e10, e11, e12, e13, e14, eq9l, q', qk']
     refine ⟨1, none, S, [61, 62], pcA2 t3, pcB2, rfl, .inr ⟨rfl, by omega, ⟨?_, ?_⟩, fun z => qk z.2.2⟩⟩
     ·simp only [Heap.set_lo, Heap.new_lo]; exact i3.lo
     ·simp only [↓zp, zv, seval, e1, e2, e3, e4, e5, e6, e7, e8, e9, e10, e11, e12, e13, e14, e15]
    ·have q' := decide_eq_false q
     simp only [↓zp, zv, seval, s1, s2, s3, g0, g1, g2, e1, e2, e3, e4, e5, e6, e7, e8, e9, e10, e11, e12, e13, e14, eq9l, q']
     refine ⟨1, none, S, [61, 62], pcA2 t3, pcB2, rfl, .inr ⟨rfl, by omega, ⟨?_, ?_⟩, fun z => q ⟨z.1, z.2.1⟩⟩⟩
     ·simp only [Heap.set_lo, Heap.new_lo]; exact i3.lo
     ·simp only [↓zp, zv, seval, e1, e2, e3, e4, e5, e6, e7, e8, e9, e10, e11, e12, e13, e14, e15]
   ·unfold pcA2
    simp only [↓zp, zv, seval, e12]
  obtain ⟨v, h', e, r⟩ := st
  rcases r with ⟨rfl, r1, r2, r3, r4⟩ | ⟨rfl, r1, r2, r3, r4⟩
  ·refine ⟨true, h', e, fun _ => ⟨r1, r2, r3, fun i h1 h2 h3 hi hu => ?_⟩, fun z => by cases z⟩
   rcases Nat.lt_or_ge i k with r | r
   ·exact i4 i h1 h2 h3 r hu
   ·obtain rfl : i = k := by omega
    exact r4.2
  ·exact ⟨false, h', e, fun z => (by cases z), fun _ => ⟨r1, r2, r3, fun z => r4 ⟨z.1, z.2 k h1 h3 h2 hu⟩⟩⟩
 ·rintro k h1 hu h ⟨i1, i2, i3, i4⟩
  refine ⟨i1, i2, i3, fun i h1 h2 h3 hi hu2 => ?_⟩
  rcases Nat.lt_or_ge i k with r | r
  ·exact i4 i h1 h2 h3 r hu2
  ·obtain rfl : i = k := by omega
   rw [hu] at hu2
   cases hu2
 ·refine ⟨by rw [Heap.get_new, if_pos rfl], by simp only [Heap.new_nx]; omega, ⟨by simp only [Heap.new_lo]; exact hlo, by simp only [Heap.new_nx]; omega, ?_, ?_, ?_⟩, fun i h1 h2 h3 hi hu => by omega⟩
  ·rw [Heap.get_new, if_neg (by omega)]; exact hp.h0
  ·rw [Heap.get_new, if_neg (by omega)]; exact hp.h1
  ·rw [Heap.get_new, if_neg (by omega)]; exact hp.h2
 ·rintro v ⟨h', e, r⟩
  refine ⟨v, h', e, ?_⟩
  rcases r with ⟨r1, r2, r3, r4⟩ | r
  ·exact .inl ⟨r1, r2, r3, fun i h1 h2 h3 hu => r4 i h1 h2 h3 h1 hu⟩
  ·exact .inr r
def invPC (x : Part) (t1 t2 b : Nat) (H : Heap) (m : Nat) (s : Slots) (h : Heap) : Prop :=
 ∃ k, k ≤ x.rev.l.length ∧ m = x.rev.l.length - k ∧ s.at 1 = .ptr b 0 ∧ s.at 2 = .ptr (b + 1) 0 ∧ s.at 84 = x.rev.v e32 ∧ s.at 85 = .int .i64 (x.rev.l.length : Int) ∧ s.at 86 = .int .i64 (k : Int) ∧ h = H ∧ ∀ i (h : i + 1 < x.rev.l.length), i + 1 < k → x.rev.l[i] < x.rev.l[i + 1]
theorem ptC_spec {f c1 c2 c3 c4 c5 t1 t2 t3 : Nat} (hf : vp f = some (Zzba c1 c2 c3 c4 t1 t2 t3)) (m1 : modeOf vp c1 = some 1) (m2 : modeOf vp c2 = some 1) (m3 : modeOf vp c3 = some 1) (h4 : vp c4 = some (Zzbb c5)) (h5 : vp c5 = some Zzbc)
  (lm : ∀ (a b c : Limit) (h : Heap), callRes vp c1 [.agg (lim3 a b c)] h = some (.bool (decide (Lim3 a b c)), h))
  (bk : ∀ (b : Bucket) (h : Heap), callRes vp c2 [.agg (encB b)] h = some (.int .i64 (chkB b), h))
  (tb : ∀ (t : Tab) (h : Heap), callRes vp c3 [.agg (encT t)] h = some (.int .i64 (chk (TbOk t)), h))
  (x : Part) (h : Heap) : callRes vp f [.agg (encP x)] h = some (.int .i64 (chk (PtOk x)), h) := by
 have m4 : modeOf vp c4 = some 1 := mo h4 rfl rfl
 refine res_pure hf rfl rfl (fun g hg => ?_)
 have hlo := hlo hg
 have lm := fun h => lm x.l0 x.l1 x.l2 h
 have bk := fun h => bk x.own h
 have tu := fun h => tb x.us h
 have te := fun h => tb x.en h
 have ku := fun h => keyed_spec h4 x.us h
 have ke := fun h => keyed_spec h4 x.en h
 clear tb
 have z1 : ¬ g.nx + 1 < g.lo := by omega
 have z2 : ¬ g.nx + 2 < g.lo := by omega
 unfold Zzba encP
 simp only [lim3, encB, encT] at lm bk tu te
 by_cases q1 : x.t < 16
 case neg =>
  have q1' : 16 ≤ x.t := by omega
  have e := chk_n (p := PtOk x) (fun o => q1 o.t)
  simp only [↓zp, zv, seval, z1, z2, q1', e, frzI]
  done
 have q1' : ¬ 16 ≤ x.t := by omega
 by_cases q2 : Lim3 x.l0 x.l1 x.l2
 case neg =>
  have e := chk_n (p := PtOk x) (fun o => q2 o.li)
  have q2' := decide_eq_false q2
  simp only [↓zp, zv, seval, z1, z2, q1', m1, lm, q2', Bool.not_false, e, frzI]
  done
 have q2' := decide_eq_true q2
 by_cases q3 : chkB x.own = 0
 case neg =>
  have e := chk_n (p := PtOk x) (fun o => q3 o.ow)
  simp only [↓zp, zv, seval, z1, z2, q1', m1, lm, q2', m2, bk, q3, not_false_eq_true, e, frzI]
  done
 have q3' := eq_true q3
 by_cases q5 : TbOk x.us
 case neg =>
  have e := chk_n (p := PtOk x) (fun o => q5 o.us)
  have e5 := chk_n q5
  simp only [↓zp, zv, seval, z1, z2, q1', m1, lm, q2', m2, bk, q3', not_true, m3, tu, e5, e, frzI]
  done
 have e5 := chk_y q5
 by_cases q6 : TbOk x.en
 case neg =>
  have e := chk_n (p := PtOk x) (fun o => q6 o.en)
  have e6 := chk_n q6
  simp only [↓zp, zv, seval, z1, z2, q1', m1, lm, q2', m2, bk, q3', not_true, m3, tu, e5, te, e6, e, frzI]
  done
 have e6 := chk_y q6
 simp only [encT] at ku
 simp only [↓zp, zv, seval, z1, z2, q1', m1, lm, q2', m2, bk, q3', not_true, m3, tu, e5, te, e6, m4, ku, rep9]
 generalize hS : Tr.set _ 49 _ = S
 have s1 : Slots.at S 1 = .ptr g.nx 0 := by rw [← hS]; simp only [zs, seval]
 have s2 : Slots.at S 2 = .ptr (g.nx + 1) 0 := by rw [← hS]; simp only [zs, seval]
 have s3 : Slots.at S 3 = .ptr (g.nx + 2) 0 := by rw [← hS]; simp only [zs, seval]
 have s49 : Slots.at S 49 = .fn c5 [.iptr (encT x.us)] := by rw [← hS]; simp only [zs, seval, encT]
 clear hS
 generalize hH : Heap.set (Heap.new _ _) _ _ = H
 have hp : PcH x t1 t2 g.nx H := by
  rw [← hH]
  refine ⟨?_, ?_, ?_, ?_, ?_⟩
  ·simp only [Heap.set_lo, Heap.new_lo]; omega
  ·simp only [Heap.set_nx, Heap.new_nx]; omega
  ·simp only [↓zp, zv, seval, encP]
  ·simp only [↓zp, zv, seval]
  ·simp only [↓zp, zv, seval, lim3]
 clear hH
 obtain ⟨v, h', e, r⟩ := pc_loop1 (t3 := t3) h5 x q5 s1 s2 s3 hp
 have hnx := hp.nx
 rcases r with ⟨r1, r2, r3, r4⟩ | ⟨r1, r2, r3, r4⟩
 case inr =>
  refine wp_rng (f := .t 49) s49 ⟨v, h', e, 2, some .ret, S, _, _, _, r1, by decide, ?_⟩
  have e := chk_n (p := PtOk x) (fun o => r4 ⟨o.ol, o.ku⟩)
  have g1 := r3.h1
  have ⟨y1, y2⟩ : (¬ g.nx + 1 = H.nx) ∧ (¬ g.nx = H.nx) := by omega
  simp only [↓zp, zv, seval, s2, g1, y1, y2, e, frzI]
  done
 refine wp_rng (f := .t 49) s49 ⟨v, h', e, 0, none, S, _, _, _, r1, by decide, ?_⟩
 clear e
 obtain ⟨H2, hH2⟩ : ∃ H2, h'.set H.nx .dead = H2 := ⟨_, rfl⟩
 have hp2 : PcH x t1 t2 g.nx H2 := by
  rw [← hH2]
  refine ⟨?_, ?_, ?_, ?_, ?_⟩
  ·simp only [Heap.set_lo]; exact r3.lo
  ·simp only [Heap.set_nx]; exact r3.nx
  ·rw [Heap.get_set, if_neg (by omega)]; exact r3.h0
  ·rw [Heap.get_set, if_neg (by omega)]; exact r3.h1
  ·rw [Heap.get_set, if_neg (by omega)]; exact r3.h2
 rw [hH2]
 clear hH2 hp hnx r1 r2 r3 s49
 have g0 := hp2.h0
 simp only [encP] at g0
 simp only [encT] at ke
 simp only [↓zp, zv, seval, s1, s2, s3, g0, m4, ke]
 generalize hS : Tr.set S 58 _ = S1
 have w1 : Slots.at S1 1 = .ptr g.nx 0 := by rw [← hS]; simp only [zs, seval, s1]
 have w2 : Slots.at S1 2 = .ptr (g.nx + 1) 0 := by rw [← hS]; simp only [zs, seval, s2]
 have w3 : Slots.at S1 3 = .ptr (g.nx + 2) 0 := by rw [← hS]; simp only [zs, seval, s3]
 clear hS
 generalize hS : Tr.set _ 60 _ = S2
 have s1 : Slots.at S2 1 = .ptr g.nx 0 := by rw [← hS]; simp only [zs, seval, w1]
 have s2 : Slots.at S2 2 = .ptr (g.nx + 1) 0 := by rw [← hS]; simp only [zs, seval, w2]
 have s3 : Slots.at S2 3 = .ptr (g.nx + 2) 0 := by rw [← hS]; simp only [zs, seval, w3]
 have s60 : Slots.at S2 60 = .fn c5 [.iptr (encT x.en)] := by rw [← hS]; simp only [zs, seval, encT]
 clear hS w1 w2 w3
 obtain ⟨v, h', e, r⟩ := pc_loop2 (t3 := t3) h5 x q6 s1 s2 s3 hp2
 have hnx := hp2.nx
 rcases r with ⟨r1, r2, r3, r5⟩ | ⟨r1, r2, r3, r5⟩
 case inr =>
  refine wp_rng (f := .t 60) s60 ⟨v, h', e, 2, some .ret, S2, _, _, _, r1, by decide, ?_⟩
  have e := chk_n (p := PtOk x) (fun o => r5 ⟨o.ol, o.ke⟩)
  have g1 := r3.h1
  have ⟨y1, y2⟩ : (¬ g.nx + 1 = H2.nx) ∧ (¬ g.nx = H2.nx) := by omega
  simp only [↓zp, zv, seval, s2, g1, y1, y2, e, frzI]
  done
 refine wp_rng (f := .t 60) s60 ⟨v, h', e, 0, none, S2, _, _, _, r1, by decide, ?_⟩
 clear e
 obtain ⟨H3, hH3⟩ : ∃ H3, h'.set H2.nx .dead = H3 := ⟨_, rfl⟩
 have hp3 : PcH x t1 t2 g.nx H3 := by
  rw [← hH3]
  refine ⟨?_, ?_, ?_, ?_, ?_⟩
  ·simp only [Heap.set_lo]; exact r3.lo
  ·simp only [Heap.set_nx]; exact r3.nx
  ·rw [Heap.get_set, if_neg (by omega)]; exact r3.h0
  ·rw [Heap.get_set, if_neg (by omega)]; exact r3.h1
  ·rw [Heap.get_set, if_neg (by omega)]; exact r3.h2
 rw [hH3]
 clear hH3 hp2 hnx r1 r2 r3 s60 H2 g0
 have g0 := hp3.h0
 have g1 := hp3.h1
 have g2 := hp3.h2
 have l3 := hp3.lo
 have z1 : ¬ g.nx + 1 < H3.lo := by omega
 simp only [encP, lim3] at g0 g2
 by_cases q4 : x.own.l = x.l0
 case neg =>
  have e := chk_n (p := PtOk x) (fun o => q4 o.ol)
  have q4' := decide_eq_false q4
  simp only [↓zp, zv, seval, s1, s2, s3, g0, g1, g2, z1, eq9l, and_self, and_true, q4', e, frzI]
  done
 have q4' := decide_eq_true q4
 by_cases q9 : 8 < (x.rev.l.length : Int)
 ·have e := chk_n (p := PtOk x) (fun o => by have := o.rl; omega)
  simp only [↓zp, zv, seval, s1, s2, s3, g0, g1, g2, z1, eq9l, and_self, and_true, q4', q9, e, frzI]
  done
 simp only [↓zp, zv, seval, s1, s2, s3, g0, g1, g2, z1, eq9l, and_self, and_true, q4', q9]
 generalize hS : Tr.set _ 86 _ = S
 have b1 : Slots.at S 1 = .ptr g.nx 0 := by rw [← hS]; simp only [zs, seval, s1]
 have b2 : Slots.at S 2 = .ptr (g.nx + 1) 0 := by rw [← hS]; simp only [zs, seval, s2]
 have b84 : Slots.at S 84 = x.rev.v e32 := by rw [← hS]; simp only [zs, seval]
 have b85 : Slots.at S 85 = .int .i64 (x.rev.l.length : Int) := by rw [← hS]; simp only [zs, seval]
 have b86 : Slots.at S 86 = .int .i64 ((0 : Nat) : Int) := by rw [← hS]; simp only [zs, seval] <;> rfl
 clear hS
 refine loop_ind (fun m s h => invPC x t1 t2 g.nx H3 m s h) ?_ x.rev.l.length ⟨0, by omega, by omega, b1, b2, b84, b85, b86, rfl, fun _ _ hj => by omega⟩
 clear b1 b2 b84 b85 b86 s1 s2 s3
 rintro m s h ⟨k, hk, hm, c1', c2', c84, c85, c86, rfl, hinc⟩
 by_cases hlt : k < x.rev.l.length
 case neg =>
  have hlt' : ¬ ((k : Int) < (x.rev.l.length : Int)) := by omega
  have e := chk_y (p := PtOk x) ⟨q1, q2, q3, q4, q5, q6, r4, r5, by omega, fun i h => hinc i h (by omega)⟩
  simp only [↓zp, zv, seval, c1', c2', c84, c85, c86, g1, z1, hlt', e, frzI]
  done
 have hlt' : (k : Int) < (x.rev.l.length : Int) := by omega
 have ws := wr_succ (k := k) (by omega)
 have ia2 : ∀ h, r_ia 1 (x.rev.v e32) (.int .i64 (k : Int)) h = some (.iptr (.int .u32 x.rev.l[k] :: (x.rev.l.drop (k + 1)).flatMap e32), h) := fun h => by rw [r_ia_v e32_len (by decide) hlt rfl]; rfl
 by_cases hz : (0 : Int) < (k : Int)
 case neg =>
  obtain rfl : k = 0 := by omega
  simp only [↓zp, zz, zy, zq, Nat.reduceEqDiff, Nat.reduceAdd, Nat.reduceSub, Nat.reduceMul, Nat.reduceLT, Nat.reduceLeDiff, Int.reduceLT, Int.reduceLE, Int.reduceEq, Int.reduceAdd, Int.reduceNeg, reduceIte, reduceCtorEq, c1', c2', c84, c85, c86, g0, hlt', ia2, hz, ws]
  exact ⟨_, by omega, 0 + 1, by omega, rfl, by simp only [zs, seval, c1'], by simp only [zs, seval, c2'], by simp only [zs, seval, c84], by simp only [zs, seval, c85], by simp only [zs, seval], rfl, fun i h hi => by omega⟩
 have hk' : k - 1 < x.rev.l.length := by omega
 have wp1 := wr_pred (k := k) (by omega) (by omega)
 have ia1 : ∀ h, r_ia 1 (x.rev.v e32) (.int .i64 ((k - 1 : Nat) : Int)) h = some (.iptr (.int .u32 x.rev.l[k - 1] :: (x.rev.l.drop (k - 1 + 1)).flatMap e32), h) := fun h => by rw [r_ia_v e32_len (by decide) hk' rfl]; rfl
 by_cases ql : x.rev.l[k] ≤ x.rev.l[k - 1]
 ·have e := chk_n (p := PtOk x) (fun o => by
   have := o.rs (k - 1) (by omega)
   have e : k - 1 + 1 = k := by omega
   simp only [e] at this
   omega)
  simp only [↓zp, zv, seval, c1', c2', c84, c85, c86, g0, g1, z1, hlt', ia2, hz, wp1, ia1, ql, e, frzI]
  done
 ·simp only [↓zp, zv, seval, c1', c2', c84, c85, c86, g0, hlt', ia2, hz, wp1, ia1, ql, ws]
  refine ⟨_, by omega, k + 1, by omega, rfl, by simp only [zs, seval, c1'], by simp only [zs, seval, c2'], by simp only [zs, seval, c84], by simp only [zs, seval, c85], by simp only [zs, seval], rfl, fun i h hi => ?_⟩
  rcases Nat.lt_or_ge (i + 1) k with r | r
  ·exact hinc i h r
  ·obtain rfl : k = i + 1 := by omega
   simp only [Nat.add_sub_cancel] at ql
   omega
end
end
section
open Go Go.VE Classical
structure RgP (l : List Part) : Prop where
 ok : ∀ i (h : i < l.length), PtOk l[i]
 up : ∀ i (h : i + 1 < l.length), l[i].t < l[i + 1].t
noncomputable def rgv (l : List Part) : Int := if 8 < l.length then 4 else chk (RgP l)
theorem rgv_0 {l : List Part} (h : rgv l = 0) : l.length ≤ 8 ∧ RgP l := by
 unfold rgv at h
 by_cases q : 8 < l.length
 ·rw [if_pos q] at h; cases h
 ·rw [if_neg q] at h
  refine ⟨by omega, ?_⟩
  by_cases q2 : RgP l
  ·exact q2
  ·rw [chk_n q2] at h; cases h
theorem frzTIB {h : Heap} {b : Nat} {k : IntKind} {x : Int} {y : Bool} : frz frzFuel h b false (.tup [.int k x, .bool y]) = some (.tup [.int k x, .bool y]) := rfl
theorem frzTII {h : Heap} {b : Nat} {k k' : IntKind} {x y : Int} : frz frzFuel h b false (.tup [.int k x, .int k' y]) = some (.tup [.int k x, .int k' y]) := rfl
section
variable {vp : Nat → Option VFn}
def invRG (ps : Sl Part) (lo : Nat) (m : Nat) (s : Slots) (h : Heap) : Prop :=
 ∃ k, k ≤ ps.l.length ∧ m = ps.l.length - k ∧ s.at 0 = ps.v encP ∧ s.at 8 = ps.v encP ∧ s.at 9 = .int .i64 (ps.l.length : Int) ∧ s.at 10 = .int .i64 (k : Int) ∧ h.lo = lo ∧ lo ≤ h.nx ∧ (∀ i (h : i < ps.l.length), i < k → PtOk ps.l[i]) ∧ ∀ i (h : i + 1 < ps.l.length), i + 1 < k → ps.l[i].t < ps.l[i + 1].t
theorem rgC_spec {f c1 t1 : Nat} (hf : vp f = some (Zzbj c1 t1)) (m1 : modeOf vp c1 = some 1) (pk : ∀ (x : Part) (h : Heap), callRes vp c1 [.agg (encP x)] h = some (.int .i64 (chk (PtOk x)), h))
  (ps : Sl Part) (h : Heap) : callRes vp f [ps.v encP] h = some (.int .i64 (rgv ps.l), h) := by
 refine res_pure hf rfl rfl (fun g hg => ?_)
 have hlo := hlo hg
 unfold Zzbj
 by_cases q1 : 8 < (ps.l.length : Int)
 ·have e : rgv ps.l = 4 := by unfold rgv; rw [if_pos (by omega)]
  simp only [↓zp, zv, seval, q1, e, frzI]
 have er : rgv ps.l = chk (RgP ps.l) := by unfold rgv; rw [if_neg (by omega)]
 rw [er]
 simp only [↓zp, zv, seval, q1]
 generalize hS : Tr.set _ 10 _ = S
 have b0 : Slots.at S 0 = ps.v encP := by rw [← hS]; simp only [zs, seval]
 have b8 : Slots.at S 8 = ps.v encP := by rw [← hS]; simp only [zs, seval]
 have b9 : Slots.at S 9 = .int .i64 (ps.l.length : Int) := by rw [← hS]; simp only [zs, seval]
 have b10 : Slots.at S 10 = .int .i64 ((0 : Nat) : Int) := by rw [← hS]; simp only [zs, seval] <;> rfl
 clear hS
 refine loop_ind (fun m s h => invRG ps g.lo m s h) ?_ ps.l.length ⟨0, by omega, by omega, b0, b8, b9, b10, rfl, by omega, fun _ _ hj => by omega, fun _ _ hj => by omega⟩
 clear b0 b8 b9 b10
 rintro m s h ⟨k, hk, hm, c0, c8, c9, c10, hl, hx, i1, i2⟩
 by_cases hlt : k < ps.l.length
 case neg =>
  have hlt' : ¬ ((k : Int) < (ps.l.length : Int)) := by omega
  have e := chk_y (p := RgP ps.l) ⟨fun i h => i1 i h (by omega), fun i h => i2 i h (by omega)⟩
  simp only [↓zp, zv, seval, c0, c8, c9, c10, hlt', e, frzI]
  done
 have hlt' : (k : Int) < (ps.l.length : Int) := by omega
 have hn : ¬ h.nx < h.lo := by omega
 have ws := wr_succ (k := k) (by omega)
 have ia1 := fun h => r_ia_v (h := h) (c := ps) encP_len (by decide) hlt rfl
 have pk := fun h => pk ps.l[k] h
 simp only [encP] at ia1 pk
 by_cases qp : PtOk ps.l[k]
 case neg =>
  have e := chk_n (p := RgP ps.l) (fun o => qp (o.ok k hlt))
  have e1 := chk_n qp
  simp only [↓zp, zv, seval, c0, c8, c9, c10, hlt', hn, ia1, m1, pk, e1, e, frzI]
  done
 have e1 := chk_y qp
 have a1 : ∀ i (h : i < ps.l.length), i < k + 1 → PtOk ps.l[i] := fun i h hi => by
  rcases Nat.lt_or_ge i k with r | r
  ·exact i1 i h r
  ·obtain rfl : i = k := by omega
   exact qp
 by_cases hz : (0 : Int) < (k : Int)
 case neg =>
  obtain rfl : k = 0 := by omega
  simp only [↓zp, zz, zy, zq, Nat.reduceEqDiff, Nat.reduceAdd, Nat.reduceSub, Nat.reduceMul, Nat.reduceLT, Nat.reduceLeDiff, Int.reduceLT, Int.reduceLE, Int.reduceEq, Int.reduceAdd, Int.reduceNeg, reduceIte, reduceCtorEq, c0, c8, c9, c10, hlt', hn, ia1, m1, pk, e1, hz, ws]
  exact ⟨_, by omega, 0 + 1, by omega, rfl, by simp only [zs, seval, c0], by simp only [zs, seval, c8], by simp only [zs, seval, c9], by simp only [zs, seval], by simp only [Heap.set_lo, Heap.new_lo]; exact hl, by simp only [Heap.set_nx, Heap.new_nx]; omega, a1, fun i h hi => by omega⟩
 have hk' : k - 1 < ps.l.length := by omega
 have wp1 := wr_pred (k := k) (by omega) (by omega)
 have ia2 : ∀ h, r_ia 42 (ps.v encP) (.int .i64 ((k - 1 : Nat) : Int)) h = some (.iptr (encP ps.l[k - 1] ++ (ps.l.drop (k - 1 + 1)).flatMap encP), h) := fun h => r_ia_v encP_len (by decide) hk' rfl
 simp only [encP] at ia2
 by_cases ql : ps.l[k].t ≤ ps.l[k - 1].t
 ·have e := chk_n (p := RgP ps.l) (fun o => by
   have := o.up (k - 1) (by omega)
   have e : k - 1 + 1 = k := by omega
   simp only [e] at this
   omega)
  simp only [↓zp, zv, seval, c0, c8, c9, c10, hlt', hn, ia1, m1, pk, e1, hz, wp1, ia2, ql, e, frzI]
  done
 ·simp only [↓zp, zv, seval, c0, c8, c9, c10, hlt', hn, ia1, m1, pk, e1, hz, wp1, ia2, ql, ws]
  refine ⟨_, by omega, k + 1, by omega, rfl, by simp only [zs, seval, c0], by simp only [zs, seval, c8], by simp only [zs, seval, c9], by simp only [zs, seval], by simp only [Heap.set_lo, Heap.new_lo]; exact hl, by simp only [Heap.set_nx, Heap.new_nx]; omega, a1, fun i h hi => ?_⟩
  rcases Nat.lt_or_ge (i + 1) k with r | r
  ·exact i2 i h r
  ·obtain rfl : k = i + 1 := by omega
   simp only [Nat.add_sub_cancel] at ql
   omega
def invRR (ps : Sl Part) (H : Heap) (m : Nat) (s : Slots) (h : Heap) : Prop :=
 ∃ k, k ≤ ps.l.length ∧ m = ps.l.length - k ∧ s.at 0 = ps.v encP ∧ s.at 3 = .int .i64 (k : Int) ∧ h = H ∧ (∀ i (h : i < ps.l.length), i < k → PtOk ps.l[i]) ∧ ∀ i (h : i + 1 < ps.l.length), i + 1 < k → ps.l[i].t < ps.l[i + 1].t
theorem rgR_spec {f c1 : Nat} (hf : vp f = some (Zzek c1)) (m1 : modeOf vp c1 = some 1) (pk : ∀ (x : Part) (h : Heap), callRes vp c1 [.agg (encP x)] h = some (.int .i64 (chk (PtOk x)), h))
  (ps : Sl Part) (h : Heap) : callRes vp f [ps.v encP] h = some (.int .i64 (rgv ps.l), h) := by
 refine res_pure hf rfl rfl (fun g hg => ?_)
 unfold Zzek
 by_cases q1 : 8 < (ps.l.length : Int)
 ·have e : rgv ps.l = 4 := by unfold rgv; rw [if_pos (by omega)]
  simp only [↓zp, zv, seval, q1, e, frzI]
 have er : rgv ps.l = chk (RgP ps.l) := by unfold rgv; rw [if_neg (by omega)]
 rw [er]
 simp only [↓zp, zv, seval, q1]
 generalize hS : Tr.set _ 3 _ = S
 have b0 : Slots.at S 0 = ps.v encP := by rw [← hS]; simp only [zs, seval]
 have b3 : Slots.at S 3 = .int .i64 ((0 : Nat) : Int) := by rw [← hS]; simp only [zs, seval] <;> rfl
 clear hS
 refine loop_ind (fun m s h => invRR ps g m s h) ?_ ps.l.length ⟨0, by omega, by omega, b0, b3, rfl, fun _ _ hj => by omega, fun _ _ hj => by omega⟩
 clear b0 b3
 rintro m s h ⟨k, hk, hm, c0, c3, rfl, i1, i2⟩
 by_cases hlt : k < ps.l.length
 case neg =>
  have hlt' : ¬ ((k : Int) < (ps.l.length : Int)) := by omega
  have e := chk_y (p := RgP ps.l) ⟨fun i h => i1 i h (by omega), fun i h => i2 i h (by omega)⟩
  simp only [↓zp, zv, seval, c0, c3, hlt', e, frzI]
  done
 have hlt' : (k : Int) < (ps.l.length : Int) := by omega
 have ws := wr_succ (k := k) (by omega)
 have ia1 := fun h => r_ia_v (h := h) (c := ps) encP_len (by decide) hlt rfl
 have pk := fun h => pk ps.l[k] h
 simp only [encP] at ia1 pk
 by_cases qp : PtOk ps.l[k]
 case neg =>
  have e := chk_n (p := RgP ps.l) (fun o => qp (o.ok k hlt))
  have e1 := chk_n qp
  simp only [↓zp, zv, seval, c0, c3, hlt', ia1, m1, pk, e1, e, frzI]
  done
 have e1 := chk_y qp
 have a1 : ∀ i (h : i < ps.l.length), i < k + 1 → PtOk ps.l[i] := fun i h hi => by
  rcases Nat.lt_or_ge i k with r | r
  ·exact i1 i h r
  ·obtain rfl : i = k := by omega
   exact qp
 by_cases hz : (0 : Int) < (k : Int)
 case neg =>
  obtain rfl : k = 0 := by omega
  simp only [↓zp, zz, zy, zq, Nat.reduceEqDiff, Nat.reduceAdd, Nat.reduceSub, Nat.reduceMul, Nat.reduceLT, Nat.reduceLeDiff, Int.reduceLT, Int.reduceLE, Int.reduceEq, Int.reduceAdd, Int.reduceNeg, reduceIte, reduceCtorEq, c0, c3, hlt', ia1, m1, pk, e1, hz, ws]
  exact ⟨_, by omega, 0 + 1, by omega, rfl, by simp only [zs, seval, c0], by simp only [zs, seval], rfl, a1, fun i h hi => by omega⟩
 have hk' : k - 1 < ps.l.length := by omega
 have wp1 := wr_pred (k := k) (by omega) (by omega)
 have ia2 : ∀ h, r_ia 42 (ps.v encP) (.int .i64 ((k - 1 : Nat) : Int)) h = some (.iptr (encP ps.l[k - 1] ++ (ps.l.drop (k - 1 + 1)).flatMap encP), h) := fun h => r_ia_v encP_len (by decide) hk' rfl
 simp only [encP] at ia2
 by_cases ql : ps.l[k].t ≤ ps.l[k - 1].t
 ·have e := chk_n (p := RgP ps.l) (fun o => by
   have := o.up (k - 1) (by omega)
   have e : k - 1 + 1 = k := by omega
   simp only [e] at this
   omega)
  simp only [↓zp, zv, seval, c0, c3, hlt', ia1, m1, pk, e1, hz, wp1, ia2, ql, e, frzI]
  done
 ·simp only [↓zp, zv, seval, c0, c3, hlt', ia1, m1, pk, e1, hz, wp1, ia2, ql, ws]
  refine ⟨_, by omega, k + 1, by omega, rfl, by simp only [zs, seval, c0], by simp only [zs, seval], rfl, a1, fun i h hi => ?_⟩
  rcases Nat.lt_or_ge (i + 1) k with r | r
  ·exact i2 i h r
  ·obtain rfl : k = i + 1 := by omega
   simp only [Nat.add_sub_cancel] at ql
   omega
def isT (t : Int) (x : Part) : Bool := decide (x.t = t)
def invAtP (ps : Sl Part) (t : Int) (H : Heap) (m : Nat) (s : Slots) (h : Heap) : Prop :=
 ∃ k, k ≤ ps.l.length ∧ m = ps.l.length - k ∧ s.at 0 = ps.v encP ∧ s.at 1 = .int .u32 t ∧ s.at 5 = .int .i64 (k : Int) ∧ h = H ∧ ∀ i (h : i < ps.l.length), i < k → isT t ps.l[i] = false
theorem rAt_spec {f : Nat} (hf : vp f = some Zzej) (ps : Sl Part) (hn : ps.l.length ≤ 100000) (t : Int) (h : Heap) : callRes vp f [ps.v encP, .int .u32 t] h = some (.int .i64 (fidx (isT t) ps.l), h) := by
 refine res_pure hf rfl rfl (fun g hg => ?_)
 unfold Zzej
 simp only [↓zp, zv, seval]
 generalize hS : Tr.set _ 5 _ = S
 have b0 : Slots.at S 0 = ps.v encP := by rw [← hS]; simp only [zs, seval]
 have b1 : Slots.at S 1 = .int .u32 t := by rw [← hS]; simp only [zs, seval]
 have b5 : Slots.at S 5 = .int .i64 ((0 : Nat) : Int) := by rw [← hS]; simp only [zs, seval] <;> rfl
 clear hS
 refine loop_ind (fun m s h => invAtP ps t g m s h) ?_ ps.l.length ⟨0, by omega, by omega, b0, b1, b5, rfl, fun _ _ hj => by omega⟩
 clear b0 b1 b5
 rintro m s h ⟨k, hk, hm, c0, c1, c5, rfl, hinc⟩
 by_cases hlt : k < ps.l.length
 case neg =>
  have hlt' : ¬ ((k : Int) < (ps.l.length : Int)) := by omega
  have e := fidx_none (q := isT t) (l := ps.l) (fun j hj => hinc j hj (by omega))
  simp only [↓zp, zv, seval, c0, c1, c5, hlt', e, frzI]
  done
 have hlt' : (k : Int) < (ps.l.length : Int) := by omega
 have ws := wr_succ (k := k) (by omega)
 have ia1 := fun h => r_ia_v (h := h) (c := ps) encP_len (by decide) hlt rfl
 simp only [encP] at ia1
 by_cases q : ps.l[k].t = t
 ·have e := fidx_at (q := isT t) hlt (decide_eq_true q) (fun j hj hjk => hinc j hj hjk)
  have q' := eq_true q
  simp only [↓zp, zv, seval, c0, c1, c5, hlt', ia1, q', e, frzI]
  done
 ·simp only [↓zp, zv, seval, c0, c1, c5, hlt', ia1, q, ws]
  refine ⟨_, by omega, k + 1, by omega, rfl, by simp only [zs, seval, c0], by simp only [zs, seval, c1], by simp only [zs, seval], rfl, fun i h hi => ?_⟩
  rcases Nat.lt_or_ge i k with r | r
  ·exact hinc i h r
  ·obtain rfl : i = k := by omega
   exact decide_eq_false q
end
end
section
open Go Go.VE Classical
section
variable {vp : Nat → Option VFn}
theorem isn_spec {f : Nat} (hf : vp f = some Zzaj) (x : Int) (h : Heap) : callRes vp f [.int .u32 x] h = some (.bool false, h) := by
 refine res_pure hf rfl rfl (fun g hg => ?_)
 unfold Zzaj
 simp only [↓zp, zv, seval, not_true, frzB]
def cmpv (x y : Int) : Int := if x < y then -1 else if y < x then 1 else 0
theorem cmp_spec {f c1 : Nat} (hf : vp f = some (Zzai c1)) (h1 : vp c1 = some Zzaj) (x y : Int) (h : Heap) : callRes vp f [.int .u32 x, .int .u32 y] h = some (.int .i64 (cmpv x y), h) := by
 have m1 : modeOf vp c1 = some 1 := mo h1 rfl rfl
 have k := fun x h => isn_spec h1 x h
 refine res_pure hf rfl rfl (fun g hg => ?_)
 unfold Zzai cmpv
 by_cases q1 : x < y
 ·simp only [↓zp, zv, seval, m1, k, q1, frzI]
 by_cases q2 : y < x
 ·simp only [↓zp, zv, seval, m1, k, q1, q2, frzI]
 ·simp only [↓zp, zv, seval, m1, k, q1, q2, frzI]
theorem ffn1_spec {f c1 c2 : Nat} (hf : vp f = some (Zzbp c1)) (h1 : vp c1 = some (Zzai c2)) (h2 : vp c2 = some Zzaj) (x : Part) (y : Int) (h : Heap) : callRes vp f [.agg (encP x), .int .u32 y] h = some (.int .i64 (cmpv x.t y), h) := by
 have m1 : modeOf vp c1 = some 1 := mo h1 rfl rfl
 have k := fun x y h => cmp_spec h1 h2 x y h
 refine res_pure hf rfl rfl (fun g hg => ?_)
 unfold Zzbp encP
 simp only [↓zp, zv, seval, m1, k, frzI]
def invBs (ps : Sl Part) (F : V) (t : Int) (H : Heap) (m : Nat) (s : Slots) (h : Heap) : Prop :=
 ∃ i j, i ≤ j ∧ j ≤ ps.l.length ∧ m = j - i ∧ s.at 0 = ps.v encP ∧ s.at 1 = .int .u32 t ∧ s.at 2 = F ∧ s.at 8 = .int .i64 (ps.l.length : Int) ∧ s.at 9 = .int .i64 (i : Int) ∧ s.at 10 = .int .i64 (j : Int) ∧ h = H ∧ (∀ k (hk : k < ps.l.length), k < i → ps.l[k].t < t) ∧ ∀ k (hk : k < ps.l.length), j ≤ k → t ≤ ps.l[k].t
theorem bsf_spec {f c1 c2 c3 : Nat} (hf : vp f = some Zzbs) (h1 : vp c1 = some (Zzbp c2)) (h2 : vp c2 = some (Zzai c3)) (h3 : vp c3 = some Zzaj)
  (ps : Sl Part) (t : Int) (h : Heap) (hn : ps.l.length < 1000000) (hs : ∀ k (hk : k + 1 < ps.l.length), ps.l[k].t < ps.l[k + 1].t) :
  ∃ i : Nat, ∃ fd : Bool, callRes vp f [ps.v encP, .int .u32 t, .fn c1 []] h = some (.tup [.int .i64 (i : Int), .bool fd], h) ∧ i ≤ ps.l.length ∧ (∀ k (hk : k < ps.l.length), k < i → ps.l[k].t < t) ∧ (∀ k (hk : k < ps.l.length), i ≤ k → t ≤ ps.l[k].t) ∧ (fd = true ↔ ∃ hi : i < ps.l.length, ps.l[i].t = t) := by
 have kf : ∀ (x : Part) (h : Heap), callVRes vp (.fn c1 []) [.agg (encP x), .int .u32 t] h = some (.int .i64 (cmpv x.t t), h) := fun x h => callVRes_fn (ffn1_spec h1 h2 h3 x t h)
 have hmono : ∀ (d a : Nat) (ha : a < ps.l.length) (hb : a + d < ps.l.length), ps.l[a].t ≤ ps.l[a + d].t := by
  intro d
  induction d with
  | zero => intro a _ _; exact Int.le_refl _
  | succ d ih =>
   intro a ha hb
   have e1 := ih a ha (by omega)
   have e2 := hs (a + d) (by omega)
   have e3 : a + (d + 1) = a + d + 1 := by omega
   simp only [e3]
   omega
 suffices hgoal : ∃ r, callRes vp f [ps.v encP, .int .u32 t, .fn c1 []] h = some (r, h) ∧ ∃ i : Nat, ∃ fd : Bool, r = .tup [.int .i64 (i : Int), .bool fd] ∧ i ≤ ps.l.length ∧ (∀ k (hk : k < ps.l.length), k < i → ps.l[k].t < t) ∧ (∀ k (hk : k < ps.l.length), i ≤ k → t ≤ ps.l[k].t) ∧ (fd = true ↔ ∃ hi : i < ps.l.length, ps.l[i].t = t) by
  obtain ⟨r, e, i, fd, rfl, k⟩ := hgoal
  exact ⟨i, fd, e, k⟩
 refine res_pure_ex hf rfl rfl (fun g hg => ?_)
 unfold Zzbs
 simp only [↓zp, zv, seval]
 generalize hS : Tr.set _ 10 _ = S
 have b0 : Slots.at S 0 = ps.v encP := by rw [← hS]; simp only [zs, seval]
 have b1 : Slots.at S 1 = .int .u32 t := by rw [← hS]; simp only [zs, seval]
 have b2 : Slots.at S 2 = .fn c1 [] := by rw [← hS]; simp only [zs, seval]
 have b8 : Slots.at S 8 = .int .i64 (ps.l.length : Int) := by rw [← hS]; simp only [zs, seval]
 have b9 : Slots.at S 9 = .int .i64 ((0 : Nat) : Int) := by rw [← hS]; simp only [zs, seval] <;> rfl
 have b10 : Slots.at S 10 = .int .i64 (ps.l.length : Int) := by rw [← hS]; simp only [zs, seval]
 clear hS
 refine loop_ind (fun m s h => invBs ps (.fn c1 []) t g m s h) ?_ ps.l.length ⟨0, ps.l.length, by omega, by omega, by omega, b0, b1, b2, b8, b9, b10, rfl, fun k _ hk => by omega, fun k _ hk => by omega⟩
 clear b0 b1 b2 b8 b9 b10
 rintro m s h ⟨i, j, hij, hj, hm, c0, c1', c2', c8, c9, c10, rfl, hlt, hge⟩
 by_cases q : i < j
 case neg =>
  have q' : ¬ ((i : Int) < (j : Int)) := by omega
  obtain rfl : i = j := by omega
  by_cases q2 : i < ps.l.length
  ·have q2' : (i : Int) < (ps.l.length : Int) := by omega
   have ia1 := fun h => r_ia_v (h := h) (c := ps) encP_len (by decide) q2 rfl
   have kf := fun h => kf ps.l[i] h
   simp only [encP] at ia1 kf
   have gi := hge i q2 (by omega)
   by_cases q3 : ps.l[i].t = t
   ·have e3 : cmpv ps.l[i].t t = 0 := by unfold cmpv; rw [if_neg (by omega), if_neg (by omega)]
    simp only [↓zp, zv, seval, c0, c1', c2', c8, c9, c10, q', q2', ia1, kf, e3, frzTIB]
    exact ⟨i, true, rfl, hj, hlt, hge, by simp [q2, q3]⟩
   ·have e3 : cmpv ps.l[i].t t = 1 := by unfold cmpv; rw [if_neg (by omega), if_pos (by omega)]
    simp only [↓zp, zv, seval, c0, c1', c2', c8, c9, c10, q', q2', ia1, kf, e3, frzTIB]
    exact ⟨i, false, rfl, hj, hlt, hge, by simp [q3]⟩
  ·have q2' : ¬ ((i : Int) < (ps.l.length : Int)) := by omega
   simp only [↓zp, zv, seval, c0, c1', c2', c8, c9, c10, q', q2', frzTIB]
   exact ⟨i, false, rfl, hj, hlt, hge, by simp; omega⟩
 have q' : ((i : Int) < (j : Int)) := by omega
 obtain ⟨mid, hmid⟩ : ∃ mid, mid = (i + j) / 2 := ⟨_, rfl⟩
 have mid1 : i ≤ mid := by omega
 have mid2 : mid < j := by omega
 have w1 : wr .i64 ((i : Int) + (j : Int)) = ((i + j : Nat) : Int) := by rw [wr_i64 (by omega) (by omega)]; omega
 have w2 : wr .u64 ((i + j : Nat) : Int) = ((i + j : Nat) : Int) := wr_ul (by omega)
 have sh : VE.binOp .shr (.int .u64 ((i + j : Nat) : Int)) (.int .u64 1) = some (.int .u64 (mid : Int)) := by
  have := bn_shr (a := i + j) (y := 1) (k := .u64) (by decide)
  rw [hmid]
  exact this
 have w3 : wr .i64 (mid : Int) = (mid : Int) := wr_i64 (by omega) (by omega)
 have hml : mid < ps.l.length := by omega
 have ia1 := fun h => r_ia_v (h := h) (c := ps) encP_len (by decide) hml rfl
 have kf := fun h => kf ps.l[mid] h
 simp only [encP] at ia1 kf
 by_cases q3 : ps.l[mid].t < t
 ·have ws := wr_succ (k := mid) (by omega)
  have e3 : cmpv ps.l[mid].t t = -1 := by unfold cmpv; rw [if_pos q3]
  simp only [↓zp, zv, seval, c0, c1', c2', c8, c9, c10, q', w1, w2, sh, w3, ia1, kf, e3, ws]
  refine ⟨_, ?_, mid + 1, j, by omega, hj, rfl, by simp only [zs, seval, c0], by simp only [zs, seval, c1'], by simp only [zs, seval, c2'], by simp only [zs, seval, c8], by simp only [zs, seval], by simp only [zs, seval, c10], rfl, fun k hk hk2 => ?_, hge⟩
  ·omega
  ·have := hmono (mid - k) k hk (by omega)
   have e : k + (mid - k) = mid := by omega
   simp only [e] at this
   omega
 ·have e3 : ¬ cmpv ps.l[mid].t t < 0 := by
   unfold cmpv
   rw [if_neg q3]
   by_cases q4 : t < ps.l[mid].t
   ·rw [if_pos q4]; omega
   ·rw [if_neg q4]; omega
  simp only [↓zp, zv, seval, c0, c1', c2', c8, c9, c10, q', w1, w2, sh, w3, ia1, kf, e3]
  refine ⟨_, ?_, i, mid, by omega, by omega, rfl, by simp only [zs, seval, c0], by simp only [zs, seval, c1'], by simp only [zs, seval, c2'], by simp only [zs, seval, c8], by simp only [zs, seval, c9], by simp only [zs, seval], rfl, hlt, fun k hk hk2 => ?_⟩
  ·omega
  ·have := hmono (k - mid) mid hml (by omega)
   have e : mid + (k - mid) = k := by omega
   simp only [e] at this
   omega
theorem fnd_t {l : List Part} {t : Int} {i : Nat} {fd : Bool} (hs : ∀ k (hk : k + 1 < l.length), l[k].t < l[k + 1].t) (h1 : ∀ k (hk : k < l.length), k < i → l[k].t < t) (h2 : ∀ k (hk : k < l.length), i ≤ k → t ≤ l[k].t) (h3 : fd = true ↔ ∃ hi : i < l.length, l[i].t = t) :
  (fd = true ∧ fidx (isT t) l = i ∧ i < l.length) ∨ (fd = false ∧ fidx (isT t) l = -1) := by
 have hmono : ∀ (d a : Nat) (ha : a < l.length) (hb : a + d < l.length), l[a].t + d ≤ l[a + d].t := by
  intro d
  induction d with
  | zero => intro a _ _; simp
  | succ d ih =>
   intro a ha hb
   have e1 := ih a ha (by omega)
   have e2 := hs (a + d) (by omega)
   have e3 : a + (d + 1) = a + d + 1 := by omega
   simp only [e3]
   omega
 cases fd with
 | true =>
  obtain ⟨hi, e⟩ := h3.1 rfl
  exact .inl ⟨rfl, fidx_at hi (decide_eq_true e) (fun j hj hji => decide_eq_false (by have := h1 j hj hji; omega)), hi⟩
 | false =>
  refine .inr ⟨rfl, fidx_none (fun j hj => decide_eq_false (fun e => ?_))⟩
  rcases Nat.lt_or_ge j i with r | r
  ·have := h1 j hj r
   omega
  ·have hi : i < l.length := by omega
   have e1 := h2 i hi (by omega)
   have e2 := hmono (j - i) i hi (by omega)
   have e3 : i + (j - i) = j := by omega
   simp only [e3] at e2
   have : l[i].t = t := by omega
   exact Bool.false_ne_true (h3.2 ⟨hi, this⟩)
theorem rfind_spec {f c1 c2 c3 c4 : Nat} (hf : vp f = some (Zzbo c1 c2)) (h1 : vp c1 = some Zzbs) (h2 : vp c2 = some (Zzbp c3)) (h3 : vp c3 = some (Zzai c4)) (h4 : vp c4 = some Zzaj)
  (ps : Sl Part) (t : Int) (h : Heap) (hn : ps.l.length < 1000000) (hs : ∀ k (hk : k + 1 < ps.l.length), ps.l[k].t < ps.l[k + 1].t) :
  ∃ i : Nat, ∃ fd : Bool, callRes vp f [ps.v encP, .int .u32 t] h = some (.tup [.int .i64 (i : Int), .bool fd], h) ∧ i ≤ ps.l.length ∧ ((fd = true ∧ fidx (isT t) ps.l = i ∧ i < ps.l.length) ∨ (fd = false ∧ fidx (isT t) ps.l = -1)) := by
 have m1 : modeOf vp c1 = some 1 := mo h1 rfl rfl
 suffices hgoal : ∃ r, callRes vp f [ps.v encP, .int .u32 t] h = some (r, h) ∧ ∃ i : Nat, ∃ fd : Bool, r = .tup [.int .i64 (i : Int), .bool fd] ∧ i ≤ ps.l.length ∧ ((fd = true ∧ fidx (isT t) ps.l = i ∧ i < ps.l.length) ∨ (fd = false ∧ fidx (isT t) ps.l = -1)) by
  obtain ⟨r, e, i, fd, rfl, k⟩ := hgoal
  exact ⟨i, fd, e, k⟩
 refine res_pure_ex hf rfl rfl (fun g hg => ?_)
 obtain ⟨i, fd, e, hi, k1, k2, k3⟩ := bsf_spec h1 h2 h3 h4 ps t g hn hs
 unfold Zzbo
 simp only [↓zp, zv, seval, m1, e, frzTIB]
 exact ⟨i, fd, rfl, hi, fnd_t hs k1 k2 k3⟩
noncomputable def fndR (l : List Part) (t : Int) : Int × Int := if rgv l = 0 then (if fidx (isT t) l < 0 then (0, 6) else (fidx (isT t) l, 0)) else (0, rgv l)
theorem rFind_spec {f c0 c1 c2 c3 c4 c5 : Nat} (hf : vp f = some (Zzbk c0 c5)) (m0 : modeOf vp c0 = some 1) (ck : ∀ (ps : Sl Part) (h : Heap), callRes vp c0 [ps.v encP] h = some (.int .i64 (rgv ps.l), h))
  (h5 : vp c5 = some (Zzbo c1 c2)) (h1 : vp c1 = some Zzbs) (h2 : vp c2 = some (Zzbp c3)) (h3 : vp c3 = some (Zzai c4)) (h4 : vp c4 = some Zzaj)
  (ps : Sl Part) (t : Int) (h : Heap) : callRes vp f [ps.v encP, .int .u32 t] h = some (.tup [.int .i64 (fndR ps.l t).1, .int .i64 (fndR ps.l t).2], h) := by
 have m5 : modeOf vp c5 = some 1 := mo h5 rfl rfl
 refine res_pure hf rfl rfl (fun g hg => ?_)
 unfold Zzbk fndR
 have ck := fun h => ck ps h
 by_cases q : rgv ps.l = 0
 case neg =>
  simp only [↓zp, zv, seval, m0, ck, q, not_false_eq_true, frzTII]
  done
 obtain ⟨q1, q2⟩ := rgv_0 q
 obtain ⟨i, fd, e, hi, r⟩ := rfind_spec h5 h1 h2 h3 h4 ps t g (by omega) (fun k hk => q2.up k hk)
 have q' := eq_true q
 rcases r with ⟨rfl, r, _⟩ | ⟨rfl, r⟩
 ·have z : ¬ ((i : Int) < 0) := by omega
  simp only [↓zp, zv, seval, m0, ck, q', not_true, m5, e, r, z, frzTII]
 ·simp only [↓zp, zv, seval, m0, ck, q', not_true, m5, e, r, frzTII]
end
end
end Go.VE.LB
