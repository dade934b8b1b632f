/- A part of a proof that a small evaluator of the translated code agrees with the model (part SimC). No statement of the program stands here. -/
import Derived.Test.YtpbggddmfgjmlaaGreatVeSimB
set_option linter.all false
section
namespace Go.VE
section
variable {P : Program} {gl : Nat → Option (List V)} {N B : Nat} {M : Mem} {ρ : Rho} {h : Heap} {w : World} {s : Slots} {a : Act}
theorem HRel.move (hh : HRel P gl B M ρ h w) {b : Nat} {l : Loc} (e : ρ b = some l) (hlv : live h b) (hlo : h.lo ≤ b) (x : Blk) (l2 : Loc) (hl2 : l2.blk = l.blk) {w' : World} {o : Obj} (hw : RowAt w w' l.blk o)
  (hx : BRel P gl M (ρ.add h.nx l2) l2 x (some o)) :
  HRel P gl B M (ρ.add h.nx l2) ((h.set b .dead).new x) w' ∧ Evo M ρ h w M (ρ.add h.nx l2) ((h.set b .dead).new x) w' := by
 have hr := hh.rle l2
 have hbn : b ≠ h.nx := by have := hh.bound b l e; omega
 have old : ∀ c l', ρ.add h.nx l2 c = some l' → c ≠ h.nx → ρ c = some l' := fun c l' e hb => by simpa [Rho.add, hb] using e
 have gt : ∀ c, ((h.set b .dead).new x).get c = if c = h.nx then x else if c = b then .dead else h.get c := fun c => by
  rw [Heap.get_new, Heap.get_set]; rfl
 have lv : ∀ c, c ≠ h.nx → live ((h.set b .dead).new x) c → live h c ∧ c ≠ b := fun c hc q => by
  unfold live at q ⊢
  rw [gt, if_neg hc] at q
  by_cases hcb : c = b
  ·simp [hcb] at q
  ·rw [if_neg hcb] at q; exact ⟨q, hcb⟩
 have hk : l.blk < w.heap.size := hh.blkLt e hlv
 constructor
 ·constructor
  ·intro c l' e'
   by_cases hc : c = h.nx
   ·simp [hc]
   ·have := hh.bound c l' (old c l' e' hc); simp; omega
  ·intro c l' e'
   rw [gt]
   by_cases hc : c = h.nx
   ·subst hc
    rw [Rho.add_same] at e'
    cases e'
    rw [if_pos rfl, hl2, hw.row]
    exact hx
   ·have e2 := old c l' e' hc
    rw [if_neg hc]
    by_cases hcb : c = b
    ·simp [hcb, BRel]
    ·rw [if_neg hcb]
     by_cases hlc : live h c
     ·have hne : l'.blk ≠ l.blk := fun q => hcb (hh.inj c b l' l e2 e hlc hlv q)
      rw [hw.oth _ hne]
      exact BRel.mono (Mle.refl _) hr (hh.blk c l' e2)
     ·simp [live] at hlc
      simp [hlc, BRel]
  ·intro c c' l1 l3 e1 e2 v1 v2 heq
   by_cases hc : c = h.nx <;> by_cases hc' : c' = h.nx
   ·rw [hc, hc']
   ·subst hc
    rw [Rho.add_same] at e1
    cases e1
    obtain ⟨q1, q2⟩ := lv c' hc' v2
    exact absurd (hh.inj c' b l3 l (old c' l3 e2 hc') e q1 hlv (by rw [← heq, hl2])) q2
   ·subst hc'
    rw [Rho.add_same] at e2
    cases e2
    obtain ⟨q1, q2⟩ := lv c hc v1
    exact absurd (hh.inj c b l1 l (old c l1 e1 hc) e q1 hlv (by rw [heq, hl2])) q2
   ·exact hh.inj c c' l1 l3 (old c l1 e1 hc) (old c' l3 e2 hc') (lv c hc v1).1 (lv c' hc' v2).1 heq
  ·intro k cs hm
   obtain ⟨e', fr, hk'⟩ := hh.mem k cs hm
   have hne : k ≠ l.blk := fun q => by have := hh.sep b l e hlv; rw [← q, hm] at this; cases this
   exact ⟨e', fr, by rw [hw.oth _ hne]; exact hk'⟩
  ·intro c l' e' v
   by_cases hc : c = h.nx
   ·subst hc
    rw [Rho.add_same] at e'
    cases e'
    rw [hl2]
    exact hh.sep b l e hlv
   ·exact hh.sep c l' (old c l' e' hc) (lv c hc v).1
  ·intro c l' e' v
   by_cases hc : c = h.nx
   ·subst hc
    rw [Rho.add_same] at e'
    cases e'
    rw [hl2]
    exact hh.base b l e hlv
   ·exact hh.base c l' (old c l' e' hc) (lv c hc v).1
  ·intro c hc
   simp at hc
   have hb := hh.bound b l e
   rw [gt, if_neg (by omega), if_neg (by omega)]
   exact hh.fresh c (by omega)
  ·rw [hw.size]; exact hh.room
  ·have := hh.lonx
   simp
   omega
  ·exact hh.glob
 ·refine ⟨hr, Mle.refl _, rfl, by simp, hw.os, hw.tape, hw.output, by rw [hw.size]; exact Nat.le_refl _, ?_, ?_, ?_, ?_, fun _ _ q => .inl q⟩
  ·intro c l' e' v hc0
   by_cases hc : c = h.nx
   ·subst hc
    rw [Rho.add_same] at e'
    cases e'
    exact .inr ⟨b, l, e, hlv, hlo, hl2.symm⟩
   ·exact .inr ⟨c, l', old c l' e' hc, (lv c hc v).1, hc0, rfl⟩
  ·intro k _ hno
   exact hw.oth k (fun q => hno b l e hlv hlo q.symm)
  ·intro c _ _ hc
   have := hh.lonx
   rw [gt, if_neg (by omega), if_neg (by omega)]
  ·intro c l' e1 e2
   by_cases hc : c = h.nx
   ·omega
   ·rw [old c l' e1 hc] at e2
    cases e2
structure NewCells (P : Program) (w : World) (sz n : Nat) (X : Value) (ys : List Value) : Prop where
 len : ys.length = n * sz
 lenOf : ∀ w' : World, (Builtin.lenOf X).run P w' = .ok n w'
 cells : ∀ w' : World, (∀ k : Nat, w'.heap[k]? = w.heap[k]?) → (Builtin.firstCells sz n X).run P w' = .ok ys.toArray w'
theorem cell_same {w w' : World} (h : ∀ k : Nat, w'.heap[k]? = w.heap[k]?) (ad : Addr) : w'.cell? ad = w.cell? ad := by simp [World.cell?, h]
theorem slice_cells (hh : HRel P gl B M ρ h w) {v : V} {x : Value} (hv : VRel M ρ v x) {sz n : Nat} {cs : List V} (hc : rowOf h sz v = some cs) (hn : lenOf v = some n) :
  ∃ ys, NewCells P w sz n x ys ∧ VRels M ρ cs ys := by
 obtain ⟨ba, cap, row, rfl, k1, k2, k3, k4⟩ := rowOf_rel hh hv hc hn (rowOf_len hc hn)
 refine ⟨row, ⟨k2, fun w' => by simp [Builtin.lenOf], fun w' hw => ?_⟩, k1⟩
 cases ba with
 | none =>
  have h0 := k3 rfl
  subst h0
  have : row = [] := List.eq_nil_of_length_eq_zero (by simpa using k2)
  subst this
  simp [Builtin.firstCells]
 | some ad =>
  exact run_firstCells_some (P := P) w' sz n ad n cap row k2 (fun j u hj => by rw [cell_same hw]; exact k4 ad rfl j u hj)
theorem zeroCells_size (z : Array Value) (n : Nat) : (Builtin.zeroCells z n).size = n * z.size := by simp [Builtin.zeroCells]
theorem grown_row (hh : HRel P gl B M ρ h w) {c : List V} {ys : List Value} (hc : VRels M ρ c ys) (hl : c.length = ys.length) (e : TypeId) {sz need cap : Nat} (hcs : ys.length = need * sz) (hcap : need ≤ cap) (z : Array Value) (hz : z.size = sz) {cur : Array Value}
  (hcur : cur.toList = ys ++ (Builtin.zeroCells z (cap - need)).toList) {o : Tag} (ho : ∀ l : Loc, l.base = 0 → TagR l e o) :
  ∃ ρ', HRel P gl B M ρ' (h.new (.cells c o)) (w.drew.alloc (.cells cur e)) ∧ Evo M ρ h w M ρ' (h.new (.cells c o)) (w.drew.alloc (.cells cur e)) ∧
   VRel M ρ' (.sl h.nx 0 need need sz) (.slice (some ⟨w.heap.size, 0, none⟩) need cap) := by
 have hsize : cur.size = ys.length + (cap - need) * sz := by
  rw [← Array.length_toList, hcur]
  simp [zeroCells_size, hz]
 have hd := hh.drew
 have hr := hd.rle ⟨w.heap.size, 0, c.length, sz, cap - need⟩
 obtain ⟨k1, k2⟩ := hd.new (.cells c o) (.cells cur e) ⟨w.heap.size, 0, c.length, sz, cap - need⟩ rfl (BRel.cells_iff.2 ⟨cur, e, (0, 0), rfl, fun i _ _ q => by simp at q, rfl, by
  rw [List.drop_zero, hcur]
  exact VRels.more _ (VRels.mono (Mle.refl _) hr _ hc), by simp [hsize, hl], ho _ rfl⟩)
 refine ⟨_, k1, (Evo.refl M ρ h w).drew.trans k2, ?_⟩
 simp only [VRel]
 refine ⟨⟨w.heap.size, 0, c.length, sz, cap - need⟩, ⟨w.heap.size, 0, none⟩, cap, Rho.add_same _ _ _, rfl, ?_, Or.inr (by simp), Nat.le_refl _⟩
 unfold capR
 dsimp only
 by_cases q : cap - need = 0
 ·exact .inl ⟨q, by omega⟩
 ·exact .inr (.inr ⟨q, by rw [hl, hcs]; simp, rfl, by omega⟩)
def AppArg (P : Program) (w : World) (u : TypeId) (i : TypeInfo) (z : Value) (n : Nat) (X : Value) (ys : List Value) : Prop :=
 ((P.underlying u = some .string ∨ ∃ e', P.underlying u = some (.slice e')) ∧ NewCells P w i.size n X ys) ∨
 ((∃ k, P.underlying u = some (.int k)) ∧ (∃ k, X = .int k (n : Int)) ∧ n * i.bytes ≤ 140737488355328 ∧ n ≤ 9223372036854775807 ∧ z.cells.size = i.size ∧ i.size ≠ 0 ∧ i.zero = some z ∧ ys = (Builtin.zeroCells z.cells n).toList)
theorem AppArg.len {u : TypeId} {i : TypeInfo} {z : Value} {n : Nat} {X : Value} {ys : List Value} (h : AppArg P w u i z n X ys) : ys.length = n * i.size := by
 rcases h with ⟨_, h⟩ | ⟨_, _, _, _, h1, _, _, h2⟩
 ·exact h.len
 ·rw [h2]; simp [zeroCells_size, h1]
theorem wrap_small {n : Nat} (hn63 : n ≤ 9223372036854775807) : IntKind.i64.wrap (n : Int) = n := by
 have e : (n : Int).bmod 18446744073709551616 = n := by
  rw [Int.bmod_def]
  rw [Int.emod_eq_of_lt (by omega) (by omega)]
  rw [if_pos (by omega)]
 simp only [IntKind.wrap, IntKind.signed, IntKind.bits]
 simp
 omega
theorem append_run_grow_int {t u ty e : TypeId} {i : TypeInfo} {z : Value} (ht : P.underlying t = some (.slice e)) (hi : P.info? e = some i) (hz : i.zero = some z)
  {base : Option Addr} {sLen sCap n : Nat} {X : Value} {olds news : List Value} (ha : (∃ k, P.underlying u = some (.int k)) ∧ (∃ k, X = .int k (n : Int)) ∧ n * i.bytes ≤ 140737488355328 ∧ n ≤ 9223372036854775807 ∧ z.cells.size = i.size ∧ i.size ≠ 0 ∧ i.zero = some z ∧ news = (Builtin.zeroCells z.cells n).toList)
  (hold : ∀ w' : World, (∀ k : Nat, w'.heap[k]? = w.heap[k]?) → (Builtin.firstCells i.size sLen (.slice base sLen sCap)).run P w' = .ok olds.toArray w')
  (hnp : 0 < n) (hg : sCap < sLen + n) (hb : (sLen + n) * i.bytes ≤ 140737488355328) (h63 : sLen + n ≤ 9223372036854775807) :
  (Builtin.append_ #[t, u] ty #[.slice base sLen sCap, X]).run P w = .ok (.slice (some ⟨w.heap.size, 0, none⟩) (sLen + n) (grownCap w (sLen + n) sCap e))
   (w.drew.alloc (.cells (olds.toArray ++ news.toArray ++ Builtin.zeroCells z.cells (grownCap w (sLen + n) sCap e - (sLen + n))) e)) := by
 obtain ⟨⟨k, hu⟩, ⟨k', rfl⟩, hb47, hn63, hzs, hs0, _, rfl⟩ := ha
 have hn' : ¬ (sLen + n ≤ sCap) := by omega
 have h63' : ¬ (9223372036854775807 < ((sLen : Int) + (n : Int))) := by omega
 have h48 := growslice_fits hg hb
 have h48' : ¬ (281474976710656 < Builtin.nextslicecap (sLen + n) sCap * i.bytes) := by omega
 have c2 := hold w.drew (fun _ => rfl)
 have hwrap := wrap_small hn63
 have hb48 : ¬ (281474976710656 < (n : Int) * (i.bytes : Int)) := by
  have : ((n * i.bytes : Nat) : Int) ≤ ((140737488355328 : Nat) : Int) := Int.ofNat_le.2 hb47
  rw [Int.natCast_mul] at this
  omega
 have hneg : ¬ ((n : Int) < 0) := by omega
 have hA : ∀ w' : World, (asInt (.int k' (n : Int))).run P w' = .ok (n : Int) w' := fun _ => rfl
 have hn0 : ¬ (n = 0) := by omega
 simp [Builtin.append_, run_underlying ht, run_underlying hu, sizeOf, typeInfo, hn', h63', h48', Question.forced, c2, newRow, grownCap, zeroValue, hi, hz, hA, hwrap, hb48, hneg, hn0, hs0]
 intro h0
 exact absurd (Nat.mul_eq_zero.1 h0) (by omega)
theorem append_run_room_int {t u ty e : TypeId} {i : TypeInfo} {z : Value} (ht : P.underlying t = some (.slice e)) (hi : P.info? e = some i)
  {base : Option Addr} {sLen sCap n : Nat} {X : Value} {news : List Value} (ha : (∃ k, P.underlying u = some (.int k)) ∧ (∃ k, X = .int k (n : Int)) ∧ n * i.bytes ≤ 140737488355328 ∧ n ≤ 9223372036854775807 ∧ z.cells.size = i.size ∧ i.size ≠ 0 ∧ i.zero = some z ∧ news = (Builtin.zeroCells z.cells n).toList) (hg : sLen + n ≤ sCap) {w' : World}
  (hst : match base with | none => w' = w | some ad => (storeCells (ad.add (sLen * i.size)) news).run P w = .ok () w') :
  (Builtin.append_ #[t, u] ty #[.slice base sLen sCap, X]).run P w = .ok (.slice base (sLen + n) sCap) w' := by
 obtain ⟨⟨k, hu⟩, ⟨k', rfl⟩, hb47, hn63, hzs, hs0, hz, rfl⟩ := ha
 have hwrap := wrap_small hn63
 have hb48 : ¬ (281474976710656 < (n : Int) * (i.bytes : Int)) := by
  have : ((n * i.bytes : Nat) : Int) ≤ ((140737488355328 : Nat) : Int) := Int.ofNat_le.2 hb47
  rw [Int.natCast_mul] at this
  omega
 have hneg : ¬ ((n : Int) < 0) := by omega
 have hA : ∀ w' : World, (asInt (.int k' (n : Int))).run P w' = .ok (n : Int) w' := fun _ => rfl
 by_cases hn0 : n * i.size = 0
 ·have hzc : Builtin.zeroCells z.cells n = #[] := by
   apply Array.eq_empty_of_size_eq_zero
   rw [zeroCells_size, hzs, hn0]
  rw [hzc] at hst
  cases base with
  | none =>
   simp only at hst
   subst hst
   have hn1 : n = 0 ∨ i.size = 0 := Nat.mul_eq_zero.1 hn0
   simp [Builtin.append_, run_underlying ht, run_underlying hu, sizeOf, typeInfo, hg, hi, hA, hwrap, hb48, hneg, hn0]
  | some ad =>
   simp only at hst
   have hn1 : n = 0 ∨ i.size = 0 := Nat.mul_eq_zero.1 hn0
   simp [Builtin.append_, run_underlying ht, run_underlying hu, sizeOf, typeInfo, hg, hi, hA, hwrap, hb48, hneg, hn0, hst]
 ·have hn1 : ¬ (n = 0) := fun q => hn0 (by rw [q]; simp)
  cases base with
  | none =>
   simp only at hst
   subst hst
   simp [Builtin.append_, run_underlying ht, run_underlying hu, sizeOf, typeInfo, hg, hi, hz, hA, hwrap, hb48, hneg, hn0, zeroValue]
  | some ad =>
   simp only at hst
   simp [Builtin.append_, run_underlying ht, run_underlying hu, sizeOf, typeInfo, hg, hi, hz, hA, hwrap, hb48, hneg, hn0, zeroValue, hst]
theorem append_run_grow {t u ty e : TypeId} {i : TypeInfo} {z : Value} (ht : P.underlying t = some (.slice e)) (hi : P.info? e = some i) (hz : i.zero = some z)
  {base : Option Addr} {sLen sCap n : Nat} {X : Value} {olds news : List Value} (ha : AppArg P w u i z n X news)
  (hold : ∀ w' : World, (∀ k : Nat, w'.heap[k]? = w.heap[k]?) → (Builtin.firstCells i.size sLen (.slice base sLen sCap)).run P w' = .ok olds.toArray w')
  (hnp : 0 < n) (hg : sCap < sLen + n) (hb : (sLen + n) * i.bytes ≤ 140737488355328) (h63 : sLen + n ≤ 9223372036854775807) :
  (Builtin.append_ #[t, u] ty #[.slice base sLen sCap, X]).run P w = .ok (.slice (some ⟨w.heap.size, 0, none⟩) (sLen + n) (grownCap w (sLen + n) sCap e))
   (w.drew.alloc (.cells (olds.toArray ++ news.toArray ++ Builtin.zeroCells z.cells (grownCap w (sLen + n) sCap e - (sLen + n))) e)) := by
 have hn' : ¬ (sLen + n ≤ sCap) := by omega
 have h63' : ¬ (9223372036854775807 < ((sLen : Int) + (n : Int))) := by omega
 have h48 := growslice_fits hg hb
 have h48' : ¬ (281474976710656 < Builtin.nextslicecap (sLen + n) sCap * i.bytes) := by omega
 have c2 := hold w.drew (fun _ => rfl)
 rcases ha with ⟨hu, hn⟩ | ha
 case inr => exact append_run_grow_int ht hi hz ha hold hnp hg hb h63
 have c1 := hn.cells w.drew (fun _ => rfl)
 have l1 := hn.lenOf w
 rcases hu with hu | ⟨e', hu⟩
 ·simp [Builtin.append_, run_underlying ht, run_underlying hu, sizeOf, typeInfo, l1, hn', h63', h48', Question.forced, c1, c2, newRow, grownCap, zeroValue, hi, hz]
  congr 2
  apply Array.ext'
  simp [List.append_assoc]
 ·simp [Builtin.append_, run_underlying ht, run_underlying hu, sizeOf, typeInfo, l1, hn', h63', h48', Question.forced, c1, c2, newRow, grownCap, zeroValue, hi, hz]
  congr 2
  apply Array.ext'
  simp [List.append_assoc]
theorem append_run_room {t u ty e : TypeId} {i : TypeInfo} {z : Value} (ht : P.underlying t = some (.slice e)) (hi : P.info? e = some i)
  {base : Option Addr} {sLen sCap n : Nat} {X : Value} {news : List Value} (ha : AppArg P w u i z n X news) (hg : sLen + n ≤ sCap) {w' : World}
  (hst : match base with | none => w' = w | some ad => (storeCells (ad.add (sLen * i.size)) news).run P w = .ok () w') :
  (Builtin.append_ #[t, u] ty #[.slice base sLen sCap, X]).run P w = .ok (.slice base (sLen + n) sCap) w' := by
 rcases ha with ⟨hu, hn⟩ | ha
 case inr => exact append_run_room_int ht hi ha hg hst
 have c1 := hn.cells w (fun _ => rfl)
 have l1 := hn.lenOf w
 rcases hu with hu | ⟨e', hu⟩
 all_goals
  cases base with
  | none =>
   simp only at hst
   subst hst
   simp [Builtin.append_, run_underlying ht, run_underlying hu, sizeOf, typeInfo, l1, hg, c1, hi]
  | some ad =>
   simp only at hst
   simp [Builtin.append_, run_underlying ht, run_underlying hu, sizeOf, typeInfo, l1, hg, c1, hi, hst]
theorem allOne_rel : ∀ {cs : List V} {ys : List Value}, cs.all oneCell = true → VRels M ρ cs ys → cs.length = ys.length → ∀ y ∈ ys, y.oneCell' = true
 | [], ys, _, _, hl => by
  have : ys = [] := List.eq_nil_of_length_eq_zero (by simpa using hl.symm)
  subst this
  simp
 | c :: cs, ys, h1, h2, hl => by
  obtain ⟨y, zs, rfl, k1, k2⟩ := VRels.cons_iff.1 h2
  simp only [List.all_cons, Bool.and_eq_true] at h1
  intro z hz
  rcases List.mem_cons.1 hz with rfl | hz
  ·exact oneCell_rel k1 h1.1
  ·exact allOne_rel h1.2 k2 (by simpa using hl) z hz
theorem append_sim (hh : HRel P gl B M ρ h w) {t u ty e : TypeId} {i : TypeInfo} {z : Value} (ht : P.underlying t = some (.slice e)) (hi : P.info? e = some i) (hz : i.zero = some z) (hzs : z.cells.size = i.size)
  (h0 : i.size ≠ 0) (hb0 : i.bytes ≠ 0) {sv : V} {S X : Value} (hS : VRel M ρ sv S) {n : Nat} {cs : List V} {ys : List Value} (hX : AppArg P w u i z n X ys) (hcs : VRels M ρ cs ys) (hcl : cs.length = n * i.size) {v : V} {h' : Heap} {tg : Option Nat} (htg : ∀ t, tg = some t → t = e) (he : appendV h tg i.size i.bytes sv n cs = some (v, h')) :
  ∃ ρ' w' x, HRel P gl B M ρ' h' w' ∧ Evo M ρ h w M ρ' h' w' ∧ VRel M ρ' v x ∧ (Builtin.append_ #[t, u] ty #[S, X]).run P w = .ok x w' := by
 have hlen : ys.length = n * i.size := hX.len
 have hroom0 : ∀ {base : Option Addr} {sLen sCap : Nat}, n = 0 → sLen ≤ sCap → (Builtin.append_ #[t, u] ty #[.slice base sLen sCap, X]).run P w = .ok (.slice base sLen sCap) w := by
  intro base sLen sCap hn hle
  subst hn
  have hy : ys = [] := List.eq_nil_of_length_eq_zero (by simpa using hlen)
  subst hy
  have := append_run_room (P := P) (ty := ty) (w := w) (w' := w) ht hi (base := base) (sLen := sLen) (sCap := sCap) hX (by omega) (by cases base <;> simp [storeCells])
  simpa using this
 have h63 : ∀ {q : Nat}, q * i.size ≤ q * i.size → True := fun _ => trivial
 unfold appendV at he
 split at he
 ·
  split at he
  ·cases he
   simp only [VRel] at hS
   subst hS
   exact ⟨ρ, w, _, hh, Evo.refl _ _ _ _, by simp [VRel], hroom0 rfl (Nat.le_refl _)⟩
  ·rename_i b off len cap sz
   cases he
   have hS' := hS
   simp only [VRel] at hS
   obtain ⟨l, ad, cap', k1, k2, k3, k4, k5⟩ := hS
   have := capR_le k3
   exact ⟨ρ, w, _, hh, Evo.refl _ _ _ _, hS', by rw [k2]; exact hroom0 rfl (by omega)⟩
  ·rename_i c len cap
   cases he
   have hS' := hS
   simp only [VRel] at hS
   obtain ⟨ad, cap', k2, k3, k4, k5⟩ := hS
   exact ⟨ρ, w, _, hh, Evo.refl _ _ _ _, hS', by rw [k2]; exact hroom0 rfl (by omega)⟩
  ·cases he
 ·rename_i hn0
  have hnpos : 0 < n := by
   rcases Nat.eq_zero_or_pos n with q | q
   ·exact absurd q hn0
   ·exact q
  split at he
  ·
   rw [blt_dec] at he
   by_cases q : 140737488355328 < n * i.bytes
   ·simp [q] at he
   ·simp only [q, decide_false, cond_false, Option.some.injEq, Prod.mk.injEq] at he
    obtain ⟨rfl, rfl⟩ := he
    simp only [VRel] at hS
    subst hS
    have hle : n ≤ 9223372036854775807 := by
     have := Nat.le_mul_of_pos_right n (Nat.pos_of_ne_zero hb0)
     omega
    have hr := append_run_grow (P := P) (ty := ty) (w := w) ht hi hz (base := none) (sLen := 0) (sCap := 0) (olds := []) hX (fun w' _ => by simp [Builtin.firstCells]) hnpos (by omega) (by simpa using Nat.le_of_not_lt q) (by omega)
    simp only [Nat.zero_add] at hr
    obtain ⟨ρ', r1, r2, r3⟩ := grown_row hh hcs (by rw [hcl, hlen]) e (sz := i.size) (need := n) (cap := grownCap w n 0 e) hlen (grownCap_ge _ _ _ _) z.cells hzs
     (cur := (#[] ++ ys.toArray ++ Builtin.zeroCells z.cells (grownCap w n 0 e - n))) (by simp) (fun _ => tagR_N htg)
    exact ⟨ρ', _, _, r1, r2, r3, hr⟩
  ·rename_i c len cap
   rw [ble_dec, blt_dec, beq_dec] at he
   by_cases q1 : len + n ≤ cap
   ·simp [q1] at he
   ·by_cases q2 : 140737488355328 < (len + n) * i.bytes
    ·simp [q1, q2] at he
    ·by_cases q3 : c.length = len * i.size
     ·simp only [q1, q2, q3, decide_false, decide_true, cond_false, cond_true, Option.some.injEq, Prod.mk.injEq] at he
      obtain ⟨rfl, rfl⟩ := he
      obtain ⟨olds, o1, o2⟩ := slice_cells (sz := i.size) (n := len) (cs := c) hh hS (by simp [rowOf, beq_dec, q3]) (by simp [lenOf])
      simp only [VRel] at hS
      obtain ⟨ad, cap', k2, k3, k4, k5⟩ := hS
      have hc := k3 cap rfl
      subst hc
      subst k2
      have hle : len + n ≤ 9223372036854775807 := by
       have := Nat.le_mul_of_pos_right (len + n) (Nat.pos_of_ne_zero hb0)
       omega
      have hr := append_run_grow (P := P) (ty := ty) (w := w) ht hi hz (base := some ad) (sLen := len) (sCap := cap') (olds := olds) hX o1.cells hnpos (by omega) (by omega) hle
      have hol := o1.len
      obtain ⟨ρ', r1, r2, r3⟩ := grown_row hh (c := c ++ cs) (ys := olds ++ ys) (VRels.append o2 (by omega) hcs) (by simp [q3, hol, hcl, hlen]) e (sz := i.size) (need := len + n) (cap := grownCap w (len + n) cap' e)
       (by simp [hol, hlen, Nat.add_mul]) (grownCap_ge _ _ _ _) z.cells hzs (cur := olds.toArray ++ ys.toArray ++ Builtin.zeroCells z.cells (grownCap w (len + n) cap' e - (len + n))) (by simp) (fun _ => tagR_N htg)
      exact ⟨ρ', _, _, r1, r2, r3, hr⟩
     ·simp [q1, q2, q3] at he
  ·rename_i b off len cap sz
   by_cases hsz : i.size = sz
   ·subst hsz
    rw [beq_dec] at he
    simp only [decide_true, cond_true] at he
    have hS' := hS
    simp only [VRel] at hS
    obtain ⟨l, ad, cap', k1, k2, k3, k4, k5⟩ := hS
    have hcc := capR_le k3
    split at he
    ·rename_i c oo hg
     have hb := hh.blk b l k1
     have hlv : live h b := by unfold live; rw [hg]; simp
     rw [hg] at hb
     obtain ⟨cur, e', fr, c1, c2, c3, c4, c5, c6⟩ := BRel.cells_iff.1 hb
     rw [ble_dec] at he
     by_cases q1 : len + n ≤ cap
     ·
      simp only [q1, decide_true, cond_true] at he
      rw [blt_dec] at he
      by_cases q2 : b < h.lo
      ·simp [q2] at he
      ·simp only [q2, decide_false, cond_false] at he
       split at he
       ·rename_i c' hc'
        simp only [Option.some.injEq, Prod.mk.injEq] at he
        obtain ⟨rfl, rfl⟩ := he
        have hne : cs ≠ [] := by
         intro z2
         subst z2
         have := Nat.mul_pos hnpos (Nat.pos_of_ne_zero h0)
         simp at hcl
         omega
        have hst : store h b (off + len * i.size) cs = some (h.set b (.cells c' oo)) := by
         cases cs with
         | nil => exact absurd rfl hne
         | cons x xs => simp [store, blt_dec, q2, hg, hc']
        obtain ⟨w', s1, s2, s3⟩ := store_rel hh k1 hcs (by rw [hcl, hlen]) hst
        have had : ad = ⟨l.blk, l.base + off, none⟩ := by
         rcases k4 with z2 | z2
         ·omega
         ·exact z2
        subst had
        have hr := append_run_room (P := P) (ty := ty) (w := w) (w' := w') ht hi (base := some ⟨l.blk, l.base + off, none⟩) (sLen := len) (sCap := cap') hX (by omega) (by
         simp only [addr_add]
         rw [Nat.add_assoc]
         exact s1)
        refine ⟨ρ, w', _, s2, s3, ?_, by rw [k2]; exact hr⟩
        simp only [VRel]
        exact ⟨l, _, cap', k1, rfl, k3, .inr rfl, by omega⟩
       ·cases he
     ·simp only [q1, decide_false, cond_false] at he
      rw [blt_dec] at he
      by_cases q2 : 140737488355328 < (len + n) * i.bytes
      ·simp [q2] at he
      ·simp only [q2, decide_false, cond_false] at he
       split at he
       ·cases he
       ·rename_i old hold
        have hle : len + n ≤ 9223372036854775807 := by
         have := Nat.le_mul_of_pos_right (len + n) (Nat.pos_of_ne_zero hb0)
         omega
        obtain ⟨olds, o1, o2⟩ := slice_cells (sz := i.size) (n := len) (cs := old) hh hS' (by simp [rowOf, beq_dec, hg, hold]) (by simp [lenOf])
        have hol := o1.len
        have holl : old.length = len * i.size := (takeN_eq _ _ _ hold).2
        have grow : cap' < len + n → ∃ ρ' w' x, HRel P gl B M ρ' (h.new (.cells (old ++ cs) (tagN tg))) w' ∧ Evo M ρ h w M ρ' (h.new (.cells (old ++ cs) (tagN tg))) w' ∧ VRel M ρ' (.sl h.nx 0 (len + n) (len + n) i.size) x ∧
          (Builtin.append_ #[t, u] ty #[S, X]).run P w = .ok x w' := by
         intro hlt
         have hr := append_run_grow (P := P) (ty := ty) (w := w) ht hi hz (base := some ad) (sLen := len) (sCap := cap') (olds := olds) hX (by rw [← k2]; exact o1.cells) hnpos hlt (by omega) hle
         obtain ⟨ρ', r1, r2, r3⟩ := grown_row hh (c := old ++ cs) (ys := olds ++ ys) (VRels.append o2 (by omega) hcs) (by simp [holl, hol, hcl, hlen]) e (sz := i.size) (need := len + n) (cap := grownCap w (len + n) cap' e)
          (by simp [hol, hlen, Nat.add_mul]) (grownCap_ge _ _ _ _) z.cells hzs (cur := olds.toArray ++ ys.toArray ++ Builtin.zeroCells z.cells (grownCap w (len + n) cap' e - (len + n))) (by simp) (fun _ => tagR_N htg)
         exact ⟨ρ', _, _, r1, r2, r3, by rw [k2]; exact hr⟩
        rw [beq_dec] at he
        cases q3 : (oo.opn && decide (off + cap * i.size = c.length))
        ·
         simp only [q3, cond_false, Option.some.injEq, Prod.mk.injEq] at he
         obtain ⟨rfl, rfl⟩ := he
         apply grow
         rcases k3 with ⟨z1, z2⟩ | ⟨z1, z2, z3⟩ | ⟨z1, z2, z3, z4⟩
         ·omega
         ·omega
         ·exfalso
          cases hoo : oo.opn with
          | false => exact z1 (c6.1 hoo)
          | true => simp [hoo, c3, z2] at q3
        ·simp only [q3, cond_true] at he
         rw [blt_dec] at he
         cases q4' : (decide (b < h.lo) || !(cs.all oneCell))
         case true => simp [q4'] at he
         case false =>
          simp only [q4', cond_false, Option.some.injEq, Prod.mk.injEq] at he
          obtain ⟨rfl, rfl⟩ := he
          have q4 : ¬ b < h.lo ∧ cs.all oneCell = true := by simpa using q4'
          have hlo : h.lo ≤ b := by omega
          by_cases q5 : cap' < len + n
          ·
           obtain ⟨hh2, ev2⟩ := hh.kill k1 hlv hlo
           have hr := append_run_grow (P := P) (ty := ty) (w := w) ht hi hz (base := some ad) (sLen := len) (sCap := cap') (olds := olds) hX (by rw [← k2]; exact o1.cells) hnpos q5 (by omega) hle
           obtain ⟨ρ', r1, r2, r3⟩ := grown_row hh2 (c := old ++ cs) (ys := olds ++ ys) (VRels.append o2 (by omega) hcs) (by simp [holl, hol, hcl, hlen]) e (sz := i.size) (need := len + n) (cap := grownCap w (len + n) cap' e)
            (by simp [hol, hlen, Nat.add_mul]) (grownCap_ge _ _ _ _) z.cells hzs (cur := olds.toArray ++ ys.toArray ++ Builtin.zeroCells z.cells (grownCap w (len + n) cap' e - (len + n))) (by simp) (fun _ => tagM_new htg)
           exact ⟨ρ', _, _, r1, ev2.trans r2, r3, by rw [k2]; exact hr⟩
          ·
           have q6 : l.ex ≠ 0 ∧ off + cap * i.size = l.fin ∧ i.size = l.sz ∧ cap' = cap + l.ex := by
            rcases k3 with ⟨z1, z2⟩ | ⟨z1, z2, z3⟩ | ⟨z1, z2, z3, z4⟩
            ·omega
            ·omega
            ·exact ⟨z1, z2, z3, z4⟩
           obtain ⟨z1, z2, z3, z4⟩ := q6
           have had : ad = ⟨l.blk, l.base + off, none⟩ := by
            rcases k4 with z5 | z5
            ·omega
            ·exact z5
           subst had
           have hsize : cur.size = l.base + off + cap' * i.size := by
            rw [c5, z4, Nat.add_mul, ← z3, ← z2]
            omega
           have hnle : (len + n) * i.size ≤ cap' * i.size := Nat.mul_le_mul_right _ (by omega)
           have hsplit : (len + n) * i.size = len * i.size + n * i.size := Nat.add_mul _ _ _
           obtain ⟨w', s1, s2⟩ := run_storeRow (P := P) l.blk (l.base + off + len * i.size) e' fr ys 0 cur w c1 (by rw [hlen]; omega) (fun j h1 h2 => c2 j (by omega) h2) (allOne_rel q4.2 hcs (by rw [hcl, hlen]))
           have hr := append_run_room (P := P) (ty := ty) (w := w) (w' := w') ht hi (base := some ⟨l.blk, l.base + off, none⟩) (sLen := len) (sCap := cap') hX (by omega) (by
            simp only [addr_add]
            exact s1)
           have hlen2 : (overC (l.base + off + len * i.size + 0) cur.toList ys).length = cur.size := by rw [overC_length (by simp [hlen]; omega)]; simp
           obtain ⟨m1, m2⟩ := hh.move k1 hlv hlo (.cells (old ++ cs) (tagM oo off tg)) ⟨l.blk, l.base + off, (len + n) * i.size, i.size, cap' - (len + n)⟩ rfl s2 (BRel.cells_iff.2 ⟨_, e', fr, rfl, by
             intro j h1 h2
             have h1' : l.base + off ≤ j := h1
             exact c2 j (by omega) (by
              have h2' : j ≤ (overC (l.base + off + len * i.size + 0) cur.toList ys).toArray.size := h2
              rw [List.size_toArray, hlen2] at h2'
              exact h2'), by simp [holl, hcl, hsplit], by
             have e5 : (overC (l.base + off + len * i.size + 0) cur.toList ys).toArray.toList.drop (l.base + off) = (cur.toList.drop (l.base + off)).take (len * i.size) ++ (ys ++ cur.toList.drop (l.base + off + len * i.size + ys.length)) := by
              simp only [overC, Nat.add_zero]
              rw [List.append_assoc, List.drop_append, List.length_take, List.drop_take, Nat.add_sub_cancel_left]
              have e6 : min (l.base + off + len * i.size) cur.toList.length = l.base + off + len * i.size := by simp; omega
              rw [e6, show l.base + off - (l.base + off + len * i.size) = 0 by omega, List.drop_zero]
             show VRels M (ρ.add h.nx ⟨l.blk, l.base + off, (len + n) * i.size, i.size, cap' - (len + n)⟩) (old ++ cs) _
             rw [e5, ← List.append_assoc]
             apply VRels.more
             refine VRels.mono (Mle.refl _) (hh.rle _) _ (VRels.append ?_ ?_ hcs)
             ·have := (VRels.takeN (VRels.drop off c4) hold).1
              simpa [List.drop_drop] using this
             ·rw [holl, List.length_take, List.length_drop]
              simp
              omega, by
             show (overC (l.base + off + len * i.size + 0) cur.toList ys).toArray.size = l.base + off + (len + n) * i.size + (cap' - (len + n)) * i.size
             rw [List.size_toArray, hlen2, hsize, Nat.add_assoc (l.base + off), ← Nat.add_mul]
             congr 2
             omega, tagM_stay c6 rfl⟩)
           refine ⟨_, w', _, m1, m2, ?_, by rw [k2]; exact hr⟩
           simp only [VRel]
           refine ⟨⟨l.blk, l.base + off, (len + n) * i.size, i.size, cap' - (len + n)⟩, ⟨l.blk, l.base + off, none⟩, cap', Rho.add_same _ _ _, rfl, ?_, Or.inr (by simp), Nat.le_refl _⟩
           unfold capR
           dsimp only
           by_cases z6 : cap' - (len + n) = 0
           ·exact .inl ⟨z6, by omega⟩
           ·exact .inr (.inr ⟨z6, by simp, rfl, by omega⟩)
    ·cases he
   ·simp [beq_dec, hsz] at he
  ·cases he
end
end Go.VE
end
section
namespace Go.VE
section
variable {P : Program} {gl : Nat → Option (List V)} {N B : Nat} {M : Mem} {ρ : Rho} {h : Heap} {w : World} {s : Slots} {a : Act}
theorem sim_app (hh : HRel P gl B M ρ h w) (hs : SRel M ρ N s a.tmps) {o : Oper} {c : Call} (ho : o.op = .call c) (hc : c.callee = .builtin .append) {x y : Operand} (hx : c.args.toList = [x, y]) {t u e : TypeId} (hty : c.argTypes.toList = [t, u])
  (ht : P.underlying t = some (.slice e)) {e' : TypeId} (hu : P.underlying u = some (.slice e')) {i : TypeInfo} (hi : P.info? e = some i) {zl : List V} (hz : zeroOf P e = some zl) (h0 : zl.length ≠ 0) (hb0 : i.bytes ≠ 0)
  {x' y' : Opd} (e1 : opd gl x = some x') (e2 : opd gl y = some y') {v : V} {h' : Heap} (he : op_app i.size i.bytes x' y' s h = some (v, h')) :
  Good P gl B M ρ h w v h' ((execOp a.eval o).run P w) := by
 have hX := opd_rel hh hs e1
 have hY := opd_rel hh hs e2
 obtain ⟨i', zv, q1, q2, q3, q4, q5⟩ := zeroOf_spec hz
 rw [hi] at q1
 cases q1
 obtain ⟨consts, hrun⟩ := builtin_run (a := a) ho hc
 rw [hrun, args2 hx, arr2 hty]
 unfold op_app at he
 split at he
 ·rename_i n cs hn hcs
  obtain ⟨ys, n1, n2⟩ := slice_cells (sz := i.size) hh hY hcs hn
  obtain ⟨ρ', w', z, k1, k2, k3, k4⟩ := append_sim (ty := o.type) hh ht hi q2 (by omega) (by omega) hb0 hX (.inl ⟨.inr ⟨_, hu⟩, n1⟩) n2 (rowOf_len hcs hn) (fun _ q => by cases q) he
  exact ⟨ρ', w', z, k1, k2, k3, .inl (by simp [Go.builtin, k4])⟩
 ·cases he
theorem sim_slca (hh : HRel P gl B M ρ h w) (hs : SRel M ρ N s a.tmps) {o : Oper} {t e : TypeId} {x : Operand} {lo hi mx : Option Operand} (ho : o.op = .slice t x lo hi mx) {n : Nat} (ht : P.underlying t = some (.array n e)) {sz : Nat} (hsz : szOf P e = some sz)
  {x' : Opd} {lo' hi' mx' : Option Opd} (e1 : opd gl x = some x') (e2 : opdo gl lo = some lo') (e3 : opdo gl hi = some hi') (e4 : opdo gl mx = some mx') (hmx : mx = none ∨ hi ≠ none)
  {v : V} {h' : Heap} (he : op_slca n sz x' lo' hi' mx' s h = some (v, h')) : Good P gl B M ρ h w v h' ((execOp a.eval o).run P w) := by
 have hx := opd_rel hh hs e1
 have hl := opdo_rel hh hs e2
 have hhi := opdo_rel hh hs e3
 have hm := opdo_rel hh hs e4
 obtain ⟨i, hi1, rfl⟩ := szOf_spec hsz
 have hX : mx.map a.eval = none ∨ hi.map a.eval ≠ none := by
  rcases hmx with rfl | q
  ·exact .inl rfl
  ·right; intro q2; apply q; cases hi <;> simp_all
 unfold op_slca at he
 split at he
 ·cases he
 ·rename_i m q1
  split at he
  ·cases he
  ·rename_i h2 q2
   split at he
   ·cases he
   ·rename_i l q3
    obtain ⟨m', k1, k2, k3, k4, k5, k6, k7, k8⟩ := bounds_rel (P := P) (w := w) (isSlice := false) hl hhi hm hX (Nat.le_refl n) q1 q2 q3
    have hmm : m' = m := by
     by_cases z : mx.map a.eval = none
     ·rw [(k2 z).1, (k2 z).2]
     ·exact k3 z
    subst hmm
    have hlh : l ≤ h2 := by
     by_cases z : lo.map a.eval = none
     ·rw [k5 z]; omega
     ·exact k7 z
    have hhm : h2 ≤ m' := by
     by_cases z : hi.map a.eval = none
     ·rw [k6 z]
      rcases hX with z2 | z2
      ·rw [(k2 z2).2]; exact Nat.le_refl _
      ·exact absurd z z2
     ·exact k8 z
    have hrun : ∀ ad : Addr, a.eval x = .pointer (some ad) → (execOp a.eval o).run P w = .ok (.value (.slice (some (if m' = l then ad else ad.add (l * i.size))) (h2 - l) (m' - l))) w := by
     intro ad hq
     simp only [execOp, ho, Instr.sliceAt, Sem.run_bind, run_underlying ht, Result.andThen_ok, hq, sureAddr_run, k1, sizeOf, typeInfo, run_program, hi1, Sem.run_pure]
    split at he
    ·rename_i b off ex
     rw [ex] at hx
     simp only [VRel] at hx
     obtain ⟨loc, r1, r2⟩ := hx
     split at he
     ·rename_i c oo hg
      have hb := hh.blk b loc r1
      rw [hg] at hb
      obtain ⟨cur, e', fr, c1, c2, c3, c4, c5, c6⟩ := BRel.cells_iff.1 hb
      rw [beq_dec] at he
      cases z3 : (oo.opn && decide (off + m' * i.size = c.length))
      ·simp only [z3, cond_false] at he
       rw [ble_dec] at he
       by_cases z4 : off + n * i.size ≤ c.length
       ·simp only [z4, decide_true, cond_true, Option.some.injEq, Prod.mk.injEq] at he
        obtain ⟨rfl, rfl⟩ := he
        refine Good.same hh ?_ (hrun _ r2)
        simp only [VRel]
        refine ⟨loc, _, m' - l, r1, rfl, ?_, ?_, by omega⟩
        ·have e5 : off + l * i.size + (m' - l) * i.size = off + m' * i.size := by
          rw [Nat.add_assoc, ← Nat.add_mul, Nat.add_sub_cancel' (by omega)]
         unfold capR
         rw [e5]
         by_cases z4 : loc.ex = 0
         ·exact .inl ⟨z4, rfl⟩
         ·right; left
          refine ⟨z4, ?_, rfl⟩
          intro z5
          cases hoo : oo.opn with
          | false => exact z4 (c6.1 hoo)
          | true => simp [hoo, c3, z5] at z3
        ·by_cases z2 : m' = l
         ·exact .inl (by omega)
         ·right
          rw [if_neg z2, addr_add, Nat.add_assoc]
       ·simp [z4] at he
      ·simp [z3] at he
     ·cases he
    ·rename_i cs ex
     rw [ex] at hx
     simp only [VRel] at hx
     obtain ⟨ad, row, r1, r2, r3, r4⟩ := hx
     cases q4 : takeN ((h2 - l) * i.size) (cs.drop (l * i.size)) with
     | none => simp [q4] at he
     | some cs' =>
      simp only [q4, Option.map_some, Option.some.injEq, Prod.mk.injEq] at he
      obtain ⟨rfl, rfl⟩ := he
      refine Good.same hh ?_ (hrun _ r1)
      simp only [VRel]
      refine ⟨_, m' - l, rfl, fun c hc => by cases hc; rfl, by omega, ?_⟩
      by_cases z : cs' = []
      ·exact .inl z
      ·right
       obtain ⟨t1, t2⟩ := takeN_eq _ _ _ q4
       have hpos : 0 < (h2 - l) * i.size := by
        rw [← t2]
        exact List.length_pos_iff.2 z
       have hne : m' ≠ l := by
        intro z2
        have : h2 - l = 0 := by omega
        rw [this] at hpos
        simp at hpos
       rw [if_neg hne]
       obtain ⟨ab, ao, as⟩ := ad
       cases r3
       rw [addr_add]
       refine ⟨row, r2, rfl, ?_⟩
       have hd := VRels.drop (l * i.size) r4
       obtain ⟨u1, u2, u3⟩ := VRels.takeN hd q4
       have := VRels.more ((row.drop ao).drop (l * i.size) |>.drop ((h2 - l) * i.size)) u1
       rw [List.take_append_drop] at this
       simpa [List.drop_drop] using this
    ·cases he
theorem sim_mks (hh : HRel P gl B M ρ h w) (hs : SRel M ρ N s a.tmps) {o : Oper} {t e : TypeId} {x y : Operand} (ho : o.op = .makeSlice t x y) (ht : P.underlying t = some (.slice e)) {i : TypeInfo} (hi : P.info? e = some i) {z : List V} (hz : zeroOf P e = some z) (h0 : z.length ≠ 0)
  {x' y' : Opd} (e1 : opd gl x = some x') (e2 : opd gl y = some y') {v : V} {h' : Heap} (he : op_mks e i.bytes z x' y' s h = some (v, h')) : Good P gl B M ρ h w v h' ((execOp a.eval o).run P w) := by
 have hx := opd_rel hh hs e1
 have hy := opd_rel hh hs e2
 obtain ⟨i', zv, q1, q2, q3, q4, q5⟩ := zeroOf_spec hz
 rw [hi] at q1
 cases q1
 unfold op_mks at he
 split at he
 ·rename_i l c el ec
  cases q : (Nat.ble l c && Nat.ble (c * i.bytes) 140737488355328 && Nat.ble c 9223372036854775807)
  ·simp [q] at he
  ·simp only [q, cond_true, Option.some.injEq, Prod.mk.injEq] at he
   obtain ⟨rfl, rfl⟩ := he
   have hq : (l ≤ c ∧ c * i.bytes ≤ 140737488355328) ∧ c ≤ 9223372036854775807 := by simpa [ble_dec] using q
   obtain ⟨k, hk⟩ := asNat_rel el hx
   obtain ⟨k', hk'⟩ := asNat_rel ec hy
   have hbm : (i.bytes : Int) * (c : Int) ≤ 281474976710656 := by
    have h1 : i.bytes * c ≤ 140737488355328 := by rw [Nat.mul_comm]; exact hq.1.2
    have h2 : ((i.bytes * c : Nat) : Int) ≤ 281474976710656 := by omega
    rwa [Int.natCast_mul] at h2
   have hr := run_make (P := P) w t e i zv ht hi q2 k k' (l : Int) (c : Int) (by omega) (by omega) hbm (by omega)
   simp only [Int.toNat_natCast] at hr
   obtain ⟨m1, m2⟩ := made_rel (q4 M ρ) q5 h0 c
   have hsz : i.size = zv.cells.size := by omega
   obtain ⟨ρ', r1, r2, r3⟩ := new_row hh m1 m2 e z.length (.ct e) (tagR_ct rfl rfl)
   refine ⟨ρ', _, _, r1, r2, sl_new r3 rfl rfl hq.1.1, .inl ?_⟩
   rw [hsz] at hr
   simp only [execOp, ho, Sem.run_bind, hk, hk', hr, Result.andThen_ok, Sem.run_pure]
   rfl
 ·cases he
theorem first_cells (hh : HRel P gl B M ρ h w) {v : V} {x : Value} (hv : VRel M ρ v x) {sz n k : Nat} {cs cs' : List V} (hc : rowOf h sz v = some cs) (hn : lenOf v = some n) (hk : k ≤ n) (ht : takeN (k * sz) cs = some cs') :
  ∃ ys, ys.length = k * sz ∧ (Builtin.firstCells sz k x).run P w = .ok ys.toArray w ∧ VRels M ρ cs' ys := by
 obtain ⟨ba, cap, row, rfl, k1, k2, k3, k4⟩ := rowOf_rel hh hv hc hn (rowOf_len hc hn)
 obtain ⟨t1, t2, t3⟩ := VRels.takeN k1 ht
 refine ⟨row.take (k * sz), t3, ?_, t1⟩
 cases ba with
 | none =>
  have h0 := k3 rfl
  subst h0
  have : row = [] := List.eq_nil_of_length_eq_zero (by simpa using k2)
  subst this
  simp [Builtin.firstCells]
 | some ad =>
  exact run_firstCells_some (P := P) w sz k ad n cap _ t3 (fun j u hj => by
   rw [List.getElem?_take] at hj
   split at hj
   ·exact k4 ad rfl j u hj
   ·cases hj)
theorem copy_fin (hh : HRel P gl B M ρ h w) {o : Oper} {c : Call} {consts : Array Bool} {x y : Operand} {t e : TypeId} (hty0 : c.argTypes[0]? = some t)
  (ht : P.underlying t = some (.slice e)) {i : TypeInfo} (hi : P.info? e = some i) {xv : V} (hX : VRel M ρ xv (a.eval x)) {nd ns : Nat} (hnd : lenOf xv = some nd) {cs : List V} {ys : List Value}
  (s1 : ys.length = Nat.min ns nd * i.size) (s2 : (Builtin.lenOf (a.eval y)).run P w = .ok ns w) (s3 : (Builtin.firstCells i.size (Nat.min ns nd) (a.eval y)).run P w = .ok ys.toArray w) (s4 : VRels M ρ cs ys) (s5 : cs.length = ys.length)
  {v : V} {h' : Heap} (he : copyTo h i.size xv (Nat.min ns nd) cs = some (v, h')) :
  Good P gl B M ρ h w v h' ((Go.builtin .copy c.argTypes o.type consts #[a.eval x, a.eval y]).run P w) := by
 have fin : ∀ (base : Option Addr) (cap : Nat) (w' : World), a.eval x = .slice base nd cap → (match base with | none => w' = w | some ad => (storeCells ad ys).run P w = .ok () w') →
   (Go.builtin .copy c.argTypes o.type consts #[a.eval x, a.eval y]).run P w = .ok (.value (.int .i64 (Nat.min ns nd : Nat))) w' := by
  intro base cap w' hb hst
  cases base with
  | none =>
   simp only at hst
   subst hst
   simp [Go.builtin, Builtin.copy_, hty0, run_underlying ht, hb, s2, s3, sizeOf, typeInfo, hi, goInt]
  | some ad =>
   simp only at hst
   simp [Go.builtin, Builtin.copy_, hty0, run_underlying ht, hb, s2, s3, sizeOf, typeInfo, hi, goInt, hst]
 unfold copyTo at he
 split at he
 ·rename_i b off len cap sz'
  simp only [lenOf, Option.some.injEq] at hnd
  subst hnd
  by_cases hsz' : i.size = sz'
  ·subst hsz'
   rw [beq_dec] at he
   simp only [decide_true, cond_true] at he
   cases q : store h b off cs with
   | none => simp [q] at he
   | some h1 =>
    simp only [q, Option.some.injEq, Prod.mk.injEq] at he
    obtain ⟨rfl, rfl⟩ := he
    simp only [VRel] at hX
    obtain ⟨l, ad, cap', r1, r2, r3, r4, r5⟩ := hX
    by_cases hy0 : ys = []
    ·subst hy0
     have : cs = [] := List.eq_nil_of_length_eq_zero (by simpa using s5)
     subst this
     simp only [store, Option.some.injEq] at q
     subst q
     exact ⟨ρ, w, _, hh, Evo.refl _ _ _ _, by simp [VRel], .inl (fin _ _ w r2 (by simp [storeCells]))⟩
    ·have had : ad = ⟨l.blk, l.base + off, none⟩ := by
      rcases r4 with z | z
      ·exfalso
       apply hy0
       have := capR_le r3
       have h0 : Nat.min ns len = 0 := by
        have : Nat.min ns len ≤ len := Nat.min_le_right ns len
        omega
       rw [h0] at s1
       exact List.eq_nil_of_length_eq_zero (by simpa using s1)
      ·exact z
     subst had
     obtain ⟨w', t1, t2, t3⟩ := store_rel hh r1 s4 s5 q
     exact ⟨ρ, w', _, t2, t3, by simp [VRel], .inl (fin _ _ w' r2 t1)⟩
  ·simp [beq_dec, hsz'] at he
 ·simp only [lenOf, Option.some.injEq] at hnd
  subst hnd
  cases he
  simp only [VRel] at hX
  have := fin none 0 w hX rfl
  have h0 : Nat.min ns 0 = 0 := Nat.min_zero ns
  rw [h0] at this
  exact Good.same hh (x := .int .i64 0) (by simp [VRel]) (by simpa using this)
 ·cases he
theorem sim_cpy (hh : HRel P gl B M ρ h w) (hs : SRel M ρ N s a.tmps) {o : Oper} {c : Call} (ho : o.op = .call c) (hc : c.callee = .builtin .copy) {x y : Operand} (hx : c.args.toList = [x, y]) {t e : TypeId} {tr : List TypeId} (hty : c.argTypes.toList = t :: tr)
  (ht : P.underlying t = some (.slice e)) {sz : Nat} (hsz : szOf P e = some sz) {x' y' : Opd} (e1 : opd gl x = some x') (e2 : opd gl y = some y') {v : V} {h' : Heap} (he : op_cpy sz x' y' s h = some (v, h')) :
  Good P gl B M ρ h w v h' ((execOp a.eval o).run P w) := by
 have hX := opd_rel hh hs e1
 have hY := opd_rel hh hs e2
 obtain ⟨i, hi, rfl⟩ := szOf_spec hsz
 obtain ⟨consts, hrun⟩ := builtin_run (a := a) ho hc
 rw [hrun, args2 hx]
 have hty0 : c.argTypes[0]? = some t := by
  have := congrArg (fun l : List TypeId => l[0]?) hty
  simpa using this
 unfold op_cpy copyV at he
 split at he
 ·rename_i nd ns hnd hns
  split at he
  ·cases he
  ·rename_i cs hcs
   unfold srcCells at hcs
   cases q : rowOf h i.size (y'.ev s) with
   | none => simp [q] at hcs
   | some row =>
    simp only [q] at hcs
    obtain ⟨ys, f1, f2, f3⟩ := first_cells hh hY q hns (Nat.min_le_left _ _) hcs
    refine copy_fin hh hty0 ht hi hX hnd f1 ?_ f2 f3 (by rw [f1]; exact (takeN_eq _ _ _ hcs).2) he
    rcases lenOf_rel hY hns with ⟨ad, cc, hq⟩ | ⟨l, hl, _, _⟩
    ·rw [hq]; simp [Builtin.lenOf]
    ·rw [hl] at q; simp [rowOf] at q
 ·cases he
end
end Go.VE
end

