/- A part of a proof that a small evaluator of the translated code agrees with the model (part Ins). No statement of the program stands here. -/
import Derived.Test.YtpbggddmfgjmlaaGreatVeSimC
import Derived.Lib.Overlaps
set_option linter.all false
section
namespace Go.VE
structure InsW (P : Program) (f : FuncId) (t e it : TypeId) (ti : TypeInfo) (z : Value) : Prop where
 ht : P.underlying t = some (.slice e)
 hit : ∃ k, P.underlying it = some (.int k)
 hi : P.info? e = some ti
 hz : ti.zero = some z
 hzs : z.cells.size = ti.size
 h0 : ti.size ≠ 0
 hb : ti.bytes ≠ 0
 zero : ∀ (w : World) (base : Option Addr) (n c i : Nat) (vb : Option Addr) (vc : Nat), i ≤ n → n ≤ c →
  Calls P f #[.slice base n c, .int .i64 i, .slice vb 0 vc] w fun e w' => e = .returned (.slice base n c) ∧ w' = w
 atend : ∀ (w W1 : World) (base : Option Addr) (n c m vc : Nat) (va : Addr) (x : Value), 0 < m → n ≤ c →
  (Builtin.append_ #[t, t] t #[.slice base n c, .slice (some va) m vc]).run P w = .ok x W1 →
  Calls P f #[.slice base n c, .int .i64 n, .slice (some va) m vc] w fun e w' => e = .returned x ∧ w' = W1
 shift : ∀ (w W1 W2 : World) (b off n c i m vc k1 k2 : Nat) (va : Addr), i < n → 0 < m → n + m ≤ c → n + m ≤ 9223372036854775807 → va.block ≠ b →
  ∀ (tA tB : TypeId) (kA kB : Nat), w.shape? va.block = some (tA, kA) → w.shape? b = some (tB, kB) → kB ≠ 0 → w.frozen? va = false → w.frozen? ⟨va.block, kA, none⟩ = false →
  (∀ ty dc sc, (Builtin.copy_ #[t, t] ty #[.slice (some ⟨b, off + (i + m) * ti.size, none⟩) (n + m - (i + m)) dc, .slice (some ⟨b, off + i * ti.size, none⟩) (n + m - i) sc]).run P w.drew = .ok (goInt k1) W1) →
  (∀ ty dc, (Builtin.copy_ #[t, t] ty #[.slice (some ⟨b, off + i * ti.size, none⟩) (n + m - i) dc, .slice (some va) m vc]).run P W1 = .ok (goInt k2) W2) →
  Calls P f #[.slice (some ⟨b, off, none⟩) n c, .int .i64 i, .slice (some va) m vc] w fun e w' => e = .returned (.slice (some ⟨b, off, none⟩) (n + m) c) ∧ w' = W2
 grow : ∀ (w W1 W2 W3 : World) (b off n c i m vc g G k1 k2 : Nat) (va : Addr), i < n → 0 < m → n ≤ c → c < n + m → n + m ≤ 9223372036854775807 → n + m ≤ G →
  (∀ ty, (Builtin.append_ #[t, it] ty #[.slice (some ⟨b, off, none⟩) i c, .int .i64 ((n : Int) + (m : Int) - (i : Int))]).run P w = .ok (.slice (some ⟨g, 0, none⟩) (n + m) G) W1) →
  (∀ ty dc, (Builtin.copy_ #[t, t] ty #[.slice (some ⟨g, i * ti.size, none⟩) (n + m - i) dc, .slice (some va) m vc]).run P W1 = .ok (goInt k1) W2) →
  (∀ ty dc sc, (Builtin.copy_ #[t, t] ty #[.slice (some ⟨g, (i + m) * ti.size, none⟩) (n + m - (i + m)) dc, .slice (some ⟨b, off + i * ti.size, none⟩) (n - i) sc]).run P W2.drew = .ok (goInt k2) W3) →
  Calls P f #[.slice (some ⟨b, off, none⟩) n c, .int .i64 i, .slice (some va) m vc] w fun e w' => e = .returned (.slice (some ⟨g, 0, none⟩) (n + m) G) ∧ w' = W3
section
variable {P : Program} {gl : Nat → Option (List V)} {N B : Nat} {M : Mem} {ρ : Rho} {h : Heap} {w : World} {s : Slots} {a : Act}
theorem copy_run {W W' : World} {t u ty e : TypeId} {i : TypeInfo} (ht : P.underlying t = some (.slice e)) (hi : P.info? e = some i) {ad : Addr} {nd cap ns k : Nat} {X : Value} {ys : List Value} (hk : Nat.min ns nd = k)
  (hl : (Builtin.lenOf X).run P W = .ok ns W) (hf : (Builtin.firstCells i.size k X).run P W = .ok ys.toArray W) (hst : (storeCells ad ys).run P W = .ok () W') :
  (Builtin.copy_ #[t, u] ty #[.slice (some ad) nd cap, X]).run P W = .ok (goInt k) W' := by
 subst hk
 simp [Builtin.copy_, run_underlying ht, hl, hf, sizeOf, typeInfo, hi, hst]
theorem overC_two {p : Nat} {c x y : List Value} (hl : p + x.length + y.length ≤ c.length) : overC p (overC (p + x.length) c y) x = overC p c (x ++ y) := by
 unfold overC
 have e1 : ((c.take (p + x.length) ++ y ++ c.drop (p + x.length + y.length)).take p) = c.take p := by
  rw [List.append_assoc, List.take_append_of_le_length (by simp; omega), List.take_take]
  congr 1
  omega
 have e2 : ((c.take (p + x.length) ++ y ++ c.drop (p + x.length + y.length)).drop (p + x.length)) = y ++ c.drop (p + x.length + y.length) := by
  have hle : (c.take (p + x.length)).length = p + x.length := by simp; omega
  rw [List.append_assoc, List.drop_append, hle, Nat.sub_self, List.drop_zero, List.drop_eq_nil_of_le (by omega), List.nil_append]
 rw [e1, e2]
 simp [Nat.add_assoc]
theorem overC_grown {x y z : List Value} {n1 : List Value} {zz : List Value} (hz : zz.length = y.length + z.length) : overC (x.length + y.length) (overC x.length (x ++ zz ++ n1) y) z = x ++ y ++ z ++ n1 := by
 unfold overC
 have e1 : (x ++ zz ++ n1).take x.length = x := by simp
 rw [e1]
 have e2 : (x ++ zz ++ n1).drop (x.length + y.length) = zz.drop y.length ++ n1 := by
  rw [List.append_assoc, List.drop_append, List.drop_eq_nil_of_le (by omega), List.nil_append, Nat.add_sub_cancel_left, List.drop_append_of_le_length (by omega)]
 rw [e2]
 have e3 : (x ++ y ++ (zz.drop y.length ++ n1)).take (x.length + y.length) = x ++ y := by
  rw [List.take_append_of_le_length (by simp), List.take_of_length_le (by simp)]
 have e4 : (x ++ y ++ (zz.drop y.length ++ n1)).drop (x.length + y.length + z.length) = n1 := by
  have h1 : (x ++ y).length = x.length + y.length := by simp
  have h2 : (zz.drop y.length).length = z.length := by simp; omega
  rw [List.drop_append, List.drop_eq_nil_of_le (by omega), List.nil_append, h1, Nat.add_sub_cancel_left]
  rw [List.drop_append, List.drop_eq_nil_of_le (by omega), List.nil_append, h2, Nat.sub_self, List.drop_zero]
 rw [e3, e4]
theorem HRel.same {w' : World} (hk : ∀ k : Nat, w'.heap[k]? = w.heap[k]?) (hsz : w'.heap.size = w.heap.size) (hh : HRel P gl B M ρ h w) : HRel P gl B M ρ h w' :=
 ⟨hh.bound, fun b l e => by rw [hk]; exact hh.blk b l e, hh.inj, fun k cs e => by rw [hk]; exact hh.mem k cs e, hh.sep, hh.base, hh.fresh, by rw [hsz]; exact hh.room, hh.lonx, hh.glob⟩
theorem Evo.same {M' : Mem} {ρ' : Rho} {h' : Heap} {w1 w' : World} (ho : w'.os = w1.os) (ht : w'.tape = w1.tape) (hu : w'.output = w1.output) (hk : ∀ k : Nat, w'.heap[k]? = w1.heap[k]?) (hsz : w'.heap.size = w1.heap.size)
  (e : Evo M ρ h w M' ρ' h' w1) : Evo M ρ h w M' ρ' h' w' :=
 ⟨e.rho, e.mem, e.lo, e.nx, by rw [ho]; exact e.os, by rw [ht]; exact e.tape, by rw [hu]; exact e.output, by rw [hsz]; exact e.size, e.wr, fun k a b => by rw [hk]; exact e.frame k a b, e.low, e.new, e.mnew⟩
theorem slice_val {v : V} {x : Value} (hv : VRel M ρ v x) {n sz : Nat} {cs : List V} (hn : lenOf v = some n) (hc : rowOf h sz v = some cs) : ∃ base c, x = .slice base n c ∧ n ≤ c := by
 cases v with
 | nils =>
  simp only [VRel] at hv
  simp only [lenOf, Option.some.injEq] at hn
  subst hn
  exact ⟨none, 0, hv, Nat.le_refl _⟩
 | sl b off len cap sz' =>
  simp only [VRel] at hv
  simp only [lenOf, Option.some.injEq] at hn
  subst hn
  obtain ⟨l, a, cap', e, rfl, h1, h2, h3⟩ := hv
  exact ⟨some a, cap', rfl, Nat.le_trans h3 (capR_le h1)⟩
 | isl cs len cap =>
  simp only [VRel] at hv
  simp only [lenOf, Option.some.injEq] at hn
  subst hn
  obtain ⟨a, cap', rfl, h1, h2, h3⟩ := hv
  exact ⟨some a, cap', rfl, h2⟩
 | _ => simp [rowOf] at hc
theorem cells_at {w : World} {blk : Nat} {cur : Array Value} {et : TypeId} {fr : Nat × Nat} (hc : w.heap[blk]? = some (.cells cur et fr)) {A : Nat} {ys : List Value} (hy : ∀ j u, ys[j]? = some u → cur[A + j]? = some u) :
  ∀ j u, ys[j]? = some u → w.cell? ((⟨blk, A, none⟩ : Addr).add j) = some u := by
 intro j u hj
 rw [addr_add, cell_of_obj hc]
 exact hy j u hj
theorem shift_run {f t e it : Nat} {ti : TypeInfo} {z : Value} (hW : InsW P f t e it ti z) {blk A : Nat} {cur : Array Value} {et : TypeId} {fr : Nat × Nat} (hcur : w.heap[blk]? = some (.cells cur et fr)) (hfree : FreeFrom A fr cur.size)
  {n m k c : Nat} (hk : k < n) (hm : 0 < m) (hroom : n + m ≤ c) (h63 : n + m ≤ 9223372036854775807) (hsz : A + (n + m) * ti.size ≤ cur.size)
  {vb vo vc vbase : Nat} {curv : Array Value} {etv : TypeId} {frv : Nat × Nat} (hne : vb ≠ blk) (hcv : w.heap[vb]? = some (.cells curv etv frv)) (hfv : FreeFrom vbase frv curv.size) (hvo : vbase ≤ vo)
  {news tail : List Value} (hnl : news.length = m * ti.size) (hnc : ∀ j u, news[j]? = some u → curv[vo + j]? = some u) (htl : tail.length = (n - k) * ti.size) (htc : ∀ j u, tail[j]? = some u → cur[A + k * ti.size + j]? = some u)
  (h1n : ∀ v ∈ news, v.oneCell' = true) (h1t : ∀ v ∈ tail, v.oneCell' = true) :
  ∃ w', RowAt w w' blk (.cells (overC (A + k * ti.size) cur.toList (news ++ tail)).toArray et fr) ∧
   Calls P f #[.slice (some ⟨blk, A, none⟩) n c, .int .i64 k, .slice (some ⟨vb, vo, none⟩) m vc] w fun e w'' => e = .returned (.slice (some ⟨blk, A, none⟩) (n + m) c) ∧ w'' = w' := by
 have s0 : 0 < ti.size := Nat.pos_of_ne_zero hW.h0
 have e1 : (k + m) * ti.size = k * ti.size + m * ti.size := Nat.add_mul _ _ _
 have e2 : (n + m) * ti.size = k * ti.size + m * ti.size + (n - k) * ti.size := by
  rw [← Nat.add_mul, ← Nat.add_mul]
  congr 1
  omega
 have hmpos : 0 < m * ti.size := Nat.mul_pos hm s0
 have hnpos : 0 < (n - k) * ti.size := Nat.mul_pos (by omega) s0
 obtain ⟨W1, a1, a2⟩ := run_storeRow (P := P) blk (A + (k + m) * ti.size) et fr tail 0 cur w.drew hcur (by omega) (fun j h1 h2 => hfree j (by omega) h2) h1t
 have hW1 := a2.row
 simp only [Nat.add_zero] at a2 hW1
 have hlen1 : (overC (A + (k + m) * ti.size) cur.toList tail).length = cur.size := by rw [overC_length (by simp; omega)]; simp
 obtain ⟨W2, b1, b2⟩ := run_storeRow (P := P) blk (A + k * ti.size) et fr news 0 (overC (A + (k + m) * ti.size) cur.toList tail).toArray W1 hW1 (by simp [hlen1]; omega)
  (fun j h1 h2 => hfree j (by omega) (by simpa [hlen1] using h2)) h1n
 simp only [Nat.add_zero] at b2
 have e3 : overC (A + k * ti.size) (overC (A + (k + m) * ti.size) cur.toList tail) news = overC (A + k * ti.size) cur.toList (news ++ tail) := by
  have := overC_two (p := A + k * ti.size) (c := cur.toList) (x := news) (y := tail) (by simp; omega)
  rw [hnl] at this
  rw [e1, ← Nat.add_assoc]
  exact this
 refine ⟨W2, ⟨b2.os.trans a2.os, b2.tape.trans a2.tape, b2.output.trans a2.output, b2.size.trans a2.size, fun q hq => (b2.oth q hq).trans (a2.oth q hq), ?_⟩, ?_⟩
 ·rw [b2.row]
  simp only [e3]
 ·refine hW.shift w W1 W2 blk A n c k m vc (n - k) m ⟨vb, vo, none⟩ hk hm hroom h63 hne etv et curv.size cur.size ?_ ?_ (by omega) ?_ ?_ ?_ ?_
  ·simp [World.shape?, hcv]
  ·simp [World.shape?, hcur]
  ·have hlt : vo < curv.size := by
    have hx := hnc 0 (news[0]'(by omega)) (by simp)
    have := (Array.getElem?_eq_some_iff.1 hx).1
    omega
   have := hfv vo hvo (Nat.le_of_lt hlt)
   simp only [World.frozen?, hcv]
   simpa using this
  ·have hlt : vo < curv.size := by
    have hx := hnc 0 (news[0]'(by omega)) (by simp)
    have := (Array.getElem?_eq_some_iff.1 hx).1
    omega
   have := hfv curv.size (by omega) (Nat.le_refl _)
   simp only [World.frozen?, hcv]
   simpa using this
  ·intro ty dc sc
   refine copy_run (ns := n + m - k) hW.ht hW.hi (show min _ _ = _ by omega) (by simp [Builtin.lenOf]) (run_firstCells_some (P := P) w.drew ti.size (n - k) _ _ _ tail htl (cells_at hcur htc)) a1
  ·intro ty dc
   refine copy_run (ns := m) hW.ht hW.hi (show min _ _ = _ by omega) (by simp [Builtin.lenOf]) (run_firstCells_some (P := P) W1 ti.size m _ _ _ news hnl (cells_at (w := W1) (cur := curv) (et := etv) (fr := frv) (by rw [a2.oth _ hne]; exact hcv) hnc)) b1
theorem grow_run {f t e it : Nat} {ti : TypeInfo} {z : Value} (hW : InsW P f t e it ti z) {blk A : Nat} {cur : Array Value} {et : TypeId} {fr : Nat × Nat} (hcur : w.heap[blk]? = some (.cells cur et fr))
  {n m k c : Nat} (hk : k < n) (hm : 0 < m) (hnc : n ≤ c) (hroom : c < n + m) (hbig : (n + m) * ti.bytes ≤ 140737488355328) (h63 : n + m ≤ 9223372036854775807)
  {vb vo vc : Nat} {curv : Array Value} {etv : TypeId} {frv : Nat × Nat} (hcv : w.heap[vb]? = some (.cells curv etv frv))
  {olds news tail : List Value} (hol : olds.length = k * ti.size) (hoc : ∀ j u, olds[j]? = some u → cur[A + j]? = some u) (hnl : news.length = m * ti.size) (hnv : ∀ j u, news[j]? = some u → curv[vo + j]? = some u)
  (htl : tail.length = (n - k) * ti.size) (htc : ∀ j u, tail[j]? = some u → cur[A + k * ti.size + j]? = some u) (h1n : ∀ v ∈ news, v.oneCell' = true) (h1t : ∀ v ∈ tail, v.oneCell' = true) :
  ∃ w' G row, n + m ≤ G ∧ row.toList = olds ++ news ++ tail ++ (Builtin.zeroCells z.cells (G - (n + m))).toList ∧ w'.os = w.os ∧ w'.tape = w.tape ∧ w'.output = w.output ∧ w'.heap.size = (w.drew.alloc (.cells row e)).heap.size ∧
   (∀ q : Nat, w'.heap[q]? = (w.drew.alloc (.cells row e)).heap[q]?) ∧
   Calls P f #[.slice (some ⟨blk, A, none⟩) n c, .int .i64 k, .slice (some ⟨vb, vo, none⟩) m vc] w fun e w'' => e = .returned (.slice (some ⟨w.heap.size, 0, none⟩) (n + m) G) ∧ w'' = w' := by
 have s0 : 0 < ti.size := Nat.pos_of_ne_zero hW.h0
 have e1 : (k + m) * ti.size = k * ti.size + m * ti.size := Nat.add_mul _ _ _
 have e2 : (n + m) * ti.size = k * ti.size + m * ti.size + (n - k) * ti.size := by
  rw [← Nat.add_mul, ← Nat.add_mul]
  congr 1
  omega
 have e4 : (n + m - k) * ti.size = m * ti.size + (n - k) * ti.size := by
  rw [← Nat.add_mul]
  congr 1
  omega
 have hbw : blk < w.heap.size := (Array.getElem?_eq_some_iff.1 hcur).1
 have hvw : vb < w.heap.size := (Array.getElem?_eq_some_iff.1 hcv).1
 have hsum : k + (n + m - k) = n + m := by omega
 have hbk : (n + m - k) * ti.bytes ≤ 140737488355328 := Nat.le_trans (Nat.mul_le_mul_right _ (by omega)) hbig
 have hr := fun ty => append_run_grow_int (P := P) (t := t) (u := it) (ty := ty) (w := w) hW.ht hW.hi hW.hz (base := some ⟨blk, A, none⟩) (sLen := k) (sCap := c) (n := n + m - k) (X := .int .i64 ((n : Int) + (m : Int) - (k : Int))) (olds := olds)
  (news := (Builtin.zeroCells z.cells (n + m - k)).toList) ⟨hW.hit, ⟨.i64, by congr 1; omega⟩, hbk, by omega, hW.hzs, hW.h0, hW.hz, rfl⟩
  (fun w' hw => run_firstCells_some (P := P) w' ti.size k _ _ _ olds hol (fun j u hj => by rw [cell_same hw]; exact cells_at hcur hoc j u hj)) (by omega) (by omega) (by rw [hsum]; exact hbig) (by omega)
 rw [hsum] at hr
 generalize hG : grownCap w (n + m) c e = G at hr
 have hGn : n + m ≤ G := by rw [← hG]; exact grownCap_ge w _ _ _
 generalize hrow : (olds.toArray ++ (Builtin.zeroCells z.cells (n + m - k)).toList.toArray ++ Builtin.zeroCells z.cells (G - (n + m))) = row0 at hr
 have hrl : row0.toList = olds ++ (Builtin.zeroCells z.cells (n + m - k)).toList ++ (Builtin.zeroCells z.cells (G - (n + m))).toList := by rw [← hrow]; simp
 have hzl : (Builtin.zeroCells z.cells (n + m - k)).toList.length = news.length + tail.length := by
  simp [zeroCells_size, hW.hzs, hnl, htl, e4]
 have hzl2 : (Builtin.zeroCells z.cells (G - (n + m))).toList.length = (G - (n + m)) * ti.size := by simp [zeroCells_size, hW.hzs]
 have hrs : row0.size = olds.length + (news.length + tail.length) + (G - (n + m)) * ti.size := by
  rw [← Array.length_toList, hrl, List.length_append, List.length_append, hzl, hzl2]
 have hn0 : (w.drew.alloc (.cells row0 e)).heap[w.heap.size]? = some (.cells row0 e (0, 0)) := by
  exact heap_alloc_new (w := w.drew) _
 obtain ⟨W2, a1, a2⟩ := run_storeRow (P := P) w.heap.size (k * ti.size) e (0, 0) news 0 row0 (w.drew.alloc (.cells row0 e)) hn0 (by omega) (fun j _ _ => by simp) h1n
 have hW2 := a2.row
 simp only [Nat.add_zero] at a2 hW2
 have hlen1 : (overC (k * ti.size) row0.toList news).length = row0.size := by rw [overC_length (by simp; omega)]; simp
 obtain ⟨W3, b1, b2⟩ := run_storeRow (P := P) w.heap.size ((k + m) * ti.size) e (0, 0) tail 0 (overC (k * ti.size) row0.toList news).toArray W2.drew hW2 (by simp [hlen1]; omega) (fun j _ _ => by simp) h1t
 simp only [Nat.add_zero] at b2
 have e3 : overC ((k + m) * ti.size) (overC (k * ti.size) row0.toList news) tail = olds ++ news ++ tail ++ (Builtin.zeroCells z.cells (G - (n + m))).toList := by
  rw [hrl, e1, ← hol, ← hnl]
  exact overC_grown hzl
 refine ⟨W3, G, (overC ((k + m) * ti.size) (overC (k * ti.size) row0.toList news) tail).toArray, hGn, by rw [List.toList_toArray, e3], b2.os.trans a2.os, b2.tape.trans a2.tape, b2.output.trans a2.output, ?_, ?_, ?_⟩
 ·rw [b2.size]
  show W2.heap.size = _
  rw [a2.size]
  simp
 ·intro q
  by_cases hq : q = w.heap.size
  ·subst hq
   rw [b2.row]
   exact (heap_alloc_new (w := w.drew) _).symm
  ·rw [b2.oth q hq]
   show W2.heap[q]? = _
   rw [a2.oth q hq]
   rcases Nat.lt_or_ge q w.heap.size with h1 | h1
   ·rw [heap_alloc_old (w := w.drew) _ _ h1, heap_alloc_old (w := w.drew) _ _ h1]
   ·rw [Array.getElem?_eq_none (by simp; omega), Array.getElem?_eq_none (by simp; omega)]
 ·refine hW.grow w _ W2 W3 blk A n c k m vc w.heap.size G m (n - k) ⟨vb, vo, none⟩ hk hm hnc hroom h63 hGn hr ?_ ?_
  ·intro ty dc
   refine copy_run (ns := m) hW.ht hW.hi (show min _ _ = _ by omega) (by simp [Builtin.lenOf]) (run_firstCells_some (P := P) _ ti.size m _ _ _ news hnl (cells_at (cur := curv) (et := etv) (fr := frv) (by rw [heap_alloc_old (w := w.drew) _ _ hvw]; exact hcv) hnv)) a1
  ·intro ty dc sc
   refine copy_run (ns := n - k) hW.ht hW.hi (show min _ _ = _ by omega) (by simp [Builtin.lenOf]) (run_firstCells_some (P := P) _ ti.size (n - k) _ _ _ tail htl (cells_at (cur := cur) (et := et) (fr := fr) ?_ htc)) b1
   show W2.heap[blk]? = _
   rw [a2.oth _ (by omega), heap_alloc_old (w := w.drew) _ _ hbw]
   exact hcur
end
end Go.VE
end
section
namespace Go.VE
section
variable {P : Program} {gl : Nat → Option (List V)} {N B : Nat} {M : Mem} {ρ : Rho} {h : Heap} {w : World} {s : Slots} {a : Act}
theorem VRels.splitA : ∀ {vs us : List V} {xs : List Value}, VRels M ρ (vs ++ us) xs → VRels M ρ vs xs ∧ VRels M ρ us (xs.drop vs.length)
 | [], us, xs, hv => ⟨VRels.nil, by simpa using hv⟩
 | v :: vs, us, xs, hv => by
  simp only [List.cons_append] at hv
  obtain ⟨x, ys, rfl, h1, h2⟩ := VRels.cons_iff.1 hv
  obtain ⟨i1, i2⟩ := VRels.splitA h2
  exact ⟨VRels.cons_iff.2 ⟨x, ys, rfl, h1, i1⟩, by simpa using i2⟩
theorem over_upd (hh : HRel P gl B M ρ h w) {b off : Nat} {l : Loc} (e : ρ b = some l) (hlo : h.lo ≤ b) {c c' : List V} {o : Tag} (hg : h.get b = .cells c o) {cur : Array Value} {e' : TypeId} {fr : Nat × Nat} (k1 : w.heap[l.blk]? = some (.cells cur e' fr))
  {xs : List V} {ys : List Value} (hx : VRels M ρ xs ys) (hl : xs.length = ys.length) (hne : ys ≠ []) (hc' : over off c xs = some c') {w' : World} (r2 : RowAt w w' l.blk (.cells (overC (l.base + off) cur.toList ys).toArray e' fr)) :
  HRel P gl B M ρ (h.set b (.cells c' o)) w' ∧ Evo M ρ h w M ρ (h.set b (.cells c' o)) w' := by
 have hb := hh.blk b l e
 have hlv : live h b := by unfold live; rw [hg]; simp
 rw [hg] at hb
 obtain ⟨cur1, e1, fr1, k1', k2, k3, k4, k5, k6⟩ := BRel.cells_iff.1 hb
 rw [k1] at k1'
 cases k1'
 obtain ⟨m1, m2, m3, m4⟩ := over_rel hc' k4 hx hl
 have hfit := m4 hne
 have hlen : (overC (l.base + off) cur.toList ys).length = cur.size := by rw [overC_length (by simp; omega)]; simp
 exact hh.upd e hlv hlo (.cells c' o) w' r2.os r2.tape r2.output r2.size r2.oth (by
  rw [r2.row]
  refine BRel.cells_iff.2 ⟨_, e', fr, rfl, ?_, by omega, ?_, ?_, k6⟩
  ·simpa [hlen] using k2
  ·have : (overC (l.base + off) cur.toList ys).toArray.toList.drop l.base = overC off (cur.toList.drop l.base) ys := by
    simp only [overC]
    rw [List.append_assoc, List.drop_append, List.length_take, List.drop_take, Nat.add_sub_cancel_left]
    have : min (l.base + off) cur.toList.length = l.base + off := by simp; omega
    rw [this, show l.base - (l.base + off) = 0 by omega, List.drop_zero, List.drop_drop, List.append_assoc]
    congr 3
    omega
   rw [this]
   exact m1
  ·simp [hlen, k5])
theorem stay_rel (hh : HRel P gl B M ρ h w) {b : Nat} {l : Loc} (e : ρ b = some l) (hlv : live h b) (hlo : h.lo ≤ b) {cur cur2 : Array Value} {e' : TypeId} {fr : Nat × Nat} {off sz need cap' : Nat} (c2 : FreeFrom l.base fr cur.size)
  (hsize : cur.size = l.base + off + cap' * sz) (hneed : need ≤ cap') {row : List V} (hrow : row.length = need * sz) (h2 : cur2.size = cur.size) (hrel : VRels M ρ row (cur2.toList.drop (l.base + off))) {w' : World} (s2 : RowAt w w' l.blk (.cells cur2 e' fr)) :
  ∃ ρ', HRel P gl B M ρ' ((h.set b .dead).new (.cells row .op)) w' ∧ Evo M ρ h w M ρ' ((h.set b .dead).new (.cells row .op)) w' ∧ VRel M ρ' (.sl h.nx 0 need need sz) (.slice (some ⟨l.blk, l.base + off, none⟩) need cap') := by
 obtain ⟨m1, m2⟩ := hh.move e hlv hlo (.cells row .op) ⟨l.blk, l.base + off, need * sz, sz, cap' - need⟩ rfl s2 (BRel.cells_iff.2 ⟨_, e', fr, rfl, by
  intro j h1 h3
  have h1' : l.base + off ≤ j := h1
  exact c2 j (by omega) (by omega), by simp [hrow], VRels.mono (Mle.refl _) (hh.rle _) _ hrel, by
  show cur2.size = l.base + off + need * sz + (cap' - need) * sz
  rw [h2, hsize, Nat.add_assoc (l.base + off), ← Nat.add_mul]
  congr 2
  omega, tagR_op⟩)
 refine ⟨_, m1, m2, ?_⟩
 simp only [VRel]
 refine ⟨⟨l.blk, l.base + off, need * sz, sz, cap' - need⟩, ⟨l.blk, l.base + off, none⟩, cap', Rho.add_same _ _ _, rfl, ?_, Or.inr (by simp), Nat.le_refl _⟩
 unfold capR
 dsimp only
 by_cases z6 : cap' - need = 0
 ·exact .inl ⟨z6, by omega⟩
 ·exact .inr (.inr ⟨z6, by simp, rfl, by omega⟩)
theorem sl_src (hh : HRel P gl B M ρ h w) {b off n cap sz sz' : Nat} {X : Value} (hv : VRel M ρ (.sl b off n cap sz') X) {cs : List V} (hc : rowOf h sz (.sl b off n cap sz') = some cs) (hn : 0 < n) (hs0 : 0 < sz) :
  ∃ l c o cur et fr cap' ys, ρ b = some l ∧ h.get b = .cells c o ∧ w.heap[l.blk]? = some (.cells cur et fr) ∧ FreeFrom l.base fr cur.size ∧ c.length = l.fin ∧ cur.size = l.base + l.fin + l.ex * l.sz ∧ TagR l et o ∧
   X = .slice (some ⟨l.blk, l.base + off, none⟩) n cap' ∧ capR l off cap sz cap' ∧ n ≤ cap ∧ ys.length = n * sz ∧ cs.length = n * sz ∧ VRels M ρ cs ys ∧ (∀ (j : Nat) u, ys[j]? = some u → cur[l.base + off + j]? = some u) ∧ sz' = sz ∧
   off + n * sz ≤ c.length := by
 simp only [rowOf] at hc
 simp only [VRel] at hv
 obtain ⟨l, ad, cap', k1, k2, k3, k4, k5⟩ := hv
 rw [beq_dec] at hc
 by_cases hsz : sz = sz'
 ·subst hsz
  simp only [decide_true, cond_true] at hc
  split at hc
  ·rename_i c o hg
   have hb := hh.blk b l k1
   rw [hg] at hb
   obtain ⟨cur, et, fr, c1, c2, c3, c4, c5, c6⟩ := BRel.cells_iff.1 hb
   obtain ⟨t1, t2, t3⟩ := VRels.takeN (VRels.drop off c4) hc
   have had : ad = ⟨l.blk, l.base + off, none⟩ := by
    rcases k4 with q | q
    ·have := capR_le k3; omega
    ·exact q
   subst had
   refine ⟨l, c, o, cur, et, fr, cap', _, k1, hg, c1, c2, c3, c5, c6, k2, k3, k5, t3, t2, t1, fun j u hj => ?_, rfl, ?_⟩
   ·rw [List.getElem?_take] at hj
    split at hj
    ·simpa [List.drop_drop, List.getElem?_drop, Nat.add_assoc] using hj
    ·cases hj
   ·have := (takeN_eq _ _ _ hc).1
    have h2 : (List.take (n * sz) (c.drop off)).length = n * sz := by rw [← this]; exact t2
    have h3 := List.length_take_le (n * sz) (c.drop off)
    simp only [List.length_take, List.length_drop] at h2
    have hz : 0 < n * sz := Nat.mul_pos hn hs0
    omega
  ·cases hc
 ·simp [hsz] at hc
theorem insert_sim {f t e it : Nat} {ti : TypeInfo} {z : Value} (hW : InsW P f t e it ti z) (hh : HRel P gl B M ρ h w) {sv iv vv : V} {S I X : Value} (hS : VRel M ρ sv S) (hI : VRel M ρ iv I) (hX : VRel M ρ vv X) {v : V} {h' : Heap}
  (he : insertV h ti.size ti.bytes sv iv vv = some (v, h')) :
  Calls P f #[S, I, X] w fun e w' => ∃ x, e = .returned x ∧ ∃ M' ρ', HRel P gl B M' ρ' h' w' ∧ Evo M ρ h w M' ρ' h' w' ∧ VRel M' ρ' v x := by
 have s0 : 0 < ti.size := Nat.pos_of_ne_zero hW.h0
 have b0 : 0 < ti.bytes := Nat.pos_of_ne_zero hW.hb
 unfold insertV at he
 split at he
 case h_2 => cases he
 rename_i k n old m new hn hold hm hnew
 simp only [VRel] at hI
 subst hI
 obtain ⟨base, c, rfl, hnc⟩ := slice_val hS hn hold
 rw [beq_dec, beq_dec, ble_dec, ble_dec, blt_dec] at he
 by_cases q0 : m = 0
 ·subst q0
  simp only [decide_true, cond_true] at he
  by_cases q1 : k ≤ n
  ·simp only [q1, decide_true, cond_true, Option.some.injEq, Prod.mk.injEq] at he
   obtain ⟨rfl, rfl⟩ := he
   obtain ⟨vb, vc, rfl, _⟩ := slice_val hX hm hnew
   refine (hW.zero w base n c k vb vc q1 hnc).mono ?_
   rintro e w' ⟨rfl, rfl⟩
   exact ⟨_, rfl, M, ρ, hh, Evo.refl _ _ _ _, hS⟩
  ·simp [q1] at he
 ·simp only [q0, decide_false, cond_false] at he
  have hm0 : 0 < m := Nat.pos_of_ne_zero q0
  obtain ⟨newv, o1, o2⟩ := slice_cells (P := P) hh hX hnew hm
  have hnewl := rowOf_len hnew hm
  have holdl := rowOf_len hold hn
  by_cases q1 : k = n
  ·subst q1
   simp only [decide_true, cond_true] at he
   obtain ⟨vb, vc, rfl, _⟩ := slice_val hX hm hnew
   obtain ⟨ρ', w', x, k1, k2, k3, k4⟩ := append_sim (t := t) (u := t) (ty := t) hh hW.ht hW.hi hW.hz hW.hzs hW.h0 hW.hb hS (X := .slice vb m vc) (ys := newv) (n := m) (cs := new) (.inl ⟨.inr ⟨e, hW.ht⟩, o1⟩) o2 hnewl (fun _ q => by cases q) he
   cases vb with
   | none =>
    exfalso
    obtain ⟨ba, cap, row, e1, e2, e3, e4, e5⟩ := rowOf_rel hh hX hnew hm hnewl
    cases e1
    exact q0 (e4 rfl)
   | some va =>
    refine (hW.atend w w' base k c m vc va x hm0 hnc k4).mono ?_
    rintro e w'' ⟨rfl, rfl⟩
    exact ⟨_, rfl, M, ρ', k1, k2, k3⟩
  ·simp only [q1, decide_false, cond_false] at he
   cases q2 : (decide (n ≤ k) || decide (140737488355328 < (n + m) * ti.bytes) || !(new.all oneCell) || !(old.all oneCell))
   case true => simp [q2] at he
   simp only [q2, cond_false] at he
   have q3 : ((k < n ∧ (n + m) * ti.bytes ≤ 140737488355328) ∧ new.all oneCell = true) ∧ old.all oneCell = true := by
    simpa [Bool.or_eq_false_iff, and_assoc] using q2
   obtain ⟨⟨⟨hkn, hbig⟩, h1n⟩, h1o⟩ := q3
   have h63 : n + m ≤ 9223372036854775807 := by
    have := Nat.le_mul_of_pos_right (n + m) b0
    omega
   split at he
   case h_2 => cases he
   rename_i b2 off2 len2 cap2 sz2
   have hm2 : len2 = m := by simpa [lenOf] using hm
   subst hm2
   obtain ⟨l2, c2, oo2, curv, etv, frv, vc, newv2, v1, v2, v3, v4, v5, v6, v7, rfl, v8, v9, v10, v11, v12, v13, v14, v15⟩ := sl_src hh hX hnew hm0 s0
   have h1nv : ∀ y ∈ newv2, y.oneCell' = true := allOne_rel h1n v12 (by rw [v10, v11])
   have hkm : k * ti.size + (n - k) * ti.size = n * ti.size := by
    rw [← Nat.add_mul]
    congr 1
    omega
   have hnm : (n + len2) * ti.size = n * ti.size + len2 * ti.size := Nat.add_mul _ _ _
   have hkpos : 0 < (n - k) * ti.size := Nat.mul_pos (by omega) s0
   have hmpos : 0 < len2 * ti.size := Nat.mul_pos hm0 s0
   have grow : ∀ {blk A : Nat} {cur : Array Value} {et : TypeId} {fr : Nat × Nat} {c : Nat} {oldv : List Value} {h1 : Heap}, HRel P gl B M ρ h1 w → Evo M ρ h w M ρ h1 w → h1.nx = h.nx → w.heap[blk]? = some (.cells cur et fr) → oldv.length = n * ti.size → VRels M ρ old oldv →
     (∀ (j : Nat) u, oldv[j]? = some u → cur[A + j]? = some u) → n ≤ c → c < n + len2 →
     Calls P f #[.slice (some ⟨blk, A, none⟩) n c, .int .i64 (Int.ofNat k), .slice (some ⟨l2.blk, l2.base + off2, none⟩) len2 vc] w fun e w' => ∃ x, e = .returned x ∧ ∃ M' ρ',
      HRel P gl B M' ρ' (h1.new (.cells (old.take (k * ti.size) ++ (new ++ old.drop (k * ti.size))) .op)) w' ∧ Evo M ρ h w M' ρ' (h1.new (.cells (old.take (k * ti.size) ++ (new ++ old.drop (k * ti.size))) .op)) w' ∧ VRel M' ρ' (.sl h.nx 0 (n + len2) (n + len2) ti.size) x := by
    intro blk A cur et fr c oldv h1 hh1 ev1 hnx hcur hovl hov hoc hnc' hlt
    have h1ov : ∀ y ∈ oldv, y.oneCell' = true := allOne_rel h1o hov (by rw [holdl, hovl])
    have hkle : k * ti.size ≤ n * ti.size := Nat.mul_le_mul_right _ (by omega)
    obtain ⟨w', G, row, g1, g2, g3, g4, g5, g6, g7, g8⟩ := grow_run hW hcur hkn hm0 hnc' hlt hbig h63 v3 (olds := oldv.take (k * ti.size)) (news := newv2) (tail := oldv.drop (k * ti.size)) (vo := l2.base + off2) (vc := vc)
     (by rw [List.length_take]; omega) (fun j u hj => by
      rw [List.getElem?_take] at hj
      split at hj
      ·exact hoc j u hj
      ·cases hj) v10 v13 (by rw [List.length_drop]; omega) (fun j u hj => by
      rw [List.getElem?_drop] at hj
      rw [Nat.add_assoc]
      exact hoc _ u hj) h1nv (fun y hy => h1ov y (List.mem_of_mem_drop hy))
    refine g8.mono ?_
    rintro e w'' ⟨rfl, rfl⟩
    have htk : (old.take (k * ti.size)).length = k * ti.size := by rw [List.length_take]; omega
    obtain ⟨ρ', r1, r2, r3⟩ := grown_row hh1 (c := old.take (k * ti.size) ++ (new ++ old.drop (k * ti.size))) (ys := oldv.take (k * ti.size) ++ (newv2 ++ oldv.drop (k * ti.size)))
     (VRels.append (by
      have := VRels.more (M := M) (ρ := ρ) [] (VRels.take (M := M) (ρ := ρ) (k * ti.size) (vs := old.take (k * ti.size)) (xs := oldv) (by
       have h3 : old = old.take (k * ti.size) ++ old.drop (k * ti.size) := (List.take_append_drop _ _).symm
       have hov2 := hov
       rw [h3] at hov2
       exact (VRels.splitA hov2).1) (by omega))
      simpa using this) (by simp; omega) (VRels.append v12 (by rw [v10, v11]) (VRels.drop _ hov))) (by simp; omega) e (sz := ti.size) (need := n + len2) (cap := G) (by simp; omega) g1 z.cells hW.hzs (cur := row) (by rw [g2]; simp) (fun _ _ => tagR_op)
    refine ⟨_, rfl, M, ρ', HRel.same (w := w.drew.alloc (.cells row e)) g7 g6 r1, ev1.trans (Evo.same (w1 := w.drew.alloc (.cells row e)) g3 g4 g5 g7 g6 r2), ?_⟩
    rw [hnx] at r3
    exact r3
   split at he
   ·
    rename_i cs len cap
    rw [ble_dec] at he
    by_cases q4 : n + len2 ≤ cap
    ·simp [q4] at he
    ·simp only [q4, decide_false, cond_false, Option.some.injEq, Prod.mk.injEq] at he
     obtain ⟨rfl, rfl⟩ := he
     have hS' := hS
     simp only [VRel] at hS'
     obtain ⟨ad, cap', k2, k3, k4, k5⟩ := hS'
     cases k2
     have hcc := k3 cap rfl
     subst hcc
     simp only [rowOf, beq_dec] at hold
     by_cases q5 : cs.length = n * ti.size
     ·simp only [q5, decide_true, cond_true, Option.some.injEq] at hold
      subst hold
      rcases k5 with k5 | ⟨row, r1, r2, r3⟩
      ·exfalso
       subst k5
       have q6 := Nat.mul_pos (show 0 < n by omega) s0
       rw [← q5] at q6
       simp at q6
      ·obtain ⟨ab, ao, as⟩ := ad
       cases r2
       obtain ⟨et, fr, hk'⟩ := hh.mem _ _ r1
       refine grow (oldv := (row.drop ao).take (n * ti.size)) hh (Evo.refl _ _ _ _) rfl hk' ?_ ?_ ?_ k4 (by omega)
       ·have := VRels.length r3
        simp only [List.length_drop] at this
        simp only [List.length_take, List.length_drop]
        omega
       ·exact VRels.take _ (VRels.mono (Mle.refl _) (fun _ _ q => by cases q) _ r3) (by omega)
       ·intro j u hj
        rw [List.getElem?_take] at hj
        split at hj
        ·simpa [List.getElem?_drop] using hj
        ·cases hj
     ·simp [q5] at hold
   ·
    rename_i b off len cap sz'
    split at he
    case h_2 => cases he
    rename_i cc oo hg
    cases q4 : (Nat.beq b b2 || Nat.blt b h.lo)
    case true => simp [q4] at he
    simp only [q4, cond_false] at he
    rw [beq_dec, blt_dec] at q4
    have q5 : b ≠ b2 ∧ h.lo ≤ b := by simpa using q4
    have hlen : len = n := by simpa [lenOf] using hn
    subst hlen
    obtain ⟨l, c1, o1, cur, et, fr, cap', oldv, u1, u2, u3, u4, u5, u6, u7, u8, u9, u10, u11, u12, u13, u14, u15, u16⟩ := sl_src hh hS hold (by omega) s0
    rw [hg] at u2
    cases u2
    cases u8
    have hlv : live h b := by unfold live; rw [hg]; simp
    have hlv2 : live h b2 := by unfold live; rw [v2]; simp
    have hne : l2.blk ≠ l.blk := fun q => q5.1 (hh.inj b b2 l l2 u1 v1 hlv hlv2 q.symm)
    have h1ov : ∀ y ∈ oldv, y.oneCell' = true := allOne_rel h1o u13 (by rw [u12, u11])
    have hcc := capR_le u9
    have kle : k * ti.size ≤ len * ti.size := Nat.mul_le_mul_right _ (by omega)
    have shift : len + len2 ≤ c → l.base + off + (len + len2) * ti.size ≤ cur.size → ∃ w', RowAt w w' l.blk (.cells (overC (l.base + off + k * ti.size) cur.toList (newv2 ++ oldv.drop (k * ti.size))).toArray et fr) ∧
      Calls P f #[.slice (some ⟨l.blk, l.base + off, none⟩) len c, .int .i64 (Int.ofNat k), .slice (some ⟨l2.blk, l2.base + off2, none⟩) len2 vc] w fun e w'' => e = .returned (.slice (some ⟨l.blk, l.base + off, none⟩) (len + len2) c) ∧ w'' = w' := fun hroom hfit =>
     shift_run hW u3 (fun j h1 h2 => u4 j (by omega) h2) hkn hm0 hroom h63 hfit (vbase := l2.base) hne v3 v4 (by omega) v10 v13 (by rw [List.length_drop]; omega) (fun j u hj => by
      rw [List.getElem?_drop] at hj
      rw [Nat.add_assoc]
      exact u14 _ u hj) h1nv (fun y hy => h1ov y (List.mem_of_mem_drop hy))
    rw [ble_dec] at he
    by_cases q6 : len + len2 ≤ cap
    ·simp only [q6, decide_true, cond_true] at he
     split at he
     ·rename_i c' hc'
      simp only [Option.some.injEq, Prod.mk.injEq] at he
      obtain ⟨rfl, rfl⟩ := he
      have hrl : VRels M ρ (new ++ old.drop (k * ti.size)) (newv2 ++ oldv.drop (k * ti.size)) := VRels.append v12 (by rw [v10, v11]) (VRels.drop _ u13)
      have hb := hh.blk b l u1
      rw [hg] at hb
      obtain ⟨cur1, e1, fr1, k1', k2', k3', k4', k5', k6'⟩ := BRel.cells_iff.1 hb
      have hfit := (over_rel hc' k4' hrl (by simp; omega)).2.2.2 (by intro q; have := congrArg List.length q; simp at this; omega)
      simp only [List.length_append, List.length_drop] at hfit
      obtain ⟨w', s1, s2⟩ := shift (by omega) (by omega)
      obtain ⟨m1, m2⟩ := over_upd hh u1 q5.2 hg u3 hrl (by simp; omega) (by intro q; have := congrArg List.length q; simp at this; omega) hc' (w' := w') (by rw [← Nat.add_assoc]; exact s1)
      refine s2.mono ?_
      rintro e w'' ⟨rfl, rfl⟩
      refine ⟨_, rfl, M, ρ, m1, m2, ?_⟩
      simp only [VRel]
      exact ⟨l, _, c, u1, rfl, u9, .inr rfl, by omega⟩
     ·cases he
    ·simp only [q6, decide_false, cond_false] at he
     rw [beq_dec] at he
     cases q7 : (oo.opn && decide (off + cap * ti.size = cc.length))
     ·simp only [q7, cond_false, Option.some.injEq, Prod.mk.injEq] at he
      obtain ⟨rfl, rfl⟩ := he
      refine grow hh (Evo.refl _ _ _ _) rfl u3 u11 u13 u14 hnc ?_
      rcases u9 with ⟨z1, z2⟩ | ⟨z1, z2, z3⟩ | ⟨z1, z2, z3, z4⟩
      ·omega
      ·omega
      ·exfalso
       cases hoo : oo.opn with
       | false => exact z1 (u7.1 hoo)
       | true => simp [hoo, u5, z2] at q7
     ·simp only [q7, cond_true, Option.some.injEq, Prod.mk.injEq] at he
      obtain ⟨rfl, rfl⟩ := he
      by_cases q8 : c < len + len2
      ·obtain ⟨hh2, ev2⟩ := hh.kill u1 hlv q5.2
       exact grow hh2 ev2 rfl u3 u11 u13 u14 hnc q8
      ·have q9 : l.ex ≠ 0 ∧ off + cap * ti.size = l.fin ∧ ti.size = l.sz ∧ c = cap + l.ex := by
        rcases u9 with ⟨z1, z2⟩ | ⟨z1, z2, z3⟩ | ⟨z1, z2, z3, z4⟩
        ·omega
        ·omega
        ·subst u15
         exact ⟨z1, z2, z3, z4⟩
       obtain ⟨z1, z2, z3, z4⟩ := q9
       have hsize : cur.size = l.base + off + c * ti.size := by
        rw [u6, z4, Nat.add_mul, ← z3, ← z2]
        omega
       have hnle : (len + len2) * ti.size ≤ c * ti.size := Nat.mul_le_mul_right _ (by omega)
       obtain ⟨w', s1, s2⟩ := shift (by omega) (by omega)
       have hlen2 : (overC (l.base + off + k * ti.size) cur.toList (newv2 ++ oldv.drop (k * ti.size))).length = cur.size := by rw [overC_length (by simp; omega)]; simp
       have hb := hh.blk b l u1
       rw [hg] at hb
       obtain ⟨cur1, e1, fr1, k1', k2', k3', k4', k5', k6'⟩ := BRel.cells_iff.1 hb
       obtain ⟨ρ', m1, m2, m3⟩ := stay_rel hh u1 hlv q5.2 (off := off) (sz := ti.size) (need := len + len2) (cap' := c) (row := old.take (k * ti.size) ++ (new ++ old.drop (k * ti.size))) u4 hsize (by omega) (by simp; omega) (by simpa using hlen2) (by
        have e5 : (overC (l.base + off + k * ti.size) cur.toList (newv2 ++ oldv.drop (k * ti.size))).toArray.toList.drop (l.base + off) = (cur.toList.drop (l.base + off)).take (k * ti.size) ++ ((newv2 ++ oldv.drop (k * ti.size)) ++ cur.toList.drop (l.base + off + k * ti.size + (newv2 ++ oldv.drop (k * ti.size)).length)) := by
         simp only [overC]
         rw [List.append_assoc, List.drop_append, List.length_take, List.drop_take, Nat.add_sub_cancel_left]
         have e6 : min (l.base + off + k * ti.size) cur.toList.length = l.base + off + k * ti.size := by simp; omega
         rw [e6, show l.base + off - (l.base + off + k * ti.size) = 0 by omega, List.drop_zero]
        have e7 : (cur.toList.drop (l.base + off)).take (k * ti.size) = oldv.take (k * ti.size) := by
         apply List.ext_getElem?
         intro j
         rw [List.getElem?_take, List.getElem?_take, List.getElem?_drop]
         by_cases hj : j < k * ti.size
         ·rw [if_pos hj, if_pos hj]
          have hjl : j < oldv.length := by omega
          have := u14 j _ (List.getElem?_eq_getElem hjl)
          rw [List.getElem?_eq_getElem hjl]
          simpa using this
         ·rw [if_neg hj, if_neg hj]
        rw [e5, e7, ← List.append_assoc (oldv.take (k * ti.size))]
        apply VRels.more
        refine VRels.append (vs := old.take (k * ti.size)) (xs := oldv.take (k * ti.size)) ?_ (by rw [List.length_take, List.length_take, u12, u11]) (VRels.append v12 (by rw [v10, v11]) (VRels.drop _ u13))
        have h3 : old = old.take (k * ti.size) ++ old.drop (k * ti.size) := (List.take_append_drop _ _).symm
        have hov2 := u13
        rw [h3] at hov2
        exact VRels.take _ (VRels.splitA hov2).1 (by simp; omega)) s1
       refine s2.mono ?_
       rintro e w'' ⟨rfl, rfl⟩
       exact ⟨_, rfl, M, ρ', m1, m2, m3⟩
   ·cases he
end
end Go.VE
end

