/- A part of a proof that a small evaluator of the translated code agrees with the model (part Ins1). No statement of the program stands here. -/
import Derived.Test.YtocgoabopiikoaaGreatDoorVeSim13
import Derived.Lib.Overlaps
set_option linter.all false
namespace Go.VE

/-- What is known of a translated 'slices.Insert' at one element type, as the model runs it. -/
structure InsW (P : Program) (f : FuncId) (t e it : TypeId) (ti : TypeInfo) (z : Value) : Prop where
  ht : P.underlying t = some (.slice e)
  hit : ∃ k, P.underlying it = some (.int k)
  hi : P.info? e = some ti
  hz : ti.zero = some z
  hzs : z.cells.size = ti.size
  h0 : ti.size ≠ 0
  hb : ti.bytes ≠ 0
  zero : ∀ (w : World) (base : Option Addr) (n c i : Nat) (vb : Option Addr) (vc : Nat), i ≤ n → n ≤ c →
    Calls P f #[.slice base n c, .int .i64 i, .slice vb 0 vc] w fun e w' => e = .returned (.slice base n c) ∧ w' = w
  atend : ∀ (w W1 : World) (base : Option Addr) (n c m vc : Nat) (va : Addr) (x : Value), 0 < m → n ≤ c →
    (Builtin.append_ #[t, t] t #[.slice base n c, .slice (some va) m vc]).run P w = .ok x W1 →
    Calls P f #[.slice base n c, .int .i64 n, .slice (some va) m vc] w fun e w' => e = .returned x ∧ w' = W1
  shift : ∀ (w W1 W2 : World) (b off n c i m vc k1 k2 : Nat) (va : Addr), i < n → 0 < m → n + m ≤ c → n + m ≤ 9223372036854775807 → va.block ≠ b →
    ∀ (tA tB : TypeId) (kA kB : Nat), w.shape? va.block = some (tA, kA) → w.shape? b = some (tB, kB) → kB ≠ 0 → w.frozen? va = false → w.frozen? ⟨va.block, kA, none⟩ = false →
    (∀ ty dc sc, (Builtin.copy_ #[t, t] ty #[.slice (some ⟨b, off + (i + m) * ti.size, none⟩) (n + m - (i + m)) dc, .slice (some ⟨b, off + i * ti.size, none⟩) (n + m - i) sc]).run P w.drew = .ok (goInt k1) W1) →
    (∀ ty dc, (Builtin.copy_ #[t, t] ty #[.slice (some ⟨b, off + i * ti.size, none⟩) (n + m - i) dc, .slice (some va) m vc]).run P W1 = .ok (goInt k2) W2) →
    Calls P f #[.slice (some ⟨b, off, none⟩) n c, .int .i64 i, .slice (some va) m vc] w fun e w' => e = .returned (.slice (some ⟨b, off, none⟩) (n + m) c) ∧ w' = W2
  grow : ∀ (w W1 W2 W3 : World) (b off n c i m vc g G k1 k2 : Nat) (va : Addr), i < n → 0 < m → n ≤ c → c < n + m → n + m ≤ 9223372036854775807 → n + m ≤ G →
    (∀ ty, (Builtin.append_ #[t, it] ty #[.slice (some ⟨b, off, none⟩) i c, .int .i64 ((n : Int) + (m : Int) - (i : Int))]).run P w = .ok (.slice (some ⟨g, 0, none⟩) (n + m) G) W1) →
    (∀ ty dc, (Builtin.copy_ #[t, t] ty #[.slice (some ⟨g, i * ti.size, none⟩) (n + m - i) dc, .slice (some va) m vc]).run P W1 = .ok (goInt k1) W2) →
    (∀ ty dc sc, (Builtin.copy_ #[t, t] ty #[.slice (some ⟨g, (i + m) * ti.size, none⟩) (n + m - (i + m)) dc, .slice (some ⟨b, off + i * ti.size, none⟩) (n - i) sc]).run P W2.drew = .ok (goInt k2) W3) →
    Calls P f #[.slice (some ⟨b, off, none⟩) n c, .int .i64 i, .slice (some va) m vc] w fun e w' => e = .returned (.slice (some ⟨g, 0, none⟩) (n + m) G) ∧ w' = W3

section
variable {P : Program} {gl : Nat → Option (List V)} {N B : Nat} {M : Mem} {ρ : Rho} {h : Heap} {w : World} {s : Slots} {a : Act}

theorem copy_run {W W' : World} {t u ty e : TypeId} {i : TypeInfo} (ht : P.underlying t = some (.slice e)) (hi : P.info? e = some i) {ad : Addr} {nd cap ns k : Nat} {X : Value} {ys : List Value} (hk : Nat.min ns nd = k)
    (hl : (Builtin.lenOf X).run P W = .ok ns W) (hf : (Builtin.firstCells i.size k X).run P W = .ok ys.toArray W) (hst : (storeCells ad ys).run P W = .ok () W') :
    (Builtin.copy_ #[t, u] ty #[.slice (some ad) nd cap, X]).run P W = .ok (goInt k) W' := by
  subst hk
  simp [Builtin.copy_, run_underlying ht, hl, hf, sizeOf, typeInfo, hi, hst]

theorem overC_two {p : Nat} {c x y : List Value} (hl : p + x.length + y.length ≤ c.length) : overC p (overC (p + x.length) c y) x = overC p c (x ++ y) := by
  unfold overC
  have e1 : ((c.take (p + x.length) ++ y ++ c.drop (p + x.length + y.length)).take p) = c.take p := by
    rw [List.append_assoc, List.take_append_of_le_length (by simp; omega), List.take_take]
    congr 1
    omega
  have e2 : ((c.take (p + x.length) ++ y ++ c.drop (p + x.length + y.length)).drop (p + x.length)) = y ++ c.drop (p + x.length + y.length) := by
    have hle : (c.take (p + x.length)).length = p + x.length := by simp; omega
    rw [List.append_assoc, List.drop_append, hle, Nat.sub_self, List.drop_zero, List.drop_eq_nil_of_le (by omega), List.nil_append]
  rw [e1, e2]
  simp [Nat.add_assoc]

theorem overC_grown {x y z : List Value} {n1 : List Value} {zz : List Value} (hz : zz.length = y.length + z.length) : overC (x.length + y.length) (overC x.length (x ++ zz ++ n1) y) z = x ++ y ++ z ++ n1 := by
  unfold overC
  have e1 : (x ++ zz ++ n1).take x.length = x := by simp
  rw [e1]
  have e2 : (x ++ zz ++ n1).drop (x.length + y.length) = zz.drop y.length ++ n1 := by
    rw [List.append_assoc, List.drop_append, List.drop_eq_nil_of_le (by omega), List.nil_append, Nat.add_sub_cancel_left, List.drop_append_of_le_length (by omega)]
  rw [e2]
  have e3 : (x ++ y ++ (zz.drop y.length ++ n1)).take (x.length + y.length) = x ++ y := by
    rw [List.take_append_of_le_length (by simp), List.take_of_length_le (by simp)]
  have e4 : (x ++ y ++ (zz.drop y.length ++ n1)).drop (x.length + y.length + z.length) = n1 := by
    have h1 : (x ++ y).length = x.length + y.length := by simp
    have h2 : (zz.drop y.length).length = z.length := by simp; omega
    rw [List.drop_append, List.drop_eq_nil_of_le (by omega), List.nil_append, h1, Nat.add_sub_cancel_left]
    rw [List.drop_append, List.drop_eq_nil_of_le (by omega), List.nil_append, h2, Nat.sub_self, List.drop_zero]
  rw [e3, e4]

/-- Another world with the same memory. -/
theorem HRel.same {w' : World} (hk : ∀ k : Nat, w'.heap[k]? = w.heap[k]?) (hsz : w'.heap.size = w.heap.size) (hh : HRel P gl B M ρ h w) : HRel P gl B M ρ h w' :=
  ⟨hh.bound, fun b l e => by rw [hk]; exact hh.blk b l e, hh.inj, fun k cs e => by rw [hk]; exact hh.mem k cs e, hh.sep, hh.base, hh.fresh, by rw [hsz]; exact hh.room, hh.lonx, hh.glob⟩
theorem Evo.same {M' : Mem} {ρ' : Rho} {h' : Heap} {w1 w' : World} (ho : w'.os = w1.os) (ht : w'.tape = w1.tape) (hu : w'.output = w1.output) (hk : ∀ k : Nat, w'.heap[k]? = w1.heap[k]?) (hsz : w'.heap.size = w1.heap.size)
    (e : Evo M ρ h w M' ρ' h' w1) : Evo M ρ h w M' ρ' h' w' :=
  ⟨e.rho, e.mem, e.lo, e.nx, by rw [ho]; exact e.os, by rw [ht]; exact e.tape, by rw [hu]; exact e.output, by rw [hsz]; exact e.size, e.wr, fun k a b => by rw [hk]; exact e.frame k a b, e.low, e.new, e.mnew⟩

theorem slice_val {v : V} {x : Value} (hv : VRel M ρ v x) {n sz : Nat} {cs : List V} (hn : lenOf v = some n) (hc : rowOf h sz v = some cs) : ∃ base c, x = .slice base n c ∧ n ≤ c := by
  cases v with
  | nils =>
    simp only [VRel] at hv
    simp only [lenOf, Option.some.injEq] at hn
    subst hn
    exact ⟨none, 0, hv, Nat.le_refl _⟩
  | sl b off len cap sz' =>
    simp only [VRel] at hv
    simp only [lenOf, Option.some.injEq] at hn
    subst hn
    obtain ⟨l, a, cap', e, rfl, h1, h2, h3⟩ := hv
    exact ⟨some a, cap', rfl, Nat.le_trans h3 (capR_le h1)⟩
  | isl cs len cap =>
    simp only [VRel] at hv
    simp only [lenOf, Option.some.injEq] at hn
    subst hn
    obtain ⟨a, cap', rfl, h1, h2, h3⟩ := hv
    exact ⟨some a, cap', rfl, h2⟩
  | _ => simp [rowOf] at hc

theorem cells_at {w : World} {blk : Nat} {cur : Array Value} {et : TypeId} {fr : Nat × Nat} (hc : w.heap[blk]? = some (.cells cur et fr)) {A : Nat} {ys : List Value} (hy : ∀ j u, ys[j]? = some u → cur[A + j]? = some u) :
    ∀ j u, ys[j]? = some u → w.cell? ((⟨blk, A, none⟩ : Addr).add j) = some u := by
  intro j u hj
  rw [addr_add, cell_of_obj hc]
  exact hy j u hj

theorem overC_get_out {p : Nat} {c y : List Value} {j : Nat} (hl : p + y.length ≤ c.length) (h : j < p ∨ p + y.length ≤ j) : (overC p c y)[j]? = c[j]? := by
  unfold overC
  rcases h with h | h
  · rw [List.append_assoc, List.getElem?_append_left (by simp; omega), List.getElem?_take, if_pos h]
  · rw [List.getElem?_append_right (by simp; omega), List.getElem?_drop]
    congr 1
    simp
    omega

/-- In place. -/
theorem shift_run {f t e it : Nat} {ti : TypeInfo} {z : Value} (hW : InsW P f t e it ti z) {blk A : Nat} {cur : Array Value} {et : TypeId} {fr : Nat × Nat} (hcur : w.heap[blk]? = some (.cells cur et fr)) (hfree : FreeFrom A fr cur.size)
    {n m k c : Nat} (hk : k < n) (hm : 0 < m) (hroom : n + m ≤ c) (h63 : n + m ≤ 9223372036854775807) (hsz : A + (n + m) * ti.size ≤ cur.size)
    {vb vo vc vbase : Nat} {curv : Array Value} {etv : TypeId} {frv : Nat × Nat} (hne : vb ≠ blk) (hcv : w.heap[vb]? = some (.cells curv etv frv)) (hfv : FreeFrom vbase frv curv.size) (hvo : vbase ≤ vo)
    {news tail : List Value} (hnl : news.length = m * ti.size) (hnc : ∀ j u, news[j]? = some u → curv[vo + j]? = some u) (htl : tail.length = (n - k) * ti.size) (htc : ∀ j u, tail[j]? = some u → cur[A + k * ti.size + j]? = some u)
    (h1n : ∀ v ∈ news, v.oneCell' = true) (h1t : ∀ v ∈ tail, v.oneCell' = true) :
    ∃ w', RowAt w w' blk (.cells (overC (A + k * ti.size) cur.toList (news ++ tail)).toArray et fr) ∧
      Calls P f #[.slice (some ⟨blk, A, none⟩) n c, .int .i64 k, .slice (some ⟨vb, vo, none⟩) m vc] w fun e w'' => e = .returned (.slice (some ⟨blk, A, none⟩) (n + m) c) ∧ w'' = w' := by
  have s0 : 0 < ti.size := Nat.pos_of_ne_zero hW.h0
  have e1 : (k + m) * ti.size = k * ti.size + m * ti.size := Nat.add_mul _ _ _
  have e2 : (n + m) * ti.size = k * ti.size + m * ti.size + (n - k) * ti.size := by
    rw [← Nat.add_mul, ← Nat.add_mul]
    congr 1
    omega
  have hmpos : 0 < m * ti.size := Nat.mul_pos hm s0
  have hnpos : 0 < (n - k) * ti.size := Nat.mul_pos (by omega) s0
  obtain ⟨W1, a1, a2⟩ := run_storeRow (P := P) blk (A + (k + m) * ti.size) et fr tail 0 cur w.drew hcur (by omega) (fun j h1 h2 => hfree j (by omega) h2) h1t
  have hW1 := a2.row
  simp only [Nat.add_zero] at a2 hW1
  have hlen1 : (overC (A + (k + m) * ti.size) cur.toList tail).length = cur.size := by rw [overC_length (by simp; omega)]; simp
  obtain ⟨W2, b1, b2⟩ := run_storeRow (P := P) blk (A + k * ti.size) et fr news 0 (overC (A + (k + m) * ti.size) cur.toList tail).toArray W1 hW1 (by simp [hlen1]; omega)
    (fun j h1 h2 => hfree j (by omega) (by simpa [hlen1] using h2)) h1n
  simp only [Nat.add_zero] at b2
  have e3 : overC (A + k * ti.size) (overC (A + (k + m) * ti.size) cur.toList tail) news = overC (A + k * ti.size) cur.toList (news ++ tail) := by
    have := overC_two (p := A + k * ti.size) (c := cur.toList) (x := news) (y := tail) (by simp; omega)
    rw [hnl] at this
    rw [e1, ← Nat.add_assoc]
    exact this
  refine ⟨W2, ⟨b2.os.trans a2.os, b2.tape.trans a2.tape, b2.output.trans a2.output, b2.size.trans a2.size, fun q hq => (b2.oth q hq).trans (a2.oth q hq), ?_⟩, ?_⟩
  · rw [b2.row]
    simp only [e3]
  · refine hW.shift w W1 W2 blk A n c k m vc (n - k) m ⟨vb, vo, none⟩ hk hm hroom h63 hne etv et curv.size cur.size ?_ ?_ (by omega) ?_ ?_ ?_ ?_
    · simp [World.shape?, hcv]
    · simp [World.shape?, hcur]
    · have hlt : vo < curv.size := by
        have hx := hnc 0 (news[0]'(by omega)) (by simp)
        have := (Array.getElem?_eq_some_iff.1 hx).1
        omega
      have := hfv vo hvo (Nat.le_of_lt hlt)
      simp only [World.frozen?, hcv]
      simpa using this
    · have hlt : vo < curv.size := by
        have hx := hnc 0 (news[0]'(by omega)) (by simp)
        have := (Array.getElem?_eq_some_iff.1 hx).1
        omega
      have := hfv curv.size (by omega) (Nat.le_refl _)
      simp only [World.frozen?, hcv]
      simpa using this
    · intro ty dc sc
      refine copy_run (ns := n + m - k) hW.ht hW.hi (show min _ _ = _ by omega) (by simp [Builtin.lenOf]) (run_firstCells_some (P := P) w.drew ti.size (n - k) _ _ _ tail htl (cells_at hcur htc)) a1
    · intro ty dc
      refine copy_run (ns := m) hW.ht hW.hi (show min _ _ = _ by omega) (by simp [Builtin.lenOf]) (run_firstCells_some (P := P) W1 ti.size m _ _ _ news hnl (cells_at (w := W1) (cur := curv) (et := etv) (fr := frv) (by rw [a2.oth _ hne]; exact hcv) hnc)) b1

/-- In a new row. -/
theorem grow_run {f t e it : Nat} {ti : TypeInfo} {z : Value} (hW : InsW P f t e it ti z) {blk A : Nat} {cur : Array Value} {et : TypeId} {fr : Nat × Nat} (hcur : w.heap[blk]? = some (.cells cur et fr))
    {n m k c : Nat} (hk : k < n) (hm : 0 < m) (hnc : n ≤ c) (hroom : c < n + m) (hbig : (n + m) * ti.bytes ≤ 140737488355328) (h63 : n + m ≤ 9223372036854775807)
    {vb vo vc : Nat} {curv : Array Value} {etv : TypeId} {frv : Nat × Nat} (hcv : w.heap[vb]? = some (.cells curv etv frv))
    {olds news tail : List Value} (hol : olds.length = k * ti.size) (hoc : ∀ j u, olds[j]? = some u → cur[A + j]? = some u) (hnl : news.length = m * ti.size) (hnv : ∀ j u, news[j]? = some u → curv[vo + j]? = some u)
    (htl : tail.length = (n - k) * ti.size) (htc : ∀ j u, tail[j]? = some u → cur[A + k * ti.size + j]? = some u) (h1n : ∀ v ∈ news, v.oneCell' = true) (h1t : ∀ v ∈ tail, v.oneCell' = true) :
    ∃ w' G row, n + m ≤ G ∧ row.toList = olds ++ news ++ tail ++ (Builtin.zeroCells z.cells (G - (n + m))).toList ∧ w'.os = w.os ∧ w'.tape = w.tape ∧ w'.output = w.output ∧ w'.heap.size = (w.drew.alloc (.cells row e)).heap.size ∧
      (∀ q : Nat, w'.heap[q]? = (w.drew.alloc (.cells row e)).heap[q]?) ∧
      Calls P f #[.slice (some ⟨blk, A, none⟩) n c, .int .i64 k, .slice (some ⟨vb, vo, none⟩) m vc] w fun e w'' => e = .returned (.slice (some ⟨w.heap.size, 0, none⟩) (n + m) G) ∧ w'' = w' := by
  have s0 : 0 < ti.size := Nat.pos_of_ne_zero hW.h0
  have e1 : (k + m) * ti.size = k * ti.size + m * ti.size := Nat.add_mul _ _ _
  have e2 : (n + m) * ti.size = k * ti.size + m * ti.size + (n - k) * ti.size := by
    rw [← Nat.add_mul, ← Nat.add_mul]
    congr 1
    omega
  have e4 : (n + m - k) * ti.size = m * ti.size + (n - k) * ti.size := by
    rw [← Nat.add_mul]
    congr 1
    omega
  have hbw : blk < w.heap.size := (Array.getElem?_eq_some_iff.1 hcur).1
  have hvw : vb < w.heap.size := (Array.getElem?_eq_some_iff.1 hcv).1
  have hsum : k + (n + m - k) = n + m := by omega
  have hbk : (n + m - k) * ti.bytes ≤ 140737488355328 := Nat.le_trans (Nat.mul_le_mul_right _ (by omega)) hbig
  have hr := fun ty => append_run_grow_int (P := P) (t := t) (u := it) (ty := ty) (w := w) hW.ht hW.hi hW.hz (base := some ⟨blk, A, none⟩) (sLen := k) (sCap := c) (n := n + m - k) (X := .int .i64 ((n : Int) + (m : Int) - (k : Int))) (olds := olds)
    (news := (Builtin.zeroCells z.cells (n + m - k)).toList) ⟨hW.hit, ⟨.i64, by congr 1; omega⟩, hbk, by omega, hW.hzs, hW.h0, hW.hz, rfl⟩
    (fun w' hw => run_firstCells_some (P := P) w' ti.size k _ _ _ olds hol (fun j u hj => by rw [cell_same hw]; exact cells_at hcur hoc j u hj)) (by omega) (by omega) (by rw [hsum]; exact hbig) (by omega)
  rw [hsum] at hr
  generalize hG : grownCap w (n + m) c e = G at hr
  have hGn : n + m ≤ G := by rw [← hG]; exact grownCap_ge w _ _ _
  generalize hrow : (olds.toArray ++ (Builtin.zeroCells z.cells (n + m - k)).toList.toArray ++ Builtin.zeroCells z.cells (G - (n + m))) = row0 at hr
  have hrl : row0.toList = olds ++ (Builtin.zeroCells z.cells (n + m - k)).toList ++ (Builtin.zeroCells z.cells (G - (n + m))).toList := by rw [← hrow]; simp
  have hzl : (Builtin.zeroCells z.cells (n + m - k)).toList.length = news.length + tail.length := by
    simp [zeroCells_size, hW.hzs, hnl, htl, e4]
  have hzl2 : (Builtin.zeroCells z.cells (G - (n + m))).toList.length = (G - (n + m)) * ti.size := by simp [zeroCells_size, hW.hzs]
  have hrs : row0.size = olds.length + (news.length + tail.length) + (G - (n + m)) * ti.size := by
    rw [← Array.length_toList, hrl, List.length_append, List.length_append, hzl, hzl2]
  have hn0 : (w.drew.alloc (.cells row0 e)).heap[w.heap.size]? = some (.cells row0 e (0, 0)) := by
    exact heap_alloc_new (w := w.drew) _
  obtain ⟨W2, a1, a2⟩ := run_storeRow (P := P) w.heap.size (k * ti.size) e (0, 0) news 0 row0 (w.drew.alloc (.cells row0 e)) hn0 (by omega) (fun j _ _ => by simp) h1n
  have hW2 := a2.row
  simp only [Nat.add_zero] at a2 hW2
  have hlen1 : (overC (k * ti.size) row0.toList news).length = row0.size := by rw [overC_length (by simp; omega)]; simp
  obtain ⟨W3, b1, b2⟩ := run_storeRow (P := P) w.heap.size ((k + m) * ti.size) e (0, 0) tail 0 (overC (k * ti.size) row0.toList news).toArray W2.drew hW2 (by simp [hlen1]; omega) (fun j _ _ => by simp) h1t
  simp only [Nat.add_zero] at b2
  have e3 : overC ((k + m) * ti.size) (overC (k * ti.size) row0.toList news) tail = olds ++ news ++ tail ++ (Builtin.zeroCells z.cells (G - (n + m))).toList := by
    rw [hrl, e1, ← hol, ← hnl]
    exact overC_grown hzl
  refine ⟨W3, G, (overC ((k + m) * ti.size) (overC (k * ti.size) row0.toList news) tail).toArray, hGn, by rw [List.toList_toArray, e3], b2.os.trans a2.os, b2.tape.trans a2.tape, b2.output.trans a2.output, ?_, ?_, ?_⟩
  · rw [b2.size]
    show W2.heap.size = _
    rw [a2.size]
    simp
  · intro q
    by_cases hq : q = w.heap.size
    · subst hq
      rw [b2.row]
      exact (heap_alloc_new (w := w.drew) _).symm
    · rw [b2.oth q hq]
      show W2.heap[q]? = _
      rw [a2.oth q hq]
      rcases Nat.lt_or_ge q w.heap.size with h1 | h1
      · rw [heap_alloc_old (w := w.drew) _ _ h1, heap_alloc_old (w := w.drew) _ _ h1]
      · rw [Array.getElem?_eq_none (by simp; omega), Array.getElem?_eq_none (by simp; omega)]
  · refine hW.grow w _ W2 W3 blk A n c k m vc w.heap.size G m (n - k) ⟨vb, vo, none⟩ hk hm hnc hroom h63 hGn hr ?_ ?_
    · intro ty dc
      refine copy_run (ns := m) hW.ht hW.hi (show min _ _ = _ by omega) (by simp [Builtin.lenOf]) (run_firstCells_some (P := P) _ ti.size m _ _ _ news hnl (cells_at (cur := curv) (et := etv) (fr := frv) (by rw [heap_alloc_old (w := w.drew) _ _ hvw]; exact hcv) hnv)) a1
    · intro ty dc sc
      refine copy_run (ns := n - k) hW.ht hW.hi (show min _ _ = _ by omega) (by simp [Builtin.lenOf]) (run_firstCells_some (P := P) _ ti.size (n - k) _ _ _ tail htl (cells_at (cur := cur) (et := et) (fr := fr) ?_ htc)) b1
      show W2.heap[blk]? = _
      rw [a2.oth _ (by omega), heap_alloc_old (w := w.drew) _ _ hbw]
      exact hcur
end
end Go.VE
