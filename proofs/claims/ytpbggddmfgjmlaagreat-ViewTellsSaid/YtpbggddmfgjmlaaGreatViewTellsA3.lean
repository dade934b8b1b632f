/- What the functions of the law ViewTells compute, on typed arguments (part 3). -/
import Derived.Test.YtpbggddmfgjmlaaGreatViewTellsA2
import Derived.Test.YtpbggddmfgjmlaaGreatViewTellsA1
set_option linter.all false
namespace Go.VE.LB
set_option maxRecDepth 100000
set_option maxHeartbeats 4000000
section
open Go Go.VE
def eI (n : Int) : List V := [.int .i64 n]
def eO (b : Bool) : List V := [.bool b]
theorem eI_len (n : Int) : (eI n).length = 1 := rfl
theorem eO_len (b : Bool) : (eO b).length = 1 := rfl
theorem eI_scal (n : Int) : (eI n).all VE.scal = true := rfl
theorem eO_scal (n : Bool) : (eO n).all VE.scal = true := rfl
def isN (n x : Int) : Bool := decide (x = n)
section
variable {vp : Nat → Option VFn}
def invIn (n : Int) (v : V) (l : List Int) (H : Heap) (m : Nat) (s : Slots) (h : Heap) : Prop :=
 ∃ k, k ≤ l.length ∧ m = l.length - k ∧ s.at 0 = v ∧ s.at 1 = .int .i64 n ∧ s.at 5 = .int .i64 (k : Int) ∧ h = H ∧ ∀ j (hj : j < l.length), j < k → isN n l[j] = false
theorem any_no {α : Type} {q : α → Bool} {l : List α} (h : ∀ j (hj : j < l.length), q l[j] = false) : l.any q = false := by
 rw [List.any_eq_false]
 intro x hx
 obtain ⟨j, hj, rfl⟩ := List.mem_iff_getElem.1 hx
 simp [h j hj]
theorem any_yes {α : Type} {q : α → Bool} {l : List α} {j : Nat} (hj : j < l.length) (h : q l[j] = true) : l.any q = true := List.any_eq_true.2 ⟨_, List.getElem_mem hj, h⟩
theorem in_spec {f : Nat} (hf : vp f = some Zzdi) (v : V) (l : List Int) (n : Int) (h : Heap) (hv : Rd eI 1 h v l) (hn : l.length < 4611686018427387904) : callRes vp f [v, .int .i64 n] h = some (.bool (l.any (isN n)), h) := by
 refine res_pure hf rfl rfl (fun g hg => ?_)
 have hv := hv.enter (A := fun v => [v, .int .i64 n]) hg (fun _ _ _ _ => rfl)
 have ln := hv.len
 unfold Zzdi
 simp only [↓zp, zv, seval, ln]
 generalize hS : Tr.set _ 5 _ = S
 have b0 : Slots.at S 0 = v := by rw [← hS]; simp only [zs, seval]
 have b1 : Slots.at S 1 = .int .i64 n := by rw [← hS]; simp only [zs, seval]
 have b5 : Slots.at S 5 = .int .i64 ((0 : Nat) : Int) := by rw [← hS]; simp only [zs, seval] <;> rfl
 clear hS
 refine loop_ind (fun m s h => invIn n v l g m s h) ?_ l.length ⟨0, by omega, by omega, b0, b1, b5, rfl, fun j _ hj => by omega⟩
 rintro m s h ⟨k, hk, hm, c0, c1, c5, rfl, hinc⟩
 by_cases hlt : k < l.length
 case neg =>
  have hlt' : ¬ ((k : Int) < (l.length : Int)) := by omega
  have e := any_no (q := isN n) (l := l) (fun j hj => hinc j hj (by omega))
  simp only [↓zp, zv, seval, c0, c1, c5, ln, hlt', e, frzB]
 have hlt' : (k : Int) < (l.length : Int) := by omega
 have ws := wr_succ (k := k) (by omega)
 obtain ⟨a, ia, el⟩ := hv.ia eI_len (by decide) hlt
 have ld := El.ld1 (cs := []) el (Kp.refl h)
 by_cases q : l[k] = n
 ·have e : l.any (isN n) = true := any_yes hlt (by simp [isN, q])
  have q' := eq_true q
  simp only [↓zp, zv, seval, c0, c1, c5, ln, hlt', ia, ld, q', e, frzB]
 ·simp only [↓zp, zv, seval, c0, c1, c5, ln, hlt', ia, ld, q, ws]
  refine ⟨_, by omega, k + 1, by omega, rfl, by simp only [zs, seval, c0], by simp only [zs, seval, c1], by simp only [zs, seval], rfl, fun j hj hj2 => ?_⟩
  rcases Nat.lt_or_ge j k with r | r
  ·exact hinc j hj r
  ·have : j = k := by omega
   subst this
   simp [isN, q]
def walk (nx : List Int) : Nat → Int → List Int → Option (List Int)
 | 0, i, acc => if i = -1 then some acc else none
 | f + 1, i, acc => if i = -1 then some acc else if i < 0 ∨ (nx.length : Int) ≤ i ∨ i ∈ acc then none else walk nx f ((nx[i.toNat]?).getD 0) (acc ++ [i])
structure Acc1 (n : Nat) (acc : List Int) : Prop where
 range : ∀ x ∈ acc, 0 ≤ x ∧ x < n
 nodup : acc.Nodup
theorem pigeon : ∀ (n : Nat) (l : List Nat), l.Nodup → (∀ x ∈ l, x < n) → l.length ≤ n
 | 0, l, _, h => by
  cases l with
  | nil => simp
  | cons x l => exact absurd (h x List.mem_cons_self) (by omega)
 | n + 1, l, hd, h => by
  have h1 := pigeon n (l.erase n) (hd.erase n) (fun x hx => by
   have h2 := (hd.mem_erase_iff).1 hx
   have h3 := h x h2.2
   have h4 := h2.1
   omega)
  have h5 : l.length ≤ (l.erase n).length + 1 := by
   rw [List.length_erase]
   split <;> omega
  omega
theorem Acc1.len {n : Nat} {acc : List Int} (a : Acc1 n acc) : acc.length ≤ n := by
 have h1 : (acc.map Int.toNat).Nodup := by
  rw [List.nodup_iff_pairwise_ne, List.pairwise_map]
  exact a.nodup.imp_of_mem fun {x y} hx hy hne e => by
   have := a.range x hx
   have := a.range y hy
   exact hne (by omega)
 have h2 := pigeon n _ h1 (fun x hx => by
  obtain ⟨y, hy, rfl⟩ := List.mem_map.1 hx
  have := a.range y hy
  omega)
 simpa using h2
theorem Acc1.snoc {n : Nat} {acc : List Int} {i : Int} (a : Acc1 n acc) (h0 : 0 ≤ i) (h1 : i < n) (h2 : i ∉ acc) : Acc1 n (acc ++ [i]) := by
 refine ⟨fun x hx => ?_, ?_⟩
 ·rcases List.mem_append.1 hx with hx | hx
  ·exact a.range x hx
  ·rw [List.mem_singleton] at hx; omega
 ·rw [List.nodup_append]
  refine ⟨a.nodup, by simp, fun x hx y hy e => ?_⟩
  rw [List.mem_singleton] at hy
  subst hy e
  exact h2 hx
theorem walk_sub {nx : List Int} : ∀ {f : Nat} {i : Int} {acc l : List Int}, walk nx f i acc = some l → acc ⊆ l
 | 0, i, acc, l, h => by
  unfold walk at h
  split at h
  ·cases h; exact fun _ h => h
  ·cases h
 | f + 1, i, acc, l, h => by
  unfold walk at h
  split at h
  ·cases h; exact fun _ h => h
  ·split at h
   ·cases h
   ·exact fun x hx => walk_sub h (List.mem_append_left _ hx)
theorem walk_acc {nx : List Int} : ∀ {f : Nat} {i : Int} {acc l : List Int}, Acc1 nx.length acc → walk nx f i acc = some l → Acc1 nx.length l
 | 0, i, acc, l, a, h => by
  unfold walk at h
  split at h
  ·cases h; exact a
  ·cases h
 | f + 1, i, acc, l, a, h => by
  unfold walk at h
  split at h
  ·cases h; exact a
  ·split at h
   ·cases h
   ·rename_i h1 h2
    simp only [not_or, Int.not_lt, Int.not_le] at h2
    exact walk_acc (a.snoc h2.1 h2.2.1 h2.2.2) h
theorem walk_step {nx : List Int} {i : Int} {acc : List Int} (a : Acc1 nx.length acc) (h : ¬ i = -1) (h2 : ¬ (i < 0 ∨ (nx.length : Int) ≤ i ∨ i ∈ acc)) : walk nx (nx.length - acc.length) i acc = walk nx (nx.length - (acc ++ [i]).length) ((nx[i.toNat]?).getD 0) (acc ++ [i]) := by
 simp only [not_or, Int.not_lt, Int.not_le] at h2
 have := (a.snoc h2.1 h2.2.1 h2.2.2).len
 simp only [List.length_append, List.length_singleton] at this ⊢
 obtain ⟨f, hf⟩ : ∃ f, nx.length - acc.length = f + 1 := ⟨nx.length - acc.length - 1, by omega⟩
 rw [hf, walk, if_neg h, if_neg (by simp only [not_or, Int.not_lt, Int.not_le]; exact h2), show nx.length - (acc.length + 1) = f by omega]
theorem walk_bad {nx : List Int} {i : Int} {acc : List Int} (h : ¬ i = -1) (h2 : i < 0 ∨ (nx.length : Int) ≤ i ∨ i ∈ acc) (f : Nat) : walk nx f i acc = none := by
 cases f with
 | zero => rw [walk, if_neg h]
 | succ f => rw [walk, if_neg h, if_pos h2]
theorem walk_end {nx : List Int} {acc : List Int} (f : Nat) : walk nx f (-1) acc = some acc := by
 cases f <;> rw [walk, if_pos rfl]
end
end
section
open Go Go.VE
theorem eI_one (n : Int) : (eI n).all oneCell = true := rfl
structure Ex (h h' : Heap) : Prop where
 lo : h'.lo = h.lo
 nx : h.nx ≤ h'.nx
 get : ∀ b, b < h.nx → (∀ cs, h.get b ≠ .cells cs .op) → h'.get b = h.get b
theorem push {α : Type} {enc : α → List V} {sz bytes : Nat} (he : ∀ x, (enc x).length = sz) (ho : ∀ x, (enc x).all oneCell = true) {h : Heap} {v : V} {l : List α} (a : Acc enc sz h v l) (hlo : h.lo ≤ h.nx) (c : α) (hb : (l.length + 1) * bytes ≤ 140737488355328) :
  ∃ v' h', r_app sz bytes v (.sl h.nx 0 1 1 sz) (h.new (.cells (enc c) .cl)) = some (v', h') ∧ Ex h h' ∧ Acc enc sz h' v' (l ++ [c]) := by
 have a2 : Acc enc sz (h.new (.cells (enc c) .cl)) v l := a.keep rfl (by simp [Heap.new]) (fun b _ hb _ => by rw [Heap.get_new, if_neg (by omega)])
 obtain ⟨v', h', e1, e2, e3, e4, e5⟩ := a2.app he ho (bx := h.nx) (y := c) (tx := .cl) (by rw [Heap.get_new, if_pos rfl]) hb
 refine ⟨v', h', e1, ⟨e2, by rw [e3]; simp [Heap.new]; omega, fun b hb hne => ?_⟩, e4 (by show h.lo ≤ h.nx + 1; omega)⟩
 have e6 : (h.new (.cells (enc c) .cl)).get b = h.get b := by rw [Heap.get_new, if_neg (by omega)]
 rw [e5 b (by show b < h.nx + 1; omega) (by rw [e6]; exact hne), e6]
theorem fzTx {h : Heap} {base : Nat} {v v' w : V} (hs : scal w = true) (f : FzV h base 800000 v v') : frz frzFuel h base false (.tup [v, w]) = some (.tup [v', w]) := by
 have z : FzL h base 800000 [] [] := fun n hn => FzL.nil n (by omega)
 have q2 : FzL h base 800003 [w] [w] := fun n hn => FzL.cons (.scal hs) z (by omega) n (by omega)
 exact (FzV.tup (FzL.cons f q2 (by omega))) frzFuel (by show _ ≤ 1000000; omega)
theorem fzTb {h : Heap} {base : Nat} {v v' : V} {b : Bool} (f : FzV h base 800000 v v') : frz frzFuel h base false (.tup [v, .bool b]) = some (.tup [v', .bool b]) := fzTx rfl f
def FreeIs (nx : List Int) (fr : Int) (r : V) : Prop := ∃ o : Sl Int, ∃ b, r = .tup [o.v eI, .bool b] ∧ ((b = true ∧ walk nx nx.length fr [] = some o.l) ∨ (b = false ∧ walk nx nx.length fr [] = none))
section
variable {vp : Nat → Option VFn}
def invfree (A : List V) (nx : List Int) (fr : Int) (bx lo : Nat) (m : Nat) (s : Slots) (h : Heap) : Prop :=
 ∃ acc i, m = nx.length - acc.length ∧ Acc1 nx.length acc ∧ walk nx nx.length fr [] = walk nx (nx.length - acc.length) i acc ∧ s.at 1 = .ptr bx 0 ∧ s.at 5 = .int .i64 i ∧ h.get bx = .cells A .cl ∧ h.lo = lo ∧ lo ≤ h.nx ∧ bx < h.nx ∧ ∃ v, s.at 4 = v ∧ Acc eI 1 h v acc
theorem free_spec {f c1 : Nat} (hf : vp f = some (Zzdg c1)) (h1 : vp c1 = some Zzdi) (nx : Sl Int) (u : Sl Bool) (fr : Int) (h : Heap) (hn : nx.l.length ≤ 1000) :
  ∃ r, callRes vp f [.agg [nx.v eI, u.v eO, .int .i64 fr]] h = some (r, h) ∧ FreeIs nx.l fr r := by
 have m1 : modeOf vp c1 = some 1 := mo h1 rfl rfl
 refine res_pure_ex hf rfl rfl (fun g hg => ?_)
 have hlo := hlo hg
 have hge : g.lo = g.nx := by
  rcases hg with ⟨rfl, _⟩ | ⟨e1, e2, _⟩
  ·rfl
  ·omega
 unfold Zzdg
 simp only [↓zp, zv, seval]
 generalize hS : Tr.set _ 5 _ = S
 have b1 : Slots.at S 1 = .ptr g.nx 0 := by rw [← hS]; simp only [zs, seval]
 have b4 : Slots.at S 4 = .nils := by rw [← hS]; simp only [zs, seval]
 have b5 : Slots.at S 5 = .int .i64 fr := by rw [← hS]; simp only [zs, seval]
 clear hS
 generalize hH : Heap.new g _ = H
 have hb : H.get g.nx = .cells [nx.v eI, u.v eO, .int .i64 fr] .cl := by rw [← hH, Heap.get_new, if_pos rfl]
 have hl : H.lo = g.lo := by rw [← hH]; rfl
 have hn : g.nx < H.nx := by rw [← hH]; simp [Heap.new]
 clear hH
 refine loop_ind (fun m s h => invfree [nx.v eI, u.v eO, .int .i64 fr] nx.l fr g.nx g.lo m s h) ?_ nx.l.length ⟨[], fr, by simp, ⟨by simp, by simp⟩, by simp, b1, b5, hb, hl, by omega, hn, .nils, b4, Acc.nil⟩
 rintro m s h ⟨acc, i, hm, a1, hw, c1, c5, hbh, hlh, hnh, hbn, v, c4, ac⟩
 have ln := a1.len
 by_cases q1 : i = -1
 ·subst q1
  rw [walk_end] at hw
  obtain ⟨o, ol, of⟩ := Acc.fz (base := g.nx) eI_len eI_scal ac (by omega)
  simp only [↓zp, zv, seval, c1, c4, c5, hbh, not_true]
  exact ⟨_, fzTb (of.le (by omega)), o, true, rfl, .inl ⟨rfl, by rw [ol]; exact hw⟩⟩
 have inn := fun n => in_spec h1 v acc n h (Acc.rd ac) (by omega)
 by_cases q2 : i < 0
 ·rw [walk_bad q1 (.inl q2)] at hw
  simp only [↓zp, zv, seval, c1, c4, c5, hbh, q1, not_false_eq_true, q2]
  exact ⟨_, fzTb (FzV.le (.scal rfl) (by omega)), .nil, false, rfl, .inr ⟨rfl, hw⟩⟩
 by_cases q3 : (nx.l.length : Int) ≤ i
 ·rw [walk_bad q1 (.inr (.inl q3))] at hw
  simp only [↓zp, zv, seval, c1, c4, c5, hbh, q1, not_false_eq_true, q2, q3]
  exact ⟨_, fzTb (FzV.le (.scal rfl) (by omega)), .nil, false, rfl, .inr ⟨rfl, hw⟩⟩
 by_cases q4 : i ∈ acc
 ·rw [walk_bad q1 (.inr (.inr q4))] at hw
  have e : acc.any (isN i) = true := List.any_eq_true.2 ⟨i, q4, by simp [isN]⟩
  simp only [↓zp, zv, seval, c1, c4, c5, hbh, q1, not_false_eq_true, q2, q3, m1, inn, e]
  exact ⟨_, fzTb (FzV.le (.scal rfl) (by omega)), .nil, false, rfl, .inr ⟨rfl, hw⟩⟩
 have e : acc.any (isN i) = false := by
  rw [List.any_eq_false]
  intro x hx
  simp only [isN, decide_eq_true_eq]
  rintro rfl
  exact q4 hx
 obtain ⟨k, rfl⟩ : ∃ k : Nat, i = k := ⟨i.toNat, by omega⟩
 have hk : k < nx.l.length := by omega
 have a2 := a1.snoc (by omega) (by omega) q4
 have ln2 := a2.len
 simp only [List.length_append, List.length_singleton] at ln2
 rw [walk_step a1 q1 (by simp only [not_or]; exact ⟨q2, q3, q4⟩)] at hw
 have e5 : (nx.l[((k : Int)).toNat]?).getD 0 = nx.l[k] := by simp [hk]
 rw [e5] at hw
 obtain ⟨v', h', e1, e2, e3⟩ := push eI_len eI_one (bytes := 8) ac (by omega) (k : Int) (by omega)
 have hb' : h'.get g.nx = _ := (e2.get _ hbn (by rw [hbh]; intro cs q; cases q)).trans hbh
 obtain ⟨a, ia, el⟩ := (Rd.sl (g := h') (enc := eI) (sz := 1) nx).ia eI_len (by decide) hk
 have ld := El.ld1 (cs := []) el (Kp.refl h')
 simp only [eI] at e1
 simp only [↓zp, zv, seval, c1, c4, c5, hbh, q1, not_false_eq_true, q2, q3, m1, inn, e, e1, hb', ia, ld]
 have lo2 := e2.lo
 have nx2 := e2.nx
 exact ⟨nx.l.length - (acc.length + 1), by omega, acc ++ [(k : Int)], nx.l[k], by simp, a2, hw, by simp only [zs, seval, c1], by simp only [zs, seval], hb', by omega, by omega, by omega, v', by simp only [zs, seval], e3⟩
def invall (A : List V) (nx : List Int) (fr : Int) (bx lo : Nat) (m : Nat) (s : Slots) (h : Heap) : Prop :=
 ∃ acc i, m = nx.length - acc.length ∧ Acc1 nx.length acc ∧ walk nx nx.length fr [] = walk nx (nx.length - acc.length) i acc ∧ s.at 1 = .ptr bx 0 ∧ s.at 5 = .int .i64 i ∧ h.get bx = .cells A .cl ∧ h.lo = lo ∧ lo ≤ h.nx ∧ bx < h.nx ∧ ∃ v, s.at 4 = v ∧ Acc eI 1 h v acc
theorem all_spec {f c1 : Nat} (hf : vp f = some (Zzdq c1)) (h1 : vp c1 = some Zzdi) (pv nx : Sl Int) (fr tl : Int) (h : Heap) (hn : nx.l.length ≤ 1000) :
  ∃ r, callRes vp f [.agg [pv.v eI, nx.v eI, .int .i64 fr, .int .i64 tl]] h = some (r, h) ∧ FreeIs nx.l fr r := by
 have m1 : modeOf vp c1 = some 1 := mo h1 rfl rfl
 refine res_pure_ex hf rfl rfl (fun g hg => ?_)
 have hlo := hlo hg
 have hge : g.lo = g.nx := by
  rcases hg with ⟨rfl, _⟩ | ⟨e1, e2, _⟩
  ·rfl
  ·omega
 unfold Zzdq
 simp only [↓zp, zv, seval]
 generalize hS : Tr.set _ 5 _ = S
 have b1 : Slots.at S 1 = .ptr g.nx 0 := by rw [← hS]; simp only [zs, seval]
 have b4 : Slots.at S 4 = .nils := by rw [← hS]; simp only [zs, seval]
 have b5 : Slots.at S 5 = .int .i64 fr := by rw [← hS]; simp only [zs, seval]
 clear hS
 generalize hH : Heap.new g _ = H
 have hb : H.get g.nx = .cells [pv.v eI, nx.v eI, .int .i64 fr, .int .i64 tl] .cl := by rw [← hH, Heap.get_new, if_pos rfl]
 have hl : H.lo = g.lo := by rw [← hH]; rfl
 have hn : g.nx < H.nx := by rw [← hH]; simp [Heap.new]
 clear hH
 refine loop_ind (fun m s h => invall [pv.v eI, nx.v eI, .int .i64 fr, .int .i64 tl] nx.l fr g.nx g.lo m s h) ?_ nx.l.length ⟨[], fr, by simp, ⟨by simp, by simp⟩, by simp, b1, b5, hb, hl, by omega, hn, .nils, b4, Acc.nil⟩
 rintro m s h ⟨acc, i, hm, a1, hw, c1, c5, hbh, hlh, hnh, hbn, v, c4, ac⟩
 have ln := a1.len
 by_cases q1 : i = -1
 ·subst q1
  rw [walk_end] at hw
  obtain ⟨o, ol, of⟩ := Acc.fz (base := g.nx) eI_len eI_scal ac (by omega)
  simp only [↓zp, zv, seval, c1, c4, c5, hbh, not_true]
  exact ⟨_, fzTb (of.le (by omega)), o, true, rfl, .inl ⟨rfl, by rw [ol]; exact hw⟩⟩
 have inn := fun n => in_spec h1 v acc n h (Acc.rd ac) (by omega)
 by_cases q2 : i < 0
 ·rw [walk_bad q1 (.inl q2)] at hw
  simp only [↓zp, zv, seval, c1, c4, c5, hbh, q1, not_false_eq_true, q2]
  exact ⟨_, fzTb (FzV.le (.scal rfl) (by omega)), .nil, false, rfl, .inr ⟨rfl, hw⟩⟩
 by_cases q3 : (nx.l.length : Int) ≤ i
 ·rw [walk_bad q1 (.inr (.inl q3))] at hw
  simp only [↓zp, zv, seval, c1, c4, c5, hbh, q1, not_false_eq_true, q2, q3]
  exact ⟨_, fzTb (FzV.le (.scal rfl) (by omega)), .nil, false, rfl, .inr ⟨rfl, hw⟩⟩
 by_cases q4 : i ∈ acc
 ·rw [walk_bad q1 (.inr (.inr q4))] at hw
  have e : acc.any (isN i) = true := List.any_eq_true.2 ⟨i, q4, by simp [isN]⟩
  simp only [↓zp, zv, seval, c1, c4, c5, hbh, q1, not_false_eq_true, q2, q3, m1, inn, e]
  exact ⟨_, fzTb (FzV.le (.scal rfl) (by omega)), .nil, false, rfl, .inr ⟨rfl, hw⟩⟩
 have e : acc.any (isN i) = false := by
  rw [List.any_eq_false]
  intro x hx
  simp only [isN, decide_eq_true_eq]
  rintro rfl
  exact q4 hx
 obtain ⟨k, rfl⟩ : ∃ k : Nat, i = k := ⟨i.toNat, by omega⟩
 have hk : k < nx.l.length := by omega
 have a2 := a1.snoc (by omega) (by omega) q4
 have ln2 := a2.len
 simp only [List.length_append, List.length_singleton] at ln2
 rw [walk_step a1 q1 (by simp only [not_or]; exact ⟨q2, q3, q4⟩)] at hw
 have e5 : (nx.l[((k : Int)).toNat]?).getD 0 = nx.l[k] := by simp [hk]
 rw [e5] at hw
 obtain ⟨v', h', e1, e2, e3⟩ := push eI_len eI_one (bytes := 8) ac (by omega) (k : Int) (by omega)
 have hb' : h'.get g.nx = _ := (e2.get _ hbn (by rw [hbh]; intro cs q; cases q)).trans hbh
 obtain ⟨a, ia, el⟩ := (Rd.sl (g := h') (enc := eI) (sz := 1) nx).ia eI_len (by decide) hk
 have ld := El.ld1 (cs := []) el (Kp.refl h')
 simp only [eI] at e1
 simp only [↓zp, zv, seval, c1, c4, c5, hbh, q1, not_false_eq_true, q2, q3, m1, inn, e, e1, hb', ia, ld]
 have lo2 := e2.lo
 have nx2 := e2.nx
 exact ⟨nx.l.length - (acc.length + 1), by omega, acc ++ [(k : Int)], nx.l[k], by simp, a2, hw, by simp only [zs, seval, c1], by simp only [zs, seval], hb', by omega, by omega, by omega, v', by simp only [zs, seval], e3⟩
end
end
section
open Go Go.VE Classical
theorem eqb_ff : (false == false) = true := rfl
theorem eqb_ft : (false == true) = false := rfl
theorem eqb_tf : (true == false) = false := rfl
theorem eqb_tt : (true == true) = true := rfl
noncomputable def chk (p : Prop) : Int := if p then 0 else 8
theorem chk_y {p : Prop} (h : p) : chk p = 0 := if_pos h
theorem chk_n {p : Prop} (h : ¬ p) : chk p = 8 := if_neg h
def ArOk (nx : List Int) (us : List Bool) (fr : Int) : Prop :=
 1 ≤ nx.length ∧ nx.length ≤ 16 ∧ us.length = nx.length ∧ ∃ l, walk nx nx.length fr [] = some l ∧ ∀ i (hi : i < us.length) (hn : i < nx.length), us[i] = !l.any (isN i) ∧ (us[i] = true → nx[i] = -1)
section
variable {vp : Nat → Option VFn}
def inv13 (A : List V) (v : V) (nx : List Int) (us : List Bool) (l : List Int) (bx : Nat) (H : Heap) (m : Nat) (s : Slots) (h : Heap) : Prop :=
 ∃ k, k ≤ us.length ∧ m = us.length - k ∧ s.at 1 = .ptr bx 0 ∧ s.at 3 = v ∧ s.at 5 = .int .i64 (k : Int) ∧ h = H ∧ ∀ i (hi : i < us.length) (hn : i < nx.length), i < k → us[i] = !l.any (isN i) ∧ (us[i] = true → nx[i] = -1)
theorem arR_spec {f c1 c2 : Nat} (hf : vp f = some (Zzdf c1 c2)) (h1 : vp c1 = some (Zzdg c2)) (h2 : vp c2 = some Zzdi) (nx : Sl Int) (u : Sl Bool) (fr : Int) (h : Heap) :
  callRes vp f [.agg [nx.v eI, u.v eO, .int .i64 fr]] h = some (.int .i64 (chk (ArOk nx.l u.l fr)), h) := by
 have m1 : modeOf vp c1 = some 1 := mo h1 rfl rfl
 have m2 : modeOf vp c2 = some 1 := mo h2 rfl rfl
 refine res_pure hf rfl rfl (fun g hg => ?_)
 unfold Zzdf
 by_cases q1 : nx.l.length < 1
 ·have q1' : (nx.l.length : Int) < 1 := by omega
  have e := chk_n (p := ArOk nx.l u.l fr) (fun x => by have := x.1; omega)
  simp only [↓zp, zv, seval, q1', e, frzI]
 have q1' : ¬ (nx.l.length : Int) < 1 := by omega
 by_cases q2 : 16 < nx.l.length
 ·have q2' : 16 < (nx.l.length : Int) := by omega
  have e := chk_n (p := ArOk nx.l u.l fr) (fun x => by have := x.2.1; omega)
  simp only [↓zp, zv, seval, q1', q2', e, frzI]
 have q2' : ¬ 16 < (nx.l.length : Int) := by omega
 by_cases q3 : u.l.length = nx.l.length
 case neg =>
  have q3' : ¬ (u.l.length : Int) = (nx.l.length : Int) := by omega
  have e := chk_n (p := ArOk nx.l u.l fr) (fun x => q3 x.2.2.1)
  simp only [↓zp, zv, seval, q1', q2', q3', not_false_eq_true, e, frzI]
 have q3' : ((u.l.length : Int) = (nx.l.length : Int)) = True := eq_true (by omega)
 obtain ⟨r, er, o, b, rfl, hr⟩ := free_spec h1 h2 nx u fr (g.new (.cells [nx.v eI, u.v eO, .int .i64 fr] .cl)) (by omega)
 rcases hr with ⟨rfl, hw⟩ | ⟨rfl, hw⟩
 case inr =>
  have e := chk_n (p := ArOk nx.l u.l fr) (fun x => by obtain ⟨_, _, _, l, hl, _⟩ := x; rw [hw] at hl; cases hl)
  simp only [↓zp, zv, seval, q1', q2', q3', not_true, m1, er, e, frzI]
 have lo := (walk_acc ⟨by simp, by simp⟩ hw : Acc1 _ _).len
 simp only [↓zp, zv, seval, q1', q2', q3', not_true, m1, er]
 generalize hS : Tr.set _ 5 _ = S
 have b1 : Slots.at S 1 = .ptr g.nx 0 := by rw [← hS]; simp only [zs, seval]
 have b3 : Slots.at S 3 = o.v eI := by rw [← hS]; simp only [zs, seval]
 have b5 : Slots.at S 5 = .int .i64 ((0 : Nat) : Int) := by rw [← hS]; simp only [zs, seval] <;> rfl
 clear hS
 generalize hH : Heap.new g _ = H
 have hb : H.get g.nx = .cells [nx.v eI, u.v eO, .int .i64 fr] .cl := by rw [← hH, Heap.get_new, if_pos rfl]
 clear hH er
 refine loop_ind (fun m s h => inv13 [] (o.v eI) nx.l u.l o.l g.nx H m s h) ?_ u.l.length ⟨0, by omega, by omega, b1, b3, b5, rfl, fun _ _ _ hj => by omega⟩
 rintro m s h ⟨k, hk, hm, c1', c3, c5, rfl, hinc⟩
 by_cases hlt : k < u.l.length
 case neg =>
  have hlt' : ¬ ((k : Int) < (u.l.length : Int)) := by omega
  have e := chk_y (p := ArOk nx.l u.l fr) ⟨by omega, by omega, q3, o.l, hw, fun i hi hn => hinc i hi hn (by omega)⟩
  simp only [↓zp, zv, seval, c1', c3, c5, hb, hlt', e, frzI]
 have hlt' : (k : Int) < (u.l.length : Int) := by omega
 have hkn : k < nx.l.length := by omega
 have ws := wr_succ (k := k) (by omega)
 obtain ⟨a1, ia1, el1⟩ := (Rd.sl (g := h) (enc := eO) (sz := 1) u).ia eO_len (by decide) hlt
 have ld1 := El.ld1 (cs := []) el1 (Kp.refl h)
 obtain ⟨a2, ia2, el2⟩ := (Rd.sl (g := h) (enc := eI) (sz := 1) nx).ia eI_len (by decide) hkn
 have ld2 := El.ld1 (cs := []) el2 (Kp.refl h)
 have inn := fun n => in_spec h2 (o.v eI) o.l n h (Rd.sl o) (by omega)
 have bad : ¬ (u.l[k] = !o.l.any (isN k) ∧ (u.l[k] = true → nx.l[k] = -1)) → chk (ArOk nx.l u.l fr) = 8 := fun hb => chk_n (fun x => by
  obtain ⟨_, _, _, l, hl, hi⟩ := x
  rw [hw] at hl
  cases hl
  exact hb (hi k hlt hkn))
 have good : (u.l[k] = !o.l.any (isN k) ∧ (u.l[k] = true → nx.l[k] = -1)) → ∀ i (hi : i < u.l.length) (hn : i < nx.l.length), i < k + 1 → u.l[i] = !o.l.any (isN i) ∧ (u.l[i] = true → nx.l[i] = -1) := fun hg i hi hn hik => by
  rcases Nat.lt_or_ge i k with r | r
  ·exact hinc i hi hn r
  ·have : i = k := by omega
   subst this
   exact hg
 cases hu : u.l[k] <;> cases hi : o.l.any (isN k) <;> simp only [hu, hi, Bool.not_false, Bool.not_true, reduceCtorEq, false_and, not_false_eq_true, true_implies, false_implies, and_true, true_and] at bad good ld1
 ·simp only [↓zp, zv, seval, c1', c3, c5, hb, hlt', ia1, ld1, m2, inn, hi, bad, frzI, eqb_ff]
 ·simp only [↓zp, zv, seval, c1', c3, c5, hb, hlt', ia1, ld1, m2, inn, hi, eqb_ft, ws]
  exact ⟨_, by omega, k + 1, by omega, rfl, by simp only [zs, seval, c1'], by simp only [zs, seval, c3], by simp only [zs, seval], rfl, good⟩
 ·by_cases qn : nx.l[k] = -1
  ·have qn' := eq_true qn
   simp only [↓zp, zv, seval, c1', c3, c5, hb, hlt', ia1, ld1, ia2, ld2, m2, inn, hi, eqb_tf, qn', not_true, ws]
   exact ⟨_, by omega, k + 1, by omega, rfl, by simp only [zs, seval, c1'], by simp only [zs, seval, c3], by simp only [zs, seval], rfl, good qn⟩
  ·simp only [↓zp, zv, seval, c1', c3, c5, hb, hlt', ia1, ld1, ia2, ld2, m2, inn, hi, eqb_tf, qn, bad, frzI, not_false_eq_true]
 ·simp only [↓zp, zv, seval, c1', c3, c5, hb, hlt', ia1, ld1, m2, inn, hi, bad, frzI, eqb_tt]
end
end
section
open Go Go.VE Classical
structure Seen (us : List Bool) (acc : List Int) (sn : List Bool) : Prop where
 len : sn.length = us.length
 ats : ∀ j (h1 : j < sn.length) (h2 : j < us.length), sn[j] = (us[j] || acc.any (isN j))
theorem Seen.set {us sn : List Bool} {acc : List Int} (s : Seen us acc sn) {k : Nat} : Seen us (acc ++ [(k : Int)]) (sn.set k true) := by
 refine ⟨by simp [s.len], fun j h1 h2 => ?_⟩
 rw [List.getElem_set]
 split
 ·rename_i e
  subst e
  simp [isN]
 ·rename_i e
  rw [s.ats j (by simpa using h1) h2, List.any_append]
  have : isN (j : Int) (k : Int) = false := by simp [isN]; omega
  simp [this]
section
variable {vp : Nat → Option VFn}
def invA1 (A : List V) (nx : List Int) (us : List Bool) (fr : Int) (bx b nn hx hl : Nat) (tag : Tag) (m : Nat) (s : Slots) (h : Heap) : Prop :=
 ∃ acc i sn, m = nx.length - acc.length ∧ Acc1 nx.length acc ∧ walk nx nx.length fr [] = walk nx (nx.length - acc.length) i acc ∧ Seen us acc sn ∧ (∀ x ∈ acc, us[x.toNat]? = some false) ∧ s.at 1 = .ptr bx 0 ∧ s.at 3 = .int .i64 (nx.length : Int) ∧ s.at 4 = .sl b 0 nn nn 1 ∧ s.at 5 = .int .i64 i ∧
  h.get bx = .cells A .cl ∧ h.get b = .cells (sn.flatMap eO ++ []) tag ∧ h.nx = hx ∧ h.lo = hl
def invA2 (us : List Bool) (nx : List Int) (l : List Int) (v1 v4 w : V) (H : Heap) (m : Nat) (s : Slots) (h : Heap) : Prop :=
 ∃ k, k ≤ us.length ∧ m = us.length - k ∧ s.at 1 = v1 ∧ s.at 4 = v4 ∧ s.at 53 = w ∧ s.at 54 = .int .i64 (us.length : Int) ∧ s.at 55 = .int .i64 (k : Int) ∧ h = H ∧ ∀ i (hi : i < us.length) (hn : i < nx.length), i < k → us[i] = !l.any (isN i) ∧ (us[i] = true → nx[i] = -1)
theorem arC_spec {f c1 : Nat} (hf : vp f = some (Zzae c1)) (h1 : vp c1 = some (cloneBody 1 1)) (nx : Sl Int) (u : Sl Bool) (fr : Int) (h : Heap) :
  callRes vp f [.agg [nx.v eI, u.v eO, .int .i64 fr]] h = some (.int .i64 (chk (ArOk nx.l u.l fr)), h) := by
 have m1 : modeOf vp c1 = some 2 := mo h1 rfl rfl
 refine res_pure hf rfl rfl (fun g hg => ?_)
 have hlo := hlo hg
 unfold Zzae
 by_cases q1 : nx.l.length < 1
 ·have q1' : (nx.l.length : Int) < 1 := by omega
  have e := chk_n (p := ArOk nx.l u.l fr) (fun x => by have := x.1; omega)
  simp only [↓zp, zv, seval, q1', e, frzI]
 have q1' : ¬ (nx.l.length : Int) < 1 := by omega
 by_cases q2 : 16 < nx.l.length
 ·have q2' : 16 < (nx.l.length : Int) := by omega
  have e := chk_n (p := ArOk nx.l u.l fr) (fun x => by have := x.2.1; omega)
  simp only [↓zp, zv, seval, q1', q2', e, frzI]
 have q2' : ¬ 16 < (nx.l.length : Int) := by omega
 by_cases q3 : u.l.length = nx.l.length
 case neg =>
  have q3' : ¬ (u.l.length : Int) = (nx.l.length : Int) := by omega
  have e := chk_n (p := ArOk nx.l u.l fr) (fun x => q3 x.2.2.1)
  simp only [↓zp, zv, seval, q1', q2', q3', not_false_eq_true, e, frzI]
 have q3' : ((u.l.length : Int) = (nx.l.length : Int)) = True := eq_true (by omega)
 obtain ⟨v, h', er, ow, kp⟩ := cln_spec h1 eO_len (by omega) u (g.new (.cells [nx.v eI, u.v eO, .int .i64 fr] .cl)) (by omega)
 have hb : h'.get g.nx = .cells [nx.v eI, u.v eO, .int .i64 fr] .cl := by rw [kp.get _ (by simp [Heap.new]), Heap.get_new, if_pos rfl]
 simp only [↓zp, zv, seval, q1', q2', q3', not_true, m1, er, hb]
 generalize hS : Tr.set _ 5 _ = S
 have b1 : Slots.at S 1 = .ptr g.nx 0 := by rw [← hS]; simp only [zs, seval]
 have b3 : Slots.at S 3 = .int .i64 (nx.l.length : Int) := by rw [← hS]; simp only [zs, seval]
 have b4 : Slots.at S 4 = v := by rw [← hS]; simp only [zs, seval]
 have b5 : Slots.at S 5 = .int .i64 fr := by rw [← hS]; simp only [zs, seval]
 clear hS
 have hb2 : h'.lo = g.lo := kp.lo
 rcases ow with ⟨_, ow⟩ | ⟨b, tag, rfl, ob, ob2, og⟩
 ·exfalso; rw [ow] at q3; simp at q3; omega
 have ob' : g.nx + 1 ≤ b := ob
 rw [← List.append_nil (List.flatMap eO u.l)] at og
 have walkF : walk nx.l nx.l.length fr [] = walk nx.l (nx.l.length - ([] : List Int).length) fr [] := rfl
 refine loop_ind (fun m s h => invA1 [nx.v eI, u.v eO, .int .i64 fr] nx.l u.l fr g.nx b u.l.length h'.nx g.lo tag m s h) ?_ nx.l.length ⟨[], fr, u.l, by simp, ⟨by simp, by simp⟩, walkF, ⟨rfl, fun j _ _ => by simp⟩, by simp, b1, b3, b4, b5, hb, og, rfl, hb2⟩
 clear b1 b3 b4 b5 hb hb2 og er kp
 rintro m s h ⟨acc, i, sn, hm, a1, hw, se, nu, c1', c3, c4, c5, hga, hgb, hnx, hl⟩
 have ln := a1.len
 by_cases r1 : i = -1
 ·
  subst r1
  rw [walk_end] at hw
  simp only [↓zp, zv, seval, c1', c3, c4, c5, hga, hgb, not_true]
  generalize hS : Tr.set _ 55 _ = S
  have b1 : Slots.at S 1 = .ptr g.nx 0 := by rw [← hS]; simp only [zs, seval, c1']
  have b4 : Slots.at S 4 = .sl b 0 u.l.length u.l.length 1 := by rw [← hS]; simp only [zs, seval, c4]
  have b53 : Slots.at S 53 = u.v eO := by rw [← hS]; simp only [zs, seval]
  have b54 : Slots.at S 54 = .int .i64 (u.l.length : Int) := by rw [← hS]; simp only [zs, seval]
  have b55 : Slots.at S 55 = .int .i64 ((0 : Nat) : Int) := by rw [← hS]; simp only [zs, seval] <;> rfl
  clear hS
  refine loop_ind (fun m s h2 => invA2 u.l nx.l acc (.ptr g.nx 0) (.sl b 0 u.l.length u.l.length 1) (u.v eO) h m s h2) ?_ u.l.length ⟨0, by omega, by omega, b1, b4, b53, b54, b55, rfl, fun _ _ _ hj => by omega⟩
  clear b1 b4 b53 b54 b55 c1' c3 c4 c5
  rintro m s h ⟨k, hk, hm, c1', c4, c53, c54, c55, rfl, hinc⟩
  by_cases hlt : k < u.l.length
  case neg =>
   have hlt' : ¬ ((k : Int) < (u.l.length : Int)) := by omega
   have e := chk_y (p := ArOk nx.l u.l fr) ⟨by omega, by omega, q3, acc, hw, fun i hi hn => hinc i hi hn (by omega)⟩
   simp only [↓zp, zv, seval, c1', c4, c53, c54, c55, hlt', e, frzI]
  have hlt' : (k : Int) < (u.l.length : Int) := by omega
  have hkn : k < nx.l.length := by omega
  have ws := wr_succ (k := k) (by omega)
  obtain ⟨a1', ia1, el1⟩ := (Rd.sl (g := h) (enc := eO) (sz := 1) u).ia eO_len (by decide) hlt
  have ld1 := El.ld1 (cs := []) el1 (Kp.refl h)
  obtain ⟨a2, ia2, el2⟩ := (Rd.sl (g := h) (enc := eI) (sz := 1) nx).ia eI_len (by decide) hkn
  have ld2 := El.ld1 (cs := []) el2 (Kp.refl h)
  obtain ⟨p, hp⟩ := mr_pt b k 1
  have ia3 := hp.ia (n := u.l.length) (cap := u.l.length) hlt h
  have hs : k < sn.length := by rw [se.len]; exact hlt
  have ld3 := hp.ld1 (j := 0) (cs := []) eO_len hgb hs (by decide) rfl
  rw [se.ats k hs hlt] at ld3
  have bad : ¬ (u.l[k] = !acc.any (isN k) ∧ (u.l[k] = true → nx.l[k] = -1)) → chk (ArOk nx.l u.l fr) = 8 := fun hb => chk_n (fun x => by
   obtain ⟨_, _, _, l, hl, hi⟩ := x
   rw [hw] at hl
   cases hl
   exact hb (hi k hlt hkn))
  have good : (u.l[k] = !acc.any (isN k) ∧ (u.l[k] = true → nx.l[k] = -1)) → ∀ i (hi : i < u.l.length) (hn : i < nx.l.length), i < k + 1 → u.l[i] = !acc.any (isN i) ∧ (u.l[i] = true → nx.l[i] = -1) := fun hg i hi hn hik => by
   rcases Nat.lt_or_ge i k with r | r
   ·exact hinc i hi hn r
   ·have : i = k := by omega
    subst this
    exact hg
  have excl : u.l[k] = true → acc.any (isN k) = true → False := fun h1 h2 => by
   obtain ⟨x, hx, hxk⟩ := List.any_eq_true.1 h2
   simp only [isN, decide_eq_true_eq] at hxk
   subst hxk
   have := nu _ hx
   simp [hlt, h1] at this
  cases hu : u.l[k] <;> cases hi : acc.any (isN k) <;> simp only [hu, hi, Bool.not_false, Bool.not_true, reduceCtorEq, false_and, not_false_eq_true, true_implies, false_implies, and_true, true_and, Bool.or_false, Bool.false_or, Bool.or_true, Bool.true_or] at bad good ld1 ld3 excl
  ·simp only [↓zp, zv, seval, c1', c4, c53, c54, c55, hga, hlt', ia1, ld1, ia3, ld3, bad, frzI]
  ·simp only [↓zp, zv, seval, c1', c4, c53, c54, c55, hga, hlt', ia1, ld1, ia3, ld3, ws]
   exact ⟨_, by omega, k + 1, by omega, rfl, by simp only [zs, seval, c1'], by simp only [zs, seval, c4], by simp only [zs, seval, c53], by simp only [zs, seval, c54], by simp only [zs, seval], rfl, good⟩
  ·by_cases qn : nx.l[k] = -1
   ·have qn' := eq_true qn
    simp only [↓zp, zv, seval, c1', c4, c53, c54, c55, hga, hlt', ia1, ld1, ia2, ld2, ia3, ld3, qn', not_true, ws]
    exact ⟨_, by omega, k + 1, by omega, rfl, by simp only [zs, seval, c1'], by simp only [zs, seval, c4], by simp only [zs, seval, c53], by simp only [zs, seval, c54], by simp only [zs, seval], rfl, good qn⟩
   ·simp only [↓zp, zv, seval, c1', c4, c53, c54, c55, hga, hlt', ia1, ld1, ia2, ld2, ia3, ld3, qn, bad, frzI, not_false_eq_true]
 by_cases r2 : i < 0
 ·rw [walk_bad r1 (.inl r2)] at hw
  have e := chk_n (p := ArOk nx.l u.l fr) (fun x => by obtain ⟨_, _, _, l, hl, _⟩ := x; rw [hw] at hl; cases hl)
  simp only [↓zp, zv, seval, c1', c3, c4, c5, r1, not_false_eq_true, r2, e, frzI]
 by_cases r3 : (nx.l.length : Int) ≤ i
 ·rw [walk_bad r1 (.inr (.inl r3))] at hw
  have e := chk_n (p := ArOk nx.l u.l fr) (fun x => by obtain ⟨_, _, _, l, hl, _⟩ := x; rw [hw] at hl; cases hl)
  simp only [↓zp, zv, seval, c1', c3, c4, c5, r1, not_false_eq_true, r2, r3, e, frzI]
 obtain ⟨k, rfl⟩ : ∃ k : Nat, i = k := ⟨i.toNat, by omega⟩
 have hk : k < nx.l.length := by omega
 have hlt : k < u.l.length := by omega
 obtain ⟨p, hp⟩ := mr_pt b k 1
 have ia3 := fun h => hp.ia (n := u.l.length) (cap := u.l.length) hlt h
 have hs : k < sn.length := by rw [se.len]; exact hlt
 have ld3 := hp.ld1 (j := 0) (cs := []) eO_len hgb hs (by decide) rfl
 cases hsn : sn[k]
 case true =>
  rw [hsn] at ld3
  have e : chk (ArOk nx.l u.l fr) = 8 := by
   refine chk_n (fun x => ?_)
   obtain ⟨_, _, _, l, hl, hi⟩ := x
   rw [hw] at hl
   have hsk := se.ats k hs hlt
   rw [hsn] at hsk
   cases hac : acc.any (isN k)
   ·rw [hac, Bool.or_false] at hsk
    have q4 : ¬ ((k : Int) < 0 ∨ (nx.l.length : Int) ≤ k ∨ (k : Int) ∈ acc) := by
     simp only [not_or]
     refine ⟨by omega, by omega, fun hm => ?_⟩
     have : acc.any (isN k) = true := List.any_eq_true.2 ⟨_, hm, by simp [isN]⟩
     rw [hac] at this
     cases this
    rw [walk_step a1 r1 q4] at hl
    have := walk_sub hl (List.mem_append_right _ List.mem_cons_self)
    have h5 := (hi k hlt hk).1
    rw [← hsk] at h5
    have h6 : l.any (isN k) = true := List.any_eq_true.2 ⟨_, this, by simp [isN]⟩
    rw [h6] at h5
    cases h5
   ·obtain ⟨x, hx, hxk⟩ := List.any_eq_true.1 hac
    simp only [isN, decide_eq_true_eq] at hxk
    subst hxk
    rw [walk_bad r1 (.inr (.inr hx))] at hl
    cases hl
  simp only [↓zp, zv, seval, c1', c3, c4, c5, r1, not_false_eq_true, r2, r3, ia3, ld3, e, frzI]
 rw [hsn] at ld3
 have hsk := se.ats k hs hlt
 rw [hsn] at hsk
 have hsk1 : u.l[k] = false := by
  cases hu : u.l[k]
  ·rfl
  ·rw [hu] at hsk; simp at hsk
 have hsk2 : ¬ (k : Int) ∈ acc := fun hm => by
  have : acc.any (isN k) = true := List.any_eq_true.2 ⟨_, hm, by simp [isN]⟩
  rw [this, Bool.or_true] at hsk
  cases hsk
 have a2 := a1.snoc (by omega) (by omega) hsk2
 have ln2 := a2.len
 simp only [List.length_append, List.length_singleton] at ln2
 rw [walk_step a1 r1 (by simp only [not_or]; exact ⟨r2, r3, hsk2⟩)] at hw
 have e5 : (nx.l[((k : Int)).toNat]?).getD 0 = nx.l[k] := by simp [hk]
 rw [e5] at hw
 have st := hp.st (j := 0) (n := 1) (v := .bool true) (new := [.bool true]) eO_len hgb hs (by omega) true rfl rfl (by decide) (by decide) rfl rfl
 obtain ⟨H2, hH2⟩ : ∃ H2, h.set b (.cells ((sn.set k true).flatMap eO ++ []) tag) = H2 := ⟨_, rfl⟩
 rw [hH2] at st
 have ga2 : H2.get g.nx = .cells [nx.v eI, u.v eO, .int .i64 fr] .cl := by rw [← hH2, Heap.get_set, if_neg (by omega), hga]
 have gb2 : H2.get b = .cells ((sn.set k true).flatMap eO ++ []) tag := by rw [← hH2, Heap.get_set, if_pos rfl]
 have nx2 : H2.nx = h'.nx := by rw [← hH2]; exact hnx
 have lo2 : H2.lo = g.lo := by rw [← hH2]; exact hl
 obtain ⟨a, ia, el⟩ := (Rd.sl (g := H2) (enc := eI) (sz := 1) nx).ia eI_len (by decide) hk
 have ld := El.ld1 (cs := []) el (Kp.refl H2)
 simp only [↓zp, zz, zy, zw, r_st_p, r_nck_p, seval, c1', c3, c4, c5, r1, not_false_eq_true, r2, r3, ia3, ld3, st, ga2, ia, ld]
 exact ⟨nx.l.length - (acc.length + 1), by omega, acc ++ [(k : Int)], nx.l[k], sn.set k true, by simp, a2, hw, se.set, fun x hx => by
  rcases List.mem_append.1 hx with hx | hx
  ·exact nu x hx
  ·rw [List.mem_singleton] at hx; subst hx; simp [hlt, hsk1], by simp only [zs, seval, c1'], by simp only [zs, seval, c3], by simp only [zs, seval, c4], by simp only [zs, seval], ga2, gb2, nx2, lo2⟩
end
end
section
open Go Go.VE Classical
def pv (z : Int) : List Int → Int → Int
 | [], _ => -1
 | x :: l, i => if x = i then z else pv x l i
def nv (z : Int) : List Int → Int → Int
 | [], _ => -1
 | x :: l, i => if x = i then l.headD z else nv z l i
theorem pv_out {i : Int} : ∀ {l : List Int} {z : Int}, i ∉ l → pv z l i = -1
 | [], _, _ => rfl
 | x :: l, z, h => by
  simp only [List.mem_cons, not_or] at h
  rw [pv, if_neg (Ne.symm h.1), pv_out h.2]
theorem nv_out {i z : Int} : ∀ {l : List Int}, i ∉ l → nv z l i = -1
 | [], _ => rfl
 | x :: l, h => by
  simp only [List.mem_cons, not_or] at h
  rw [nv, if_neg (Ne.symm h.1), nv_out h.2]
theorem pv_snoc {x : Int} (i : Int) : ∀ {l : List Int} {z : Int}, x ∉ l → pv z (l ++ [x]) i = if i = x then l.getLastD z else pv z l i
 | [], z, _ => by
  simp only [List.nil_append, pv, List.getLastD]
  by_cases h : x = i
  ·simp [h]
  ·rw [if_neg h, if_neg (Ne.symm h)]
 | y :: l, z, h => by
  simp only [List.mem_cons, not_or] at h
  simp only [List.cons_append, pv, pv_snoc i h.2, List.getLastD_cons]
  by_cases h1 : y = i
  ·subst h1
   rw [if_pos rfl, if_neg (Ne.symm h.1), if_pos rfl]
  ·rw [if_neg h1, if_neg h1]
theorem nv_snoc {x : Int} (i z : Int) : ∀ {l : List Int}, x ∉ l → nv z (l ++ [x]) i = if i = x then z else nv x l i
 | [], _ => by
  simp only [List.nil_append, nv, List.headD_nil]
  by_cases h : x = i
  ·simp [h]
  ·rw [if_neg h, if_neg (Ne.symm h)]
 | y :: l, h => by
  simp only [List.mem_cons, not_or] at h
  simp only [List.cons_append, nv, nv_snoc i z h.2]
  have e : (l ++ [x]).headD z = l.headD x := by cases l <;> rfl
  rw [e]
  by_cases h1 : y = i
  ·subst h1
   rw [if_pos rfl, if_neg (Ne.symm h.1), if_pos rfl]
  ·rw [if_neg h1, if_neg h1]
theorem walk_pre {nx : List Int} : ∀ {f : Nat} {i : Int} {acc l : List Int}, walk nx f i acc = some l → ∃ t, l = acc ++ t ∧ i = t.headD (-1)
 | 0, i, acc, l, h => by
  unfold walk at h
  split at h
  ·cases h; rename_i h; exact ⟨[], by simp, h⟩
  ·cases h
 | f + 1, i, acc, l, h => by
  unfold walk at h
  split at h
  ·cases h; rename_i h; exact ⟨[], by simp, h⟩
  ·split at h
   ·cases h
   ·obtain ⟨t, e, _⟩ := walk_pre h
    exact ⟨i :: t, by simp [e], rfl⟩
def OrOk (p n : List Int) (hd tl : Int) : Prop :=
 1 ≤ p.length ∧ p.length ≤ 16 ∧ n.length = p.length ∧ ∃ l, walk n n.length hd [] = some l ∧ tl = l.getLastD (-1) ∧ ∀ i (h1 : i < p.length) (h2 : i < n.length), p[i] = pv (-1) l i ∧ n[i] = nv (-1) l i
section
variable {vp : Nat → Option VFn}
def invSI (v w : V) (a b : List Int) (H : Heap) (m : Nat) (s : Slots) (h : Heap) : Prop :=
 ∃ k, k ≤ a.length ∧ m = a.length - k ∧ s.at 0 = v ∧ s.at 1 = w ∧ s.at 5 = .int .i64 (k : Int) ∧ h = H ∧ ∀ j (h1 : j < a.length) (h2 : j < b.length), j < k → a[j] = b[j]
theorem si_spec {f : Nat} (hf : vp f = some Zzdv) (a b : Sl Int) (h : Heap) (ha : a.l.length < 4611686018427387904) :
  callRes vp f [a.v eI, b.v eI] h = some (.bool (decide (a.l = b.l)), h) := by
 refine res_pure hf rfl rfl (fun g hg => ?_)
 unfold Zzdv
 by_cases q : a.l.length = b.l.length
 case neg =>
  have q' : ¬ ((a.l.length : Int) = (b.l.length : Int)) := by omega
  have e : ¬ a.l = b.l := fun e => q (by rw [e])
  simp only [↓zp, zv, seval, q', not_false_eq_true, e, frzB]
 have q' : ((a.l.length : Int) = (b.l.length : Int)) = True := eq_true (by omega)
 simp only [↓zp, zv, seval, q', not_true]
 generalize hS : Tr.set _ 5 _ = S
 have b0 : Slots.at S 0 = a.v eI := by rw [← hS]; simp only [zs, seval]
 have b1 : Slots.at S 1 = b.v eI := by rw [← hS]; simp only [zs, seval]
 have b5 : Slots.at S 5 = .int .i64 ((0 : Nat) : Int) := by rw [← hS]; simp only [zs, seval] <;> rfl
 clear hS
 refine loop_ind (fun m s h => invSI (a.v eI) (b.v eI) a.l b.l g m s h) ?_ a.l.length ⟨0, by omega, by omega, b0, b1, b5, rfl, fun j _ _ hj => by omega⟩
 rintro m s h ⟨k, hk, hm, c0, c1, c5, rfl, hinc⟩
 by_cases hlt : k < a.l.length
 case neg =>
  have hlt' : ¬ ((k : Int) < (a.l.length : Int)) := by omega
  have e := eq_true (List.ext_getElem q (fun i h1 h2 => hinc i h1 h2 (by omega)) : a.l = b.l)
  simp only [↓zp, zv, seval, c0, c1, c5, hlt', e, frzB]
 have hlt' : (k : Int) < (a.l.length : Int) := by omega
 have hltb : k < b.l.length := by omega
 have ws := wr_succ (k := k) (by omega)
 obtain ⟨a1, ia1, el1⟩ := (Rd.sl (g := h) (enc := eI) (sz := 1) a).ia eI_len (by decide) hlt
 have ld1 := El.ld1 (cs := []) el1 (Kp.refl h)
 obtain ⟨a2, ia2, el2⟩ := (Rd.sl (g := h) (enc := eI) (sz := 1) b).ia eI_len (by decide) hltb
 have ld2 := El.ld1 (cs := []) el2 (Kp.refl h)
 by_cases r : a.l[k] = b.l[k]
 ·have r' := eq_true r
  simp only [↓zp, zv, seval, c0, c1, c5, hlt', ia1, ld1, ia2, ld2, r', not_true, ws]
  refine ⟨_, by omega, k + 1, by omega, rfl, by simp only [zs, seval, c0], by simp only [zs, seval, c1], by simp only [zs, seval], rfl, fun j h1 h2 hj => ?_⟩
  rcases Nat.lt_or_ge j k with r2 | r2
  ·exact hinc j h1 h2 r2
  ·have : j = k := by omega
   subst this
   exact r
 ·have e : ¬ a.l = b.l := fun e => r (by simp only [e])
  simp only [↓zp, zv, seval, c0, c1, c5, hlt', ia1, ld1, ia2, ld2, r, not_false_eq_true, e, frzB]
theorem so_spec {f c1 : Nat} (hf : vp f = some (Zzdu c1)) (h1 : vp c1 = some Zzdv) (p n p2 n2 : Sl Int) (hd tl hd2 tl2 : Int) (h : Heap) (hp : p.l.length < 4611686018427387904) (hn : n.l.length < 4611686018427387904) :
  callRes vp f [.agg [p.v eI, n.v eI, .int .i64 hd, .int .i64 tl], .agg [p2.v eI, n2.v eI, .int .i64 hd2, .int .i64 tl2]] h = some (.bool (decide (p.l = p2.l) && (decide (n.l = n2.l) && (decide (hd = hd2) && decide (tl = tl2)))), h) := by
 have m1 : modeOf vp c1 = some 1 := mo h1 rfl rfl
 refine res_pure hf rfl rfl (fun g hg => ?_)
 have s1 := fun h => si_spec h1 p p2 h hp
 have s2 := fun h => si_spec h1 n n2 h hn
 unfold Zzdu
 by_cases q1 : p.l = p2.l
 case neg => simp only [↓zp, zv, seval, m1, s1, q1, frzB]
 by_cases q2 : n.l = n2.l
 case neg => simp only [↓zp, zv, seval, m1, s1, s2, q1, q2, frzB]
 by_cases q3 : hd = hd2
 case neg => simp only [↓zp, zv, seval, m1, s1, s2, q1, q2, q3, frzB]
 by_cases q4 : tl = tl2
 ·simp only [↓zp, zv, seval, m1, s1, s2, q1, q2, q3, q4, frzB]
 ·simp only [↓zp, zv, seval, m1, s1, s2, q1, q2, q3, q4, frzB]
end
end
section
open Go Go.VE Classical
def Gw (h : Heap) (v : V) (l : List Int) (b : Nat) : Prop :=
 (v = .nils ∧ l = []) ∨ (v = .sl b 0 l.length l.length 1 ∧ h.get b = .cells (l.flatMap eI) .op ∧ h.lo ≤ b ∧ b < h.nx ∧ 0 < l.length)
theorem Gw.keep {h h' : Heap} {v : V} {l : List Int} {b : Nat} (a : Gw h v l b) (hg : b < h.nx → h'.get b = h.get b) (hn : h.nx ≤ h'.nx) (hl : h'.lo = h.lo) : Gw h' v l b := by
 rcases a with a | ⟨e, h1, h2, h3, h4⟩
 ·exact .inl a
 ·exact .inr ⟨e, by rw [hg h3, h1], by omega, by omega, h4⟩
theorem Gw.one {h : Heap} {v : V} {l : List Int} {b : Nat} (a : Gw h v l b) : oneCell v = true ∧ cellsO v = some [v] := by
 rcases a with ⟨rfl, _⟩ | ⟨rfl, _⟩ <;> exact ⟨rfl, rfl⟩
theorem Gw.push {h : Heap} {v : V} {l : List Int} {b : Nat} (a : Gw h v l b) (hl : h.lo ≤ h.nx) (c : Int) (hb : l.length ≤ 1000) :
  ∃ h', r_app 1 8 v (.sl h.nx 0 1 1 1) (h.new (.cells [.int .i64 c] .cl)) = some (.sl (h.nx + 1) 0 (l.length + 1) (l.length + 1) 1, h') ∧ h'.nx = h.nx + 2 ∧ h'.lo = h.lo ∧ Gw h' (.sl (h.nx + 1) 0 (l.length + 1) (l.length + 1) 1) (l ++ [c]) (h.nx + 1) ∧ ∀ x, x < h.nx → x ≠ b → h'.get x = h.get x := by
 have hrow : rowOf (h.new (.cells [.int .i64 c] .cl)) 1 (.sl h.nx 0 1 1 1) = some [.int .i64 c] := by
  have : takeN 1 [V.int .i64 c] = some [.int .i64 c] := rfl
  simp only [rowOf, beq_dec, decide_true, cond_true, Heap.get_new, if_true, Nat.one_mul, List.drop_zero, this]
 have hlen : lenOf (.sl h.nx 0 1 1 1) = some 1 := rfl
 rcases a with ⟨rfl, rfl⟩ | ⟨rfl, h1, h2, h3, h4⟩
 ·have hnb : Nat.blt 140737488355328 (1 * 8) = false := by rw [blt_dec]; simp
  refine ⟨(h.new (.cells [.int .i64 c] .cl)).new (.cells [.int .i64 c] .op), ?_, rfl, rfl, .inr ⟨by simp, ?_, by show h.lo ≤ h.nx + 1; omega, by simp only [Heap.new_nx]; omega, by simp⟩, fun x hx _ => ?_⟩
  ·simp only [r_app, hrow, hlen, appendV, hnb, cond_false, tagN, List.length_nil, Nat.zero_add]
   rfl
  ·show ((h.new (.cells [.int .i64 c] .cl)).new _).get (h.new (.cells [.int .i64 c] .cl)).nx = _
   rw [Heap.get_new, if_pos rfl]; simp [eI]
  ·rw [Heap.get_new, if_neg (by simp only [Heap.new_nx]; omega), Heap.get_new, if_neg (by omega)]
 ·have hcl : (l.flatMap eI).length = l.length * 1 := flat_len2 eI_len l
  have ht : takeN (l.length * 1) ((l.flatMap eI).drop 0) = some (l.flatMap eI) := by rw [List.drop_zero, ← hcl]; exact takeN_all _
  rw [Nat.mul_one] at hcl ht
  have hlt : Nat.ble (l.length + 1) l.length = false := by rw [ble_dec]; simp
  have hlb : Nat.blt b (h.new (.cells [.int .i64 c] .cl)).lo = false := by rw [blt_dec]; show decide (b < h.lo) = false; simp; omega
  have hnb : Nat.blt 140737488355328 ((l.length + 1) * 8) = false := by rw [blt_dec]; simp; omega
  have hg : (h.new (.cells [.int .i64 c] .cl)).get b = .cells (l.flatMap eI) .op := by rw [Heap.get_new, if_neg (by omega), h1]
  have ho : [V.int .i64 c].all oneCell = true := rfl
  refine ⟨((h.new (.cells [.int .i64 c] .cl)).set b .dead).new (.cells (l.flatMap eI ++ [.int .i64 c]) .op), ?_, rfl, rfl, .inr ⟨by simp, ?_, by show h.lo ≤ h.nx + 1; omega, by simp only [Heap.new_nx, Heap.set_nx]; omega, by simp⟩, fun x hx hne => ?_⟩
  ·simp only [r_app, hrow, hlen, appendV, beq_dec, decide_true, cond_true, hg, hlt, cond_false, hnb, ht, Tag.opn, hcl, Nat.zero_add, Nat.mul_one, Bool.and_self, hlb, ho, Bool.not_true, Bool.or_self, tagM]
   rfl
  ·show (((h.new (.cells [.int .i64 c] .cl)).set b .dead).new _).get ((h.new (.cells [.int .i64 c] .cl)).set b .dead).nx = _
   rw [Heap.get_new, if_pos rfl]; simp [eI]
  ·rw [Heap.get_new, if_neg (by simp only [Heap.new_nx, Heap.set_nx]; omega), Heap.get_set, if_neg hne, Heap.get_new, if_neg (by omega)]
def pvs (n : Nat) (l : List Int) : List Int := (List.range n).map fun (i : Nat) => pv (-1) l i
def nvs (n : Nat) (l : List Int) : List Int := (List.range n).map fun (i : Nat) => nv (-1) l i
theorem pvs_len {n : Nat} {l : List Int} : (pvs n l).length = n := by simp [pvs]
theorem nvs_len {n : Nat} {l : List Int} : (nvs n l).length = n := by simp [nvs]
theorem pvs_nil {n : Nat} : pvs n [] = List.replicate n (-1) := by
 apply List.ext_getElem <;> simp [pvs, pv]
theorem nvs_nil {n : Nat} : nvs n [] = List.replicate n (-1) := by
 apply List.ext_getElem <;> simp [nvs, nv]
theorem pvs_one {n : Nat} {x : Int} : pvs n [x] = List.replicate n (-1) := by
 apply List.ext_getElem <;> simp [pvs, pv]
theorem nvs_one {n : Nat} {x : Int} : nvs n [x] = List.replicate n (-1) := by
 apply List.ext_getElem <;> simp [nvs, nv]
theorem pvs_set {n : Nat} {l : List Int} {k : Nat} (h : (k : Int) ∉ l) : (pvs n l).set k (l.getLastD (-1)) = pvs n (l ++ [(k : Int)]) := by
 apply List.ext_getElem
 ·simp [pvs]
 ·intro i h1 h2
  simp only [pvs, List.getElem_set, List.getElem_map, List.getElem_range, pv_snoc _ h]
  by_cases e : k = i
  ·simp [e]
  ·have : ¬ (i : Int) = k := by omega
   simp [e, this]
theorem nvs_set {n : Nat} {l : List Int} {j : Nat} {x : Int} (h : (j : Int) ∉ l) (h2 : x ∉ l ++ [(j : Int)]) : (nvs n (l ++ [(j : Int)])).set j x = nvs n ((l ++ [(j : Int)]) ++ [x]) := by
 apply List.ext_getElem
 ·simp [nvs]
 ·intro i h1 h3
  simp only [nvs, List.getElem_set, List.getElem_map, List.getElem_range, nv_snoc _ _ h2, nv_snoc _ _ h]
  by_cases e : j = i
  ·subst e
   by_cases q : (j : Int) = x
   ·exact absurd (by simp [q]) h2
   ·simp [q]
  ·have e' : ¬ (i : Int) = j := by omega
   by_cases q : (i : Int) = x
   ·simp only [e, if_false, e', q, if_true]
    split
    ·rfl
    ·exact nv_out (fun hm => h2 (List.mem_append_left _ hm))
   ·simp only [e, if_false, e', q]
section
variable {vp : Nat → Option VFn}
def MadeIs (n : Nat) (l : List Int) (r : V) : Prop := ∃ p q : Sl Int, r = .agg [p.v eI, q.v eI, .int .i64 (l.headD (-1)), .int .i64 (l.getLastD (-1))] ∧ p.l = pvs n l ∧ q.l = nvs n l
def invM1 (n : Nat) (vl : V) (rx bx t lo : Nat) (m : Nat) (s : Slots) (h : Heap) : Prop :=
 ∃ k P N bp bn, k ≤ n ∧ m = n - k ∧ s.at 0 = .int .i64 (n : Int) ∧ s.at 1 = vl ∧ s.at 4 = .ptr rx 0 ∧ s.at 5 = .ptr bx 0 ∧ s.at 6 = .int .i64 (k : Int) ∧ h.get rx = .cells [.nils, .nils, .int .i64 0, .int .i64 0] (.ct t) ∧ h.get bx = .cells [P, N, .int .i64 (-1), .int .i64 (-1)] (.ct t) ∧ Gw h P (List.replicate k (-1)) bp ∧ Gw h N (List.replicate k (-1)) bn ∧
  bx < bp ∧ bx < bn ∧ bp ≠ bn ∧ bx < h.nx ∧ h.lo = lo
def invM2 (n : Nat) (l : Sl Int) (rx bx t lo bp bn : Nat) (m : Nat) (s : Slots) (h : Heap) : Prop :=
 ∃ k, k ≤ l.l.length ∧ m = l.l.length - k ∧ s.at 1 = l.v eI ∧ s.at 4 = .ptr rx 0 ∧ s.at 5 = .ptr bx 0 ∧ s.at 7 = .int .i64 (k : Int) ∧ h.get rx = .cells [.nils, .nils, .int .i64 0, .int .i64 0] (.ct t) ∧ h.get bx = .cells [.sl bp 0 n n 1, .sl bn 0 n n 1, .int .i64 ((l.l.take k).headD (-1)), .int .i64 ((l.l.take k).getLastD (-1))] (.ct t) ∧
  h.get bp = .cells ((pvs n (l.l.take k)).flatMap eI ++ []) .op ∧ h.get bn = .cells ((nvs n (l.l.take k)).flatMap eI ++ []) .op ∧ h.lo = lo
theorem made_spec {f t1 : Nat} (hf : vp f = some (Zzdt t1)) (n : Nat) (hn1 : 1 ≤ n) (hn2 : n ≤ 1000) (l : Sl Int) (a1 : Acc1 n l.l) (h : Heap) :
  ∃ r, callRes vp f [.int .i64 (n : Int), l.v eI] h = some (r, h) ∧ MadeIs n l.l r := by
 refine res_pure_ex hf rfl rfl (fun g hg => ?_)
 have hlo := hlo hg
 have hge : g.lo = g.nx := by
  rcases hg with ⟨rfl, _⟩ | ⟨e1, e2, _⟩
  ·rfl
  ·omega
 have lnl := a1.len
 unfold Zzdt
 have l0 : ¬ g.nx + 1 < g.lo := by omega
 simp only [↓zp, zv, seval, l0]
 generalize hS : Tr.set _ 6 _ = S
 have b0 : Slots.at S 0 = .int .i64 (n : Int) := by rw [← hS]; simp only [zs, seval]
 have b1 : Slots.at S 1 = l.v eI := by rw [← hS]; simp only [zs, seval]
 have b4 : Slots.at S 4 = .ptr g.nx 0 := by rw [← hS]; simp only [zs, seval]
 have b5 : Slots.at S 5 = .ptr (g.nx + 1) 0 := by rw [← hS]; simp only [zs, seval]
 have b6 : Slots.at S 6 = .int .i64 ((0 : Nat) : Int) := by rw [← hS]; simp only [zs, seval] <;> rfl
 clear hS
 generalize hH : Heap.set _ _ _ = H
 have hr : H.get g.nx = .cells [.nils, .nils, .int .i64 0, .int .i64 0] (.ct t1) := by rw [← hH]; simp only [↓zp, zv, seval]
 have hb : H.get (g.nx + 1) = .cells [.nils, .nils, .int .i64 (-1), .int .i64 (-1)] (.ct t1) := by rw [← hH]; simp only [↓zp, zv, seval]
 have hnx : H.nx = g.nx + 2 := by rw [← hH]; rfl
 have hl : H.lo = g.lo := by rw [← hH]; rfl
 clear hH
 generalize hrx : g.nx = rx at *
 refine loop_ind (fun m s h => invM1 n (l.v eI) rx (rx + 1) t1 rx m s h) ?_ n ⟨0, .nils, .nils, rx + 2, rx + 3, by omega, by omega, b0, b1, b4, b5, b6, hr, hb, .inl ⟨rfl, rfl⟩, .inl ⟨rfl, rfl⟩, by omega, by omega, by omega, by omega, by omega⟩
 clear b0 b1 b4 b5 b6 hr hb hnx hl
 rintro m s h ⟨k, P, N, bp, bn, hk, hm, c0, c1, c4, c5, c6, hr, hb, gp, gn, o1, o2, o3, o4, hl⟩
 by_cases hlt : k < n
 case pos =>
  have hlt' : (k : Int) < (n : Int) := by omega
  have ws := wr_succ (k := k) (by omega)
  obtain ⟨bn, gn, o2, o3, ne⟩ : ∃ b, Gw h N (List.replicate k (-1)) b ∧ rx + 1 < b ∧ bp ≠ b ∧ h.nx + 1 ≠ b := by
   rcases gn with ⟨q1, q2⟩ | ⟨q1, q2, q3, q4, q5⟩
   ·exact ⟨rx + bp + h.nx + 5, .inl ⟨q1, q2⟩, by omega, by omega, by omega⟩
   ·exact ⟨bn, .inr ⟨q1, q2, q3, q4, q5⟩, o2, o3, by omega⟩
  obtain ⟨h1, e1, nx1, lo1, gp1, fr1⟩ := gp.push (by omega) (-1) (by simp; omega)
  have hb1 := (fr1 (rx + 1) (by omega) (by omega)).trans hb
  have hr1 := (fr1 rx (by omega) (by omega)).trans hr
  have gn1 := gn.keep (h' := h1) (fun q => fr1 bn q (Ne.symm o3)) (by omega) lo1
  obtain ⟨h2, e2, nx2, lo2, gn2, fr2⟩ := gn1.push (by omega) (-1) (by simp; omega)
  simp only [List.length_replicate, ← List.replicate_succ'] at e1 gp1 e2 gn2
  have hb2 := (fr2 (rx + 1) (by omega) (by omega)).trans hb1
  have hr2 := (fr2 rx (by omega) (by omega)).trans hr1
  have gp2 := gp1.keep (h' := h2) (fun q => fr2 (h.nx + 1) (by omega) ne) (by omega) lo2
  have l2 : ¬ rx + 1 < h2.lo := by omega
  have z1 : ¬ h.nx = rx := by omega
  have z2 : ¬ h1.nx = rx := by omega
  have ap : apartV P (.ptr (rx + 1) 1) = true := by
   rcases gp with ⟨rfl, _⟩ | ⟨rfl, _⟩
   ·rfl
   ·have : ¬ bp = rx + 1 := by omega
    simp [apartV, beq_dec, this]
  simp only [↓zp, zv, seval, c0, c1, c4, c5, c6, hlt', hb, e1, hb1, e2, hb2, l2, ws, ap]
  refine ⟨n - (k + 1), by omega, k + 1, _, _, h.nx + 1, h1.nx + 1, by omega, rfl, by simp only [zs, seval, c0], by simp only [zs, seval, c1], by simp only [zs, seval, c4], by simp only [zs, seval, c5], by simp only [zs, seval], by simp only [↓zp, zv, seval, hr2], by simp only [↓zp, zv, seval], gp2.keep (fun q => by simp only [↓zp, zv, seval, z1]) (by simp only [Heap.set_nx]; omega) rfl, gn2.keep (fun q => by simp only [↓zp, zv, seval, z2]) (by simp only [Heap.set_nx]; omega) rfl, by omega, by omega, by omega, by simp only [Heap.set_nx]; omega, ?_⟩
  show h2.lo = rx
  omega
 have hlt' : ¬ (k : Int) < (n : Int) := by omega
 have hkn : k = n := by omega
 subst hkn
 rcases gp with ⟨_, q⟩ | ⟨rfl, p2, p3, p4, _⟩
 ·have := congrArg List.length q; simp at this; omega
 rcases gn with ⟨_, q⟩ | ⟨rfl, q2, q3, q4, _⟩
 ·have := congrArg List.length q; simp at this; omega
 simp only [List.length_replicate] at hb
 rw [← pvs_nil, ← List.append_nil (List.flatMap eI _)] at p2
 rw [← nvs_nil, ← List.append_nil (List.flatMap eI _)] at q2
 simp only [↓zp, zv, seval, c0, c1, c4, c5, c6, hlt']
 generalize hS : Tr.set _ 7 _ = S
 have b1 : Slots.at S 1 = l.v eI := by rw [← hS]; simp only [zs, seval, c1]
 have b4 : Slots.at S 4 = .ptr rx 0 := by rw [← hS]; simp only [zs, seval, c4]
 have b5 : Slots.at S 5 = .ptr (rx + 1) 0 := by rw [← hS]; simp only [zs, seval, c5]
 have b7 : Slots.at S 7 = .int .i64 ((0 : Nat) : Int) := by rw [← hS]; simp only [zs, seval] <;> rfl
 clear hS
 refine loop_ind (fun m s h => invM2 k l rx (rx + 1) t1 rx bp bn m s h) ?_ l.l.length ⟨0, by omega, by omega, b1, b4, b5, b7, hr, hb, p2, q2, hl⟩
 clear b1 b4 b5 b7 hr hb p2 q2 hl c0 c1 c4 c5 c6 hm
 rintro m s h' ⟨j, hj, hm, c1, c4, c5, c7, hr, hb, gp, gn, hl⟩
 have l3 : ¬ rx + 1 < h'.lo := by omega
 by_cases hlt : j < l.l.length
 case neg =>
  have hlt2 : ¬ (j : Int) < (l.l.length : Int) := by omega
  rw [show l.l.take j = l.l from List.take_of_length_le (by omega)] at hb gp gn
  have l4 : ¬ rx < h'.lo := by omega
  have ne : ¬ rx + 1 = rx := by omega
  rw [List.append_nil] at gp gn
  simp only [↓zp, zv, seval, c1, c4, c5, c7, hlt2, hb, hr, l4, ne]
  generalize hH : Heap.set h' _ _ = H2
  have gp' : H2.get bp = _ := (by rw [← hH, Heap.get_set, if_neg (by omega)] : _ = h'.get bp).trans gp
  have gn' : H2.get bn = _ := (by rw [← hH, Heap.get_set, if_neg (by omega)] : _ = h'.get bn).trans gn
  obtain ⟨o1, ol1, of1⟩ := FzV.row (h := H2) (base := rx) (b := bp) (n := k) (c := k) (tag := .op) (sz := 1) eI_len eI_scal (by omega) (by rw [pvs_len]) gp'
  obtain ⟨o2, ol2, of2⟩ := FzV.row (h := H2) (base := rx) (b := bn) (n := k) (c := k) (tag := .op) (sz := 1) eI_len eI_scal (by omega) (by rw [nvs_len]) gn'
  rw [pvs_len] at of1
  rw [nvs_len] at of2
  refine ⟨_, ?_, o1, o2, rfl, ol1, ol2⟩
  have z : FzL H2 rx 2 [] [] := fun n hn => FzL.nil n (by omega)
  have z1 := FzL.sc (v := .int .i64 (l.l.headD (-1))) rfl (FzL.sc (v := .int .i64 (l.l.getLastD (-1))) rfl z (by omega)) (by omega)
  have z1' : FzL H2 rx 2000 _ _ := fun n hn => z1 n (by omega)
  have z2 := FzL.cons of2 z1' (by omega)
  have z2' : FzL H2 rx 3000 _ _ := fun n hn => z2 n (by omega)
  have z3 := FzL.cons of1 z2' (by omega)
  exact FzV.agg z3 frzFuel (by show _ ≤ 1000000; omega)
 have hlt2 : (j : Int) < (l.l.length : Int) := by omega
 have ws := wr_succ (k := j) (by omega)
 obtain ⟨x, hx, hxk⟩ : ∃ x : Nat, l.l[j] = (x : Int) ∧ x < k := by
  have := a1.range _ (List.getElem_mem hlt)
  exact ⟨l.l[j].toNat, by omega, by omega⟩
 have ia1 : ∀ h, r_ia 1 (l.v eI) (.int .i64 (j : Int)) h = some (.iptr (.int .i64 (x : Int) :: (l.l.drop (j + 1)).flatMap eI), h) := fun h => by rw [r_ia_v eI_len (by decide) hlt rfl, eI, hx]; rfl
 have htk : l.l.take (j + 1) = l.l.take j ++ [(x : Int)] := by rw [List.take_succ_eq_append_getElem hlt, hx]
 have nd : ∀ i (h1 : i < j), l.l[i] ≠ (x : Int) := fun i h1 => hx ▸ (List.pairwise_iff_getElem.1 a1.nodup) i j (by omega) hlt h1
 have hnot : (x : Int) ∉ l.l.take j := fun hm => by
  obtain ⟨i, hi, he⟩ := List.mem_iff_getElem.1 hm
  rw [List.getElem_take] at he
  simp only [List.length_take] at hi
  exact nd i (by omega) he
 have hlast : (l.l.take (j + 1)).getLastD (-1) = (x : Int) := by rw [htk]; simp
 have nbp : ¬ rx + 1 = bp := by omega
 have nbn : ¬ rx + 1 = bn := by omega
 have nbp2 : ¬ rx = bp := by omega
 have nbn2 : ¬ rx = bn := by omega
 have nbp3 : ¬ bp = rx + 1 := by omega
 have nbn3 : ¬ bn = rx + 1 := by omega
 have nrx : ¬ rx = rx + 1 := by omega
 rcases Nat.eq_zero_or_pos j with h0 | hpos
 ·have z0 : ((j : Int) = 0) = True := eq_true (by omega)
  have hp1 : pvs k (l.l.take (j + 1)) = pvs k (l.l.take j) := by rw [htk]; subst h0; simp [pvs_one, pvs_nil]
  have hn1 : nvs k (l.l.take (j + 1)) = nvs k (l.l.take j) := by rw [htk]; subst h0; simp [nvs_one, nvs_nil]
  have hh1 : (l.l.take (j + 1)).headD (-1) = (x : Int) := by rw [htk]; subst h0; simp
  rw [← hp1] at gp
  rw [← hn1] at gn
  simp only [↓zp, zv, seval, c1, c4, c5, c7, hlt2, z0, ia1, hb, l3, ws]
  exact ⟨_, by omega, j + 1, by omega, rfl, by simp only [zs, seval, c1], by simp only [zs, seval, c4], by simp only [zs, seval, c5], by simp only [zs, seval], by simp only [↓zp, zv, seval, nrx, hr], by simp only [↓zp, zv, seval, hlast, hh1], by simp only [↓zp, zv, seval, nbp3, gp], by simp only [↓zp, zv, seval, nbn3, gn], hl⟩
 ·have z0 : ¬ (j : Int) = 0 := by omega
  obtain ⟨i, rfl⟩ : ∃ i, j = i + 1 := ⟨j - 1, by omega⟩
  have hi : i < l.l.length := by omega
  obtain ⟨y, hy, hyk⟩ : ∃ y : Nat, l.l[i] = (y : Int) ∧ y < k := by
   have := a1.range _ (List.getElem_mem hi)
   exact ⟨l.l[i].toNat, by omega, by omega⟩
  have htk2 : l.l.take (i + 1) = l.l.take i ++ [(y : Int)] := by rw [List.take_succ_eq_append_getElem hi, hy]
  have nd2 : (y : Int) ∉ l.l.take i := fun hm => by
   obtain ⟨i2, hi2, he⟩ := List.mem_iff_getElem.1 hm
   rw [List.getElem_take] at he
   simp only [List.length_take] at hi2
   exact (List.pairwise_iff_getElem.1 a1.nodup) i2 i (by omega) hi (by omega) (by rw [he, hy])
  have ia2 : ∀ h, r_ia 1 (l.v eI) (.int .i64 (i : Int)) h = some (.iptr (.int .i64 (y : Int) :: (l.l.drop (i + 1)).flatMap eI), h) := fun h => by rw [r_ia_v eI_len (by decide) hi rfl, eI, hy]; rfl
  have wm : wr .i64 (((i + 1 : Nat) : Int) - 1) = (i : Int) := by rw [wr_i64 (by omega) (by omega)]; omega
  have e1 := pvs_set (n := k) hnot
  have e2 := nvs_set (n := k) (x := (x : Int)) nd2 (by rw [← htk2]; exact hnot)
  rw [← htk2] at e2
  rw [← htk] at e1 e2
  have lst : (l.l.take (i + 1)).getLastD (-1) = (y : Int) := by rw [htk2]; simp
  have hh1 : (l.l.take (i + 1 + 1)).headD (-1) = (l.l.take (i + 1)).headD (-1) := by rw [htk, htk2]; cases l.l.take i <;> rfl
  rw [lst] at e1
  obtain ⟨p, hp⟩ := mr_pt bp x 1
  obtain ⟨q, hq⟩ := mr_pt bn y 1
  have iaP := fun h => hp.ia (n := k) (cap := k) hxk h
  have iaN := fun h => hq.ia (n := k) (cap := k) hyk h
  have stP := hp.st (j := 0) (n := 1) (v := .int .i64 (y : Int)) (new := [.int .i64 (y : Int)]) eI_len gp (by rw [pvs_len]; exact hxk) (by omega) (y : Int) rfl rfl (by decide) (by decide) rfl rfl
  rw [e1] at stP
  generalize hH1 : h'.set bp _ = H1 at stP
  have gp1 : H1.get bp = .cells ((pvs k (l.l.take (i + 1 + 1))).flatMap eI ++ []) .op := by rw [← hH1, Heap.get_set, if_pos rfl]
  have gn1 : H1.get bn = _ := (by rw [← hH1, Heap.get_set, if_neg (by omega)] : _ = h'.get bn).trans gn
  have hb1 : H1.get (rx + 1) = _ := (by rw [← hH1, Heap.get_set, if_neg nbp] : _ = h'.get (rx + 1)).trans hb
  have hr1 : H1.get rx = _ := (by rw [← hH1, Heap.get_set, if_neg nbp2] : _ = h'.get rx).trans hr
  have lo1 : H1.lo = h'.lo := by rw [← hH1]; rfl
  have stN := hq.st (j := 0) (n := 1) (v := .int .i64 (x : Int)) (new := [.int .i64 (x : Int)]) eI_len gn1 (by rw [nvs_len]; exact hyk) (by omega) (x : Int) rfl rfl (by decide) (by decide) rfl rfl
  rw [e2] at stN
  generalize hH2 : H1.set bn _ = H2 at stN
  have gp2 : H2.get bp = _ := (by rw [← hH2, Heap.get_set, if_neg (by omega)] : _ = H1.get bp).trans gp1
  have gn2 : H2.get bn = .cells ((nvs k (l.l.take (i + 1 + 1))).flatMap eI ++ []) .op := by rw [← hH2, Heap.get_set, if_pos rfl]
  have hb2 : H2.get (rx + 1) = _ := (by rw [← hH2, Heap.get_set, if_neg nbn] : _ = H1.get (rx + 1)).trans hb1
  have hr2 : H2.get rx = _ := (by rw [← hH2, Heap.get_set, if_neg nbn2] : _ = H1.get rx).trans hr1
  have lo2 : H2.lo = H1.lo := by rw [← hH2]; rfl
  have l5 : ¬ rx + 1 < H2.lo := by omega
  simp only [↓zp, zz, zy, zw, r_st_p, r_nck_p, seval, c1, c4, c5, c7, hlt2, z0, ia1, ia2, wm, hb, iaP, stP, hb1, iaN, stN, hb2, l5, ws]
  exact ⟨l.l.length - (i + 1 + 1), by omega, i + 1 + 1, by omega, rfl, by simp only [zs, seval, c1], by simp only [zs, seval, c4], by simp only [zs, seval, c5], by simp only [zs, seval], by simp only [↓zp, zv, seval, nrx, hr2], by simp only [↓zp, zv, seval, hlast, hh1], by simp only [↓zp, zv, seval, nbp3, gp2], by simp only [↓zp, zv, seval, nbn3, gn2], by show H2.lo = rx; omega⟩
end
end
end Go.VE.LB
