/- What the functions of the law ViewTells compute, on typed arguments (part 2). -/
import Derived.Test.YtpbggddmfgjmlaaGreatViewTellsA1
set_option linter.all false
namespace Go.VE.LB
set_option maxRecDepth 100000
set_option maxHeartbeats 2000000
section
open Go Go.VE
theorem ch1 (a1 : Prop) : a1 = True ∨ a1 = False := by
 by_cases h : a1
 ·exact .inl (eq_true h)
 ·exact .inr (eq_false h)
theorem ch2 (a1 a2 : Prop) : a1 = True ∨ a1 = False ∧ a2 = True ∨ a1 = False ∧ a2 = False := by
 by_cases h : a1
 ·exact .inl (eq_true h)
 ·rcases ch1 a2 with q | q <;> simp [h, q]
theorem ch3 (a1 a2 a3 : Prop) : a1 = True ∨ a1 = False ∧ a2 = True ∨ a1 = False ∧ a2 = False ∧ a3 = True ∨ a1 = False ∧ a2 = False ∧ a3 = False := by
 by_cases h : a1
 ·exact .inl (eq_true h)
 ·rcases ch2 a2 a3 with q | q | q <;> simp [h, q]
theorem ch4 (a1 a2 a3 a4 : Prop) : a1 = True ∨ a1 = False ∧ a2 = True ∨ a1 = False ∧ a2 = False ∧ a3 = True ∨ a1 = False ∧ a2 = False ∧ a3 = False ∧ a4 = True ∨ a1 = False ∧ a2 = False ∧ a3 = False ∧ a4 = False := by
 by_cases h : a1
 ·exact .inl (eq_true h)
 ·rcases ch3 a2 a3 a4 with q | q | q | q <;> simp [h, q]
theorem ch5 (a1 a2 a3 a4 a5 : Prop) : a1 = True ∨ a1 = False ∧ a2 = True ∨ a1 = False ∧ a2 = False ∧ a3 = True ∨ a1 = False ∧ a2 = False ∧ a3 = False ∧ a4 = True ∨ a1 = False ∧ a2 = False ∧ a3 = False ∧ a4 = False ∧ a5 = True ∨ a1 = False ∧ a2 = False ∧ a3 = False ∧ a4 = False ∧ a5 = False := by
 by_cases h : a1
 ·exact .inl (eq_true h)
 ·rcases ch4 a2 a3 a4 a5 with q | q | q | q | q <;> simp [h, q]
theorem ch6 (a1 a2 a3 a4 a5 a6 : Prop) : a1 = True ∨ a1 = False ∧ a2 = True ∨ a1 = False ∧ a2 = False ∧ a3 = True ∨ a1 = False ∧ a2 = False ∧ a3 = False ∧ a4 = True ∨ a1 = False ∧ a2 = False ∧ a3 = False ∧ a4 = False ∧ a5 = True ∨ a1 = False ∧ a2 = False ∧ a3 = False ∧ a4 = False ∧ a5 = False ∧ a6 = True ∨ a1 = False ∧ a2 = False ∧ a3 = False ∧ a4 = False ∧ a5 = False ∧ a6 = False := by
 by_cases h : a1
 ·exact .inl (eq_true h)
 ·rcases ch5 a2 a3 a4 a5 a6 with q | q | q | q | q | q <;> simp [h, q]
structure Limit where
 b : Int
 r : Int
 p : Int
structure Bucket where
 l : Limit
 lv : Int
 pt : Int
 t : Int
 ok : lv < 9223372036854775808
def e32 (n : Int) : List V := [.int .u32 n]
def encL (x : Limit) : List V := [.int .i64 x.b, .int .i64 x.r, .int .i64 x.p]
def encB (x : Bucket) : List V := [.int .i64 x.l.b, .int .i64 x.l.r, .int .i64 x.l.p, .int .i64 x.lv, .int .i64 x.pt, .int .u64 x.t]
theorem e32_len (x : Int) : (e32 x).length = 1 := rfl
def limBad (x : Limit) : Bool := decide (x.b < 1) || (decide (1000000000 < x.b) || (decide (x.r < 0) || (decide (1000000000 < x.r) || (decide (x.p < 1) || decide (1000000000 < x.p)))))
def chkLim (x : Limit) : Int := if limBad x = true then 8 else 0
def bkBad (x : Bucket) : Bool := limBad x.l || (decide (x.lv < 0) || (decide (x.l.b < x.lv) || (decide (x.pt < 0) || (decide (x.l.p ≤ x.pt) || (decide (x.lv = x.l.b) && !decide (x.pt = 0))))))
def chkB (x : Bucket) : Int := if bkBad x = true then 8 else 0
section
variable {vp : Nat → Option VFn}
theorem lim_spec {f : Nat} (hf : vp f = some Zzag) (x : Limit) (h : Heap) : callRes vp f [.agg [.int .i64 x.b, .int .i64 x.r, .int .i64 x.p]] h = some (.int .i64 (chkLim x), h) := by
 refine res_pure hf rfl rfl (fun g hg => ?_)
 unfold Zzag chkLim limBad
 rcases ch6 (x.b < 1) (1000000000 < x.b) (x.r < 0) (1000000000 < x.r) (x.p < 1) (1000000000 < x.p) with q | q | q | q | q | q | q <;> simp only [↓zp, zv, seval, q, frzI]
theorem lim_spec2 {f : Nat} (hf : vp f = some Zzcq) (x : Limit) (h : Heap) : callRes vp f [.agg [.int .i64 x.b, .int .i64 x.r, .int .i64 x.p]] h = some (.int .i64 (chkLim x), h) := lim_spec (hf.trans rfl) x h
theorem bk_spec {f c1 : Nat} (hf : vp f = some (Zzaf c1)) (h1 : vp c1 = some Zzag) (x : Bucket) (h : Heap) : callRes vp f [.agg (encB x)] h = some (.int .i64 (chkB x), h) := by
 have lim := fun y h => lim_spec h1 y h
 have m1 : modeOf vp c1 = some 1 := mo h1 rfl rfl
 refine res_pure hf rfl rfl (fun g hg => ?_)
 unfold Zzaf encB chkB bkBad
 cases q0 : limBad x.l
 case true => simp only [↓zp, zv, seval, lim, m1, chkLim, q0, frzI]
 have hr : 1 ≤ x.l.b ∧ x.l.b ≤ 1000000000 := by
  simp [limBad] at q0
  omega
 have ok := x.ok
 by_cases q1 : x.lv < 0
 case pos => simp only [↓zp, zv, seval, lim, m1, chkLim, q0, q1, frzI]
 have e : wr .i64 (x.l.b - x.lv) = x.l.b - x.lv := wr_i64 (by omega) (by omega)
 by_cases q2 : x.l.b < x.lv
 case pos =>
  have q2' : x.l.b - x.lv < 0 := by omega
  simp only [↓zp, zv, seval, lim, m1, chkLim, q0, q1, q2, q2', e, frzI]
 have q2' : ¬ x.l.b - x.lv < 0 := by omega
 have e5 : (x.l.b - x.lv = 0) = (x.lv = x.l.b) := propext (by omega)
 rcases ch3 (x.pt < 0) (x.l.p ≤ x.pt) (x.lv = x.l.b) with q | q | q | q
 case inr.inr.inl =>
  have e6 : (0 < x.pt) = ¬ x.pt = 0 := propext (by have := of_eq_false q.1; omega)
  rcases ch1 (x.pt = 0) with q' | q' <;> simp only [↓zp, zv, seval, lim, m1, chkLim, q0, q1, q2, q2', e, e5, e6, q, q', frzI, not_true, not_false_eq_true]
 all_goals simp only [↓zp, zv, seval, lim, m1, chkLim, q0, q1, q2, q2', e, e5, q, frzI]
theorem bk_spec2 {f c1 : Nat} (hf : vp f = some (Zzcp c1)) (h1 : vp c1 = some Zzcq) (x : Bucket) (h : Heap) : callRes vp f [.agg (encB x)] h = some (.int .i64 (chkB x), h) := by
 have lim := fun y h => lim_spec2 h1 y h
 have m1 : modeOf vp c1 = some 1 := mo h1 rfl rfl
 refine res_pure hf rfl rfl (fun g hg => ?_)
 unfold Zzcp encB chkB bkBad
 cases q0 : limBad x.l
 case true => simp only [↓zp, zv, seval, lim, m1, chkLim, q0, frzI]
 rcases ch5 (x.lv < 0) (x.l.b < x.lv) (x.pt < 0) (x.l.p ≤ x.pt) (x.lv = x.l.b) with q | q | q | q | q | q
 case inr.inr.inr.inr.inl => rcases ch1 (x.pt = 0) with q' | q' <;> simp only [↓zp, zv, seval, lim, m1, chkLim, q0, q, q', frzI]
 all_goals simp only [↓zp, zv, seval, lim, m1, chkLim, q0, q, frzI]
end
end
section
open Go Go.VE
def fidx {α : Type} (q : α → Bool) : List α → Int
 | [] => -1
 | x :: l => if q x = true then 0 else if fidx q l < 0 then -1 else fidx q l + 1
theorem fidx_at {α : Type} {q : α → Bool} : ∀ {l : List α} {k : Nat} (hk : k < l.length), q l[k] = true → (∀ j (hj : j < l.length), j < k → q l[j] = false) → fidx q l = k
 | [], k, hk, _, _ => by simp at hk
 | x :: l, 0, hk, h1, _ => by
  have : q x = true := h1
  simp [fidx, this]
 | x :: l, k + 1, hk, h1, h2 => by
  have e0 : q x = false := h2 0 (by simp) (by omega)
  have e1 := fidx_at (l := l) (k := k) (by simpa using hk) (by simpa using h1) (fun j hj hjk => h2 (j + 1) (by simpa using hj) (by omega))
  simp only [fidx, e0, e1]
  rw [if_neg (by simp), if_neg (by omega)]
  omega
theorem fidx_none {α : Type} {q : α → Bool} : ∀ {l : List α}, (∀ j (hj : j < l.length), q l[j] = false) → fidx q l = -1
 | [], _ => rfl
 | x :: l, h => by
  have e0 : q x = false := h 0 (by simp)
  have e1 := fidx_none (l := l) (fun j hj => h (j + 1) (by simpa using hj))
  simp [fidx, e0, e1]
theorem fidx_any {α : Type} {q : α → Bool} : ∀ {l : List α}, decide (0 ≤ fidx q l) = l.any q
 | [] => rfl
 | x :: l => by
  have ih := fidx_any (q := q) (l := l)
  cases hq : q x with
  | true => simp [fidx, hq]
  | false =>
   simp only [fidx, hq, List.any_cons, Bool.false_or, ← ih]
   by_cases q2 : fidx q l < 0
   ·simp [q2]
   ·simp [q2]; omega
theorem fidx_range {α : Type} {q : α → Bool} : ∀ {l : List α}, -1 ≤ fidx q l ∧ fidx q l < l.length
 | [] => by simp [fidx]
 | x :: l => by
  have ih := fidx_range (q := q) (l := l)
  simp only [fidx, List.length_cons]
  split
  ·omega
  ·split <;> omega
def hgOk (h : Heap) (args : List V) (g : Heap) : Prop := (g = h0 ∧ isoArgs 1 args = some args) ∨ (g.nx = h.nx ∧ g.lo = h.nx ∧ ∀ b, g.get b = h.get b)
theorem find_at {α : Type} {q : α → Bool} : ∀ {l : List α} {k : Nat} (hk : k < l.length), q l[k] = true → (∀ j (hj : j < l.length), j < k → q l[j] = false) → l.find? q = some l[k]
 | [], k, hk, _, _ => by simp at hk
 | x :: l, 0, hk, h1, _ => by
  have : q x = true := h1
  simp [List.find?, this]
 | x :: l, k + 1, hk, h1, h2 => by
  have e0 : q x = false := h2 0 (by simp) (by omega)
  have e1 := find_at (l := l) (k := k) (by simpa using hk) (by simpa using h1) (fun j hj hjk => h2 (j + 1) (by simpa using hj) (by omega))
  simp only [List.find?, e0, e1, List.getElem_cons_succ]
theorem find_no {α : Type} {q : α → Bool} {l : List α} (h : ∀ j (hj : j < l.length), q l[j] = false) : l.find? q = none := by
 rw [List.find?_eq_none]
 intro x hx
 obtain ⟨j, hj, rfl⟩ := List.mem_iff_getElem.1 hx
 simp [h j hj]
theorem iso_none {α : Type} {enc : α → List V} (c : Sl α) (f b o : Nat) : isoArgs 1 [c.v enc, .fn f [.ptr b o]] = none := by cases c <;> rfl
theorem hg_get {α : Type} {enc : α → List V} {c : Sl α} {f b o : Nat} {h g : Heap} (hg : hgOk h [c.v enc, .fn f [.ptr b o]] g) (i : Nat) : g.get i = h.get i := by
 rcases hg with ⟨_, hi⟩ | ⟨_, _, hg⟩
 ·rw [iso_none] at hi; cases hi
 ·exact hg i
theorem hlo {h g : Heap} {args : List V} (hg : hgOk h args g) : g.lo ≤ g.nx := by
 rcases hg with ⟨rfl, _⟩ | ⟨e1, e2, _⟩
 ·exact Nat.le_refl _
 ·omega
structure Kp (g h : Heap) : Prop where
 lo : h.lo = g.lo
 nx : g.nx ≤ h.nx
 get : ∀ b, b < g.nx → h.get b = g.get b
theorem Kp.refl (g : Heap) : Kp g g := ⟨rfl, Nat.le_refl _, fun _ _ => rfl⟩
theorem Kp.trans {a b c : Heap} (x : Kp a b) (y : Kp b c) : Kp a c := ⟨y.lo.trans x.lo, Nat.le_trans x.nx y.nx, fun i hi => (y.get i (Nat.lt_of_lt_of_le hi x.nx)).trans (x.get i hi)⟩
theorem Kp.new {g h : Heap} (k : Kp g h) (x : Blk) : Kp g (h.new x) := ⟨k.lo, by have := k.nx; simp only [Heap.new]; omega, fun b hb => by rw [Heap.get_new, if_neg (by have := k.nx; omega), k.get b hb]⟩
theorem Kp.set {g h : Heap} (k : Kp g h) {b : Nat} (x : Blk) (hb : g.nx ≤ b) : Kp g (h.set b x) := ⟨k.lo, k.nx, fun c hc => by rw [Heap.get_set, if_neg (by omega), k.get c hc]⟩
section
variable {α : Type} {enc : α → List V} {sz : Nat}
def El (g : Heap) (a : V) (cs : List V) : Prop := (∃ r, a = .iptr (cs ++ r)) ∨ ∃ b o all tag, a = .ptr b o ∧ g.get b = .cells all tag ∧ b < g.nx ∧ ∃ r, all.drop o = cs ++ r
theorem El.at {g h : Heap} {a : V} {cs : List V} (e : El g a cs) (k : Kp g h) : ∃ r, cellsAt h a = some (cs ++ r) := by
 rcases e with ⟨r, rfl⟩ | ⟨b, o, all, tag, rfl, h1, h2, r, h3⟩
 ·exact ⟨r, rfl⟩
 ·exact ⟨r, by simp only [cellsAt, k.get b h2, h1, h3]⟩
theorem takeN_app : ∀ (cs r : List V), takeN cs.length (cs ++ r) = some cs
 | [], _ => rfl
 | x :: l, r => by simp only [List.length_cons, List.cons_append, takeN, takeN_app l r]
theorem El.ld {g h : Heap} {a : V} {cs : List V} (e : El g a cs) (k : Kp g h) {n : Nat} (hn : cs.length = n) : r_ld (some n) a h = some (.agg cs, h) := by
 obtain ⟨r, e⟩ := e.at k
 subst hn
 simp only [r_ld, e, VE.part, takeN_app, Option.map_some]
theorem El.ld1 {g h : Heap} {a c : V} {cs : List V} (e : El g a (c :: cs)) (k : Kp g h) : r_ld none a h = some (c, h) := by
 obtain ⟨r, e⟩ := e.at k
 simp only [r_ld, e, VE.part, List.cons_append, Option.map_some]
theorem El.fa {g : Heap} {a : V} {cs : List V} (e : El g a cs) {n : Nat} (hn : n ≤ cs.length) : ∃ a', (∀ h, r_fa n a h = some (a', h)) ∧ El g a' (cs.drop n) := by
 rcases e with ⟨r, rfl⟩ | ⟨b, o, all, tag, rfl, h1, h2, r, h3⟩
 ·exact ⟨_, fun h => rfl, .inl ⟨r, by rw [List.drop_append_of_le_length hn]⟩⟩
 ·exact ⟨_, fun h => rfl, .inr ⟨b, o + n, all, tag, rfl, h1, h2, r, by rw [← List.drop_drop, h3, List.drop_append_of_le_length hn]⟩⟩
def Rd (enc : α → List V) (sz : Nat) (g : Heap) (v : V) (l : List α) : Prop :=
 (∃ c : Sl α, v = c.v enc ∧ c.l = l) ∨ ∃ b o n c tag all r, v = .sl b o n c sz ∧ n = l.length ∧ g.get b = .cells all tag ∧ all.drop o = l.flatMap enc ++ r ∧ b < g.nx
theorem Rd.sl {g : Heap} (c : Sl α) : Rd enc sz g (c.v enc) c.l := .inl ⟨c, rfl, rfl⟩
theorem Rd.len {g : Heap} {v : V} {l : List α} (r : Rd enc sz g v l) (h : Heap) : r_len v h = some (.int .i64 l.length, h) := by
 rcases r with ⟨c, rfl, rfl⟩ | ⟨b, o, n, c, tag, all, r, rfl, rfl, _⟩
 ·exact r_len_v
 ·rfl
theorem Rd.ia {g : Heap} {v : V} {l : List α} (r : Rd enc sz g v l) (he : ∀ x, (enc x).length = sz) (hz : 0 < sz) {k : Nat} (hk : k < l.length) : ∃ a, (∀ h, r_ia sz v (.int .i64 (k : Int)) h = some (a, h)) ∧ El g a (enc l[k]) := by
 rcases r with ⟨c, rfl, rfl⟩ | ⟨b, o, n, c, tag, all, r, rfl, rfl, h1, h3, h2⟩
 ·exact ⟨_, fun h => r_ia_v he hz hk rfl, .inl ⟨_, rfl⟩⟩
 ·refine ⟨.ptr b (o + k * sz), fun h => ?_, .inr ⟨b, _, _, tag, rfl, h1, h2, (l.drop (k + 1)).flatMap enc ++ r, ?_⟩⟩
  ·simp only [r_ia, asNatN, blt_dec, hk, decide_true, cond_true]
  ·rw [← List.drop_drop, h3, List.drop_append_of_le_length (by rw [flat_len2 he]; exact Nat.mul_le_mul_right _ (by omega)), flat_drop he l k hk, List.append_assoc]
theorem Rd.keep {g h : Heap} {v : V} {l : List α} (r : Rd enc sz g v l) (k : Kp g h) : Rd enc sz h v l := by
 rcases r with ⟨c, rfl, rfl⟩ | ⟨b, o, n, c, tag, all, r, rfl, e, h1, h3, h2⟩
 ·exact .sl c
 ·exact .inr ⟨b, o, n, c, tag, all, r, rfl, e, by rw [k.get b h2, h1], h3, Nat.lt_of_lt_of_le h2 k.nx⟩
theorem Rd.enter {h g : Heap} {v : V} {l : List α} (r : Rd enc sz h v l) {A : V → List V} (hg : hgOk h (A v) g) (hi : ∀ b o n c, isoArgs 1 (A (.sl b o n c sz)) = none) : Rd enc sz g v l := by
 rcases r with ⟨c, rfl, rfl⟩ | ⟨b, o, n, c, tag, all, r, rfl, e, h1, h3, h2⟩
 ·exact .sl c
 ·rcases hg with ⟨_, q⟩ | ⟨e1, e2, e3⟩
  ·rw [hi] at q; cases q
  ·exact .inr ⟨b, o, n, c, tag, all, r, rfl, e, by rw [e3, h1], h3, by rw [e1]; exact h2⟩
theorem Acc.rd {h : Heap} {v : V} {l : List α} (a : Acc enc sz h v l) : Rd enc sz h v l := by
 rcases a with ⟨rfl, rfl⟩ | ⟨b, rfl, _, h2, h3, _⟩
 ·exact .inl ⟨.nil, rfl, rfl⟩
 ·exact .inr ⟨b, _, _, _, _, _, [], rfl, rfl, h3, by simp, h2⟩
def FzV (h : Heap) (base N : Nat) (v v' : V) : Prop := ∀ n, N ≤ n → frz n h base false v = some v'
def FzL (h : Heap) (base N : Nat) (l l' : List V) : Prop := ∀ n, N ≤ n → frzs n h base false l = some l'
theorem FzV.scal {h : Heap} {base : Nat} {v : V} (hs : scal v = true) : FzV h base 1 v v := fun n hn => by
 obtain ⟨m, rfl⟩ : ∃ m, n = m + 1 := ⟨n - 1, by omega⟩
 exact frz_scal hs
theorem FzV.le {h : Heap} {base N M : Nat} {v v' : V} (f : FzV h base N v v') (hm : N ≤ M) : FzV h base M v v' := fun n hn => f n (by omega)
theorem FzL.nil {h : Heap} {base : Nat} : FzL h base 1 [] [] := fun n hn => by
 obtain ⟨m, rfl⟩ : ∃ m, n = m + 1 := ⟨n - 1, by omega⟩
 rfl
theorem FzL.cons {h : Heap} {base N M : Nat} {v v' : V} {l l' : List V} (f : FzV h base N v v') (g : FzL h base M l l') (hm : N ≤ M) : FzL h base (M + 1) (v :: l) (v' :: l') := fun n hn => by
 obtain ⟨m, rfl⟩ : ∃ m, n = m + 1 := ⟨n - 1, by omega⟩
 rw [frzs, f m (by omega), g m (by omega)]
theorem FzL.sc {h : Heap} {base M : Nat} {v : V} {l l' : List V} (hs : scal v = true) (g : FzL h base M l l') (hm : 1 ≤ M) : FzL h base (M + 1) (v :: l) (v :: l') := .cons (.scal hs) g hm
theorem FzV.agg {h : Heap} {base N : Nat} {l l' : List V} (f : FzL h base N l l') : FzV h base (N + 1) (.agg l) (.agg l') := fun n hn => by
 obtain ⟨m, rfl⟩ : ∃ m, n = m + 1 := ⟨n - 1, by omega⟩
 rw [frz, f m (by omega), Option.map_some]
theorem FzV.tup {h : Heap} {base N : Nat} {l l' : List V} (f : FzL h base N l l') : FzV h base (N + 1) (.tup l) (.tup l') := fun n hn => by
 obtain ⟨m, rfl⟩ : ∃ m, n = m + 1 := ⟨n - 1, by omega⟩
 rw [frz, f m (by omega), Option.map_some]
theorem FzV.row {h : Heap} {base b n c : Nat} {l : List α} {tag : Tag} (he : ∀ x, (enc x).length = sz) (hs : ∀ x, (enc x).all VE.scal = true) (hb : base ≤ b) (hn : n = l.length) (hg : h.get b = .cells (l.flatMap enc) tag) : ∃ o : Sl α, o.l = l ∧ FzV h base (l.length * sz + 4) (.sl b 0 n c sz) (o.v enc) := by
 subst hn
 refine ⟨.mk l (bif tag.opn && Nat.beq (0 + c * sz) (l.flatMap enc).length then none else some c), rfl, fun n hn => ?_⟩
 obtain ⟨m, rfl⟩ : ∃ m, n = m + 1 := ⟨n - 1, by omega⟩
 have hcl : (l.flatMap enc).length = l.length * sz := flat_len2 he l
 have ht : takeN (l.length * sz) ((l.flatMap enc).drop 0) = some (l.flatMap enc) := by rw [List.drop_zero, ← hcl]; exact takeN_all _
 have hlb : Nat.blt b base = false := by rw [blt_dec]; simp; omega
 have hf : frzs m h base true (l.flatMap enc) = some (l.flatMap enc) := frzs_scal _ (all_flat hs l) (by omega)
 simp only [Go.VE.frz, hlb, cond_false, hg, ht, hf, Sl.v]
theorem Acc.fz {h : Heap} {base : Nat} {v : V} {l : List α} (he : ∀ x, (enc x).length = sz) (hs : ∀ x, (enc x).all VE.scal = true) (a : Acc enc sz h v l) (hb : base ≤ h.lo) : ∃ o : Sl α, o.l = l ∧ FzV h base (l.length * sz + 4) v (o.v enc) := by
 rcases a with ⟨rfl, rfl⟩ | ⟨b, rfl, q1, q2, q3, q4⟩
 ·exact ⟨.nil, rfl, FzV.le (.scal rfl) (by omega)⟩
 ·exact FzV.row he hs (by omega) rfl q3
end
end
section
open Go Go.VE Classical
theorem eqC {k : IntKind} {a b : Int} {ks : List Nat} {xs ys : List V} : eqCells (0 :: ks) (.int k a :: xs) (.int k b :: ys) = if a = b then eqCells ks xs ys else some false := by
 simp only [eqCells, eqK, kEq_refl, cond_true, eqI_dec]
 by_cases h : a = b
 ·simp [h]
 ·simp [h]
theorem limit_ext {x y : Limit} : x = y ↔ x.b = y.b ∧ x.r = y.r ∧ x.p = y.p := by
 cases x; cases y; simp
theorem eqc3 {x y : Limit} {h : Heap} {neg : Bool} : r_eqa neg [0, 0, 0] (.agg [.int .i64 x.b, .int .i64 x.r, .int .i64 x.p]) (.agg [.int .i64 y.b, .int .i64 y.r, .int .i64 y.p]) h = some (.bool (bif neg then !decide (x = y) else decide (x = y)), h) := by
 have : eqCells [0, 0, 0] [.int .i64 x.b, .int .i64 x.r, .int .i64 x.p] [.int .i64 y.b, .int .i64 y.r, .int .i64 y.p] = some (decide (x = y)) := by
  simp only [eqC, limit_ext]
  by_cases h1 : x.b = y.b <;> by_cases h2 : x.r = y.r <;> by_cases h3 : x.p = y.p <;> simp [h1, h2, h3, eqCells]
 simp only [r_eqa, this]
 rfl
end
section
open Go Go.VE
theorem over_mid : ∀ (p : List V) (new mid r : List V), new.length = mid.length → new.all oneCell = true → over p.length (p ++ (mid ++ r)) new = some (p ++ (new ++ r))
 | [], [], [], r, _, _ => by cases r <;> rfl
 | [], x :: new, y :: mid, r, hl, hn => by
  simp only [List.all_cons, Bool.and_eq_true] at hn
  have ih := over_mid [] new mid r (by simpa using hl) hn.2
  simp only [List.length_nil, List.nil_append] at ih
  simp only [List.length_nil, List.nil_append, List.cons_append, over, hn.1, cond_true, ih]
 | z :: p, [], mid, r, hl, _ => by
  have : mid = [] := List.length_eq_zero_iff.1 (by simpa using hl.symm)
  subst this
  cases h : (z :: p) ++ ([] ++ r) with
  | nil => simp at h
  | cons a b => simp only [over]
 | z :: p, x :: new, mid, r, hl, hn => by
  have ih := over_mid p (x :: new) mid r hl hn
  simp only [List.length_cons, List.cons_append, over, ih]
section
variable {vp : Nat → Option VFn}
theorem res_own {f : Nat} {fn : VFn} {args : List V} {h : Heap} {P : V → Heap → Prop} (hf : vp f = some fn) (hp : fn.prim = none) (hm : fn.mode = 2)
  (w : wp vp fn.body (argSlots args) { h with lo := h.nx } fun x s' h' => (x = .norm ∨ x = .ret) ∧ ∃ v, resOf s' h' fn.res = some v ∧ P v { h' with lo := h.lo }) : ∃ v h', callRes vp f args h = some (v, h') ∧ P v h' := by
 obtain ⟨n, x, s', h', e, hx, v, hv, k⟩ := wp_sound w
 refine ⟨v, { h' with lo := h.lo }, callRes_of (n := n + 1) ?_, k⟩
 have hi : isoArgs 2 args = none := rfl
 rcases hx with rfl | rfl
 ·simp only [callF, hf, hp, hm, hi, enterH, e, hv, finish]
 ·simp only [callF, hf, hp, hm, hi, enterH, e, hv, finish]
end
def Own {α : Type} (enc : α → List V) (sz : Nat) (h : Heap) (v : V) (l : List α) (lo hi : Nat) : Prop :=
 (v = .nils ∧ l = []) ∨ ∃ b tag, v = .sl b 0 l.length l.length sz ∧ lo ≤ b ∧ b < hi ∧ h.get b = .cells (l.flatMap enc) tag
theorem Own.keep {α : Type} {enc : α → List V} {sz : Nat} {h h' : Heap} {v : V} {l : List α} {lo hi : Nat} (o : Own enc sz h v l lo hi) (k : ∀ b, lo ≤ b → b < hi → h'.get b = h.get b) : Own enc sz h' v l lo hi := by
 rcases o with o | ⟨b, tag, e, h1, h2, h3⟩
 ·exact .inl o
 ·exact .inr ⟨b, tag, e, h1, h2, by rw [k b h1 h2, h3]⟩
section
variable {α : Type} {enc : α → List V} {sz bytes : Nat}
theorem app_own (he : ∀ x, (enc x).length = sz) {b : Nat} {h : Heap} {l : List α} {cap : Option Nat} (hb : h.get b = .cells [] .cl) (hn : l.length * bytes ≤ 140737488355328) (hne : l ≠ []) :
  r_app sz bytes (.sl b 0 0 0 sz) (.isl (l.flatMap enc) l.length cap) h = some (.sl h.nx 0 l.length l.length sz, h.new (.cells (l.flatMap enc) .op)) := by
 have hr : rowOf h sz (.isl (l.flatMap enc) l.length cap) = some (l.flatMap enc) := by
  simp only [rowOf, flat_len2 he, beq_dec, decide_true, cond_true]
 have h0 : 0 < l.length := List.length_pos_iff.2 hne
 obtain ⟨n, hn'⟩ : ∃ n, l.length = n + 1 := ⟨l.length - 1, by omega⟩
 have h1 : Nat.ble (n + 1) 0 = false := by rw [ble_dec]; simp
 have h2 : Nat.blt 140737488355328 ((n + 1) * bytes) = false := by rw [blt_dec]; simp; rw [← hn']; omega
 have e1 : lenOf (.isl (l.flatMap enc) l.length cap) = some (n + 1) := by simp only [lenOf, hn']
 unfold r_app
 rw [e1, hr, hn']
 simp only [appendV, beq_dec, decide_true, cond_true, hb, h1, cond_false, h2, Nat.zero_mul, takeN, Tag.opn, Bool.false_and, List.nil_append, Nat.zero_add, tagN, h1, h2, cond_false]
theorem app_own0 {b : Nat} {h : Heap} {cap : Option Nat} : r_app sz bytes (.sl b 0 0 0 sz) (.isl [] 0 cap) h = some (.sl b 0 0 0 sz, h) := by
 simp only [r_app, lenOf, rowOf, Nat.zero_mul, List.length_nil, beq_dec, decide_true, cond_true, appendV]
theorem eqn_nils {h : Heap} : r_eqn false 1 .nils .nils h = some (.bool true, h) := rfl
theorem eqn_isl {l : List V} {n : Nat} {c : Option Nat} {h : Heap} : r_eqn false 1 (.isl l n c) .nils h = some (.bool false, h) := rfl
end
@[congr] theorem wp_cg {vp : Nat → Option VFn} {c : VCode} {s s' : Slots} {h h' : Heap} {Q : VX → Slots → Heap → Prop} (hs : s = s') (hh : h = h') : wp vp c s h Q = wp vp c s' h' Q := by rw [hs, hh]
@[congr] theorem wpOps_cg {vp : Nat → Option VFn} {c : List VOper} {s s' : Slots} {h h' : Heap} {K : Slots → Heap → Prop} (hs : s = s') (hh : h = h') : wpOps vp c s h K = wpOps vp c s' h' K := by rw [hs, hh]
theorem r_st_p {n b o : Nat} {x : V} {h : Heap} : r_st n (.ptr b o) x h = match cellsO x with
 | some l => bif Nat.beq l.length n then (VE.store h b o l).map fun h => (.tup [], h) else none
 | none => none := rfl
theorem r_nck_p {b o : Nat} {h : Heap} : r_nck (.ptr b o) h = some (.ptr b o, h) := rfl
section
variable {α : Type} {enc : α → List V} {sz : Nat}
theorem mr_drop (he : ∀ x, (enc x).length = sz) (L : List α) {k j : Nat} (hk : k < L.length) (hj : j ≤ sz) (rest : List V) :
  (L.flatMap enc ++ rest).drop (k * sz + j) = (enc L[k]).drop j ++ ((L.drop (k + 1)).flatMap enc ++ rest) := by
 have hl := he L[k]
 rw [← List.drop_drop, List.drop_append_of_le_length (by rw [flat_len2 he]; exact Nat.mul_le_mul_right _ (by omega)), flat_drop he L k hk, List.append_assoc, List.drop_append_of_le_length (by omega)]
theorem mr_split (L : List α) {k : Nat} (hk : k < L.length) : L.flatMap enc = (L.take k).flatMap enc ++ (enc L[k] ++ (L.drop (k + 1)).flatMap enc) := by
 conv => lhs; rw [← List.take_append_drop k L, List.flatMap_append, List.drop_eq_getElem_cons hk, List.flatMap_cons]
theorem mr_set (L : List α) {k : Nat} (hk : k < L.length) (w : α) : (L.set k w).flatMap enc = (L.take k).flatMap enc ++ (enc w ++ (L.drop (k + 1)).flatMap enc) := by
 rw [List.set_eq_take_append_cons_drop, if_pos hk, List.flatMap_append, List.flatMap_cons]
theorem mr_over (he : ∀ x, (enc x).length = sz) (L : List α) {k j : Nat} (hk : k < L.length) (w : α) (new rest : List V) (hj : j + new.length ≤ sz)
  (hw : enc w = (enc L[k]).take j ++ (new ++ (enc L[k]).drop (j + new.length))) (ho : new.all oneCell = true) :
  over (k * sz + j) (L.flatMap enc ++ rest) new = some ((L.set k w).flatMap enc ++ rest) := by
 have hl := he L[k]
 have e1 : L.flatMap enc ++ rest = ((L.take k).flatMap enc ++ (enc L[k]).take j) ++ (((enc L[k]).drop j).take new.length ++ ((enc L[k]).drop (j + new.length) ++ ((L.drop (k + 1)).flatMap enc ++ rest))) := by
  have e2 : ((enc L[k]).drop j).take new.length ++ (enc L[k]).drop (j + new.length) = (enc L[k]).drop j := by
   conv => lhs; rw [← List.drop_drop]
   exact List.take_append_drop _ _
  rw [mr_split L hk]
  simp only [List.append_assoc]
  rw [← List.append_assoc (((enc L[k]).drop j).take new.length), e2, ← List.append_assoc ((enc L[k]).take j), List.take_append_drop]
 have hp : ((L.take k).flatMap enc ++ (enc L[k]).take j).length = k * sz + j := by
  rw [List.length_append, flat_len2 he, List.length_take, List.length_take]
  rw [Nat.min_eq_left (by omega), Nat.min_eq_left (by omega)]
 rw [e1, ← hp, over_mid _ _ _ _ (by rw [List.length_take, List.length_drop]; omega) ho, mr_set L hk, hw]
 simp only [List.append_assoc]
def Pt (b k sz : Nat) (p : Nat → V) : Prop := ∀ j, p j = .ptr b (k * sz + j)
theorem mr_pt (b k sz : Nat) : ∃ p, Pt b k sz p := ⟨fun j => .ptr b (k * sz + j), fun _ => rfl⟩
section
variable {b k : Nat} {p : Nat → V} (hp : Pt b k sz p)
include hp
theorem Pt.fa (i j : Nat) (h : Heap) : r_fa j (p i) h = some (p (i + j), h) := by
 rw [hp i, hp (i + j)]
 show some (V.ptr b (k * sz + i + j), h) = _
 rw [Nat.add_assoc]
theorem Pt.ia {n cap : Nat} (hk : k < n) (h : Heap) : r_ia sz (.sl b 0 n cap sz) (.int .i64 (k : Int)) h = some (p 0, h) := by
 rw [hp 0]
 simp only [r_ia, asNatN, blt_dec, hk, decide_true, cond_true, Nat.zero_add, Nat.add_zero]
theorem Pt.ld (he : ∀ x, (enc x).length = sz) {L : List α} {rest : List V} {tag : Tag} {h : Heap} (hb : h.get b = .cells (L.flatMap enc ++ rest) tag) (hk : k < L.length) {j n : Nat} {cs : List V} (hj : j + n ≤ sz) (hc : ((enc L[k]).drop j).take n = cs) :
  r_ld (some n) (p j) h = some (.agg cs, h) := by
 have hl := he L[k]
 have e : (enc L[k]).drop j = cs ++ ((enc L[k]).drop j).drop n := by rw [← hc, List.take_append_drop]
 have hn : cs.length = n := by rw [← hc, List.length_take, List.length_drop]; omega
 subst hn
 rw [hp j]
 simp only [r_ld, cellsAt, hb, VE.part]
 rw [mr_drop he L hk (by omega), e, List.append_assoc, takeN_app, Option.map_some]
 try rfl
theorem Pt.ld1 (he : ∀ x, (enc x).length = sz) {L : List α} {rest : List V} {tag : Tag} {h : Heap} (hb : h.get b = .cells (L.flatMap enc ++ rest) tag) (hk : k < L.length) {j : Nat} {c : V} {cs : List V} (hj : j < sz) (hc : (enc L[k]).drop j = c :: cs) :
  r_ld none (p j) h = some (c, h) := by
 rw [hp j]
 simp only [r_ld, cellsAt, hb, VE.part]
 rw [mr_drop he L hk (by omega), hc, List.cons_append, Option.map_some]
theorem Pt.st (he : ∀ x, (enc x).length = sz) {L : List α} {rest : List V} {tag : Tag} {h : Heap} (hb : h.get b = .cells (L.flatMap enc ++ rest) tag) (hk : k < L.length) (hlo : ¬ b < h.lo) {j n : Nat} {v : V} {new : List V} (w : α)
  (hv : cellsO v = some new) (hn : new.length = n) (hz : 0 < n) (hj : j + n ≤ sz) (ho : new.all oneCell = true) (hw : enc w = (enc L[k]).take j ++ (new ++ (enc L[k]).drop (j + n))) :
  r_st n (p j) v h = some (.tup [], h.set b (.cells ((L.set k w).flatMap enc ++ rest) tag)) := by
 subst hn
 rw [hp j]
 simp only [r_st, hv, beq_dec, decide_true, cond_true, VE.store, blt_dec, hlo, decide_false, cond_false, hb]
 cases new with
 | nil => simp at hz
 | cons y new =>
  simp only [mr_over he L hk w (y :: new) rest hj hw ho, Option.map_some]
end
end
def cloneBody (sz bytes : Nat) : VFn := ⟨none, 2, [.t 2], (.seq (.reg [p 2 (.mv (.k .nils))] [])
 (.seq (.seq (.reg [p 3 (.mv (.t 0)), p 4 (.eqn false 1 (.t 3) (.k .nils))] [])
 (.cond (.t 4) (.seq (.reg [p 2 (.mv (.k .nils))] [])
 .ret)
 .skip))
 (.seq (.reg [p 5 (.bsl 0 sz [] []), p 6 (.mv (.t 0)), p 7 (.app sz bytes (.t 5) (.t 6)), p 2 (.mv (.t 7))] [])
 .ret)))⟩
section
variable {vp : Nat → Option VFn} {α : Type} {enc : α → List V} {sz bytes : Nat}
theorem cln_spec {f : Nat} (hf : vp f = some (cloneBody sz bytes)) (he : ∀ x, (enc x).length = sz) (hb : bytes ≤ 1000) (c : Sl α) (h : Heap) (hn : c.l.length ≤ 100000) :
  ∃ v h', callRes vp f [c.v enc] h = some (v, h') ∧ Own enc sz h' v c.l h.nx h'.nx ∧ Kp h h' := by
 refine res_own hf rfl rfl ?_
 unfold cloneBody
 cases c with
 | nil =>
  simp only [↓zp, zv, seval, Sl.v, eqn_nils, exists_eq_left']
  exact ⟨.inl ⟨rfl, rfl⟩, .refl h⟩
 | mk l cap =>
  by_cases hl : l = []
  ·subst hl
   simp only [↓zp, zv, seval, Sl.v, eqn_isl, app_own0, List.flatMap_nil]
   refine ⟨.inr ⟨h.nx, .cl, rfl, by omega, by simp [Heap.new], ?_⟩, rfl, by simp [Heap.new], fun b hb => ?_⟩
   ·show ((Heap.new { h with lo := h.nx } _).get _) = _
    rw [Heap.get_new]
    exact if_pos rfl
   ·show ((Heap.new { h with lo := h.nx } _).get _) = _
    rw [Heap.get_new, if_neg (by show ¬ b = h.nx; omega)]
    rfl
  ·have hn : l.length ≤ 100000 := hn
   have hm : l.length * bytes ≤ 100000 * 1000 := Nat.mul_le_mul hn hb
   have ap : ∀ h : Heap, ∀ b, h.get b = .cells [] .cl → _ := fun h b hb => app_own (bytes := bytes) he (b := b) (h := h) (l := l) (cap := cap) hb (by omega) hl
   have ap2 := ap (Heap.new { h with lo := h.nx } (.cells [] .cl)) h.nx (by rw [Heap.get_new, if_pos rfl])
   simp only [↓zp, zv, seval, Sl.v, eqn_isl, ap2]
   refine ⟨.inr ⟨h.nx + 1, .op, rfl, by omega, by simp [Heap.new], ?_⟩, rfl, by simp [Heap.new], fun b hb => ?_⟩
   ·show ((Heap.new (Heap.new { h with lo := h.nx } _) _).get _) = _
    rw [Heap.get_new]
    exact if_pos rfl
   ·show ((Heap.new (Heap.new { h with lo := h.nx } _) _).get _) = _
    rw [Heap.get_new, if_neg (by show ¬ b = h.nx + 1; omega), Heap.get_new, if_neg (by show ¬ b = h.nx; omega)]
    rfl
end
end
section
open Go Go.VE Classical
theorem eqInts : ∀ (l : List (IntKind × Int × Int)), eqCells (l.map fun _ => 0) (l.map fun p => .int p.1 p.2.1) (l.map fun p => .int p.1 p.2.2) = some (decide (∀ p ∈ l, p.2.1 = p.2.2))
 | [] => by simp [eqCells]
 | p :: l => by
  simp only [List.map_cons, eqC, eqInts l]
  by_cases h : p.2.1 = p.2.2
  ·simp [h]
  ·simp [h]
theorem eqaInts (l : List (IntKind × Int × Int)) {neg : Bool} {h : Heap} {ks : List Nat} {xs ys : List V} {P : Prop} [Decidable P] (h1 : ks = l.map fun _ => 0) (h2 : xs = l.map fun p => .int p.1 p.2.1) (h3 : ys = l.map fun p => .int p.1 p.2.2) (hP : (∀ p ∈ l, p.2.1 = p.2.2) ↔ P) :
  r_eqa neg ks (.agg xs) (.agg ys) h = some (.bool (bif neg then !decide P else decide P), h) := by
 subst h1; subst h2; subst h3
 have e : decide (∀ p ∈ l, p.2.1 = p.2.2) = decide P := decide_eq_decide.2 hP
 simp only [r_eqa, List.length_map, eqInts, e, beq_dec, decide_true, Bool.and_self, cond_true]
theorem bucket_ext {x y : Bucket} : x = y ↔ x.l = y.l ∧ x.lv = y.lv ∧ x.pt = y.pt ∧ x.t = y.t := by
 cases x; cases y; simp
theorem eqB {x y : Bucket} {neg : Bool} {h : Heap} : r_eqa neg [0, 0, 0, 0, 0, 0] (.agg [.int .i64 x.l.b, .int .i64 x.l.r, .int .i64 x.l.p, .int .i64 x.lv, .int .i64 x.pt, .int .u64 x.t]) (.agg [.int .i64 y.l.b, .int .i64 y.l.r, .int .i64 y.l.p, .int .i64 y.lv, .int .i64 y.pt, .int .u64 y.t]) h = some (.bool (bif neg then !decide (x = y) else decide (x = y)), h) :=
 eqaInts [(.i64, x.l.b, y.l.b), (.i64, x.l.r, y.l.r), (.i64, x.l.p, y.l.p), (.i64, x.lv, y.lv), (.i64, x.pt, y.pt), (.u64, x.t, y.t)] rfl rfl rfl (by simp [bucket_ext, limit_ext, and_assoc])
theorem eq3 {k : IntKind} {a b c d e f : Int} {neg : Bool} {h : Heap} : r_eqa neg [0, 0, 0] (.agg [.int k a, .int k b, .int k c]) (.agg [.int k d, .int k e, .int k f]) h = some (.bool (bif neg then !decide (a = d ∧ b = e ∧ c = f) else decide (a = d ∧ b = e ∧ c = f)), h) :=
 eqaInts [(k, a, d), (k, b, e), (k, c, f)] (P := a = d ∧ b = e ∧ c = f) rfl rfl rfl (by simp)
end
section
open Go Go.VE Classical
theorem scal_v {α : Type} {enc : α → List V} {c : Sl α} : VE.scal (c.v enc) = true := by cases c <;> rfl
theorem e32_scal (x : Int) : (e32 x).all VE.scal = true := rfl
theorem one_v {α : Type} {enc : α → List V} {c : Sl α} : oneCell (c.v enc) = true := by cases c <;> rfl
theorem frzA {h : Heap} {b : Nat} {l : List V} (hs : l.all VE.scal = true) (hn : l.length ≤ 900000) : frz frzFuel h b false (.agg l) = some (.agg l) := by
 show frz (999999 + 1) h b false (.agg l) = _
 rw [frz, frzs_scal l hs (by omega), Option.map_some]
section
variable {α : Type} {enc : α → List V} {sz bytes : Nat}
theorem app_new (he : ∀ x, (enc x).length = sz) {c : Sl α} {b : Nat} {h : Heap} (hb : h.get b = .cells [] .cl) (hbn : b < h.nx) (hs : c.l.length * bytes ≤ 140737488355328) :
  ∃ b' tag h', r_app sz bytes (.sl b 0 0 0 sz) (c.v enc) h = some (.sl b' 0 c.l.length c.l.length sz, h') ∧ h'.get b' = .cells (c.l.flatMap enc) tag ∧ b ≤ b' ∧ b' < h'.nx ∧ Kp h h' := by
 have hl : lenOf (c.v enc) = some c.l.length := by cases c <;> rfl
 have hr : rowOf h sz (c.v enc) = some (c.l.flatMap enc) := by
  cases c with
  | nil => rfl
  | mk l cap => simp only [Sl.v, rowOf, Sl.l, flat_len2 he, beq_dec, decide_true, cond_true]
 have hnb : Nat.blt 140737488355328 ((0 + c.l.length) * bytes) = false := by rw [blt_dec]; simp; omega
 cases hn : c.l with
 | nil =>
  rw [hn] at hl hr
  refine ⟨b, .cl, h, ?_, by rw [hb]; rfl, Nat.le_refl _, hbn, Kp.refl h⟩
  simp only [r_app, hl, hr, List.length_nil, appendV]
 | cons x l =>
  rw [hn] at hl hr hnb
  refine ⟨h.nx, .op, h.new (.cells ((x :: l).flatMap enc) .op), ?_, by rw [Heap.get_new, if_pos rfl], by omega, by simp [Heap.new], (Kp.refl h).new _⟩
  have hz : Nat.ble (0 + (l.length + 1)) 0 = false := by rw [ble_dec]; simp
  simp only [List.length_cons, Nat.zero_add] at hl hnb hz ⊢
  simp only [r_app, hl, hr, appendV, beq_dec, decide_true, cond_true, hb, hz, cond_false, hnb, Nat.zero_mul, List.drop_nil, takeN, Tag.opn, Bool.false_and, List.nil_append, tagN, Nat.zero_add]
end
theorem rn_isl {l : List V} {n : Nat} {c : Option Nat} {h : Heap} : r_eqn false 1 (.isl l n c) .nils h = some (.bool false, h) := rfl
theorem rn_nils {h : Heap} : r_eqn false 1 .nils .nils h = some (.bool true, h) := rfl
end
section
open Go Go.VE
theorem low_u (a : Nat) : low .u64 (a : Int) = a % 18446744073709551616 := rfl
theorem wr_u (a : Nat) : wr .u64 (a : Int) = ((a % 18446744073709551616 : Nat) : Int) := rfl
theorem wr_ul {a : Nat} (h : a < 18446744073709551616) : wr .u64 (a : Int) = (a : Int) := by rw [wr_u, Nat.mod_eq_of_lt h]
theorem bn_mul {a b : Nat} : VE.binOp .mul (.int .u64 (a : Int)) (.int .u64 (b : Int)) = some (.int .u64 ((a * b % 18446744073709551616 : Nat) : Int)) := by
 have : (a : Int) * (b : Int) = ((a * b : Nat) : Int) := by push_cast; rfl
 simp only [VE.binOp, kEq_refl, cond_true, binInt, this, wr_u]
theorem min_n {y : Nat} (h : y ≤ 64) : Nat.min y (IntKind.u64).bits = y := Nat.min_eq_left h
theorem bn_shr {a y : Nat} {k : IntKind} (h : y ≤ 64) : VE.binOp .shr (.int .u64 (a : Int)) (.int k (y : Int)) = some (.int .u64 ((a / 2 ^ y : Nat) : Int)) := by
 show some (V.int .u64 (Int.ofNat (a / 2 ^ Nat.min y (IntKind.u64).bits))) = _
 rw [min_n h]
 rfl
theorem bn_shl {a y : Nat} {k : IntKind} (h : y ≤ 64) : VE.binOp .shl (.int .u64 (a : Int)) (.int k (y : Int)) = some (.int .u64 ((a * 2 ^ y % 18446744073709551616 : Nat) : Int)) := by
 show some (V.int .u64 (wr .u64 ((a : Int) * Int.ofNat (2 ^ Nat.min y (IntKind.u64).bits)))) = _
 rw [min_n h]
 have : (a : Int) * Int.ofNat (2 ^ y) = ((a * 2 ^ y : Nat) : Int) := by simp
 rw [this, wr_u]
theorem bn_or {a b s : Nat} (ha : a < 18446744073709551616) (hs : 2 ^ s ∣ a) (hb : b < 2 ^ s) (hab : a + b < 18446744073709551616) : VE.binOp .or (.int .u64 (a : Int)) (.int .u64 (b : Int)) = some (.int .u64 ((a + b : Nat) : Int)) := by
 obtain ⟨c, rfl⟩ := hs
 have h2 : 2 ^ s * c ||| b = 2 ^ s * c + b := (Nat.two_pow_add_eq_or_of_lt hb c).symm
 simp only [VE.binOp, kEq_refl, cond_true, binInt, bitOp, low_u, Option.map_some]
 rw [Nat.mod_eq_of_lt ha, Nat.mod_eq_of_lt (show b < 18446744073709551616 by omega), h2]
 show some (V.int .u64 (wr .u64 ((2 ^ s * c + b : Nat) : Int))) = _
 rw [wr_ul hab]
end
end Go.VE.LB
