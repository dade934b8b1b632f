/- What the functions of the law ModelCommands compute, on typed arguments (part 2). -/
import Derived.Test.YtdggjlfamjfdkaaGreatModelCommandsA1
set_option linter.all false
namespace Go.VE.LB
section
open Go Go.VE
set_option maxRecDepth 100000
set_option linter.all false
theorem ch1 (a1 : Prop) : a1 = True ∨ a1 = False := by
 by_cases h : a1
 ·exact .inl (eq_true h)
 ·exact .inr (eq_false h)
theorem ch2 (a1 a2 : Prop) : a1 = True ∨ a1 = False ∧ a2 = True ∨ a1 = False ∧ a2 = False := by
 by_cases h : a1
 ·exact .inl (eq_true h)
 ·rcases ch1 a2 with q | q <;> simp [h, q]
theorem ch3 (a1 a2 a3 : Prop) : a1 = True ∨ a1 = False ∧ a2 = True ∨ a1 = False ∧ a2 = False ∧ a3 = True ∨ a1 = False ∧ a2 = False ∧ a3 = False := by
 by_cases h : a1
 ·exact .inl (eq_true h)
 ·rcases ch2 a2 a3 with q | q | q <;> simp [h, q]
theorem ch4 (a1 a2 a3 a4 : Prop) : a1 = True ∨ a1 = False ∧ a2 = True ∨ a1 = False ∧ a2 = False ∧ a3 = True ∨ a1 = False ∧ a2 = False ∧ a3 = False ∧ a4 = True ∨ a1 = False ∧ a2 = False ∧ a3 = False ∧ a4 = False := by
 by_cases h : a1
 ·exact .inl (eq_true h)
 ·rcases ch3 a2 a3 a4 with q | q | q | q <;> simp [h, q]
theorem ch5 (a1 a2 a3 a4 a5 : Prop) : a1 = True ∨ a1 = False ∧ a2 = True ∨ a1 = False ∧ a2 = False ∧ a3 = True ∨ a1 = False ∧ a2 = False ∧ a3 = False ∧ a4 = True ∨ a1 = False ∧ a2 = False ∧ a3 = False ∧ a4 = False ∧ a5 = True ∨ a1 = False ∧ a2 = False ∧ a3 = False ∧ a4 = False ∧ a5 = False := by
 by_cases h : a1
 ·exact .inl (eq_true h)
 ·rcases ch4 a2 a3 a4 a5 with q | q | q | q | q <;> simp [h, q]
theorem ch6 (a1 a2 a3 a4 a5 a6 : Prop) : a1 = True ∨ a1 = False ∧ a2 = True ∨ a1 = False ∧ a2 = False ∧ a3 = True ∨ a1 = False ∧ a2 = False ∧ a3 = False ∧ a4 = True ∨ a1 = False ∧ a2 = False ∧ a3 = False ∧ a4 = False ∧ a5 = True ∨ a1 = False ∧ a2 = False ∧ a3 = False ∧ a4 = False ∧ a5 = False ∧ a6 = True ∨ a1 = False ∧ a2 = False ∧ a3 = False ∧ a4 = False ∧ a5 = False ∧ a6 = False := by
 by_cases h : a1
 ·exact .inl (eq_true h)
 ·rcases ch5 a2 a3 a4 a5 a6 with q | q | q | q | q | q <;> simp [h, q]
structure Limit where
 b : Int
 r : Int
 p : Int
structure Bucket where
 l : Limit
 lv : Int
 pt : Int
 t : Int
 ok : lv < 9223372036854775808
structure Held where
 k : Int
 b : Bucket
structure Acct where
 t : Int
 l0 : Limit
 l1 : Limit
 l2 : Limit
 c0 : Int
 c1 : Int
 own : Bucket
 users : Sl Held
 ends : Sl Held
 rev : Sl Int
 n0 : Int
 n1 : Int
 n2 : Int
def e32 (n : Int) : List V := [.int .u32 n]
def encL (x : Limit) : List V := [.int .i64 x.b, .int .i64 x.r, .int .i64 x.p]
def encB (x : Bucket) : List V := [.int .i64 x.l.b, .int .i64 x.l.r, .int .i64 x.l.p, .int .i64 x.lv, .int .i64 x.pt, .int .u64 x.t]
def encH (x : Held) : List V := [.int .u32 x.k, .int .i64 x.b.l.b, .int .i64 x.b.l.r, .int .i64 x.b.l.p, .int .i64 x.b.lv, .int .i64 x.b.pt, .int .u64 x.b.t]
def encA (x : Acct) : List V := [.int .u32 x.t, .int .i64 x.l0.b, .int .i64 x.l0.r, .int .i64 x.l0.p, .int .i64 x.l1.b, .int .i64 x.l1.r, .int .i64 x.l1.p, .int .i64 x.l2.b, .int .i64 x.l2.r, .int .i64 x.l2.p, .int .i64 x.c0, .int .i64 x.c1,
 .int .i64 x.own.l.b, .int .i64 x.own.l.r, .int .i64 x.own.l.p, .int .i64 x.own.lv, .int .i64 x.own.pt, .int .u64 x.own.t, x.users.v encH, x.ends.v encH, x.rev.v e32, .int .u64 x.n0, .int .u64 x.n1, .int .u64 x.n2]
theorem e32_len (x : Int) : (e32 x).length = 1 := rfl
theorem encH_len (x : Held) : (encH x).length = 7 := rfl
theorem encA_len (x : Acct) : (encA x).length = 24 := rfl
def limBad (x : Limit) : Bool := decide (x.b < 1) || (decide (1000000000 < x.b) || (decide (x.r < 0) || (decide (1000000000 < x.r) || (decide (x.p < 1) || decide (1000000000 < x.p)))))
def chkLim (x : Limit) : Int := if limBad x = true then 8 else 0
def bkBad (x : Bucket) : Bool := limBad x.l || (decide (x.lv < 0) || (decide (x.l.b < x.lv) || (decide (x.pt < 0) || (decide (x.l.p ≤ x.pt) || (decide (x.lv = x.l.b) && !decide (x.pt = 0))))))
def chkB (x : Bucket) : Int := if bkBad x = true then 8 else 0
section
variable {vp : Nat → Option VFn}
theorem lim_spec {f : Nat} (hf : vp f = some B_bucket_CheckLimit) (x : Limit) (h : Heap) : callRes vp f [.agg [.int .i64 x.b, .int .i64 x.r, .int .i64 x.p]] h = some (.int .i64 (chkLim x), h) := by
 refine res_pure hf rfl rfl (fun g hg => ?_)
 unfold B_bucket_CheckLimit chkLim limBad
 rcases ch6 (x.b < 1) (1000000000 < x.b) (x.r < 0) (1000000000 < x.r) (x.p < 1) (1000000000 < x.p) with q | q | q | q | q | q | q <;> simp only [↓zp, zz, zy, chkOk, Nat.reduceEqDiff, Nat.reduceAdd, Nat.reduceSub, Nat.reduceMul, Nat.reduceLT, Nat.reduceLeDiff, Int.reduceLT, Int.reduceLE, Int.reduceEq, Int.reduceAdd, Int.reduceNeg, reduceIte, r_st, r_nck, r_ix, r_iaa, takeN, VE.store, over, cellsAt, VE.part, blkX, gEval, fill, VE.unOp, resVs, resV, reduceCtorEq, q, frzI]
theorem lim_spec2 {f : Nat} (hf : vp f = some B_spigotref03_CheckLimit) (x : Limit) (h : Heap) : callRes vp f [.agg [.int .i64 x.b, .int .i64 x.r, .int .i64 x.p]] h = some (.int .i64 (chkLim x), h) := lim_spec (hf.trans rfl) x h
theorem bk_spec {f c1 : Nat} (hf : vp f = some (B_bucket_Check c1)) (h1 : vp c1 = some B_bucket_CheckLimit) (x : Bucket) (h : Heap) : callRes vp f [.agg (encB x)] h = some (.int .i64 (chkB x), h) := by
 have lim := fun y h => lim_spec h1 y h
 have m1 : modeOf vp c1 = some 1 := by simp [modeOf, h1, B_bucket_CheckLimit]
 refine res_pure hf rfl rfl (fun g hg => ?_)
 unfold B_bucket_Check encB chkB bkBad
 cases q0 : limBad x.l
 case true => simp only [↓zp, zz, zy, chkOk, Nat.reduceEqDiff, Nat.reduceAdd, Nat.reduceSub, Nat.reduceMul, Nat.reduceLT, Nat.reduceLeDiff, Int.reduceLT, Int.reduceLE, Int.reduceEq, Int.reduceAdd, Int.reduceNeg, reduceIte, r_st, r_nck, r_ix, r_iaa, takeN, VE.store, over, cellsAt, VE.part, blkX, gEval, fill, VE.unOp, resVs, resV, reduceCtorEq, lim, m1, chkLim, q0, frzI]
 have hr : 1 ≤ x.l.b ∧ x.l.b ≤ 1000000000 := by
  simp [limBad] at q0
  omega
 have ok := x.ok
 by_cases q1 : x.lv < 0
 case pos => simp only [↓zp, zz, zy, chkOk, Nat.reduceEqDiff, Nat.reduceAdd, Nat.reduceSub, Nat.reduceMul, Nat.reduceLT, Nat.reduceLeDiff, Int.reduceLT, Int.reduceLE, Int.reduceEq, Int.reduceAdd, Int.reduceNeg, reduceIte, r_st, r_nck, r_ix, r_iaa, takeN, VE.store, over, cellsAt, VE.part, blkX, gEval, fill, VE.unOp, resVs, resV, reduceCtorEq, lim, m1, chkLim, q0, q1, frzI]
 have e : wr .i64 (x.l.b - x.lv) = x.l.b - x.lv := wr_i64 (by omega) (by omega)
 by_cases q2 : x.l.b < x.lv
 case pos =>
  have q2' : x.l.b - x.lv < 0 := by omega
  simp only [↓zp, zz, zy, chkOk, Nat.reduceEqDiff, Nat.reduceAdd, Nat.reduceSub, Nat.reduceMul, Nat.reduceLT, Nat.reduceLeDiff, Int.reduceLT, Int.reduceLE, Int.reduceEq, Int.reduceAdd, Int.reduceNeg, reduceIte, r_st, r_nck, r_ix, r_iaa, takeN, VE.store, over, cellsAt, VE.part, blkX, gEval, fill, VE.unOp, resVs, resV, reduceCtorEq, lim, m1, chkLim, q0, q1, q2, q2', e, frzI]
 have q2' : ¬ x.l.b - x.lv < 0 := by omega
 have e5 : (x.l.b - x.lv = 0) = (x.lv = x.l.b) := propext (by omega)
 rcases ch3 (x.pt < 0) (x.l.p ≤ x.pt) (x.lv = x.l.b) with q | q | q | q
 case inr.inr.inl =>
  have e6 : (0 < x.pt) = ¬ x.pt = 0 := propext (by have := of_eq_false q.1; omega)
  rcases ch1 (x.pt = 0) with q' | q' <;> simp only [↓zp, zz, zy, chkOk, Nat.reduceEqDiff, Nat.reduceAdd, Nat.reduceSub, Nat.reduceMul, Nat.reduceLT, Nat.reduceLeDiff, Int.reduceLT, Int.reduceLE, Int.reduceEq, Int.reduceAdd, Int.reduceNeg, reduceIte, r_st, r_nck, r_ix, r_iaa, takeN, VE.store, over, cellsAt, VE.part, blkX, gEval, fill, VE.unOp, resVs, resV, reduceCtorEq, lim, m1, chkLim, q0, q1, q2, q2', e, e5, e6, q, q', frzI, not_true, not_false_eq_true]
 all_goals simp only [↓zp, zz, zy, chkOk, Nat.reduceEqDiff, Nat.reduceAdd, Nat.reduceSub, Nat.reduceMul, Nat.reduceLT, Nat.reduceLeDiff, Int.reduceLT, Int.reduceLE, Int.reduceEq, Int.reduceAdd, Int.reduceNeg, reduceIte, r_st, r_nck, r_ix, r_iaa, takeN, VE.store, over, cellsAt, VE.part, blkX, gEval, fill, VE.unOp, resVs, resV, reduceCtorEq, lim, m1, chkLim, q0, q1, q2, q2', e, e5, q, frzI]
theorem bk_spec2 {f c1 : Nat} (hf : vp f = some (B_spigotref03_Check c1)) (h1 : vp c1 = some B_spigotref03_CheckLimit) (x : Bucket) (h : Heap) : callRes vp f [.agg (encB x)] h = some (.int .i64 (chkB x), h) := by
 have lim := fun y h => lim_spec2 h1 y h
 have m1 : modeOf vp c1 = some 1 := by simp [modeOf, h1, B_spigotref03_CheckLimit]
 refine res_pure hf rfl rfl (fun g hg => ?_)
 unfold B_spigotref03_Check encB chkB bkBad
 cases q0 : limBad x.l
 case true => simp only [↓zp, zz, zy, chkOk, Nat.reduceEqDiff, Nat.reduceAdd, Nat.reduceSub, Nat.reduceMul, Nat.reduceLT, Nat.reduceLeDiff, Int.reduceLT, Int.reduceLE, Int.reduceEq, Int.reduceAdd, Int.reduceNeg, reduceIte, r_st, r_nck, r_ix, r_iaa, takeN, VE.store, over, cellsAt, VE.part, blkX, gEval, fill, VE.unOp, resVs, resV, reduceCtorEq, lim, m1, chkLim, q0, frzI]
 rcases ch5 (x.lv < 0) (x.l.b < x.lv) (x.pt < 0) (x.l.p ≤ x.pt) (x.lv = x.l.b) with q | q | q | q | q | q
 case inr.inr.inr.inr.inl => rcases ch1 (x.pt = 0) with q' | q' <;> simp only [↓zp, zz, zy, chkOk, Nat.reduceEqDiff, Nat.reduceAdd, Nat.reduceSub, Nat.reduceMul, Nat.reduceLT, Nat.reduceLeDiff, Int.reduceLT, Int.reduceLE, Int.reduceEq, Int.reduceAdd, Int.reduceNeg, reduceIte, r_st, r_nck, r_ix, r_iaa, takeN, VE.store, over, cellsAt, VE.part, blkX, gEval, fill, VE.unOp, resVs, resV, reduceCtorEq, lim, m1, chkLim, q0, q, q', frzI]
 all_goals simp only [↓zp, zz, zy, chkOk, Nat.reduceEqDiff, Nat.reduceAdd, Nat.reduceSub, Nat.reduceMul, Nat.reduceLT, Nat.reduceLeDiff, Int.reduceLT, Int.reduceLE, Int.reduceEq, Int.reduceAdd, Int.reduceNeg, reduceIte, r_st, r_nck, r_ix, r_iaa, takeN, VE.store, over, cellsAt, VE.part, blkX, gEval, fill, VE.unOp, resVs, resV, reduceCtorEq, lim, m1, chkLim, q0, q, frzI]
end
end
section
open Go Go.VE
set_option maxRecDepth 100000
set_option linter.all false
def fidx {α : Type} (q : α → Bool) : List α → Int
 | [] => -1
 | x :: l => if q x = true then 0 else if fidx q l < 0 then -1 else fidx q l + 1
theorem fidx_at {α : Type} {q : α → Bool} : ∀ {l : List α} {k : Nat} (hk : k < l.length), q l[k] = true → (∀ j (hj : j < l.length), j < k → q l[j] = false) → fidx q l = k
 | [], k, hk, _, _ => by simp at hk
 | x :: l, 0, hk, h1, _ => by
  have : q x = true := h1
  simp [fidx, this]
 | x :: l, k + 1, hk, h1, h2 => by
  have e0 : q x = false := h2 0 (by simp) (by omega)
  have e1 := fidx_at (l := l) (k := k) (by simpa using hk) (by simpa using h1) (fun j hj hjk => h2 (j + 1) (by simpa using hj) (by omega))
  simp only [fidx, e0, e1]
  rw [if_neg (by simp), if_neg (by omega)]
  omega
theorem fidx_none {α : Type} {q : α → Bool} : ∀ {l : List α}, (∀ j (hj : j < l.length), q l[j] = false) → fidx q l = -1
 | [], _ => rfl
 | x :: l, h => by
  have e0 : q x = false := h 0 (by simp)
  have e1 := fidx_none (l := l) (fun j hj => h (j + 1) (by simpa using hj))
  simp [fidx, e0, e1]
theorem fidx_any {α : Type} {q : α → Bool} : ∀ {l : List α}, decide (0 ≤ fidx q l) = l.any q
 | [] => rfl
 | x :: l => by
  have ih := fidx_any (q := q) (l := l)
  cases hq : q x with
  | true => simp [fidx, hq]
  | false =>
   simp only [fidx, hq, List.any_cons, Bool.false_or, ← ih]
   by_cases q2 : fidx q l < 0
   ·simp [q2]
   ·simp [q2]; omega
theorem fidx_range {α : Type} {q : α → Bool} : ∀ {l : List α}, -1 ≤ fidx q l ∧ fidx q l < l.length
 | [] => by simp [fidx]
 | x :: l => by
  have ih := fidx_range (q := q) (l := l)
  simp only [fidx, List.length_cons]
  split
  ·omega
  ·split <;> omega
def hgOk (h : Heap) (args : List V) (g : Heap) : Prop := (g = h0 ∧ isoArgs 1 args = some args) ∨ (g.nx = h.nx ∧ g.lo = h.nx ∧ ∀ b, g.get b = h.get b)
theorem fidx_find {α : Type} {q : α → Bool} : ∀ (l : List α), (fidx q l < 0 ∧ l.find? q = none) ∨ ∃ (k : Nat) (hk : k < l.length), fidx q l = k ∧ l.find? q = some l[k]
 | [] => .inl ⟨by simp [fidx], rfl⟩
 | x :: l => by
  cases hq : q x with
  | true => exact .inr ⟨0, by simp, by simp [fidx, hq], by simp [List.find?, hq]⟩
  | false =>
   rcases fidx_find (q := q) l with ⟨h1, h2⟩ | ⟨k, hk, h1, h2⟩
   ·exact .inl ⟨by simp [fidx, hq, h1], by simp [List.find?, hq, h2]⟩
   ·refine .inr ⟨k + 1, by simpa using hk, ?_, by simp [List.find?, hq, h2]⟩
    have : ¬ (fidx q l < 0) := by omega
    simp only [fidx, hq, Bool.false_eq_true, if_false, this]
    omega
theorem iso_none {α : Type} {enc : α → List V} (c : Sl α) (f b o : Nat) : isoArgs 1 [c.v enc, .fn f [.ptr b o]] = none := by cases c <;> rfl
theorem hg_get {α : Type} {enc : α → List V} {c : Sl α} {f b o : Nat} {h g : Heap} (hg : hgOk h [c.v enc, .fn f [.ptr b o]] g) (i : Nat) : g.get i = h.get i := by
 rcases hg with ⟨_, hi⟩ | ⟨_, _, hg⟩
 ·rw [iso_none] at hi; cases hi
 ·exact hg i
theorem hlo {h g : Heap} {args : List V} (hg : hgOk h args g) : g.lo ≤ g.nx := by
 rcases hg with ⟨rfl, _⟩ | ⟨e1, e2, _⟩
 ·exact Nat.le_refl _
 ·omega
structure Kp (g h : Heap) : Prop where
 lo : h.lo = g.lo
 nx : g.nx ≤ h.nx
 get : ∀ b, b < g.nx → h.get b = g.get b
theorem Kp.refl (g : Heap) : Kp g g := ⟨rfl, Nat.le_refl _, fun _ _ => rfl⟩
theorem Kp.trans {a b c : Heap} (x : Kp a b) (y : Kp b c) : Kp a c := ⟨y.lo.trans x.lo, Nat.le_trans x.nx y.nx, fun i hi => (y.get i (Nat.lt_of_lt_of_le hi x.nx)).trans (x.get i hi)⟩
theorem Kp.new {g h : Heap} (k : Kp g h) (x : Blk) : Kp g (h.new x) := ⟨k.lo, by have := k.nx; simp only [Heap.new]; omega, fun b hb => by rw [Heap.get_new, if_neg (by have := k.nx; omega), k.get b hb]⟩
theorem Kp.set {g h : Heap} (k : Kp g h) {b : Nat} (x : Blk) (hb : g.nx ≤ b) : Kp g (h.set b x) := ⟨k.lo, k.nx, fun c hc => by rw [Heap.get_set, if_neg (by omega), k.get c hc]⟩
section
variable {α : Type} {enc : α → List V} {sz : Nat}
def El (g : Heap) (a : V) (cs : List V) : Prop := (∃ r, a = .iptr (cs ++ r)) ∨ ∃ b o all tag, a = .ptr b o ∧ g.get b = .cells all tag ∧ b < g.nx ∧ ∃ r, all.drop o = cs ++ r
theorem El.at {g h : Heap} {a : V} {cs : List V} (e : El g a cs) (k : Kp g h) : ∃ r, cellsAt h a = some (cs ++ r) := by
 rcases e with ⟨r, rfl⟩ | ⟨b, o, all, tag, rfl, h1, h2, r, h3⟩
 ·exact ⟨r, rfl⟩
 ·exact ⟨r, by simp only [cellsAt, k.get b h2, h1, h3]⟩
theorem takeN_app : ∀ (cs r : List V), takeN cs.length (cs ++ r) = some cs
 | [], _ => rfl
 | x :: l, r => by simp only [List.length_cons, List.cons_append, takeN, takeN_app l r]
theorem El.ld {g h : Heap} {a : V} {cs : List V} (e : El g a cs) (k : Kp g h) {n : Nat} (hn : cs.length = n) : r_ld (some n) a h = some (.agg cs, h) := by
 obtain ⟨r, e⟩ := e.at k
 subst hn
 simp only [r_ld, e, VE.part, takeN_app, Option.map_some]
theorem El.ld1 {g h : Heap} {a c : V} {cs : List V} (e : El g a (c :: cs)) (k : Kp g h) : r_ld none a h = some (c, h) := by
 obtain ⟨r, e⟩ := e.at k
 simp only [r_ld, e, VE.part, List.cons_append, Option.map_some]
theorem El.fa {g : Heap} {a : V} {cs : List V} (e : El g a cs) {n : Nat} (hn : n ≤ cs.length) : ∃ a', (∀ h, r_fa n a h = some (a', h)) ∧ El g a' (cs.drop n) := by
 rcases e with ⟨r, rfl⟩ | ⟨b, o, all, tag, rfl, h1, h2, r, h3⟩
 ·exact ⟨_, fun h => rfl, .inl ⟨r, by rw [List.drop_append_of_le_length hn]⟩⟩
 ·exact ⟨_, fun h => rfl, .inr ⟨b, o + n, all, tag, rfl, h1, h2, r, by rw [← List.drop_drop, h3, List.drop_append_of_le_length hn]⟩⟩
def Rd (enc : α → List V) (sz : Nat) (g : Heap) (v : V) (l : List α) : Prop :=
 (∃ c : Sl α, v = c.v enc ∧ c.l = l) ∨ ∃ b o n c tag all r, v = .sl b o n c sz ∧ n = l.length ∧ g.get b = .cells all tag ∧ all.drop o = l.flatMap enc ++ r ∧ b < g.nx
theorem Rd.sl {g : Heap} (c : Sl α) : Rd enc sz g (c.v enc) c.l := .inl ⟨c, rfl, rfl⟩
theorem Rd.len {g : Heap} {v : V} {l : List α} (r : Rd enc sz g v l) (h : Heap) : r_len v h = some (.int .i64 l.length, h) := by
 rcases r with ⟨c, rfl, rfl⟩ | ⟨b, o, n, c, tag, all, r, rfl, rfl, _⟩
 ·exact r_len_v
 ·rfl
theorem Rd.ia {g : Heap} {v : V} {l : List α} (r : Rd enc sz g v l) (he : ∀ x, (enc x).length = sz) (hz : 0 < sz) {k : Nat} (hk : k < l.length) : ∃ a, (∀ h, r_ia sz v (.int .i64 (k : Int)) h = some (a, h)) ∧ El g a (enc l[k]) := by
 rcases r with ⟨c, rfl, rfl⟩ | ⟨b, o, n, c, tag, all, r, rfl, rfl, h1, h3, h2⟩
 ·exact ⟨_, fun h => r_ia_v he hz hk rfl, .inl ⟨_, rfl⟩⟩
 ·refine ⟨.ptr b (o + k * sz), fun h => ?_, .inr ⟨b, _, _, tag, rfl, h1, h2, (l.drop (k + 1)).flatMap enc ++ r, ?_⟩⟩
  ·simp only [r_ia, asNatN, blt_dec, hk, decide_true, cond_true]
  ·rw [← List.drop_drop, h3, List.drop_append_of_le_length (by rw [flat_len2 he]; exact Nat.mul_le_mul_right _ (by omega)), flat_drop he l k hk, List.append_assoc]
theorem Rd.keep {g h : Heap} {v : V} {l : List α} (r : Rd enc sz g v l) (k : Kp g h) : Rd enc sz h v l := by
 rcases r with ⟨c, rfl, rfl⟩ | ⟨b, o, n, c, tag, all, r, rfl, e, h1, h3, h2⟩
 ·exact .sl c
 ·exact .inr ⟨b, o, n, c, tag, all, r, rfl, e, by rw [k.get b h2, h1], h3, Nat.lt_of_lt_of_le h2 k.nx⟩
theorem Rd.enter {h g : Heap} {v : V} {l : List α} (r : Rd enc sz h v l) {A : V → List V} (hg : hgOk h (A v) g) (hi : ∀ b o n c, isoArgs 1 (A (.sl b o n c sz)) = none) : Rd enc sz g v l := by
 rcases r with ⟨c, rfl, rfl⟩ | ⟨b, o, n, c, tag, all, r, rfl, e, h1, h3, h2⟩
 ·exact .sl c
 ·rcases hg with ⟨_, q⟩ | ⟨e1, e2, e3⟩
  ·rw [hi] at q; cases q
  ·exact .inr ⟨b, o, n, c, tag, all, r, rfl, e, by rw [e3, h1], h3, by rw [e1]; exact h2⟩
def FzV (h : Heap) (base N : Nat) (v v' : V) : Prop := ∀ n, N ≤ n → frz n h base false v = some v'
def FzL (h : Heap) (base N : Nat) (l l' : List V) : Prop := ∀ n, N ≤ n → frzs n h base false l = some l'
theorem FzV.scal {h : Heap} {base : Nat} {v : V} (hs : scal v = true) : FzV h base 1 v v := fun n hn => by
 obtain ⟨m, rfl⟩ : ∃ m, n = m + 1 := ⟨n - 1, by omega⟩
 exact frz_scal hs
theorem FzL.nil {h : Heap} {base : Nat} : FzL h base 1 [] [] := fun n hn => by
 obtain ⟨m, rfl⟩ : ∃ m, n = m + 1 := ⟨n - 1, by omega⟩
 rfl
theorem FzL.cons {h : Heap} {base N M : Nat} {v v' : V} {l l' : List V} (f : FzV h base N v v') (g : FzL h base M l l') (hm : N ≤ M) : FzL h base (M + 1) (v :: l) (v' :: l') := fun n hn => by
 obtain ⟨m, rfl⟩ : ∃ m, n = m + 1 := ⟨n - 1, by omega⟩
 rw [frzs, f m (by omega), g m (by omega)]
theorem FzV.agg {h : Heap} {base N : Nat} {l l' : List V} (f : FzL h base N l l') : FzV h base (N + 1) (.agg l) (.agg l') := fun n hn => by
 obtain ⟨m, rfl⟩ : ∃ m, n = m + 1 := ⟨n - 1, by omega⟩
 rw [frz, f m (by omega), Option.map_some]
theorem FzV.tup {h : Heap} {base N : Nat} {l l' : List V} (f : FzL h base N l l') : FzV h base (N + 1) (.tup l) (.tup l') := fun n hn => by
 obtain ⟨m, rfl⟩ : ∃ m, n = m + 1 := ⟨n - 1, by omega⟩
 rw [frz, f m (by omega), Option.map_some]
end
end
section
open Go Go.VE Classical
set_option maxRecDepth 100000
set_option linter.all false
theorem eqC {k : IntKind} {a b : Int} {ks : List Nat} {xs ys : List V} : eqCells (0 :: ks) (.int k a :: xs) (.int k b :: ys) = if a = b then eqCells ks xs ys else some false := by
 simp only [eqCells, eqK, kEq_refl, cond_true, eqI_dec]
 by_cases h : a = b
 ·simp [h]
 ·simp [h]
theorem limit_ext {x y : Limit} : x = y ↔ x.b = y.b ∧ x.r = y.r ∧ x.p = y.p := by
 cases x; cases y; simp
theorem eqc3 {x y : Limit} {h : Heap} {neg : Bool} : r_eqa neg [0, 0, 0] (.agg [.int .i64 x.b, .int .i64 x.r, .int .i64 x.p]) (.agg [.int .i64 y.b, .int .i64 y.r, .int .i64 y.p]) h = some (.bool (bif neg then !decide (x = y) else decide (x = y)), h) := by
 have : eqCells [0, 0, 0] [.int .i64 x.b, .int .i64 x.r, .int .i64 x.p] [.int .i64 y.b, .int .i64 y.r, .int .i64 y.p] = some (decide (x = y)) := by
  simp only [eqC, limit_ext]
  by_cases h1 : x.b = y.b <;> by_cases h2 : x.r = y.r <;> by_cases h3 : x.p = y.p <;> simp [h1, h2, h3, eqCells]
 simp only [r_eqa, this]
 rfl
def isK (key : Int) (x : Held) : Bool := decide (x.k = key)
section
variable {vp : Nat → Option VFn}
def invAt (key : Int) (c : Sl Held) (H : Heap) (m : Nat) (s : Slots) (h : Heap) : Prop :=
 ∃ k, k ≤ c.l.length ∧ m = c.l.length - k ∧ s.at 0 = c.v encH ∧ s.at 1 = .int .u32 key ∧ s.at 5 = .int .i64 (k : Int) ∧ h = H ∧ ∀ j (hj : j < c.l.length), j < k → isK key c.l[j] = false
theorem at_spec {f : Nat} (hf : vp f = some B_spigotref25_At) (c : Sl Held) (key : Int) (h : Heap) (hn : c.l.length < 4611686018427387904) : callRes vp f [c.v encH, .int .u32 key] h = some (.int .i64 (fidx (isK key) c.l), h) := by
 refine res_pure hf rfl rfl (fun g hg => ?_)
 unfold B_spigotref25_At
 simp only [↓zp, zz, zy, chkOk, Nat.reduceEqDiff, Nat.reduceAdd, Nat.reduceSub, Nat.reduceMul, Nat.reduceLT, Nat.reduceLeDiff, Int.reduceLT, Int.reduceLE, Int.reduceEq, Int.reduceAdd, Int.reduceNeg, reduceIte, r_st, r_nck, r_ix, r_iaa, takeN, VE.store, over, cellsAt, VE.part, blkX, gEval, fill, VE.unOp, resVs, resV, reduceCtorEq]
 generalize hS : Tr.set _ 5 _ = S
 have b0 : Slots.at S 0 = c.v encH := by rw [← hS]; simp only [zs, Nat.reduceEqDiff]
 have b1 : Slots.at S 1 = .int .u32 key := by rw [← hS]; simp only [zs, Nat.reduceEqDiff]
 have b5 : Slots.at S 5 = .int .i64 ((0 : Nat) : Int) := by rw [← hS]; simp only [zs, Nat.reduceEqDiff]; rfl
 clear hS
 refine loop_ind (fun m s h => invAt key c g m s h) ?_ c.l.length ⟨0, by omega, by omega, b0, b1, b5, rfl, fun j _ hj => by omega⟩
 rintro m s h ⟨k, hk, hm, c0, c1, c5, rfl, hinc⟩
 by_cases hlt : k < c.l.length
 case neg =>
  have hlt' : ¬ ((k : Int) < (c.l.length : Int)) := by omega
  have e := fidx_none (q := isK key) (l := c.l) (fun j hj => hinc j hj (by omega))
  simp only [↓zp, zz, zy, chkOk, Nat.reduceEqDiff, Nat.reduceAdd, Nat.reduceSub, Nat.reduceMul, Nat.reduceLT, Nat.reduceLeDiff, Int.reduceLT, Int.reduceLE, Int.reduceEq, Int.reduceAdd, Int.reduceNeg, reduceIte, r_st, r_nck, r_ix, r_iaa, takeN, VE.store, over, cellsAt, VE.part, blkX, gEval, fill, VE.unOp, resVs, resV, reduceCtorEq, c0, c1, c5, hlt', e, frzI]
 have hlt' : (k : Int) < (c.l.length : Int) := by omega
 have ws := wr_succ (k := k) (by omega)
 have ia1 : ∀ h, r_ia 7 (c.v encH) (.int .i64 (k : Int)) h = some (.iptr (encH c.l[k] ++ (c.l.drop (k + 1)).flatMap encH), h) := fun h => r_ia_v encH_len (by decide) hlt rfl
 by_cases hqk : c.l[k].k = key
 ·have e := fidx_at hlt (q := isK key) (by simp [isK, hqk]) hinc
  have hq' := eq_true hqk
  simp only [↓zp, zz, zy, chkOk, Nat.reduceEqDiff, Nat.reduceAdd, Nat.reduceSub, Nat.reduceMul, Nat.reduceLT, Nat.reduceLeDiff, Int.reduceLT, Int.reduceLE, Int.reduceEq, Int.reduceAdd, Int.reduceNeg, reduceIte, r_st, r_nck, r_ix, r_iaa, takeN, VE.store, over, cellsAt, VE.part, blkX, gEval, fill, VE.unOp, resVs, resV, reduceCtorEq, c0, c1, c5, hlt', ia1, encH, hq', e, frzI]
 ·simp only [↓zp, zz, zy, chkOk, Nat.reduceEqDiff, Nat.reduceAdd, Nat.reduceSub, Nat.reduceMul, Nat.reduceLT, Nat.reduceLeDiff, Int.reduceLT, Int.reduceLE, Int.reduceEq, Int.reduceAdd, Int.reduceNeg, reduceIte, r_st, r_nck, r_ix, r_iaa, takeN, VE.store, over, cellsAt, VE.part, blkX, gEval, fill, VE.unOp, resVs, resV, reduceCtorEq, c0, c1, c5, hlt', ia1, encH, hqk, ws]
  refine ⟨_, by omega, k + 1, by omega, rfl, by simp only [zs, Nat.reduceEqDiff, c0], by simp only [zs, Nat.reduceEqDiff, c1], by simp only [zs, Nat.reduceEqDiff], rfl, fun j hj hj2 => ?_⟩
  rcases Nat.lt_or_ge j k with r | r
  ·exact hinc j hj r
  ·have : j = k := by omega
   subst this
   simp [isK, hqk]
def invIH (F : V) (q : Held → Bool) (c : Sl Held) (H : Heap) (m : Nat) (s : Slots) (h : Heap) : Prop :=
 ∃ k, k ≤ c.l.length ∧ m = c.l.length - k ∧ s.at 0 = c.v encH ∧ s.at 1 = F ∧ s.at 7 = .int .i64 (c.l.length : Int) ∧ s.at 8 = .int .i64 (k : Int) ∧ h = H ∧ ∀ j (hj : j < c.l.length), j < k → q c.l[j] = false
theorem take7 (x : Held) (r : List V) : takeN 7 (encH x ++ r) = some (encH x) := rfl
theorem idxH_spec {f : Nat} (hf : vp f = some B_slices_IndexFunc_api_Held) (F : V) (q : Held → Bool) (c : Sl Held) (h : Heap) (hn : c.l.length < 4611686018427387904)
  (hq : ∀ g, hgOk h [c.v encH, F] g → ∀ x ∈ c.l, callVRes vp F [.agg (encH x)] g = some (.bool (q x), g)) : callRes vp f [c.v encH, F] h = some (.int .i64 (fidx q c.l), h) := by
 refine res_pure hf rfl rfl (fun g hg => ?_)
 have hq := hq g hg
 unfold B_slices_IndexFunc_api_Held
 simp only [↓zp, zz, zy, chkOk, Nat.reduceEqDiff, Nat.reduceAdd, Nat.reduceSub, Nat.reduceMul, Nat.reduceLT, Nat.reduceLeDiff, Int.reduceLT, Int.reduceLE, Int.reduceEq, Int.reduceAdd, Int.reduceNeg, reduceIte, r_st, r_nck, r_ix, r_iaa, takeN, VE.store, over, cellsAt, VE.part, blkX, gEval, fill, VE.unOp, resVs, resV, reduceCtorEq]
 generalize hS : Tr.set _ 8 _ = S
 have b0 : Slots.at S 0 = c.v encH := by rw [← hS]; simp only [zs, Nat.reduceEqDiff]
 have b1 : Slots.at S 1 = F := by rw [← hS]; simp only [zs, Nat.reduceEqDiff]
 have b7 : Slots.at S 7 = .int .i64 (c.l.length : Int) := by rw [← hS]; simp only [zs, Nat.reduceEqDiff]
 have b8 : Slots.at S 8 = .int .i64 ((0 : Nat) : Int) := by rw [← hS]; simp only [zs, Nat.reduceEqDiff]; rfl
 clear hS
 refine loop_ind (fun m s h => invIH F q c g m s h) ?_ c.l.length ⟨0, by omega, by omega, b0, b1, b7, b8, rfl, fun j _ hj => by omega⟩
 rintro m s h ⟨k, hk, hm, c0, c1, c7, c8, rfl, hinc⟩
 by_cases hlt : k < c.l.length
 case neg =>
  have hlt' : ¬ ((k : Int) < (c.l.length : Int)) := by omega
  have e := fidx_none (q := q) (l := c.l) (fun j hj => hinc j hj (by omega))
  simp only [↓zp, zz, zy, chkOk, Nat.reduceEqDiff, Nat.reduceAdd, Nat.reduceSub, Nat.reduceMul, Nat.reduceLT, Nat.reduceLeDiff, Int.reduceLT, Int.reduceLE, Int.reduceEq, Int.reduceAdd, Int.reduceNeg, reduceIte, r_st, r_nck, r_ix, r_iaa, takeN, VE.store, over, cellsAt, VE.part, blkX, gEval, fill, VE.unOp, resVs, resV, reduceCtorEq, c0, c1, c7, c8, hlt', e, frzI]
 have hlt' : (k : Int) < (c.l.length : Int) := by omega
 have ws := wr_succ (k := k) (by omega)
 have ia1 : ∀ h, r_ia 7 (c.v encH) (.int .i64 (k : Int)) h = some (.iptr (encH c.l[k] ++ (c.l.drop (k + 1)).flatMap encH), h) := fun h => r_ia_v encH_len (by decide) hlt rfl
 have hc := hq c.l[k] (List.getElem_mem hlt)
 cases hqk : q c.l[k] with
 | true =>
  rw [hqk] at hc
  have e := fidx_at hlt hqk hinc
  simp only [↓zp, zz, zy, chkOk, Nat.reduceEqDiff, Nat.reduceAdd, Nat.reduceSub, Nat.reduceMul, Nat.reduceLT, Nat.reduceLeDiff, Int.reduceLT, Int.reduceLE, Int.reduceEq, Int.reduceAdd, Int.reduceNeg, reduceIte, r_st, r_nck, r_ix, r_iaa, takeN, VE.store, over, cellsAt, VE.part, blkX, gEval, fill, VE.unOp, resVs, resV, reduceCtorEq, c0, c1, c7, c8, hlt', ia1, take7, hc, e, frzI]
 | false =>
  rw [hqk] at hc
  simp only [↓zp, zz, zy, chkOk, Nat.reduceEqDiff, Nat.reduceAdd, Nat.reduceSub, Nat.reduceMul, Nat.reduceLT, Nat.reduceLeDiff, Int.reduceLT, Int.reduceLE, Int.reduceEq, Int.reduceAdd, Int.reduceNeg, reduceIte, r_st, r_nck, r_ix, r_iaa, takeN, VE.store, over, cellsAt, VE.part, blkX, gEval, fill, VE.unOp, resVs, resV, reduceCtorEq, c0, c1, c7, c8, hlt', ia1, take7, hc, ws]
  refine ⟨_, by omega, k + 1, by omega, rfl, by simp only [zs, Nat.reduceEqDiff, c0], by simp only [zs, Nat.reduceEqDiff, c1], by simp only [zs, Nat.reduceEqDiff, c7], by simp only [zs, Nat.reduceEqDiff], rfl, fun j hj hj2 => ?_⟩
  rcases Nat.lt_or_ge j k with r | r
  ·exact hinc j hj r
  ·have : j = k := by omega
   subst this
   exact hqk
theorem atfn_spec {f : Nat} (hf : vp f = some B_model_at_fn1) (x : Held) (key : Int) (b : Nat) (tag : Tag) (h : Heap) (hb : h.get b = .cells [.int .u32 key] tag) (hlt : b < h.nx) : callRes vp f [.agg (encH x), .ptr b 0] h = some (.bool (isK key x), h) := by
 refine res_pure hf rfl rfl (fun g hg => ?_)
 have hb' : g.get b = .cells [.int .u32 key] tag := by
  rcases hg with ⟨_, q⟩ | ⟨_, _, q⟩
  ·exact absurd q (by intro q; cases q)
  ·rw [q, hb]
 have hne : ¬ b = g.nx := by
  rcases hg with ⟨_, q⟩ | ⟨q, _, _⟩
  ·exact absurd q (by intro q; cases q)
  ·omega
 unfold B_model_at_fn1 encH isK
 simp only [↓zp, zz, zy, chkOk, Nat.reduceEqDiff, Nat.reduceAdd, Nat.reduceSub, Nat.reduceMul, Nat.reduceLT, Nat.reduceLeDiff, Int.reduceLT, Int.reduceLE, Int.reduceEq, Int.reduceAdd, Int.reduceNeg, reduceIte, r_st, r_nck, r_ix, r_iaa, takeN, VE.store, over, cellsAt, VE.part, blkX, gEval, fill, VE.unOp, resVs, resV, reduceCtorEq, hb', hne, frzB]
theorem mat_spec {f c1 c2 : Nat} (hf : vp f = some (B_model_at c1 c2)) (h1 : vp c1 = some B_model_at_fn1) (h2 : vp c2 = some B_slices_IndexFunc_api_Held) (c : Sl Held) (key : Int) (h : Heap) (hn : c.l.length < 4611686018427387904) : callRes vp f [c.v encH, .int .u32 key] h = some (.int .i64 (fidx (isK key) c.l), h) := by
 have m2 : modeOf vp c2 = some 1 := by simp [modeOf, h2, B_slices_IndexFunc_api_Held]
 refine res_pure hf rfl rfl (fun g hg => ?_)
 unfold B_model_at
 have e : ∀ h, h.get g.nx = .cells [.int .u32 key] .cl → g.nx < h.nx → callRes vp c2 [c.v encH, .fn c1 [.ptr g.nx 0]] h = some (.int .i64 (fidx (isK key) c.l), h) := fun h hb hl => idxH_spec h2 _ (isK key) c h hn (fun g' hg' x _ => callVRes_fn (atfn_spec h1 x key g.nx .cl g' (by rw [hg_get hg', hb]) (by
  rcases hg' with ⟨_, q⟩ | ⟨q, _, _⟩
  ·rw [iso_none] at q; cases q
  ·omega)))
 have e := e (g.new (.cells [.int .u32 key] .cl)) (by rw [Heap.get_new, if_pos rfl]) (by simp [Heap.new])
 simp only [↓zp, zz, zy, chkOk, Nat.reduceEqDiff, Nat.reduceAdd, Nat.reduceSub, Nat.reduceMul, Nat.reduceLT, Nat.reduceLeDiff, Int.reduceLT, Int.reduceLE, Int.reduceEq, Int.reduceAdd, Int.reduceNeg, reduceIte, r_st, r_nck, r_ix, r_iaa, takeN, VE.store, over, cellsAt, VE.part, blkX, gEval, fill, VE.unOp, resVs, resV, reduceCtorEq, m2, e, frzI]
end
end
section
open Go Go.VE Classical
set_option maxRecDepth 100000
set_option linter.all false
section
variable {α : Type}
theorem slc_take {enc : α → List V} {sz : Nat} (he : ∀ x, (enc x).length = sz) {c : Sl α} {k : Nat} (hk : k ≤ c.l.length) : ∃ c' : Sl α, c'.l = c.l.take k ∧ ∀ h, r_slc sz (c.v enc) none (some (.int .i64 (k : Int))) none h = some (c'.v enc, h) := by
 cases c with
 | nil =>
  obtain rfl : k = 0 := by simpa [Sl.l] using hk
  exact ⟨.nil, rfl, fun h => rfl⟩
 | mk l cap =>
  have hk' : k ≤ l.length := hk
  have e0 : (l.take k).length = k := by simp; omega
  have ht : takeN (k * sz) (l.flatMap enc) = some ((l.take k).flatMap enc) := by
   have e1 : l.flatMap enc = (l.take k).flatMap enc ++ (l.drop k).flatMap enc := by rw [← List.flatMap_append, List.take_append_drop]
   rw [e1, ← e0, ← flat_len2 he, e0]
   exact takeN_app _ _
  have hm : k ≤ Nat.min l.length l.length := by simp; omega
  refine ⟨.mk (l.take k) (cap.map (· - 0)), rfl, fun h => ?_⟩
  ·simp only [r_slc, sliceV, Sl.v, bound, asNatN, ble_dec, hm, decide_true, cond_true, Nat.zero_le, Nat.sub_zero, Nat.zero_mul, List.drop_zero, ht, Option.map_some, e0]
end
theorem fidx_take {α : Type} {q : α → Bool} {l : List α} {k : Nat} (hk : k < l.length) (hq : q l[k] = true) : (fidx q l = (k : Int)) = ¬ 0 ≤ fidx q (l.take k) := by
 have el : ∀ j (hj : j < (l.take k).length), (l.take k)[j] = l[j]'(by simp at hj; omega) := fun j hj => by simp
 apply propext
 constructor
 ·intro e h0
  obtain ⟨r1, r2⟩ := fidx_range (q := q) (l := l.take k)
  rcases fidx_find (q := q) (l.take k) with ⟨n, _⟩ | ⟨j, hj, e2, e3⟩
  ·omega
  ·have hj' : j < k := by simp at hj; omega
   have qj : q l[j] = true := by
    have := List.find?_some e3
    rwa [el j hj] at this
   have : ∀ (l : List α) (j : Nat) (hj : j < l.length), q l[j] = true → fidx q l ≤ j := by
    intro l
    induction l with
    | nil => intro j hj; simp at hj
    | cons x l ih =>
     intro j hj hq
     simp only [fidx]
     split
     ·omega
     ·cases j with
      | zero => simp_all
      | succ j =>
       have := ih j (by simpa using hj) (by simpa using hq)
       split <;> omega
   have := this l j (by omega) qj
   omega
 ·intro h0
  refine fidx_at hk hq (fun j hj hjk => ?_)
  cases e : q l[j] with
  | false => rfl
  | true =>
   exfalso
   have hany : (l.take k).any q = true := List.any_eq_true.2 ⟨l[j], by rw [← el j (by simp; omega)]; exact List.getElem_mem _, e⟩
   rw [← fidx_any] at hany
   exact h0 (by simpa using hany)
def Good (l : List Held) (lim : Limit) (key : Int) (k : Nat) (hk : k < l.length) : Prop := ¬ key < l[k].k ∧ ¬ 0 ≤ fidx (isK l[k].k) (l.take k) ∧ l[k].b.l = lim ∧ bkBad l[k].b = false
structure HeldOk (l : List Held) (most : Int) (lim : Limit) (key : Int) : Prop where
 len : ¬ most < (l.length : Int)
 each : ∀ k (hk : k < l.length), Good l lim key k hk
theorem isK_self (x : Held) : isK x.k x = true := by simp [isK]
section
variable {vp : Nat → Option VFn}
def inv42 (c : Sl Held) (most : Int) (lim : Limit) (key : Int) (b : Nat) (H : Heap) (m : Nat) (s : Slots) (h : Heap) : Prop :=
 ∃ k, k ≤ c.l.length ∧ m = c.l.length - k ∧ s.at 0 = c.v encH ∧ s.at 1 = .int .i64 most ∧ s.at 3 = .int .u32 key ∧ s.at 6 = .ptr b 0 ∧ s.at 9 = .int .i64 (k : Int) ∧ h = H ∧ ∀ j (hj : j < c.l.length), j < k → Good c.l lim key j hj
theorem rheld_spec {f c1 c2 c3 : Nat} (hf : vp f = some (B_spigotref25_held c1 c2)) (h1 : vp c1 = some B_spigotref25_At) (h2 : vp c2 = some (B_spigotref03_Check c3)) (h3 : vp c3 = some B_spigotref03_CheckLimit) (c : Sl Held) (most : Int) (lim : Limit) (key : Int) (h : Heap) (hn : c.l.length < 4611686018427387904) :
  callRes vp f [c.v encH, .int .i64 most, .agg [.int .i64 lim.b, .int .i64 lim.r, .int .i64 lim.p], .int .u32 key] h = some (.bool (decide (HeldOk c.l most lim key)), h) := by
 have m1 : modeOf vp c1 = some 1 := by simp [modeOf, h1, B_spigotref25_At]
 have m2 : modeOf vp c2 = some 1 := by simp [modeOf, h2, B_spigotref03_Check]
 have bk : ∀ (y : Bucket) h, callRes vp c2 [.agg [.int .i64 y.l.b, .int .i64 y.l.r, .int .i64 y.l.p, .int .i64 y.lv, .int .i64 y.pt, .int .u64 y.t]] h = some (.int .i64 (chkB y), h) := fun y h => bk_spec2 h2 h3 y h
 have sat := fun k h => at_spec h1 c k h hn
 refine res_pure hf rfl rfl (fun g hg => ?_)
 have no : ∀ (P : Prop), ¬ P → (HeldOk c.l most lim key → P) → (.bool false : V) = .bool (decide (HeldOk c.l most lim key)) := fun P hn hv => by
  rw [decide_eq_false (fun q => hn (hv q))]
 unfold B_spigotref25_held
 simp only [↓zp, zz, zy, chkOk, Nat.reduceEqDiff, Nat.reduceAdd, Nat.reduceSub, Nat.reduceMul, Nat.reduceLT, Nat.reduceLeDiff, Int.reduceLT, Int.reduceLE, Int.reduceEq, Int.reduceAdd, Int.reduceNeg, reduceIte, r_st, r_nck, r_ix, r_iaa, takeN, VE.store, over, cellsAt, VE.part, blkX, gEval, fill, VE.unOp, resVs, resV, reduceCtorEq]
 generalize hS : Tr.set _ 9 _ = S
 have b0 : Slots.at S 0 = c.v encH := by rw [← hS]; simp only [zs, Nat.reduceEqDiff]
 have b1 : Slots.at S 1 = .int .i64 most := by rw [← hS]; simp only [zs, Nat.reduceEqDiff]
 have b3 : Slots.at S 3 = .int .u32 key := by rw [← hS]; simp only [zs, Nat.reduceEqDiff]
 have b6 : Slots.at S 6 = .ptr g.nx 0 := by rw [← hS]; simp only [zs, Nat.reduceEqDiff]
 have b9 : Slots.at S 9 = .int .i64 ((0 : Nat) : Int) := by rw [← hS]; simp only [zs, Nat.reduceEqDiff]; rfl
 clear hS
 generalize hH : Heap.new g _ = H
 have hb : H.get g.nx = .cells (encL lim) .cl := by rw [← hH, Heap.get_new, if_pos rfl]; rfl
 clear hH
 refine loop_ind (fun m s h => inv42 c most lim key g.nx H m s h) ?_ c.l.length ⟨0, by omega, by omega, b0, b1, b3, b6, b9, rfl, fun j _ hj => by omega⟩
 rintro m s h ⟨k, hk, hm, c0, c1, c3, c6, c9, rfl, hinc⟩
 by_cases hlt : k < c.l.length
 case neg =>
  have hlt' : ¬ ((k : Int) < (c.l.length : Int)) := by omega
  by_cases hl : most < (c.l.length : Int)
  ·have e := no _ (not_not_intro hl) (·.len)
   have hl' : ¬ (c.l.length : Int) ≤ most := by omega
   simp only [↓zp, zz, zy, chkOk, Nat.reduceEqDiff, Nat.reduceAdd, Nat.reduceSub, Nat.reduceMul, Nat.reduceLT, Nat.reduceLeDiff, Int.reduceLT, Int.reduceLE, Int.reduceEq, Int.reduceAdd, Int.reduceNeg, reduceIte, r_st, r_nck, r_ix, r_iaa, takeN, VE.store, over, cellsAt, VE.part, blkX, gEval, fill, VE.unOp, resVs, resV, reduceCtorEq, c0, c1, c3, c6, c9, hlt', hl', ← e, frzB]
  ·have e : HeldOk c.l most lim key := ⟨hl, fun j hj => hinc j hj (by omega)⟩
   have hl' : (c.l.length : Int) ≤ most := by omega
   simp only [↓zp, zz, zy, chkOk, Nat.reduceEqDiff, Nat.reduceAdd, Nat.reduceSub, Nat.reduceMul, Nat.reduceLT, Nat.reduceLeDiff, Int.reduceLT, Int.reduceLE, Int.reduceEq, Int.reduceAdd, Int.reduceNeg, reduceIte, r_st, r_nck, r_ix, r_iaa, takeN, VE.store, over, cellsAt, VE.part, blkX, gEval, fill, VE.unOp, resVs, resV, reduceCtorEq, c0, c1, c3, c6, c9, hlt', hl', e, frzB]
 have hlt' : (k : Int) < (c.l.length : Int) := by omega
 have ws := wr_succ (k := k) (by omega)
 have ia1 : ∀ h, r_ia 7 (c.v encH) (.int .i64 (k : Int)) h = some (.iptr (encH c.l[k] ++ (c.l.drop (k + 1)).flatMap encH), h) := fun h => r_ia_v encH_len (by decide) hlt rfl
 have ft := fidx_take hlt (isK_self c.l[k])
 by_cases g1 : 0 ≤ fidx (isK c.l[k].k) (c.l.take k)
 case pos =>
  have e := no _ (fun q : Good c.l lim key k hlt => q.2.1 g1) (fun q => q.each k hlt)
  have ft' : ¬ fidx (isK c.l[k].k) c.l = (k : Int) := by rw [ft]; exact not_not_intro g1
  simp only [↓zp, zz, zy, chkOk, Nat.reduceEqDiff, Nat.reduceAdd, Nat.reduceSub, Nat.reduceMul, Nat.reduceLT, Nat.reduceLeDiff, Int.reduceLT, Int.reduceLE, Int.reduceEq, Int.reduceAdd, Int.reduceNeg, reduceIte, r_st, r_nck, r_ix, r_iaa, takeN, VE.store, over, cellsAt, VE.part, blkX, gEval, fill, VE.unOp, resVs, resV, reduceCtorEq, c0, c1, c3, c6, c9, hlt', ia1, encH, m1, sat, ft', ← e, frzB]
 have ft' : fidx (isK c.l[k].k) c.l = (k : Int) := by rw [ft]; exact g1
 by_cases g2 : key < c.l[k].k
 case pos =>
  have e := no _ (fun q : Good c.l lim key k hlt => q.1 g2) (fun q => q.each k hlt)
  simp only [↓zp, zz, zy, chkOk, Nat.reduceEqDiff, Nat.reduceAdd, Nat.reduceSub, Nat.reduceMul, Nat.reduceLT, Nat.reduceLeDiff, Int.reduceLT, Int.reduceLE, Int.reduceEq, Int.reduceAdd, Int.reduceNeg, reduceIte, r_st, r_nck, r_ix, r_iaa, takeN, VE.store, over, cellsAt, VE.part, blkX, gEval, fill, VE.unOp, resVs, resV, reduceCtorEq, c0, c1, c3, c6, c9, hlt', ia1, encH, m1, sat, ft', g2, ← e, frzB]
 cases g3 : bkBad c.l[k].b with
 | true =>
  have e := no _ (fun q : Good c.l lim key k hlt => by have := q.2.2.2; rw [g3] at this; cases this) (fun q => q.each k hlt)
  simp only [↓zp, zz, zy, chkOk, Nat.reduceEqDiff, Nat.reduceAdd, Nat.reduceSub, Nat.reduceMul, Nat.reduceLT, Nat.reduceLeDiff, Int.reduceLT, Int.reduceLE, Int.reduceEq, Int.reduceAdd, Int.reduceNeg, reduceIte, r_st, r_nck, r_ix, r_iaa, takeN, VE.store, over, cellsAt, VE.part, blkX, gEval, fill, VE.unOp, resVs, resV, reduceCtorEq, c0, c1, c3, c6, c9, hlt', ia1, encH, m1, m2, sat, bk, chkB, ft', g2, g3, ← e, frzB]
 | false =>
  by_cases g4 : c.l[k].b.l = lim
  case neg =>
   have e := no _ (fun q : Good c.l lim key k hlt => g4 q.2.2.1) (fun q => q.each k hlt)
   simp only [↓zp, zz, zy, chkOk, Nat.reduceEqDiff, Nat.reduceAdd, Nat.reduceSub, Nat.reduceMul, Nat.reduceLT, Nat.reduceLeDiff, Int.reduceLT, Int.reduceLE, Int.reduceEq, Int.reduceAdd, Int.reduceNeg, reduceIte, r_st, r_nck, r_ix, r_iaa, takeN, VE.store, over, cellsAt, VE.part, blkX, gEval, fill, VE.unOp, resVs, resV, reduceCtorEq, c0, c1, c3, c6, c9, hlt', ia1, encH, m1, m2, sat, bk, chkB, ft', g2, g3, hb, encL, eqc3, g4, ← e, frzB]
  have g4' := eq_true g4
  simp only [↓zp, zz, zy, chkOk, Nat.reduceEqDiff, Nat.reduceAdd, Nat.reduceSub, Nat.reduceMul, Nat.reduceLT, Nat.reduceLeDiff, Int.reduceLT, Int.reduceLE, Int.reduceEq, Int.reduceAdd, Int.reduceNeg, reduceIte, r_st, r_nck, r_ix, r_iaa, takeN, VE.store, over, cellsAt, VE.part, blkX, gEval, fill, VE.unOp, resVs, resV, reduceCtorEq, c0, c1, c3, c6, c9, hlt', ia1, encH, m1, m2, sat, bk, chkB, ft', g2, g3, hb, encL, eqc3, g4', ws]
  refine ⟨_, by omega, k + 1, by omega, rfl, by simp only [zs, Nat.reduceEqDiff, c0], by simp only [zs, Nat.reduceEqDiff, c1], by simp only [zs, Nat.reduceEqDiff, c3], by simp only [zs, Nat.reduceEqDiff, c6], by simp only [zs, Nat.reduceEqDiff], rfl, fun j hj hj2 => ?_⟩
  rcases Nat.lt_or_ge j k with r | r
  ·exact hinc j hj r
  ·have : j = k := by omega
   subst this
   exact ⟨g2, g1, g4, g3⟩
def inv35 (c : Sl Held) (most : Int) (lim : Limit) (key : Int) (b lo : Nat) (m : Nat) (s : Slots) (h : Heap) : Prop :=
 ∃ k, k ≤ c.l.length ∧ m = c.l.length - k ∧ s.at 0 = c.v encH ∧ s.at 3 = .int .u32 key ∧ s.at 6 = .ptr b 0 ∧ s.at 15 = c.v encH ∧ s.at 16 = .int .i64 (c.l.length : Int) ∧ s.at 17 = .int .i64 (k : Int) ∧ (h.get b = .cells (encL lim) .cl ∧ b < h.nx ∧ h.lo ≤ b) ∧ ∀ j (hj : j < c.l.length), j < k → Good c.l lim key j hj
theorem mheld_spec {f c1 c2 c3 c4 c5 t1 : Nat} (hf : vp f = some (B_model_held c1 c2 t1)) (h1 : vp c1 = some (B_model_at c4 c5)) (h4 : vp c4 = some B_model_at_fn1) (h5 : vp c5 = some B_slices_IndexFunc_api_Held) (h2 : vp c2 = some (B_bucket_Check c3)) (h3 : vp c3 = some B_bucket_CheckLimit) (c : Sl Held) (most : Int) (lim : Limit) (key : Int) (h : Heap) (hn : c.l.length < 4611686018427387904) :
  callRes vp f [c.v encH, .int .i64 most, .agg [.int .i64 lim.b, .int .i64 lim.r, .int .i64 lim.p], .int .u32 key] h = some (.bool (decide (HeldOk c.l most lim key)), h) := by
 have m1 : modeOf vp c1 = some 1 := by simp [modeOf, h1, B_model_at]
 have m2 : modeOf vp c2 = some 1 := by simp [modeOf, h2, B_bucket_Check]
 have bk : ∀ (y : Bucket) h, callRes vp c2 [.agg [.int .i64 y.l.b, .int .i64 y.l.r, .int .i64 y.l.p, .int .i64 y.lv, .int .i64 y.pt, .int .u64 y.t]] h = some (.int .i64 (chkB y), h) := fun y h => bk_spec h2 h3 y h
 have sat := fun (c : Sl Held) hn k h => mat_spec h1 h4 h5 c k h hn
 refine res_pure hf rfl rfl (fun g hg => ?_)
 have hlo := hlo hg
 have no : ∀ (P : Prop), ¬ P → (HeldOk c.l most lim key → P) → (.bool false : V) = .bool (decide (HeldOk c.l most lim key)) := fun P hn hv => by
  rw [decide_eq_false (fun q => hn (hv q))]
 unfold B_model_held
 by_cases hl : most < (c.l.length : Int)
 ·have e := no _ (not_not_intro hl) (·.len)
  simp only [↓zp, zz, zy, chkOk, Nat.reduceEqDiff, Nat.reduceAdd, Nat.reduceSub, Nat.reduceMul, Nat.reduceLT, Nat.reduceLeDiff, Int.reduceLT, Int.reduceLE, Int.reduceEq, Int.reduceAdd, Int.reduceNeg, reduceIte, r_st, r_nck, r_ix, r_iaa, takeN, VE.store, over, cellsAt, VE.part, blkX, gEval, fill, VE.unOp, resVs, resV, reduceCtorEq, hl, ← e, frzB]
 simp only [↓zp, zz, zy, chkOk, Nat.reduceEqDiff, Nat.reduceAdd, Nat.reduceSub, Nat.reduceMul, Nat.reduceLT, Nat.reduceLeDiff, Int.reduceLT, Int.reduceLE, Int.reduceEq, Int.reduceAdd, Int.reduceNeg, reduceIte, r_st, r_nck, r_ix, r_iaa, takeN, VE.store, over, cellsAt, VE.part, blkX, gEval, fill, VE.unOp, resVs, resV, reduceCtorEq, hl]
 generalize hS : Tr.set _ 17 _ = S
 have b0 : Slots.at S 0 = c.v encH := by rw [← hS]; simp only [zs, Nat.reduceEqDiff]
 have b3 : Slots.at S 3 = .int .u32 key := by rw [← hS]; simp only [zs, Nat.reduceEqDiff]
 have b6 : Slots.at S 6 = .ptr g.nx 0 := by rw [← hS]; simp only [zs, Nat.reduceEqDiff]
 have b15 : Slots.at S 15 = c.v encH := by rw [← hS]; simp only [zs, Nat.reduceEqDiff]
 have b16 : Slots.at S 16 = .int .i64 (c.l.length : Int) := by rw [← hS]; simp only [zs, Nat.reduceEqDiff]
 have b17 : Slots.at S 17 = .int .i64 ((0 : Nat) : Int) := by rw [← hS]; simp only [zs, Nat.reduceEqDiff]; rfl
 clear hS
 refine loop_ind (fun m s h => inv35 c most lim key g.nx g.lo m s h) ?_ c.l.length ⟨0, by omega, by omega, b0, b3, b6, b15, b16, b17, ⟨by rw [Heap.get_new, if_pos rfl]; rfl, by simp [Heap.new], hlo⟩, fun j _ hj => by omega⟩
 rintro m s h ⟨k, hk, hm, c0, c3, c6, c15, c16, c17, ⟨hb, hbn, hbl⟩, hinc⟩
 by_cases hlt : k < c.l.length
 case neg =>
  have hlt' : ¬ ((k : Int) < (c.l.length : Int)) := by omega
  have e : HeldOk c.l most lim key := ⟨hl, fun j hj => hinc j hj (by omega)⟩
  simp only [↓zp, zz, zy, chkOk, Nat.reduceEqDiff, Nat.reduceAdd, Nat.reduceSub, Nat.reduceMul, Nat.reduceLT, Nat.reduceLeDiff, Int.reduceLT, Int.reduceLE, Int.reduceEq, Int.reduceAdd, Int.reduceNeg, reduceIte, r_st, r_nck, r_ix, r_iaa, takeN, VE.store, over, cellsAt, VE.part, blkX, gEval, fill, VE.unOp, resVs, resV, reduceCtorEq, c0, c3, c6, c15, c16, c17, hlt', e, frzB]
 have hlt' : (k : Int) < (c.l.length : Int) := by omega
 have ws := wr_succ (k := k) (by omega)
 have ia1 : ∀ h, r_ia 7 (c.v encH) (.int .i64 (k : Int)) h = some (.iptr (encH c.l[k] ++ (c.l.drop (k + 1)).flatMap encH), h) := fun h => r_ia_v encH_len (by decide) hlt rfl
 have hl0 : ¬ (h.nx < h.lo) := by omega
 have hne : ¬ g.nx = h.nx := by omega
 obtain ⟨c', e1, sl⟩ := slc_take encH_len (c := c) (k := k) hk
 have sat' := sat c' (by rw [e1]; simp; omega) c.l[k].k
 rw [e1] at sat'
 by_cases g2 : key < c.l[k].k
 case pos =>
  have e := no _ (fun q : Good c.l lim key k hlt => q.1 g2) (fun q => q.each k hlt)
  simp only [↓zp, zz, zy, chkOk, Nat.reduceEqDiff, Nat.reduceAdd, Nat.reduceSub, Nat.reduceMul, Nat.reduceLT, Nat.reduceLeDiff, Int.reduceLT, Int.reduceLE, Int.reduceEq, Int.reduceAdd, Int.reduceNeg, reduceIte, r_st, r_nck, r_ix, r_iaa, takeN, VE.store, over, cellsAt, VE.part, blkX, gEval, fill, VE.unOp, resVs, resV, reduceCtorEq, c0, c3, c6, c15, c16, c17, hlt', ia1, take7, encH, hl0, g2, ← e, frzB]
 by_cases g1 : 0 ≤ fidx (isK c.l[k].k) (c.l.take k)
 case pos =>
  have e := no _ (fun q : Good c.l lim key k hlt => q.2.1 g1) (fun q => q.each k hlt)
  simp only [↓zp, zz, zy, chkOk, Nat.reduceEqDiff, Nat.reduceAdd, Nat.reduceSub, Nat.reduceMul, Nat.reduceLT, Nat.reduceLeDiff, Int.reduceLT, Int.reduceLE, Int.reduceEq, Int.reduceAdd, Int.reduceNeg, reduceIte, r_st, r_nck, r_ix, r_iaa, takeN, VE.store, over, cellsAt, VE.part, blkX, gEval, fill, VE.unOp, resVs, resV, reduceCtorEq, c0, c3, c6, c15, c16, c17, hlt', ia1, take7, hl0, g2, sl, m1, encH, sat', g1, ← e, frzB]
 by_cases g4 : c.l[k].b.l = lim
 case neg =>
  have e := no _ (fun q : Good c.l lim key k hlt => g4 q.2.2.1) (fun q => q.each k hlt)
  simp only [↓zp, zz, zy, chkOk, Nat.reduceEqDiff, Nat.reduceAdd, Nat.reduceSub, Nat.reduceMul, Nat.reduceLT, Nat.reduceLeDiff, Int.reduceLT, Int.reduceLE, Int.reduceEq, Int.reduceAdd, Int.reduceNeg, reduceIte, r_st, r_nck, r_ix, r_iaa, takeN, VE.store, over, cellsAt, VE.part, blkX, gEval, fill, VE.unOp, resVs, resV, reduceCtorEq, c0, c3, c6, c15, c16, c17, hlt', ia1, take7, hl0, g2, sl, m1, encH, sat', g1, hb, hne, encL, eqc3, g4, ← e, frzB]
 have g4' := eq_true g4
 cases g3 : bkBad c.l[k].b with
 | true =>
  have e := no _ (fun q : Good c.l lim key k hlt => by have := q.2.2.2; rw [g3] at this; cases this) (fun q => q.each k hlt)
  simp only [↓zp, zz, zy, chkOk, Nat.reduceEqDiff, Nat.reduceAdd, Nat.reduceSub, Nat.reduceMul, Nat.reduceLT, Nat.reduceLeDiff, Int.reduceLT, Int.reduceLE, Int.reduceEq, Int.reduceAdd, Int.reduceNeg, reduceIte, r_st, r_nck, r_ix, r_iaa, takeN, VE.store, over, cellsAt, VE.part, blkX, gEval, fill, VE.unOp, resVs, resV, reduceCtorEq, c0, c3, c6, c15, c16, c17, hlt', ia1, take7, hl0, g2, sl, m1, m2, encH, sat', g1, hb, hne, encL, eqc3, g4', bk, chkB, g3, ← e, frzB]
 | false =>
  simp only [↓zp, zz, zy, chkOk, Nat.reduceEqDiff, Nat.reduceAdd, Nat.reduceSub, Nat.reduceMul, Nat.reduceLT, Nat.reduceLeDiff, Int.reduceLT, Int.reduceLE, Int.reduceEq, Int.reduceAdd, Int.reduceNeg, reduceIte, r_st, r_nck, r_ix, r_iaa, takeN, VE.store, over, cellsAt, VE.part, blkX, gEval, fill, VE.unOp, resVs, resV, reduceCtorEq, c0, c3, c6, c15, c16, c17, hlt', ia1, take7, hl0, g2, sl, m1, m2, encH, sat', g1, hb, hne, encL, eqc3, g4', bk, chkB, g3, ws]
  refine ⟨_, by omega, k + 1, by omega, rfl, by simp only [zs, Nat.reduceEqDiff, c0], by simp only [zs, Nat.reduceEqDiff, c3], by simp only [zs, Nat.reduceEqDiff, c6], by simp only [zs, Nat.reduceEqDiff, c15], by simp only [zs, Nat.reduceEqDiff, c16], by simp only [zs, Nat.reduceEqDiff], ⟨?_, ?_, ?_⟩, fun j hj hj2 => ?_⟩
  ·simp only [↓zp, zz, zy, chkOk, Nat.reduceEqDiff, Nat.reduceAdd, Nat.reduceSub, Nat.reduceMul, Nat.reduceLT, Nat.reduceLeDiff, Int.reduceLT, Int.reduceLE, Int.reduceEq, Int.reduceAdd, Int.reduceNeg, reduceIte, r_st, r_nck, r_ix, r_iaa, takeN, VE.store, over, cellsAt, VE.part, blkX, gEval, fill, VE.unOp, resVs, resV, reduceCtorEq, hb, hne, encL]
  ·simp only [↓zp, zz, zy, chkOk, Nat.reduceEqDiff, Nat.reduceAdd, Nat.reduceSub, Nat.reduceMul, Nat.reduceLT, Nat.reduceLeDiff, Int.reduceLT, Int.reduceLE, Int.reduceEq, Int.reduceAdd, Int.reduceNeg, reduceIte, r_st, r_nck, r_ix, r_iaa, takeN, VE.store, over, cellsAt, VE.part, blkX, gEval, fill, VE.unOp, resVs, resV, reduceCtorEq]; omega
  ·simp only [↓zp, zz, zy, chkOk, Nat.reduceEqDiff, Nat.reduceAdd, Nat.reduceSub, Nat.reduceMul, Nat.reduceLT, Nat.reduceLeDiff, Int.reduceLT, Int.reduceLE, Int.reduceEq, Int.reduceAdd, Int.reduceNeg, reduceIte, r_st, r_nck, r_ix, r_iaa, takeN, VE.store, over, cellsAt, VE.part, blkX, gEval, fill, VE.unOp, resVs, resV, reduceCtorEq]; omega
  rcases Nat.lt_or_ge j k with r | r
  ·exact hinc j hj r
  ·have : j = k := by omega
   subst this
   exact ⟨g2, g1, g4, g3⟩
end
end
section
open Go Go.VE Classical
set_option maxRecDepth 100000
set_option maxHeartbeats 2000000
set_option linter.all false
structure AOk (x : Acct) : Prop where
 t : ¬ 16 ≤ x.t
 rl : ¬ 8 < (x.rev.l.length : Int)
 l0 : limBad x.l0 = false
 l1 : limBad x.l1 = false
 l2 : limBad x.l2 = false
 c0 : ¬ x.c0 < 1
 d0 : ¬ 8 < x.c0
 c1 : ¬ x.c1 < 1
 d1 : ¬ 8 < x.c1
 inc : ∀ k (h : k + 1 < x.rev.l.length), ¬ x.rev.l[k + 1] ≤ x.rev.l[k]
 own : bkBad x.own = false
 ol : x.own.l = x.l0
 us : HeldOk x.users.l x.c0 x.l1 4294967295
 en : HeldOk x.ends.l x.c1 x.l2 65535
structure Small (x : Acct) : Prop where
 u : x.users.l.length < 4611686018427387904
 e : x.ends.l.length < 4611686018427387904
 r : x.rev.l.length < 4611686018427387904
section
variable {vp : Nat → Option VFn}
def inv37 (x : Acct) (b : Nat) (H : Heap) (m : Nat) (s : Slots) (h : Heap) : Prop :=
 ∃ k, m = x.rev.l.length + 1 - k ∧ 0 < k ∧ s.at 1 = .ptr b 0 ∧ s.at 4 = .int .i64 (k : Int) ∧ h = H ∧ ∀ j (hj : j + 1 < x.rev.l.length), j + 1 < k → ¬ x.rev.l[j + 1] ≤ x.rev.l[j]
theorem Valid_spec {f c1 c2 c3 c4 : Nat} (hf : vp f = some (B_spigotref25_Valid c1 c2 c3)) (h1 : vp c1 = some B_spigotref03_CheckLimit) (h2 : vp c2 = some (B_spigotref03_Check c1)) (h3 : vp c3 = some (B_spigotref25_held c4 c2)) (h4 : vp c4 = some B_spigotref25_At)
  (x : Acct) (sm : Small x) (h : Heap) : callRes vp f [.agg (encA x)] h = some (.bool (decide (AOk x)), h) := by
 have m1 : modeOf vp c1 = some 1 := by simp [modeOf, h1, B_spigotref03_CheckLimit]
 have m2 : modeOf vp c2 = some 1 := by simp [modeOf, h2, B_spigotref03_Check]
 have m3 : modeOf vp c3 = some 1 := by simp [modeOf, h3, B_spigotref25_held]
 have lim := fun y h => lim_spec2 h1 y h
 have bk : ∀ (y : Bucket) h, callRes vp c2 [.agg [.int .i64 y.l.b, .int .i64 y.l.r, .int .i64 y.l.p, .int .i64 y.lv, .int .i64 y.pt, .int .u64 y.t]] h = some (.int .i64 (chkB y), h) := fun y h => bk_spec2 h2 h1 y h
 have hu := fun h => rheld_spec h3 h4 h2 h1 x.users x.c0 x.l1 4294967295 h sm.u
 have he := fun h => rheld_spec h3 h4 h2 h1 x.ends x.c1 x.l2 65535 h sm.e
 have hsm := sm.r
 refine res_pure hf rfl rfl (fun g hg => ?_)
 have no : ∀ (P : Prop), ¬ P → (AOk x → P) → (.bool false : V) = .bool (decide (AOk x)) := fun P hn hv => by
  rw [decide_eq_false (fun q => hn (hv q))]
 unfold B_spigotref25_Valid
 by_cases h1 : 16 ≤ x.t
 ·have e := no _ (not_not_intro h1) (·.t)
  simp only [↓zp, zz, zy, chkOk, Nat.reduceEqDiff, Nat.reduceAdd, Nat.reduceSub, Nat.reduceMul, Nat.reduceLT, Nat.reduceLeDiff, Int.reduceLT, Int.reduceLE, Int.reduceEq, Int.reduceAdd, Int.reduceNeg, reduceIte, r_st, r_nck, r_ix, r_iaa, takeN, VE.store, over, cellsAt, VE.part, blkX, gEval, fill, VE.unOp, resVs, resV, reduceCtorEq, h1, encA, frzB, ← e]
 by_cases h2 : 8 < (x.rev.l.length : Int)
 ·have e := no _ (not_not_intro h2) (·.rl)
  simp only [↓zp, zz, zy, chkOk, Nat.reduceEqDiff, Nat.reduceAdd, Nat.reduceSub, Nat.reduceMul, Nat.reduceLT, Nat.reduceLeDiff, Int.reduceLT, Int.reduceLE, Int.reduceEq, Int.reduceAdd, Int.reduceNeg, reduceIte, r_st, r_nck, r_ix, r_iaa, takeN, VE.store, over, cellsAt, VE.part, blkX, gEval, fill, VE.unOp, resVs, resV, reduceCtorEq, h1, h2, encA, frzB, ← e]
 simp only [↓zp, zz, zy, chkOk, Nat.reduceEqDiff, Nat.reduceAdd, Nat.reduceSub, Nat.reduceMul, Nat.reduceLT, Nat.reduceLeDiff, Int.reduceLT, Int.reduceLE, Int.reduceEq, Int.reduceAdd, Int.reduceNeg, reduceIte, r_st, r_nck, r_ix, r_iaa, takeN, VE.store, over, cellsAt, VE.part, blkX, gEval, fill, VE.unOp, resVs, resV, reduceCtorEq, h1, h2, encA]
 generalize hS : Tr.set _ 3 _ = S
 have a1 : Slots.at S 1 = .ptr g.nx 0 := by rw [← hS]; simp only [zs, Nat.reduceEqDiff]
 have a3 : Slots.at S 3 = .int .i64 0 := by rw [← hS]; simp only [zs, Nat.reduceEqDiff]
 clear hS
 generalize hH : Heap.new g _ = H
 have hb : H.get g.nx = .cells (encA x) .cl := by rw [← hH, Heap.get_new, if_pos rfl]; rfl
 clear hH
 cases k0 : limBad x.l0 with
 | true =>
  have e := no _ (by rw [k0]; simp) (·.l0)
  refine w_loop1 ?_
  simp only [↓zp, zz, zy, chkOk, Nat.reduceEqDiff, Nat.reduceAdd, Nat.reduceSub, Nat.reduceMul, Nat.reduceLT, Nat.reduceLeDiff, Int.reduceLT, Int.reduceLE, Int.reduceEq, Int.reduceAdd, Int.reduceNeg, reduceIte, r_st, r_nck, r_ix, r_iaa, takeN, VE.store, over, cellsAt, VE.part, blkX, gEval, fill, VE.unOp, resVs, resV, reduceCtorEq, a1, a3, hb, encA, chkLim, k0, lim, m1, ← e, frzB]
 | false =>
 by_cases q0 : x.c0 < 1
 case pos =>
  have e := no _ (not_not_intro q0) (·.c0)
  refine w_loop1 ?_
  simp only [↓zp, zz, zy, chkOk, Nat.reduceEqDiff, Nat.reduceAdd, Nat.reduceSub, Nat.reduceMul, Nat.reduceLT, Nat.reduceLeDiff, Int.reduceLT, Int.reduceLE, Int.reduceEq, Int.reduceAdd, Int.reduceNeg, reduceIte, r_st, r_nck, r_ix, r_iaa, takeN, VE.store, over, cellsAt, VE.part, blkX, gEval, fill, VE.unOp, resVs, resV, reduceCtorEq, a1, a3, hb, encA, chkLim, k0, q0, lim, m1, ← e, frzB]
 by_cases r0 : 8 < x.c0
 case pos =>
  have e := no _ (not_not_intro r0) (·.d0)
  refine w_loop1 ?_
  simp only [↓zp, zz, zy, chkOk, Nat.reduceEqDiff, Nat.reduceAdd, Nat.reduceSub, Nat.reduceMul, Nat.reduceLT, Nat.reduceLeDiff, Int.reduceLT, Int.reduceLE, Int.reduceEq, Int.reduceAdd, Int.reduceNeg, reduceIte, r_st, r_nck, r_ix, r_iaa, takeN, VE.store, over, cellsAt, VE.part, blkX, gEval, fill, VE.unOp, resVs, resV, reduceCtorEq, a1, a3, hb, encA, chkLim, k0, q0, r0, lim, m1, ← e, frzB]
 refine w_loop1 ?_
 simp only [↓zp, zz, zy, chkOk, Nat.reduceEqDiff, Nat.reduceAdd, Nat.reduceSub, Nat.reduceMul, Nat.reduceLT, Nat.reduceLeDiff, Int.reduceLT, Int.reduceLE, Int.reduceEq, Int.reduceAdd, Int.reduceNeg, reduceIte, r_st, r_nck, r_ix, r_iaa, takeN, VE.store, over, cellsAt, VE.part, blkX, gEval, fill, VE.unOp, resVs, resV, reduceCtorEq, a1, a3, hb, encA, chkLim, k0, q0, r0, lim, m1]
 cases k1 : limBad x.l1 with
 | true =>
  have e := no _ (by rw [k1]; simp) (·.l1)
  refine w_loop1 ?_
  simp only [↓zp, zz, zy, chkOk, Nat.reduceEqDiff, Nat.reduceAdd, Nat.reduceSub, Nat.reduceMul, Nat.reduceLT, Nat.reduceLeDiff, Int.reduceLT, Int.reduceLE, Int.reduceEq, Int.reduceAdd, Int.reduceNeg, reduceIte, r_st, r_nck, r_ix, r_iaa, takeN, VE.store, over, cellsAt, VE.part, blkX, gEval, fill, VE.unOp, resVs, resV, reduceCtorEq, a1, a3, hb, encA, chkLim, k1, lim, m1, ← e, frzB]
 | false =>
 by_cases q1 : x.c1 < 1
 case pos =>
  have e := no _ (not_not_intro q1) (·.c1)
  refine w_loop1 ?_
  simp only [↓zp, zz, zy, chkOk, Nat.reduceEqDiff, Nat.reduceAdd, Nat.reduceSub, Nat.reduceMul, Nat.reduceLT, Nat.reduceLeDiff, Int.reduceLT, Int.reduceLE, Int.reduceEq, Int.reduceAdd, Int.reduceNeg, reduceIte, r_st, r_nck, r_ix, r_iaa, takeN, VE.store, over, cellsAt, VE.part, blkX, gEval, fill, VE.unOp, resVs, resV, reduceCtorEq, a1, a3, hb, encA, chkLim, k1, q1, lim, m1, ← e, frzB]
 by_cases r1 : 8 < x.c1
 case pos =>
  have e := no _ (not_not_intro r1) (·.d1)
  refine w_loop1 ?_
  simp only [↓zp, zz, zy, chkOk, Nat.reduceEqDiff, Nat.reduceAdd, Nat.reduceSub, Nat.reduceMul, Nat.reduceLT, Nat.reduceLeDiff, Int.reduceLT, Int.reduceLE, Int.reduceEq, Int.reduceAdd, Int.reduceNeg, reduceIte, r_st, r_nck, r_ix, r_iaa, takeN, VE.store, over, cellsAt, VE.part, blkX, gEval, fill, VE.unOp, resVs, resV, reduceCtorEq, a1, a3, hb, encA, chkLim, k1, q1, r1, lim, m1, ← e, frzB]
 refine w_loop1 ?_
 simp only [↓zp, zz, zy, chkOk, Nat.reduceEqDiff, Nat.reduceAdd, Nat.reduceSub, Nat.reduceMul, Nat.reduceLT, Nat.reduceLeDiff, Int.reduceLT, Int.reduceLE, Int.reduceEq, Int.reduceAdd, Int.reduceNeg, reduceIte, r_st, r_nck, r_ix, r_iaa, takeN, VE.store, over, cellsAt, VE.part, blkX, gEval, fill, VE.unOp, resVs, resV, reduceCtorEq, a1, a3, hb, encA, chkLim, k1, q1, r1, lim, m1]
 cases k2 : limBad x.l2 with
 | true =>
  have e := no _ (by rw [k2]; simp) (·.l2)
  refine w_loop1 ?_
  simp only [↓zp, zz, zy, chkOk, Nat.reduceEqDiff, Nat.reduceAdd, Nat.reduceSub, Nat.reduceMul, Nat.reduceLT, Nat.reduceLeDiff, Int.reduceLT, Int.reduceLE, Int.reduceEq, Int.reduceAdd, Int.reduceNeg, reduceIte, r_st, r_nck, r_ix, r_iaa, takeN, VE.store, over, cellsAt, VE.part, blkX, gEval, fill, VE.unOp, resVs, resV, reduceCtorEq, a1, a3, hb, encA, chkLim, k2, lim, m1, ← e, frzB]
 | false =>
 refine w_loop1 ?_
 simp only [↓zp, zz, zy, chkOk, Nat.reduceEqDiff, Nat.reduceAdd, Nat.reduceSub, Nat.reduceMul, Nat.reduceLT, Nat.reduceLeDiff, Int.reduceLT, Int.reduceLE, Int.reduceEq, Int.reduceAdd, Int.reduceNeg, reduceIte, r_st, r_nck, r_ix, r_iaa, takeN, VE.store, over, cellsAt, VE.part, blkX, gEval, fill, VE.unOp, resVs, resV, reduceCtorEq, a1, a3, hb, encA, chkLim, k2, lim, m1]
 refine w_loop1 ?_
 simp only [↓zp, zz, zy, chkOk, Nat.reduceEqDiff, Nat.reduceAdd, Nat.reduceSub, Nat.reduceMul, Nat.reduceLT, Nat.reduceLeDiff, Int.reduceLT, Int.reduceLE, Int.reduceEq, Int.reduceAdd, Int.reduceNeg, reduceIte, r_st, r_nck, r_ix, r_iaa, takeN, VE.store, over, cellsAt, VE.part, blkX, gEval, fill, VE.unOp, resVs, resV, reduceCtorEq, a1, a3]
 generalize hS : Tr.set _ 4 _ = S2
 have b1 : Slots.at S2 1 = .ptr g.nx 0 := by rw [← hS]; simp only [zs, Nat.reduceEqDiff, a1]
 have b4 : Slots.at S2 4 = .int .i64 ((1 : Nat) : Int) := by rw [← hS]; simp only [zs, Nat.reduceEqDiff]; rfl
 clear hS
 refine loop_ind (fun m s h => inv37 x g.nx H m s h) ?_ x.rev.l.length ⟨1, by omega, by omega, b1, b4, rfl, fun j _ hj => by omega⟩
 rintro m s h ⟨k, hm, hz, c1, c4, rfl, hinc⟩
 by_cases hlt : k < x.rev.l.length
 case neg =>
  have hlt' : ¬ ((k : Int) < (x.rev.l.length : Int)) := by omega
  cases o1 : bkBad x.own with
  | true =>
   have e := no _ (by rw [o1]; simp) (·.own)
   simp only [↓zp, zz, zy, chkOk, Nat.reduceEqDiff, Nat.reduceAdd, Nat.reduceSub, Nat.reduceMul, Nat.reduceLT, Nat.reduceLeDiff, Int.reduceLT, Int.reduceLE, Int.reduceEq, Int.reduceAdd, Int.reduceNeg, reduceIte, r_st, r_nck, r_ix, r_iaa, takeN, VE.store, over, cellsAt, VE.part, blkX, gEval, fill, VE.unOp, resVs, resV, reduceCtorEq, c1, c4, hb, encA, hlt', m2, bk, chkB, o1, ← e, frzB]
  | false =>
  by_cases o2 : x.own.l = x.l0
  case neg =>
   have e := no _ o2 (·.ol)
   simp only [↓zp, zz, zy, chkOk, Nat.reduceEqDiff, Nat.reduceAdd, Nat.reduceSub, Nat.reduceMul, Nat.reduceLT, Nat.reduceLeDiff, Int.reduceLT, Int.reduceLE, Int.reduceEq, Int.reduceAdd, Int.reduceNeg, reduceIte, r_st, r_nck, r_ix, r_iaa, takeN, VE.store, over, cellsAt, VE.part, blkX, gEval, fill, VE.unOp, resVs, resV, reduceCtorEq, c1, c4, hb, encA, hlt', m2, bk, chkB, o1, eqc3, o2, ← e, frzB]
  have o2' := eq_true o2
  by_cases o3 : HeldOk x.users.l x.c0 x.l1 4294967295
  case neg =>
   have e := no _ o3 (·.us)
   simp only [↓zp, zz, zy, chkOk, Nat.reduceEqDiff, Nat.reduceAdd, Nat.reduceSub, Nat.reduceMul, Nat.reduceLT, Nat.reduceLeDiff, Int.reduceLT, Int.reduceLE, Int.reduceEq, Int.reduceAdd, Int.reduceNeg, reduceIte, r_st, r_nck, r_ix, r_iaa, takeN, VE.store, over, cellsAt, VE.part, blkX, gEval, fill, VE.unOp, resVs, resV, reduceCtorEq, c1, c4, hb, encA, hlt', m2, bk, chkB, o1, eqc3, o2', m3, hu, o3, ← e, frzB]
  by_cases o4 : HeldOk x.ends.l x.c1 x.l2 65535
  case neg =>
   have e := no _ o4 (·.en)
   simp only [↓zp, zz, zy, chkOk, Nat.reduceEqDiff, Nat.reduceAdd, Nat.reduceSub, Nat.reduceMul, Nat.reduceLT, Nat.reduceLeDiff, Int.reduceLT, Int.reduceLE, Int.reduceEq, Int.reduceAdd, Int.reduceNeg, reduceIte, r_st, r_nck, r_ix, r_iaa, takeN, VE.store, over, cellsAt, VE.part, blkX, gEval, fill, VE.unOp, resVs, resV, reduceCtorEq, c1, c4, hb, encA, hlt', m2, bk, chkB, o1, eqc3, o2', m3, hu, he, o3, o4, ← e, frzB]
  have e : AOk x := ⟨h1, h2, k0, k1, k2, q0, r0, q1, r1, fun j hj => hinc j hj (by omega), o1, o2, o3, o4⟩
  simp only [↓zp, zz, zy, chkOk, Nat.reduceEqDiff, Nat.reduceAdd, Nat.reduceSub, Nat.reduceMul, Nat.reduceLT, Nat.reduceLeDiff, Int.reduceLT, Int.reduceLE, Int.reduceEq, Int.reduceAdd, Int.reduceNeg, reduceIte, r_st, r_nck, r_ix, r_iaa, takeN, VE.store, over, cellsAt, VE.part, blkX, gEval, fill, VE.unOp, resVs, resV, reduceCtorEq, c1, c4, hb, encA, hlt', m2, bk, chkB, o1, eqc3, o2', m3, hu, he, o3, o4, e, frzB]
 have hlt' : (k : Int) < (x.rev.l.length : Int) := by omega
 have ws := wr_succ (k := k) (by omega)
 have ia1 : ∀ h, r_ia 1 (x.rev.v e32) (.int .i64 (k : Int)) h = some (.iptr (e32 x.rev.l[k] ++ (x.rev.l.drop (k + 1)).flatMap e32), h) := fun h => r_ia_v e32_len (by decide) hlt rfl
 have wp := wr_pred (k := k) hz (by omega)
 have ia2 : ∀ h, r_ia 1 (x.rev.v e32) (.int .i64 ((k - 1 : Nat) : Int)) h = some (.iptr (e32 x.rev.l[k - 1] ++ (x.rev.l.drop (k - 1 + 1)).flatMap e32), h) := fun h => r_ia_v e32_len (by decide) (by omega) rfl
 by_cases hle : x.rev.l[k] ≤ x.rev.l[k - 1]
 ·have e := no (∀ k (h : k + 1 < x.rev.l.length), ¬ x.rev.l[k + 1] ≤ x.rev.l[k]) (fun q => by have := q (k - 1) (by omega); have e1 : k - 1 + 1 = k := (by omega); simp only [e1] at this; omega) (·.inc)
  simp only [↓zp, zz, zy, chkOk, Nat.reduceEqDiff, Nat.reduceAdd, Nat.reduceSub, Nat.reduceMul, Nat.reduceLT, Nat.reduceLeDiff, Int.reduceLT, Int.reduceLE, Int.reduceEq, Int.reduceAdd, Int.reduceNeg, reduceIte, r_st, r_nck, r_ix, r_iaa, takeN, VE.store, over, cellsAt, VE.part, blkX, gEval, fill, VE.unOp, resVs, resV, reduceCtorEq, c1, c4, hlt', ws, wp, ia1, ia2, hb, encA, e32, hle, ← e, frzB]
 ·simp only [↓zp, zz, zy, chkOk, Nat.reduceEqDiff, Nat.reduceAdd, Nat.reduceSub, Nat.reduceMul, Nat.reduceLT, Nat.reduceLeDiff, Int.reduceLT, Int.reduceLE, Int.reduceEq, Int.reduceAdd, Int.reduceNeg, reduceIte, r_st, r_nck, r_ix, r_iaa, takeN, VE.store, over, cellsAt, VE.part, blkX, gEval, fill, VE.unOp, resVs, resV, reduceCtorEq, c1, c4, hlt', ws, wp, ia1, ia2, hb, encA, e32, hle]
  refine ⟨_, by omega, k + 1, rfl, by omega, by simp only [zs, Nat.reduceEqDiff, c1], by simp only [zs, Nat.reduceEqDiff], rfl, fun j hj hj2 => ?_⟩
  rcases Nat.lt_or_ge (j + 1) k with q | q
  ·exact hinc j hj q
  ·have e1 : j = k - 1 := by omega
   subst e1
   have e2 : k - 1 + 1 = k := by omega
   simp only [e2]
   omega
end
end
section
open Go Go.VE Classical
set_option maxRecDepth 100000
set_option maxHeartbeats 2000000
set_option linter.all false
def lims9 (x : Acct) : List V := [.int .i64 x.l0.b, .int .i64 x.l0.r, .int .i64 x.l0.p, .int .i64 x.l1.b, .int .i64 x.l1.r, .int .i64 x.l1.p, .int .i64 x.l2.b, .int .i64 x.l2.r, .int .i64 x.l2.p]
theorem ix0 {x : Acct} {h : Heap} : r_ix 3 3 (some 3) (.agg (lims9 x)) (.int .i64 0) h = some (.agg [.int .i64 x.l0.b, .int .i64 x.l0.r, .int .i64 x.l0.p], h) := rfl
theorem ix1 {x : Acct} {h : Heap} : r_ix 3 3 (some 3) (.agg (lims9 x)) (.int .i64 1) h = some (.agg [.int .i64 x.l1.b, .int .i64 x.l1.r, .int .i64 x.l1.p], h) := rfl
theorem ix2 {x : Acct} {h : Heap} : r_ix 3 3 (some 3) (.agg (lims9 x)) (.int .i64 2) h = some (.agg [.int .i64 x.l2.b, .int .i64 x.l2.r, .int .i64 x.l2.p], h) := rfl
section
variable {vp : Nat → Option VFn}
def inv28 (x : Acct) (b : Nat) (H : Heap) (m : Nat) (s : Slots) (h : Heap) : Prop :=
 ∃ k, m = x.rev.l.length + 1 - k ∧ 0 < k ∧ s.at 1 = .ptr b 0 ∧ s.at 5 = .int .i64 (k : Int) ∧ h = H ∧ ∀ j (hj : j + 1 < x.rev.l.length), j + 1 < k → ¬ x.rev.l[j + 1] ≤ x.rev.l[j]
theorem valid_spec {f c1 c2 c3 c4 c5 c6 t1 t2 : Nat} (hf : vp f = some (B_model_valid c1 c2 c3 t1)) (h1 : vp c1 = some B_bucket_CheckLimit) (h2 : vp c2 = some (B_bucket_Check c1)) (h3 : vp c3 = some (B_model_held c4 c2 t2)) (h4 : vp c4 = some (B_model_at c5 c6)) (h5 : vp c5 = some B_model_at_fn1) (h6 : vp c6 = some B_slices_IndexFunc_api_Held)
  (x : Acct) (sm : Small x) (h : Heap) : callRes vp f [.agg (encA x)] h = some (.bool (decide (AOk x)), h) := by
 have m1 : modeOf vp c1 = some 1 := by simp [modeOf, h1, B_bucket_CheckLimit]
 have m2 : modeOf vp c2 = some 1 := by simp [modeOf, h2, B_bucket_Check]
 have m3 : modeOf vp c3 = some 1 := by simp [modeOf, h3, B_model_held]
 have lim := fun y h => lim_spec h1 y h
 have bk : ∀ (y : Bucket) h, callRes vp c2 [.agg [.int .i64 y.l.b, .int .i64 y.l.r, .int .i64 y.l.p, .int .i64 y.lv, .int .i64 y.pt, .int .u64 y.t]] h = some (.int .i64 (chkB y), h) := fun y h => bk_spec h2 h1 y h
 have hu := fun h => mheld_spec h3 h4 h5 h6 h2 h1 x.users x.c0 x.l1 4294967295 h sm.u
 have he := fun h => mheld_spec h3 h4 h5 h6 h2 h1 x.ends x.c1 x.l2 65535 h sm.e
 have hsm := sm.r
 refine res_pure hf rfl rfl (fun g hg => ?_)
 have hlo := hlo hg
 have no : ∀ (P : Prop), ¬ P → (AOk x → P) → (.bool false : V) = .bool (decide (AOk x)) := fun P hn hv => by
  rw [decide_eq_false (fun q => hn (hv q))]
 unfold B_model_valid
 simp only [↓zp, zz, zy, chkOk, Nat.reduceEqDiff, Nat.reduceAdd, Nat.reduceSub, Nat.reduceMul, Nat.reduceLT, Nat.reduceLeDiff, Int.reduceLT, Int.reduceLE, Int.reduceEq, Int.reduceAdd, Int.reduceNeg, reduceIte, r_st, r_nck, r_ix, r_iaa, takeN, VE.store, over, cellsAt, VE.part, blkX, gEval, fill, VE.unOp, resVs, resV, reduceCtorEq, encA]
 generalize hS : Tr.set _ 8 _ = S
 have a1 : Slots.at S 1 = .ptr g.nx 0 := by rw [← hS]; simp only [zs, Nat.reduceEqDiff]
 have a7 : Slots.at S 7 = .agg (lims9 x) := by rw [← hS]; simp only [zs, Nat.reduceEqDiff]; rfl
 have a8 : Slots.at S 8 = .int .i64 0 := by rw [← hS]; simp only [zs, Nat.reduceEqDiff]
 clear hS
 generalize hH : Heap.new g _ = H
 obtain ⟨hb, hl0, hgt⟩ : H.get g.nx = .cells (encA x) .cl ∧ ¬ (H.nx < H.lo) ∧ g.nx < H.nx := by
  subst hH
  refine ⟨by rw [Heap.get_new, if_pos rfl]; rfl, ?_, ?_⟩
  ·simp only [Heap.set_nx, Heap.set_lo, Heap.new_lo, Heap.new_nx]; omega
  ·simp only [Heap.set_nx, Heap.set_lo, Heap.new_lo, Heap.new_nx]; omega
 have hne : ¬ g.nx = H.nx := by omega
 clear hH
 cases k0 : limBad x.l0 with
 | true =>
  have e := no _ (by rw [k0]; simp) (·.l0)
  refine w_loop1 ?_
  simp only [↓zp, zz, zy, chkOk, Nat.reduceEqDiff, Nat.reduceAdd, Nat.reduceSub, Nat.reduceMul, Nat.reduceLT, Nat.reduceLeDiff, Int.reduceLT, Int.reduceLE, Int.reduceEq, Int.reduceAdd, Int.reduceNeg, reduceIte, r_st, r_nck, r_iaa, takeN, VE.store, over, cellsAt, VE.part, blkX, gEval, fill, VE.unOp, resVs, resV, reduceCtorEq, a1, a7, a8, hb, hl0, hne, encA, ix0, ix1, ix2, chkLim, k0, lim, m1, ← e, frzB]
 | false =>
 by_cases q0 : x.c0 < 1
 case pos =>
  have e := no _ (not_not_intro q0) (·.c0)
  refine w_loop1 ?_
  simp only [↓zp, zz, zy, chkOk, Nat.reduceEqDiff, Nat.reduceAdd, Nat.reduceSub, Nat.reduceMul, Nat.reduceLT, Nat.reduceLeDiff, Int.reduceLT, Int.reduceLE, Int.reduceEq, Int.reduceAdd, Int.reduceNeg, reduceIte, r_st, r_nck, r_iaa, takeN, VE.store, over, cellsAt, VE.part, blkX, gEval, fill, VE.unOp, resVs, resV, reduceCtorEq, a1, a7, a8, hb, hl0, hne, encA, ix0, ix1, ix2, chkLim, k0, lim, m1, q0, ← e, frzB]
 by_cases r0 : 8 < x.c0
 case pos =>
  have e := no _ (not_not_intro r0) (·.d0)
  refine w_loop1 ?_
  simp only [↓zp, zz, zy, chkOk, Nat.reduceEqDiff, Nat.reduceAdd, Nat.reduceSub, Nat.reduceMul, Nat.reduceLT, Nat.reduceLeDiff, Int.reduceLT, Int.reduceLE, Int.reduceEq, Int.reduceAdd, Int.reduceNeg, reduceIte, r_st, r_nck, r_iaa, takeN, VE.store, over, cellsAt, VE.part, blkX, gEval, fill, VE.unOp, resVs, resV, reduceCtorEq, a1, a7, a8, hb, hl0, hne, encA, ix0, ix1, ix2, chkLim, k0, lim, m1, q0, r0, ← e, frzB]
 refine w_loop1 ?_
 simp only [↓zp, zz, zy, chkOk, Nat.reduceEqDiff, Nat.reduceAdd, Nat.reduceSub, Nat.reduceMul, Nat.reduceLT, Nat.reduceLeDiff, Int.reduceLT, Int.reduceLE, Int.reduceEq, Int.reduceAdd, Int.reduceNeg, reduceIte, r_st, r_nck, r_iaa, takeN, VE.store, over, cellsAt, VE.part, blkX, gEval, fill, VE.unOp, resVs, resV, reduceCtorEq, a1, a7, a8, hb, hl0, hne, encA, ix0, ix1, ix2, chkLim, k0, lim, m1, q0, r0]
 generalize hS : Tr.set _ 8 _ = S0
 replace a1 : Slots.at S0 1 = .ptr g.nx 0 := by rw [← hS]; simp only [zs, Nat.reduceEqDiff, a1]
 replace a7 : Slots.at S0 7 = .agg (lims9 x) := by rw [← hS]; simp only [zs, Nat.reduceEqDiff, a7]
 replace a8 : Slots.at S0 8 = .int .i64 1 := by rw [← hS]; simp only [zs, Nat.reduceEqDiff]
 clear hS
 generalize hH : Heap.set _ _ _ = H0
 obtain ⟨hb, hl0, hgt⟩ : H0.get g.nx = .cells (encA x) .cl ∧ ¬ (H0.nx < H0.lo) ∧ g.nx < H0.nx := by
  subst hH
  refine ⟨?_, ?_, ?_⟩
  ·simp only [↓zp, zz, zy, chkOk, Nat.reduceEqDiff, Nat.reduceAdd, Nat.reduceSub, Nat.reduceMul, Nat.reduceLT, Nat.reduceLeDiff, Int.reduceLT, Int.reduceLE, Int.reduceEq, Int.reduceAdd, Int.reduceNeg, reduceIte, r_st, r_nck, r_ix, r_iaa, takeN, VE.store, over, cellsAt, VE.part, blkX, gEval, fill, VE.unOp, resVs, resV, reduceCtorEq, hb, hne, encA]
  ·simp only [Heap.set_nx, Heap.set_lo, Heap.new_lo, Heap.new_nx]; omega
  ·simp only [Heap.set_nx, Heap.set_lo, Heap.new_lo, Heap.new_nx]; omega
 have hne : ¬ g.nx = H0.nx := by omega
 clear hH
 cases k1 : limBad x.l1 with
 | true =>
  have e := no _ (by rw [k1]; simp) (·.l1)
  refine w_loop1 ?_
  simp only [↓zp, zz, zy, chkOk, Nat.reduceEqDiff, Nat.reduceAdd, Nat.reduceSub, Nat.reduceMul, Nat.reduceLT, Nat.reduceLeDiff, Int.reduceLT, Int.reduceLE, Int.reduceEq, Int.reduceAdd, Int.reduceNeg, reduceIte, r_st, r_nck, r_iaa, takeN, VE.store, over, cellsAt, VE.part, blkX, gEval, fill, VE.unOp, resVs, resV, reduceCtorEq, a1, a7, a8, hb, hl0, hne, encA, ix0, ix1, ix2, chkLim, k1, lim, m1, ← e, frzB]
 | false =>
 by_cases q1 : x.c1 < 1
 case pos =>
  have e := no _ (not_not_intro q1) (·.c1)
  refine w_loop1 ?_
  simp only [↓zp, zz, zy, chkOk, Nat.reduceEqDiff, Nat.reduceAdd, Nat.reduceSub, Nat.reduceMul, Nat.reduceLT, Nat.reduceLeDiff, Int.reduceLT, Int.reduceLE, Int.reduceEq, Int.reduceAdd, Int.reduceNeg, reduceIte, r_st, r_nck, r_iaa, takeN, VE.store, over, cellsAt, VE.part, blkX, gEval, fill, VE.unOp, resVs, resV, reduceCtorEq, a1, a7, a8, hb, hl0, hne, encA, ix0, ix1, ix2, chkLim, k1, lim, m1, q1, ← e, frzB]
 by_cases r1 : 8 < x.c1
 case pos =>
  have e := no _ (not_not_intro r1) (·.d1)
  refine w_loop1 ?_
  simp only [↓zp, zz, zy, chkOk, Nat.reduceEqDiff, Nat.reduceAdd, Nat.reduceSub, Nat.reduceMul, Nat.reduceLT, Nat.reduceLeDiff, Int.reduceLT, Int.reduceLE, Int.reduceEq, Int.reduceAdd, Int.reduceNeg, reduceIte, r_st, r_nck, r_iaa, takeN, VE.store, over, cellsAt, VE.part, blkX, gEval, fill, VE.unOp, resVs, resV, reduceCtorEq, a1, a7, a8, hb, hl0, hne, encA, ix0, ix1, ix2, chkLim, k1, lim, m1, q1, r1, ← e, frzB]
 refine w_loop1 ?_
 simp only [↓zp, zz, zy, chkOk, Nat.reduceEqDiff, Nat.reduceAdd, Nat.reduceSub, Nat.reduceMul, Nat.reduceLT, Nat.reduceLeDiff, Int.reduceLT, Int.reduceLE, Int.reduceEq, Int.reduceAdd, Int.reduceNeg, reduceIte, r_st, r_nck, r_iaa, takeN, VE.store, over, cellsAt, VE.part, blkX, gEval, fill, VE.unOp, resVs, resV, reduceCtorEq, a1, a7, a8, hb, hl0, hne, encA, ix0, ix1, ix2, chkLim, k1, lim, m1, q1, r1]
 generalize hS : Tr.set _ 8 _ = S1
 replace a1 : Slots.at S1 1 = .ptr g.nx 0 := by rw [← hS]; simp only [zs, Nat.reduceEqDiff, a1]
 replace a7 : Slots.at S1 7 = .agg (lims9 x) := by rw [← hS]; simp only [zs, Nat.reduceEqDiff, a7]
 replace a8 : Slots.at S1 8 = .int .i64 2 := by rw [← hS]; simp only [zs, Nat.reduceEqDiff]
 clear hS
 generalize hH : Heap.set _ _ _ = H1
 obtain ⟨hb, hl0, hgt⟩ : H1.get g.nx = .cells (encA x) .cl ∧ ¬ (H1.nx < H1.lo) ∧ g.nx < H1.nx := by
  subst hH
  refine ⟨?_, ?_, ?_⟩
  ·simp only [↓zp, zz, zy, chkOk, Nat.reduceEqDiff, Nat.reduceAdd, Nat.reduceSub, Nat.reduceMul, Nat.reduceLT, Nat.reduceLeDiff, Int.reduceLT, Int.reduceLE, Int.reduceEq, Int.reduceAdd, Int.reduceNeg, reduceIte, r_st, r_nck, r_ix, r_iaa, takeN, VE.store, over, cellsAt, VE.part, blkX, gEval, fill, VE.unOp, resVs, resV, reduceCtorEq, hb, hne, encA]
  ·simp only [Heap.set_nx, Heap.set_lo, Heap.new_lo, Heap.new_nx]; omega
  ·simp only [Heap.set_nx, Heap.set_lo, Heap.new_lo, Heap.new_nx]; omega
 have hne : ¬ g.nx = H1.nx := by omega
 clear hH
 cases k2 : limBad x.l2 with
 | true =>
  have e := no _ (by rw [k2]; simp) (·.l2)
  refine w_loop1 ?_
  simp only [↓zp, zz, zy, chkOk, Nat.reduceEqDiff, Nat.reduceAdd, Nat.reduceSub, Nat.reduceMul, Nat.reduceLT, Nat.reduceLeDiff, Int.reduceLT, Int.reduceLE, Int.reduceEq, Int.reduceAdd, Int.reduceNeg, reduceIte, r_st, r_nck, r_iaa, takeN, VE.store, over, cellsAt, VE.part, blkX, gEval, fill, VE.unOp, resVs, resV, reduceCtorEq, a1, a7, a8, hb, hl0, hne, encA, ix0, ix1, ix2, chkLim, k2, lim, m1, ← e, frzB]
 | false =>
 refine w_loop1 ?_
 simp only [↓zp, zz, zy, chkOk, Nat.reduceEqDiff, Nat.reduceAdd, Nat.reduceSub, Nat.reduceMul, Nat.reduceLT, Nat.reduceLeDiff, Int.reduceLT, Int.reduceLE, Int.reduceEq, Int.reduceAdd, Int.reduceNeg, reduceIte, r_st, r_nck, r_iaa, takeN, VE.store, over, cellsAt, VE.part, blkX, gEval, fill, VE.unOp, resVs, resV, reduceCtorEq, a1, a7, a8, hb, hl0, hne, encA, ix0, ix1, ix2, chkLim, k2, lim, m1]
 generalize hS : Tr.set _ 8 _ = S2
 replace a1 : Slots.at S2 1 = .ptr g.nx 0 := by rw [← hS]; simp only [zs, Nat.reduceEqDiff, a1]
 replace a7 : Slots.at S2 7 = .agg (lims9 x) := by rw [← hS]; simp only [zs, Nat.reduceEqDiff, a7]
 replace a8 : Slots.at S2 8 = .int .i64 3 := by rw [← hS]; simp only [zs, Nat.reduceEqDiff]
 clear hS
 generalize hH : Heap.set _ _ _ = H2
 obtain ⟨hb, hl0, hgt⟩ : H2.get g.nx = .cells (encA x) .cl ∧ ¬ (H2.nx < H2.lo) ∧ g.nx < H2.nx := by
  subst hH
  refine ⟨?_, ?_, ?_⟩
  ·simp only [↓zp, zz, zy, chkOk, Nat.reduceEqDiff, Nat.reduceAdd, Nat.reduceSub, Nat.reduceMul, Nat.reduceLT, Nat.reduceLeDiff, Int.reduceLT, Int.reduceLE, Int.reduceEq, Int.reduceAdd, Int.reduceNeg, reduceIte, r_st, r_nck, r_ix, r_iaa, takeN, VE.store, over, cellsAt, VE.part, blkX, gEval, fill, VE.unOp, resVs, resV, reduceCtorEq, hb, hne, encA]
  ·simp only [Heap.set_nx, Heap.set_lo, Heap.new_lo, Heap.new_nx]; omega
  ·simp only [Heap.set_nx, Heap.set_lo, Heap.new_lo, Heap.new_nx]; omega
 have hne : ¬ g.nx = H2.nx := by omega
 clear hH
 refine w_loop1 ?_
 simp only [↓zp, zz, zy, chkOk, Nat.reduceEqDiff, Nat.reduceAdd, Nat.reduceSub, Nat.reduceMul, Nat.reduceLT, Nat.reduceLeDiff, Int.reduceLT, Int.reduceLE, Int.reduceEq, Int.reduceAdd, Int.reduceNeg, reduceIte, r_st, r_nck, r_ix, r_iaa, takeN, VE.store, over, cellsAt, VE.part, blkX, gEval, fill, VE.unOp, resVs, resV, reduceCtorEq, a1, a8]
 generalize hS : Tr.set _ 5 _ = S2
 have b1 : Slots.at S2 1 = .ptr g.nx 0 := by rw [← hS]; simp only [zs, Nat.reduceEqDiff, a1]
 have b5 : Slots.at S2 5 = .int .i64 ((1 : Nat) : Int) := by rw [← hS]; simp only [zs, Nat.reduceEqDiff]; rfl
 clear hS
 refine loop_ind (fun m s h => inv28 x g.nx _ m s h) ?_ x.rev.l.length ⟨1, by omega, by omega, b1, b5, rfl, fun j _ hj => by omega⟩
 rintro m s h ⟨k, hm, hz, c1, c5, rfl, hinc⟩
 by_cases hlt : k < x.rev.l.length
 case neg =>
  have hlt' : ¬ ((k : Int) < (x.rev.l.length : Int)) := by omega
  by_cases h1 : 16 ≤ x.t
  case pos =>
   have e := no _ (not_not_intro h1) (·.t)
   simp only [↓zp, zz, zy, chkOk, Nat.reduceEqDiff, Nat.reduceAdd, Nat.reduceSub, Nat.reduceMul, Nat.reduceLT, Nat.reduceLeDiff, Int.reduceLT, Int.reduceLE, Int.reduceEq, Int.reduceAdd, Int.reduceNeg, reduceIte, r_st, r_nck, r_ix, r_iaa, takeN, VE.store, over, cellsAt, VE.part, blkX, gEval, fill, VE.unOp, resVs, resV, reduceCtorEq, c1, c5, hb, encA, hlt', h1, frzB, ← e]
  by_cases h2 : 8 < (x.rev.l.length : Int)
  case pos =>
   have e := no _ (not_not_intro h2) (·.rl)
   simp only [↓zp, zz, zy, chkOk, Nat.reduceEqDiff, Nat.reduceAdd, Nat.reduceSub, Nat.reduceMul, Nat.reduceLT, Nat.reduceLeDiff, Int.reduceLT, Int.reduceLE, Int.reduceEq, Int.reduceAdd, Int.reduceNeg, reduceIte, r_st, r_nck, r_ix, r_iaa, takeN, VE.store, over, cellsAt, VE.part, blkX, gEval, fill, VE.unOp, resVs, resV, reduceCtorEq, c1, c5, hb, encA, hlt', h1, h2, frzB, ← e]
  by_cases o2 : x.own.l = x.l0
  case neg =>
   have e := no _ o2 (·.ol)
   simp only [↓zp, zz, zy, chkOk, Nat.reduceEqDiff, Nat.reduceAdd, Nat.reduceSub, Nat.reduceMul, Nat.reduceLT, Nat.reduceLeDiff, Int.reduceLT, Int.reduceLE, Int.reduceEq, Int.reduceAdd, Int.reduceNeg, reduceIte, r_st, r_nck, r_ix, r_iaa, takeN, VE.store, over, cellsAt, VE.part, blkX, gEval, fill, VE.unOp, resVs, resV, reduceCtorEq, c1, c5, hb, encA, hlt', h1, h2, eqc3, o2, ← e, frzB]
  have o2' := eq_true o2
  cases o1 : bkBad x.own with
  | true =>
   have e := no _ (by rw [o1]; simp) (·.own)
   simp only [↓zp, zz, zy, chkOk, Nat.reduceEqDiff, Nat.reduceAdd, Nat.reduceSub, Nat.reduceMul, Nat.reduceLT, Nat.reduceLeDiff, Int.reduceLT, Int.reduceLE, Int.reduceEq, Int.reduceAdd, Int.reduceNeg, reduceIte, r_st, r_nck, r_ix, r_iaa, takeN, VE.store, over, cellsAt, VE.part, blkX, gEval, fill, VE.unOp, resVs, resV, reduceCtorEq, c1, c5, hb, encA, hlt', h1, h2, eqc3, o2', m2, bk, chkB, o1, ← e, frzB]
  | false =>
  by_cases o3 : HeldOk x.users.l x.c0 x.l1 4294967295
  case neg =>
   have e := no _ o3 (·.us)
   simp only [↓zp, zz, zy, chkOk, Nat.reduceEqDiff, Nat.reduceAdd, Nat.reduceSub, Nat.reduceMul, Nat.reduceLT, Nat.reduceLeDiff, Int.reduceLT, Int.reduceLE, Int.reduceEq, Int.reduceAdd, Int.reduceNeg, reduceIte, r_st, r_nck, r_ix, r_iaa, takeN, VE.store, over, cellsAt, VE.part, blkX, gEval, fill, VE.unOp, resVs, resV, reduceCtorEq, c1, c5, hb, encA, hlt', h1, h2, m2, bk, chkB, o1, eqc3, o2', m3, hu, o3, ← e, frzB]
  by_cases o4 : HeldOk x.ends.l x.c1 x.l2 65535
  case neg =>
   have e := no _ o4 (·.en)
   simp only [↓zp, zz, zy, chkOk, Nat.reduceEqDiff, Nat.reduceAdd, Nat.reduceSub, Nat.reduceMul, Nat.reduceLT, Nat.reduceLeDiff, Int.reduceLT, Int.reduceLE, Int.reduceEq, Int.reduceAdd, Int.reduceNeg, reduceIte, r_st, r_nck, r_ix, r_iaa, takeN, VE.store, over, cellsAt, VE.part, blkX, gEval, fill, VE.unOp, resVs, resV, reduceCtorEq, c1, c5, hb, encA, hlt', h1, h2, m2, bk, chkB, o1, eqc3, o2', m3, hu, he, o3, o4, ← e, frzB]
  have e : AOk x := ⟨h1, h2, k0, k1, k2, q0, r0, q1, r1, fun j hj => hinc j hj (by omega), o1, o2, o3, o4⟩
  simp only [↓zp, zz, zy, chkOk, Nat.reduceEqDiff, Nat.reduceAdd, Nat.reduceSub, Nat.reduceMul, Nat.reduceLT, Nat.reduceLeDiff, Int.reduceLT, Int.reduceLE, Int.reduceEq, Int.reduceAdd, Int.reduceNeg, reduceIte, r_st, r_nck, r_ix, r_iaa, takeN, VE.store, over, cellsAt, VE.part, blkX, gEval, fill, VE.unOp, resVs, resV, reduceCtorEq, c1, c5, hb, encA, hlt', h1, h2, m2, bk, chkB, o1, eqc3, o2', m3, hu, he, o3, o4, e, frzB]
 have hlt' : (k : Int) < (x.rev.l.length : Int) := by omega
 have ws := wr_succ (k := k) (by omega)
 have ia1 : ∀ h, r_ia 1 (x.rev.v e32) (.int .i64 (k : Int)) h = some (.iptr (e32 x.rev.l[k] ++ (x.rev.l.drop (k + 1)).flatMap e32), h) := fun h => r_ia_v e32_len (by decide) hlt rfl
 have wp := wr_pred (k := k) hz (by omega)
 have ia2 : ∀ h, r_ia 1 (x.rev.v e32) (.int .i64 ((k - 1 : Nat) : Int)) h = some (.iptr (e32 x.rev.l[k - 1] ++ (x.rev.l.drop (k - 1 + 1)).flatMap e32), h) := fun h => r_ia_v e32_len (by decide) (by omega) rfl
 by_cases hle : x.rev.l[k] ≤ x.rev.l[k - 1]
 ·have e := no (∀ k (h : k + 1 < x.rev.l.length), ¬ x.rev.l[k + 1] ≤ x.rev.l[k]) (fun q => by have := q (k - 1) (by omega); have e1 : k - 1 + 1 = k := (by omega); simp only [e1] at this; omega) (·.inc)
  simp only [↓zp, zz, zy, chkOk, Nat.reduceEqDiff, Nat.reduceAdd, Nat.reduceSub, Nat.reduceMul, Nat.reduceLT, Nat.reduceLeDiff, Int.reduceLT, Int.reduceLE, Int.reduceEq, Int.reduceAdd, Int.reduceNeg, reduceIte, r_st, r_nck, r_ix, r_iaa, takeN, VE.store, over, cellsAt, VE.part, blkX, gEval, fill, VE.unOp, resVs, resV, reduceCtorEq, c1, c5, hlt', ws, wp, ia1, ia2, hb, encA, e32, hle, ← e, frzB]
 ·simp only [↓zp, zz, zy, chkOk, Nat.reduceEqDiff, Nat.reduceAdd, Nat.reduceSub, Nat.reduceMul, Nat.reduceLT, Nat.reduceLeDiff, Int.reduceLT, Int.reduceLE, Int.reduceEq, Int.reduceAdd, Int.reduceNeg, reduceIte, r_st, r_nck, r_ix, r_iaa, takeN, VE.store, over, cellsAt, VE.part, blkX, gEval, fill, VE.unOp, resVs, resV, reduceCtorEq, c1, c5, hlt', ws, wp, ia1, ia2, hb, encA, e32, hle]
  refine ⟨_, by omega, k + 1, rfl, by omega, by simp only [zs, Nat.reduceEqDiff, c1], by simp only [zs, Nat.reduceEqDiff], rfl, fun j hj hj2 => ?_⟩
  rcases Nat.lt_or_ge (j + 1) k with q | q
  ·exact hinc j hj q
  ·have e1 : j = k - 1 := by omega
   subst e1
   have e2 : k - 1 + 1 = k := by omega
   simp only [e2]
   omega
end
end
end Go.VE.LB
