/- What the functions of the law ModelAdmits compute, on typed arguments (part 4). -/
import Derived.Test.YtnmneadmlcpaoaaModelAdmitsA3
set_option linter.all false
namespace Go.VE.LB
open Go Go.VE
set_option maxRecDepth 100000
set_option linter.all false
/-- the first place where something is so, or -1 -/
def fidx {α : Type} (q : α → Bool) : List α → Int
  | [] => -1
  | x :: l => if q x = true then 0 else if fidx q l < 0 then -1 else fidx q l + 1
theorem fidx_at {α : Type} {q : α → Bool} : ∀ {l : List α} {k : Nat} (hk : k < l.length), q l[k] = true → (∀ j (hj : j < l.length), j < k → q l[j] = false) → fidx q l = k
  | [], k, hk, _, _ => by simp at hk
  | x :: l, 0, hk, h1, _ => by
    have : q x = true := h1
    simp [fidx, this]
  | x :: l, k + 1, hk, h1, h2 => by
    have e0 : q x = false := h2 0 (by simp) (by omega)
    have e1 := fidx_at (l := l) (k := k) (by simpa using hk) (by simpa using h1) (fun j hj hjk => h2 (j + 1) (by simpa using hj) (by omega))
    simp only [fidx, e0, e1]
    rw [if_neg (by simp), if_neg (by omega)]
    omega
theorem fidx_none {α : Type} {q : α → Bool} : ∀ {l : List α}, (∀ j (hj : j < l.length), q l[j] = false) → fidx q l = -1
  | [], _ => rfl
  | x :: l, h => by
    have e0 : q x = false := h 0 (by simp)
    have e1 := fidx_none (l := l) (fun j hj => h (j + 1) (by simpa using hj))
    simp [fidx, e0, e1]
theorem fidx_any {α : Type} {q : α → Bool} : ∀ {l : List α}, decide (0 ≤ fidx q l) = l.any q
  | [] => rfl
  | x :: l => by
    have ih := fidx_any (q := q) (l := l)
    cases hq : q x with
    | true => simp [fidx, hq]
    | false =>
      simp only [fidx, hq, List.any_cons, Bool.false_or, ← ih]
      by_cases q2 : fidx q l < 0
      · simp [q2]
      · simp [q2]; omega
theorem fidx_range {α : Type} {q : α → Bool} : ∀ {l : List α}, -1 ≤ fidx q l ∧ fidx q l < l.length
  | [] => by simp [fidx]
  | x :: l => by
    have ih := fidx_range (q := q) (l := l)
    simp only [fidx, List.length_cons]
    split
    · omega
    · split <;> omega

def hgOk (h : Heap) (args : List V) (g : Heap) : Prop := (g = h0 ∧ isoArgs 1 args = some args) ∨ (g.nx = h.nx ∧ g.lo = h.nx ∧ ∀ b, g.get b = h.get b)

theorem find_at {α : Type} {q : α → Bool} : ∀ {l : List α} {k : Nat} (hk : k < l.length), q l[k] = true → (∀ j (hj : j < l.length), j < k → q l[j] = false) → l.find? q = some l[k]
  | [], k, hk, _, _ => by simp at hk
  | x :: l, 0, hk, h1, _ => by
    have : q x = true := h1
    simp [List.find?, this]
  | x :: l, k + 1, hk, h1, h2 => by
    have e0 : q x = false := h2 0 (by simp) (by omega)
    have e1 := find_at (l := l) (k := k) (by simpa using hk) (by simpa using h1) (fun j hj hjk => h2 (j + 1) (by simpa using hj) (by omega))
    simp only [List.find?, e0, e1, List.getElem_cons_succ]
theorem find_no {α : Type} {q : α → Bool} {l : List α} (h : ∀ j (hj : j < l.length), q l[j] = false) : l.find? q = none := by
  rw [List.find?_eq_none]
  intro x hx
  obtain ⟨j, hj, rfl⟩ := List.mem_iff_getElem.1 hx
  simp [h j hj]
theorem fidx_find {α : Type} {q : α → Bool} : ∀ (l : List α), (fidx q l < 0 ∧ l.find? q = none) ∨ ∃ (k : Nat) (hk : k < l.length), fidx q l = k ∧ l.find? q = some l[k]
  | [] => .inl ⟨by simp [fidx], rfl⟩
  | x :: l => by
    cases hq : q x with
    | true => exact .inr ⟨0, by simp, by simp [fidx, hq], by simp [List.find?, hq]⟩
    | false =>
      rcases fidx_find (q := q) l with ⟨h1, h2⟩ | ⟨k, hk, h1, h2⟩
      · exact .inl ⟨by simp [fidx, hq, h1], by simp [List.find?, hq, h2]⟩
      · refine .inr ⟨k + 1, by simpa using hk, ?_, by simp [List.find?, hq, h2]⟩
        have : ¬ (fidx q l < 0) := by omega
        simp only [fidx, hq, Bool.false_eq_true, if_false, this]
        omega
theorem iso_none {α : Type} {enc : α → List V} (c : Sl α) (f b o : Nat) : isoArgs 1 [c.v enc, .fn f [.ptr b o]] = none := by cases c <;> rfl
theorem hg_get {α : Type} {enc : α → List V} {c : Sl α} {f b o : Nat} {h g : Heap} (hg : hgOk h [c.v enc, .fn f [.ptr b o]] g) (i : Nat) : g.get i = h.get i := by
  rcases hg with ⟨_, hi⟩ | ⟨_, _, hg⟩
  · rw [iso_none] at hi; cases hi
  · exact hg i

theorem hlo {h g : Heap} {args : List V} (hg : hgOk h args g) : g.lo ≤ g.nx := by
  rcases hg with ⟨rfl, _⟩ | ⟨e1, e2, _⟩
  · exact Nat.le_refl _
  · omega
/-- a heap that keeps the blocks of another -/
structure Kp (g h : Heap) : Prop where
  lo : h.lo = g.lo
  nx : g.nx ≤ h.nx
  get : ∀ b, b < g.nx → h.get b = g.get b
theorem Kp.refl (g : Heap) : Kp g g := ⟨rfl, Nat.le_refl _, fun _ _ => rfl⟩
theorem Kp.trans {a b c : Heap} (x : Kp a b) (y : Kp b c) : Kp a c := ⟨y.lo.trans x.lo, Nat.le_trans x.nx y.nx, fun i hi => (y.get i (Nat.lt_of_lt_of_le hi x.nx)).trans (x.get i hi)⟩
theorem Kp.new {g h : Heap} (k : Kp g h) (x : Blk) : Kp g (h.new x) := ⟨k.lo, by have := k.nx; simp only [Heap.new]; omega, fun b hb => by rw [Heap.get_new, if_neg (by have := k.nx; omega), k.get b hb]⟩
theorem Kp.set {g h : Heap} (k : Kp g h) {b : Nat} (x : Blk) (hb : g.nx ≤ b) : Kp g (h.set b x) := ⟨k.lo, k.nx, fun c hc => by rw [Heap.get_set, if_neg (by omega), k.get c hc]⟩

section
variable {α : Type} {enc : α → List V} {sz : Nat}
/-- where cells are read -/
def El (g : Heap) (a : V) (cs : List V) : Prop := (∃ r, a = .iptr (cs ++ r)) ∨ ∃ b o all tag, a = .ptr b o ∧ g.get b = .cells all tag ∧ b < g.nx ∧ ∃ r, all.drop o = cs ++ r
theorem El.at {g h : Heap} {a : V} {cs : List V} (e : El g a cs) (k : Kp g h) : ∃ r, cellsAt h a = some (cs ++ r) := by
  rcases e with ⟨r, rfl⟩ | ⟨b, o, all, tag, rfl, h1, h2, r, h3⟩
  · exact ⟨r, rfl⟩
  · exact ⟨r, by simp only [cellsAt, k.get b h2, h1, h3]⟩
theorem takeN_app : ∀ (cs r : List V), takeN cs.length (cs ++ r) = some cs
  | [], _ => rfl
  | x :: l, r => by simp only [List.length_cons, List.cons_append, takeN, takeN_app l r]
theorem El.ld {g h : Heap} {a : V} {cs : List V} (e : El g a cs) (k : Kp g h) {n : Nat} (hn : cs.length = n) : r_ld (some n) a h = some (.agg cs, h) := by
  obtain ⟨r, e⟩ := e.at k
  subst hn
  simp only [r_ld, e, VE.part, takeN_app, Option.map_some]
theorem El.ld1 {g h : Heap} {a c : V} {cs : List V} (e : El g a (c :: cs)) (k : Kp g h) : r_ld none a h = some (c, h) := by
  obtain ⟨r, e⟩ := e.at k
  simp only [r_ld, e, VE.part, List.cons_append, Option.map_some]
theorem El.fa {g : Heap} {a : V} {cs : List V} (e : El g a cs) {n : Nat} (hn : n ≤ cs.length) : ∃ a', (∀ h, r_fa n a h = some (a', h)) ∧ El g a' (cs.drop n) := by
  rcases e with ⟨r, rfl⟩ | ⟨b, o, all, tag, rfl, h1, h2, r, h3⟩
  · exact ⟨_, fun h => rfl, .inl ⟨r, by rw [List.drop_append_of_le_length hn]⟩⟩
  · exact ⟨_, fun h => rfl, .inr ⟨b, o + n, all, tag, rfl, h1, h2, r, by rw [← List.drop_drop, h3, List.drop_append_of_le_length hn]⟩⟩
/-- a slice that reads as a list -/
def Rd (enc : α → List V) (sz : Nat) (g : Heap) (v : V) (l : List α) : Prop :=
  (∃ c : Sl α, v = c.v enc ∧ c.l = l) ∨ ∃ b o n c tag all r, v = .sl b o n c sz ∧ n = l.length ∧ g.get b = .cells all tag ∧ all.drop o = l.flatMap enc ++ r ∧ b < g.nx
theorem Rd.sl {g : Heap} (c : Sl α) : Rd enc sz g (c.v enc) c.l := .inl ⟨c, rfl, rfl⟩
theorem Rd.len {g : Heap} {v : V} {l : List α} (r : Rd enc sz g v l) (h : Heap) : r_len v h = some (.int .i64 l.length, h) := by
  rcases r with ⟨c, rfl, rfl⟩ | ⟨b, o, n, c, tag, all, r, rfl, rfl, _⟩
  · exact r_len_v
  · rfl
theorem Rd.ia {g : Heap} {v : V} {l : List α} (r : Rd enc sz g v l) (he : ∀ x, (enc x).length = sz) (hz : 0 < sz) {k : Nat} (hk : k < l.length) : ∃ a, (∀ h, r_ia sz v (.int .i64 (k : Int)) h = some (a, h)) ∧ El g a (enc l[k]) := by
  rcases r with ⟨c, rfl, rfl⟩ | ⟨b, o, n, c, tag, all, r, rfl, rfl, h1, h3, h2⟩
  · exact ⟨_, fun h => r_ia_v he hz hk rfl, .inl ⟨_, rfl⟩⟩
  · refine ⟨.ptr b (o + k * sz), fun h => ?_, .inr ⟨b, _, _, tag, rfl, h1, h2, (l.drop (k + 1)).flatMap enc ++ r, ?_⟩⟩
    · simp only [r_ia, asNatN, blt_dec, hk, decide_true, cond_true]
    · rw [← List.drop_drop, h3, List.drop_append_of_le_length (by rw [flat_len2 he]; exact Nat.mul_le_mul_right _ (by omega)), flat_drop he l k hk, List.append_assoc]
theorem Rd.keep {g h : Heap} {v : V} {l : List α} (r : Rd enc sz g v l) (k : Kp g h) : Rd enc sz h v l := by
  rcases r with ⟨c, rfl, rfl⟩ | ⟨b, o, n, c, tag, all, r, rfl, e, h1, h3, h2⟩
  · exact .sl c
  · exact .inr ⟨b, o, n, c, tag, all, r, rfl, e, by rw [k.get b h2, h1], h3, Nat.lt_of_lt_of_le h2 k.nx⟩
/-- into a pure function -/
theorem Rd.enter {h g : Heap} {v : V} {l : List α} (r : Rd enc sz h v l) {A : V → List V} (hg : hgOk h (A v) g) (hi : ∀ b o n c, isoArgs 1 (A (.sl b o n c sz)) = none) : Rd enc sz g v l := by
  rcases r with ⟨c, rfl, rfl⟩ | ⟨b, o, n, c, tag, all, r, rfl, e, h1, h3, h2⟩
  · exact .sl c
  · rcases hg with ⟨_, q⟩ | ⟨e1, e2, e3⟩
    · rw [hi] at q; cases q
    · exact .inr ⟨b, o, n, c, tag, all, r, rfl, e, by rw [e3, h1], h3, by rw [e1]; exact h2⟩
theorem Acc.rd {h : Heap} {v : V} {l : List α} (a : Acc enc sz h v l) : Rd enc sz h v l := by
  rcases a with ⟨rfl, rfl⟩ | ⟨b, rfl, _, h2, h3, _⟩
  · exact .inl ⟨.nil, rfl, rfl⟩
  · exact .inr ⟨b, _, _, _, _, _, [], rfl, rfl, h3, by simp, h2⟩
/-- values whose own rows are told whole -/
def FzV (h : Heap) (base N : Nat) (v v' : V) : Prop := ∀ n, N ≤ n → frz n h base false v = some v'
def FzL (h : Heap) (base N : Nat) (l l' : List V) : Prop := ∀ n, N ≤ n → frzs n h base false l = some l'
theorem FzV.scal {h : Heap} {base : Nat} {v : V} (hs : scal v = true) : FzV h base 1 v v := fun n hn => by
  obtain ⟨m, rfl⟩ : ∃ m, n = m + 1 := ⟨n - 1, by omega⟩
  exact frz_scal hs
theorem FzV.le {h : Heap} {base N M : Nat} {v v' : V} (f : FzV h base N v v') (hm : N ≤ M) : FzV h base M v v' := fun n hn => f n (by omega)
theorem FzL.nil {h : Heap} {base : Nat} : FzL h base 1 [] [] := fun n hn => by
  obtain ⟨m, rfl⟩ : ∃ m, n = m + 1 := ⟨n - 1, by omega⟩
  rfl
theorem FzL.cons {h : Heap} {base N M : Nat} {v v' : V} {l l' : List V} (f : FzV h base N v v') (g : FzL h base M l l') (hm : N ≤ M) : FzL h base (M + 1) (v :: l) (v' :: l') := fun n hn => by
  obtain ⟨m, rfl⟩ : ∃ m, n = m + 1 := ⟨n - 1, by omega⟩
  rw [frzs, f m (by omega), g m (by omega)]
theorem FzL.sc {h : Heap} {base M : Nat} {v : V} {l l' : List V} (hs : scal v = true) (g : FzL h base M l l') (hm : 1 ≤ M) : FzL h base (M + 1) (v :: l) (v :: l') := .cons (.scal hs) g hm
theorem FzV.agg {h : Heap} {base N : Nat} {l l' : List V} (f : FzL h base N l l') : FzV h base (N + 1) (.agg l) (.agg l') := fun n hn => by
  obtain ⟨m, rfl⟩ : ∃ m, n = m + 1 := ⟨n - 1, by omega⟩
  rw [frz, f m (by omega), Option.map_some]
theorem FzV.tup {h : Heap} {base N : Nat} {l l' : List V} (f : FzL h base N l l') : FzV h base (N + 1) (.tup l) (.tup l') := fun n hn => by
  obtain ⟨m, rfl⟩ : ∃ m, n = m + 1 := ⟨n - 1, by omega⟩
  rw [frz, f m (by omega), Option.map_some]
theorem FzV.row {h : Heap} {base b n c : Nat} {l : List α} {tag : Tag} (he : ∀ x, (enc x).length = sz) (hs : ∀ x, (enc x).all VE.scal = true) (hb : base ≤ b) (hn : n = l.length) (hg : h.get b = .cells (l.flatMap enc) tag) : ∃ o : Sl α, o.l = l ∧ FzV h base (l.length * sz + 4) (.sl b 0 n c sz) (o.v enc) := by
  subst hn
  refine ⟨.mk l (bif tag.opn && Nat.beq (0 + c * sz) (l.flatMap enc).length then none else some c), rfl, fun n hn => ?_⟩
  obtain ⟨m, rfl⟩ : ∃ m, n = m + 1 := ⟨n - 1, by omega⟩
  have hcl : (l.flatMap enc).length = l.length * sz := flat_len2 he l
  have ht : takeN (l.length * sz) ((l.flatMap enc).drop 0) = some (l.flatMap enc) := by rw [List.drop_zero, ← hcl]; exact takeN_all _
  have hlb : Nat.blt b base = false := by rw [blt_dec]; simp; omega
  have hf : frzs m h base true (l.flatMap enc) = some (l.flatMap enc) := frzs_scal _ (all_flat hs l) (by omega)
  simp only [Go.VE.frz, hlb, cond_false, hg, ht, hf, Sl.v]
theorem Acc.fz {h : Heap} {base : Nat} {v : V} {l : List α} (he : ∀ x, (enc x).length = sz) (hs : ∀ x, (enc x).all VE.scal = true) (a : Acc enc sz h v l) (hb : base ≤ h.lo) : ∃ o : Sl α, o.l = l ∧ FzV h base (l.length * sz + 4) v (o.v enc) := by
  rcases a with ⟨rfl, rfl⟩ | ⟨b, rfl, q1, q2, q3, q4⟩
  · exact ⟨.nil, rfl, FzV.le (.scal rfl) (by omega)⟩
  · exact FzV.row he hs (by omega) rfl q3
end
end Go.VE.LB
