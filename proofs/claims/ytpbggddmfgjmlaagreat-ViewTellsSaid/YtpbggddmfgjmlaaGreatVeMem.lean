/- A part of a proof that a small evaluator of the translated code agrees with the model (part Mem). No statement of the program stands here. -/
import Derived.Test.YtpbggddmfgjmlaaGreatVeCore
import Derived.Orders
import Derived.Below
import Derived.Laws.MakeOwn
import Derived.Laws.StructEq
set_option linter.all false
section
namespace Go.VE
structure Loc where
 blk : Nat
 base : Nat
 fin : Nat
 sz : Nat
 ex : Nat
abbrev Rho := Nat → Option Loc
abbrev Mem := Nat → Option (List Value)
def capR (l : Loc) (off cap sz cap' : Nat) : Prop :=
 (l.ex = 0 ∧ cap' = cap) ∨ (l.ex ≠ 0 ∧ off + cap * sz ≠ l.fin ∧ cap' = cap) ∨ (l.ex ≠ 0 ∧ off + cap * sz = l.fin ∧ sz = l.sz ∧ cap' = cap + l.ex)
theorem capR_le {l : Loc} {off cap sz cap' : Nat} (h : capR l off cap sz cap') : cap ≤ cap' := by
 rcases h with ⟨_, h⟩ | ⟨_, _, h⟩ | ⟨_, _, _, h⟩ <;> omega
mutual
def VRel (M : Mem) (ρ : Rho) : V → Value → Prop
 | .top, _ => True
 | .int k n, x => x = .int k n
 | .bool b, x => x = .bool b
 | .str s, x => x = .string ⟨s.toArray⟩
 | .ptr b off, x => ∃ l, ρ b = some l ∧ x = .pointer (some ⟨l.blk, l.base + off, none⟩)
 | .nilp, x => x = .pointer none
 | .sl b off len cap sz, x => ∃ l a cap', ρ b = some l ∧ x = .slice (some a) len cap' ∧ capR l off cap sz cap' ∧ (cap' = 0 ∨ a = ⟨l.blk, l.base + off, none⟩) ∧ len ≤ cap
 | .nils, x => x = .slice none 0 0
 | .isl cs len cap, x => ∃ a cap', x = .slice (some a) len cap' ∧ (∀ c, cap = some c → cap' = c) ∧ len ≤ cap' ∧
   (cs = [] ∨ ∃ row, M a.block = some row ∧ a.spot = none ∧ VRels M (fun _ => none) cs (row.drop a.off))
 | .iptr cs, x => ∃ a row, x = .pointer (some a) ∧ M a.block = some row ∧ a.spot = none ∧ VRels M (fun _ => none) cs (row.drop a.off)
 | .fn f caps, x => ∃ xs : List Value, x = .func (.func f) #[] xs.toArray ∧ caps.length = xs.length ∧ VRels M ρ caps xs
 | .yld b, x => ∃ l, ρ b = some l ∧ x = .func (.yield l.blk) #[] #[]
 | .nilf, x => x = .nilFunc
 | .ifc t v, x => ∃ y, x = .iface t y ∧ VRel M ρ v y
 | .nili, x => x = .nilIface
 | .agg cs, x => ∃ xs : List Value, x = .agg xs.toArray ∧ cs.length = xs.length ∧ VRels M ρ cs xs
 | .tup cs, x => ∃ xs : List Value, x = .tuple xs.toArray ∧ cs.length = xs.length ∧ VRels M ρ cs xs
 | .mp b, x => ∃ l, ρ b = some l ∧ x = .map (some l.blk)
 | .nilm, x => x = .map none
def VRels (M : Mem) (ρ : Rho) : List V → List Value → Prop
 | [], _ => True
 | v :: vs, xs => match xs with
  | [] => False
  | x :: xs => VRel M ρ v x ∧ VRels M ρ vs xs
end
theorem VRels.nil {M : Mem} {ρ : Rho} {xs : List Value} : VRels M ρ [] xs := by simp [VRels]
theorem VRels.cons_iff {M : Mem} {ρ : Rho} {v : V} {vs : List V} {xs : List Value} :
  VRels M ρ (v :: vs) xs ↔ ∃ x ys, xs = x :: ys ∧ VRel M ρ v x ∧ VRels M ρ vs ys := by
 cases xs with
 | nil => simp [VRels]
 | cons x xs =>
  simp only [VRels]
  constructor
  ·rintro ⟨h1, h2⟩
   exact ⟨x, xs, rfl, h1, h2⟩
  ·rintro ⟨y, ys, h, h1, h2⟩
   cases h
   exact ⟨h1, h2⟩
theorem VRels.length {M : Mem} {ρ : Rho} : ∀ {vs : List V} {xs : List Value}, VRels M ρ vs xs → vs.length ≤ xs.length
 | [], _, _ => by simp
 | v :: vs, xs, h => by
  obtain ⟨x, ys, rfl, _, h⟩ := VRels.cons_iff.1 h
  simpa using VRels.length h
theorem VRels.get {M : Mem} {ρ : Rho} : ∀ {vs : List V} {xs : List Value} (i : Nat) {v : V}, VRels M ρ vs xs → vs[i]? = some v → ∃ x, xs[i]? = some x ∧ VRel M ρ v x
 | [], _, _, _, _, h => by simp at h
 | v :: vs, xs, i, u, h, hi => by
  obtain ⟨x, ys, rfl, h1, h2⟩ := VRels.cons_iff.1 h
  cases i with
  | zero => simp at hi; subst hi; exact ⟨x, rfl, h1⟩
  | succ i => simpa using VRels.get i h2 (by simpa using hi)
theorem VRels.drop {M : Mem} {ρ : Rho} : ∀ {vs : List V} {xs : List Value} (n : Nat), VRels M ρ vs xs → VRels M ρ (vs.drop n) (xs.drop n)
 | [], _, _, _ => by simp [VRels.nil]
 | v :: vs, xs, 0, h => by simpa using h
 | v :: vs, xs, n + 1, h => by
  obtain ⟨x, ys, rfl, _, h⟩ := VRels.cons_iff.1 h
  simpa using VRels.drop n h
theorem VRels.append {M : Mem} {ρ : Rho} : ∀ {vs us : List V} {xs ys : List Value}, VRels M ρ vs xs → vs.length = xs.length → VRels M ρ us ys → VRels M ρ (vs ++ us) (xs ++ ys)
 | [], us, xs, ys, _, hl, h => by cases xs <;> simp_all
 | v :: vs, us, xs, ys, h, hl, h' => by
  obtain ⟨x, zs, rfl, h1, h2⟩ := VRels.cons_iff.1 h
  simp only [List.cons_append]
  exact VRels.cons_iff.2 ⟨x, zs ++ ys, rfl, h1, VRels.append h2 (by simpa using hl) h'⟩
theorem VRels.more {M : Mem} {ρ : Rho} : ∀ {vs : List V} {xs : List Value} (ys : List Value), VRels M ρ vs xs → VRels M ρ vs (xs ++ ys)
 | [], _, _, _ => VRels.nil
 | v :: vs, xs, ys, h => by
  obtain ⟨x, zs, rfl, h1, h2⟩ := VRels.cons_iff.1 h
  exact VRels.cons_iff.2 ⟨x, zs ++ ys, rfl, h1, VRels.more ys h2⟩
theorem VRels.take {M : Mem} {ρ : Rho} : ∀ {vs : List V} {xs : List Value} (n : Nat), VRels M ρ vs xs → vs.length ≤ n → VRels M ρ vs (xs.take n)
 | [], _, _, _, _ => VRels.nil
 | v :: vs, xs, 0, h, hn => by simp at hn
 | v :: vs, xs, n + 1, h, hn => by
  obtain ⟨x, zs, rfl, h1, h2⟩ := VRels.cons_iff.1 h
  exact VRels.cons_iff.2 ⟨x, zs.take n, by simp, h1, VRels.take n h2 (by simpa using hn)⟩
def Mle (M M' : Mem) : Prop := ∀ k cs, M k = some cs → M' k = some cs
def Rle (ρ ρ' : Rho) : Prop := ∀ b l, ρ b = some l → ρ' b = some l
theorem Mle.refl (M : Mem) : Mle M M := fun _ _ h => h
theorem Rle.refl (ρ : Rho) : Rle ρ ρ := fun _ _ h => h
theorem Mle.trans {A B C : Mem} (h : Mle A B) (k : Mle B C) : Mle A C := fun i c x => k i c (h i c x)
theorem Rle.trans {A B C : Rho} (h : Rle A B) (k : Rle B C) : Rle A C := fun i c x => k i c (h i c x)
mutual
theorem VRel.mono {M M' : Mem} (hM : Mle M M') : ∀ {ρ ρ' : Rho} (_ : Rle ρ ρ') (v : V) {x : Value}, VRel M ρ v x → VRel M' ρ' v x
 | _, _, _, .top, _, _ => by simp [VRel]
 | _, _, _, .int k n, _, h => by simpa [VRel] using h
 | _, _, _, .bool b, _, h => by simpa [VRel] using h
 | _, _, _, .str s, _, h => by simpa [VRel] using h
 | _, _, hρ, .ptr b off, _, h => by
  simp only [VRel] at h ⊢
  obtain ⟨l, h1, h2⟩ := h
  exact ⟨l, hρ _ _ h1, h2⟩
 | _, _, _, .nilp, _, h => by simpa [VRel] using h
 | _, _, hρ, .sl b off len cap sz, _, h => by
  simp only [VRel] at h ⊢
  obtain ⟨l, a, c, h1, h2⟩ := h
  exact ⟨l, a, c, hρ _ _ h1, h2⟩
 | _, _, _, .nils, _, h => by simpa [VRel] using h
 | _, _, _, .isl cs len cap, _, h => by
  simp only [VRel] at h ⊢
  obtain ⟨a, c, h1, h2, h3, h4⟩ := h
  refine ⟨a, c, h1, h2, h3, h4.imp id ?_⟩
  rintro ⟨row, k1, k2, k3⟩
  exact ⟨row, hM _ _ k1, k2, VRels.mono hM (Rle.refl _) cs k3⟩
 | _, _, _, .iptr cs, _, h => by
  simp only [VRel] at h ⊢
  obtain ⟨a, row, h1, k1, k2, k3⟩ := h
  exact ⟨a, row, h1, hM _ _ k1, k2, VRels.mono hM (Rle.refl _) cs k3⟩
 | _, _, hρ, .fn f caps, _, h => by
  simp only [VRel] at h ⊢
  obtain ⟨xs, h1, h2, h3⟩ := h
  exact ⟨xs, h1, h2, VRels.mono hM hρ caps h3⟩
 | _, _, hρ, .yld b, _, h => by
  simp only [VRel] at h ⊢
  obtain ⟨l, h1, h2⟩ := h
  exact ⟨l, hρ _ _ h1, h2⟩
 | _, _, _, .nilf, _, h => by simpa [VRel] using h
 | _, _, hρ, .ifc t v, _, h => by
  simp only [VRel] at h ⊢
  obtain ⟨y, h1, h2⟩ := h
  exact ⟨y, h1, VRel.mono hM hρ v h2⟩
 | _, _, _, .nili, _, h => by simpa [VRel] using h
 | _, _, hρ, .agg cs, _, h => by
  simp only [VRel] at h ⊢
  obtain ⟨xs, h1, h2, h3⟩ := h
  exact ⟨xs, h1, h2, VRels.mono hM hρ cs h3⟩
 | _, _, hρ, .tup cs, _, h => by
  simp only [VRel] at h ⊢
  obtain ⟨xs, h1, h2, h3⟩ := h
  exact ⟨xs, h1, h2, VRels.mono hM hρ cs h3⟩
 | _, _, hρ, .mp b, _, h => by
  simp only [VRel] at h ⊢
  obtain ⟨l, h1, h2⟩ := h
  exact ⟨l, hρ _ _ h1, h2⟩
 | _, _, _, .nilm, _, h => by simpa [VRel] using h
theorem VRels.mono {M M' : Mem} (hM : Mle M M') : ∀ {ρ ρ' : Rho} (_ : Rle ρ ρ') (vs : List V) {xs : List Value}, VRels M ρ vs xs → VRels M' ρ' vs xs
 | _, _, _, [], _, _ => VRels.nil
 | _, _, hρ, v :: vs, xs, h => by
  obtain ⟨x, ys, rfl, h1, h2⟩ := VRels.cons_iff.1 h
  exact VRels.cons_iff.2 ⟨x, ys, rfl, VRel.mono hM hρ v h1, VRels.mono hM hρ vs h2⟩
end
def FreeFrom (base : Nat) (fr : Nat × Nat) (size : Nat) : Prop := ∀ i, base ≤ i → i ≤ size → ¬ (fr.1 ≤ i ∧ i < fr.2)
def ERel (M : Mem) (ρ : Rho) : List (V × V × Nat) → List MapEntry → Prop
 | [], [] => True
 | e :: es, x :: xs => VRel M ρ e.1 x.key ∧ VRel M ρ e.2.1 x.val ∧ e.2.2 = x.born ∧ ERel M ρ es xs
 | _, _ => False
structure SRel (M : Mem) (ρ : Rho) (N : Nat) (s : Slots) (tm : Array Value) : Prop where
 size : N ≤ tm.size
 rel : ∀ i, VRel M ρ (s.at i) (tm.getD i undef)
def pendR : Option VX → Option Code → Prop
 | none, c => c = none
 | some .ret, c => c = some .ret
 | some (.exit i), c => c = some (.exit i)
 | some .norm, _ => False
def stR (st : Nat) (s : LoopState) : Prop := (st = 0 ∧ s = .ready) ∨ (st = 1 ∧ s = .busy) ∨ (st = 2 ∧ s = .done)
def TagR (l : Loc) (e : TypeId) (o : Tag) : Prop := (o.opn = false → l.ex = 0) ∧ (∀ t, o.ty = some t → e = t ∧ l.base = 0)
def BRel (P : Program) (gl : Nat → Option (List V)) (M : Mem) (ρ : Rho) (l : Loc) : Blk → Option Obj → Prop
 | .dead, _ => True
 | .cells c o, x => ∃ cur e fr, x = some (.cells cur e fr) ∧ FreeFrom l.base fr cur.size ∧ c.length = l.fin ∧ VRels M ρ c (cur.toList.drop l.base) ∧
   cur.size = l.base + l.fin + l.ex * l.sz ∧ TagR l e o
 | .siter s pos, x => x = some (.stringIter ⟨s.toArray⟩ pos) ∧ l.base = 0
 | .map es clock, x => ∃ xs : List MapEntry, x = some (.map xs.toArray clock) ∧ ERel M ρ es xs
 | .miter .., _ => False
 | .loop st pd tm ps asg body, x => ∃ (r : Loop) (pu : Nat → Nat) (N : Nat), x = some (.loop r) ∧ r.params.toList = ps ∧ comp P gl pu N r.assign = some asg ∧ comp P gl pu N r.body = some body ∧ noRF r.assign = true ∧ noRF r.body = true ∧
   (∀ t ∈ ps, t < N) ∧ SRel M ρ N tm r.tmps ∧ stR st r.state ∧ pendR pd r.pending
def live (h : Heap) (b : Nat) : Prop := h.get b ≠ .dead
structure HRel (P : Program) (gl : Nat → Option (List V)) (B : Nat) (M : Mem) (ρ : Rho) (h : Heap) (w : World) : Prop where
 bound : ∀ b l, ρ b = some l → b < h.nx
 blk : ∀ b l, ρ b = some l → BRel P gl M ρ l (h.get b) w.heap[l.blk]?
 inj : ∀ b b' l l', ρ b = some l → ρ b' = some l' → live h b → live h b' → l.blk = l'.blk → b = b'
 mem : ∀ k cs, M k = some cs → ∃ e fr, w.heap[k]? = some (.cells cs.toArray e fr)
 sep : ∀ b l, ρ b = some l → live h b → M l.blk = none
 base : ∀ b l, ρ b = some l → live h b → B ≤ l.blk
 fresh : ∀ b, h.nx ≤ b → h.get b = .dead
 room : B ≤ w.heap.size
 lonx : h.lo ≤ h.nx
 glob : ∀ g cs, gl g = some cs → ∃ row, M g = some row ∧ VRels M (fun _ => none) cs row
structure Evo (M : Mem) (ρ : Rho) (h : Heap) (w : World) (M' : Mem) (ρ' : Rho) (h' : Heap) (w' : World) : Prop where
 rho : Rle ρ ρ'
 mem : Mle M M'
 lo : h'.lo = h.lo
 nx : h.nx ≤ h'.nx
 os : w'.os = w.os
 tape : w'.tape = w.tape
 output : w'.output = w.output
 size : w.heap.size ≤ w'.heap.size
 wr : ∀ b l, ρ' b = some l → live h' b → h.lo ≤ b → (w.heap.size ≤ l.blk ∨ ∃ b0 l0, ρ b0 = some l0 ∧ live h b0 ∧ h.lo ≤ b0 ∧ l0.blk = l.blk)
 frame : ∀ k, k < w.heap.size → (∀ b l, ρ b = some l → live h b → h.lo ≤ b → l.blk ≠ k) → w'.heap[k]? = w.heap[k]?
 low : ∀ b l, ρ b = some l → b < h.lo → h'.get b = h.get b
 new : ∀ b l, ρ' b = some l → ρ b = none → h.nx ≤ b
 mnew : ∀ k cs, M' k = some cs → M k = some cs ∨ w.heap.size ≤ k
theorem Evo.refl (M : Mem) (ρ : Rho) (h : Heap) (w : World) : Evo M ρ h w M ρ h w where
 rho := Rle.refl _
 mem := Mle.refl _
 lo := rfl
 nx := Nat.le_refl _
 os := rfl
 tape := rfl
 output := rfl
 size := Nat.le_refl _
 wr := fun b l h1 h2 h3 => .inr ⟨b, l, h1, h2, h3, rfl⟩
 frame := fun _ _ _ => rfl
 low := fun _ _ _ _ => rfl
 new := fun b l h1 h2 => by rw [h2] at h1; cases h1
 mnew := fun _ _ q => .inl q
theorem Evo.trans {M M1 M2 : Mem} {ρ ρ1 ρ2 : Rho} {h h1 h2 : Heap} {w w1 w2 : World} (a : Evo M ρ h w M1 ρ1 h1 w1) (b : Evo M1 ρ1 h1 w1 M2 ρ2 h2 w2) :
  Evo M ρ h w M2 ρ2 h2 w2 where
 rho := a.rho.trans b.rho
 mem := a.mem.trans b.mem
 lo := b.lo.trans a.lo
 nx := Nat.le_trans a.nx b.nx
 os := b.os.trans a.os
 tape := b.tape.trans a.tape
 output := b.output.trans a.output
 size := Nat.le_trans a.size b.size
 wr := by
  intro i l e1 e2 e3
  rcases b.wr i l e1 e2 (by rw [a.lo]; exact e3) with k | ⟨b0, l0, f1, f2, f3, f4⟩
  ·exact .inl (Nat.le_trans a.size k)
  ·rcases a.wr b0 l0 f1 f2 (by rw [a.lo] at f3; exact f3) with k | ⟨b1, l1, g1, g2, g3, g4⟩
   ·exact .inl (by omega)
   ·exact .inr ⟨b1, l1, g1, g2, g3, g4.trans f4⟩
 frame := by
  intro k hk hno
  rw [b.frame k (Nat.lt_of_lt_of_le hk a.size) ?_, a.frame k hk hno]
  intro i l e1 e2 e3 e4
  rcases a.wr i l e1 e2 (by rw [a.lo] at e3; exact e3) with q | ⟨b0, l0, f1, f2, f3, f4⟩
  ·omega
  ·exact hno b0 l0 f1 f2 f3 (f4.trans e4)
 low := fun i l e hi => (b.low i l (a.rho i l e) (by rw [a.lo]; exact hi)).trans (a.low i l e hi)
 mnew := by
  intro k cs e
  rcases b.mnew k cs e with q | q
  ·exact a.mnew k cs q
  ·exact .inr (Nat.le_trans a.size q)
 new := by
  intro i l e1 e2
  cases e3 : ρ1 i with
  | none => exact Nat.le_trans a.nx (b.new i l e1 e3)
  | some l' => exact a.new i l' e3 e2
end Go.VE
end
section
namespace Go.VE
theorem beq_dec (a b : Nat) : Nat.beq a b = decide (a = b) := by
 rw [Bool.eq_iff_iff, Nat.beq_eq, decide_eq_true_iff]
theorem blt_dec (a b : Nat) : Nat.blt a b = decide (a < b) := by
 rw [Bool.eq_iff_iff, Nat.blt_eq, decide_eq_true_iff]
theorem ble_dec (a b : Nat) : Nat.ble a b = decide (a ≤ b) := by
 rw [Bool.eq_iff_iff, Nat.ble_eq, decide_eq_true_iff]
namespace Tr
variable {α : Type}
theorem get_lf (i : Nat) : (Tr.lf : Tr α).get i = none := by simp [get]
theorem get_setF : ∀ (f : Nat) (t : Tr α) (i : Nat) (x : α) (j : Nat), i < f → (setF f t i x).get j = if j = i then some x else t.get j
 | 0, _, _, _, _, h => by omega
 | f + 1, t, i, x, j, h => by
  have ih1 := fun (t : Tr α) (j : Nat) (hi : i / 2 < f) => get_setF f t (i / 2) x j hi
  have ih2 := fun (t : Tr α) (j : Nat) (hi : i / 2 - 1 < f) => get_setF f t (i / 2 - 1) x j hi
  by_cases h0 : i = 0
  ·subst h0
   cases t <;> by_cases hj : j = 0 <;> simp [setF, get, beq_dec, hj]
  ·have hi1 : i / 2 < f := by omega
   have hi2 : i / 2 - 1 < f := by omega
   by_cases hodd : i % 2 = 1
   ·cases t <;> by_cases hj : j = 0 <;> by_cases hjo : j % 2 = 1 <;> simp [setF, get, beq_dec, h0, hodd, hj, hjo, ih1 _ _ hi1, get_lf]
    all_goals (try omega)
    all_goals (first
     |(have : ¬ (0 = i) := by omega
       simp [this]; done)
     |(have e : (j / 2 = i / 2) = (j = i) := by apply propext; constructor <;> intro <;> omega
       simp [e]; done)
     |(have e : ¬ (j = i) := by omega
       simp [e]; done)
     | skip)
   ·cases t <;> by_cases hj : j = 0 <;> by_cases hjo : j % 2 = 1 <;> simp [setF, get, beq_dec, h0, hodd, hj, hjo, ih2 _ _ hi2, get_lf]
    all_goals (first
     |(have : ¬ (0 = i) := by omega
       simp [this]; done)
     |(have e : (j / 2 - 1 = i / 2 - 1) = (j = i) := by apply propext; constructor <;> intro <;> omega
       simp [e]; done)
     |(have e : ¬ (j = i) := by omega
       simp [e]; done)
     | skip)
theorem get_set (t : Tr α) (i : Nat) (x : α) (j : Nat) : (t.set i x).get j = if j = i then some x else t.get j :=
 get_setF (i + 1) t i x j (by omega)
end Tr
namespace Heap
theorem get_set (h : Heap) (b : Nat) (x : Blk) (c : Nat) : (h.set b x).get c = if c = b then x else h.get c := by
 unfold Heap.get Heap.set
 simp only [Tr.get_set]
 split <;> simp
theorem get_new (h : Heap) (x : Blk) (c : Nat) : (h.new x).get c = if c = h.nx then x else h.get c := by
 unfold Heap.get Heap.new
 simp only [Tr.get_set]
 split <;> simp
@[simp] theorem nx_set (h : Heap) (b : Nat) (x : Blk) : (h.set b x).nx = h.nx := rfl
@[simp] theorem lo_set (h : Heap) (b : Nat) (x : Blk) : (h.set b x).lo = h.lo := rfl
@[simp] theorem nx_new (h : Heap) (x : Blk) : (h.new x).nx = h.nx + 1 := rfl
@[simp] theorem lo_new (h : Heap) (x : Blk) : (h.new x).lo = h.lo := rfl
end Heap
theorem Slots.at_set (s : Slots) (i : Nat) (v : V) (j : Nat) : Slots.at (Tr.set s i v) j = if j = i then v else s.at j := by
 unfold Slots.at
 rw [Tr.get_set]
 split <;> simp
theorem SRel.mono {M M' : Mem} {ρ ρ' : Rho} {N : Nat} {s : Slots} {tm : Array Value} (h : SRel M ρ N s tm) (hM : Mle M M') (hρ : Rle ρ ρ') : SRel M' ρ' N s tm :=
 ⟨h.size, fun i => VRel.mono hM hρ _ (h.rel i)⟩
theorem SRel.put {M : Mem} {ρ : Rho} {N : Nat} {s : Slots} {tm : Array Value} (h : SRel M ρ N s tm) {d : Nat} (hd : d < N) {v : V} {x : Value} (hv : VRel M ρ v x) :
  SRel M ρ N (Tr.set s d v) (tm.setIfInBounds d x) := by
 refine ⟨by simpa using h.size, fun i => ?_⟩
 rw [Slots.at_set]
 by_cases hi : i = d
 ·subst hi
  have : i < tm.size := Nat.lt_of_lt_of_le hd h.size
  simpa [this] using hv
 ·rw [if_neg hi]
  have := h.rel i
  simpa [Array.getElem?_setIfInBounds_ne (Ne.symm hi)] using this
section
variable {P : Program} {gl : Nat → Option (List V)} {B : Nat} {M : Mem} {ρ : Rho} {h : Heap} {w : World}
theorem BRel.mono {M' : Mem} {ρ' : Rho} {l : Loc} (hM : Mle M M') (hρ : Rle ρ ρ') : ∀ {x : Blk} {o : Option Obj}, BRel P gl M ρ l x o → BRel P gl M' ρ' l x o
 | .dead, _, _ => by simp [BRel]
 | .cells c o, _, hb => by
  simp only [BRel] at hb ⊢
  obtain ⟨cur, e, fr, h1, h2, h3, h4, h5, h6⟩ := hb
  exact ⟨cur, e, fr, h1, h2, h3, VRels.mono hM hρ c h4, h5, h6⟩
 | .siter s pos, _, hb => by simpa [BRel] using hb
 | .map es clock, _, hb => by
  simp only [BRel] at hb ⊢
  obtain ⟨xs, h1, h2⟩ := hb
  refine ⟨xs, h1, ?_⟩
  clear h1
  induction es generalizing xs with
  | nil => cases xs <;> simp_all [ERel]
  | cons e es ih =>
   cases xs with
   | nil => simp [ERel] at h2
   | cons x xs =>
    simp only [ERel] at h2 ⊢
    exact ⟨VRel.mono hM hρ _ h2.1, VRel.mono hM hρ _ h2.2.1, h2.2.2.1, ih xs h2.2.2.2⟩
 | .miter .., _, hb => by simp [BRel] at hb
 | .loop .., _, hb => by
  obtain ⟨r, pu, N, h1, h2, h3, h4, h5, h6, h7, h8, h9⟩ := hb
  exact ⟨r, pu, N, h1, h2, h3, h4, h5, h6, h7, h8.mono hM hρ, h9⟩
theorem tagR_cl {l : Loc} {e : TypeId} (h : l.ex = 0) : TagR l e .cl := ⟨fun _ => h, fun _ q => by cases q⟩
theorem tagR_ct {l : Loc} {e : TypeId} (h : l.ex = 0) (hb : l.base = 0) : TagR l e (.ct e) := ⟨fun _ => h, fun _ q => by cases q; exact ⟨rfl, hb⟩⟩
theorem tagR_op {l : Loc} {e : TypeId} : TagR l e .op := ⟨fun q => by (cases q), fun _ q => by cases q⟩
theorem tagR_ot {l : Loc} {e : TypeId} (hb : l.base = 0) : TagR l e (.ot e) := ⟨fun q => by (cases q), fun _ q => by cases q; exact ⟨rfl, hb⟩⟩
theorem tagR_N {l : Loc} {e : TypeId} {tg : Option Nat} (h : ∀ t, tg = some t → t = e) (hb : l.base = 0) : TagR l e (tagN tg) := by
 cases tg with
 | none => exact tagR_op
 | some t => rw [h t rfl]; exact tagR_ot hb
theorem tagM_new {l : Loc} {e : TypeId} {o : Tag} {off : Nat} {tg : Option Nat} (h : ∀ t, tg = some t → t = e) (hb : l.base = 0) : TagR l e (tagM o off tg) := by
 cases tg with
 | none => exact tagR_op
 | some t =>
  simp only [tagM]
  split
  ·rw [Bool.cond_eq_ite]
   split
   ·rw [h t rfl]; exact tagR_ot hb
   ·exact tagR_op
  ·exact tagR_op
theorem tagM_stay {l l2 : Loc} {e : TypeId} {o : Tag} {off : Nat} {tg : Option Nat} (h : TagR l e o) (hb : l2.base = l.base + off) : TagR l2 e (tagM o off tg) := by
 cases tg with
 | none => exact tagR_op
 | some t =>
  simp only [tagM]
  split
  ·rename_i u hu
   rw [Bool.cond_eq_ite]
   split
   ·rename_i hq
    have hq : off = 0 ∧ u = t := by simpa using hq
    obtain ⟨h1, h2⟩ := h.2 u hu
    rw [h1, hq.2]
    exact tagR_ot (by omega)
   ·exact tagR_op
  ·exact tagR_op
theorem BRel.cells_iff {l : Loc} {c : List V} {o : Tag} {x : Option Obj} : BRel P gl M ρ l (.cells c o) x ↔ ∃ cur e fr, x = some (.cells cur e fr) ∧ FreeFrom l.base fr cur.size ∧ c.length = l.fin ∧ VRels M ρ c (cur.toList.drop l.base) ∧
   cur.size = l.base + l.fin + l.ex * l.sz ∧ TagR l e o := Iff.rfl
theorem HRel.drew (hh : HRel P gl B M ρ h w) : HRel P gl B M ρ h w.drew := ⟨hh.bound, hh.blk, hh.inj, hh.mem, hh.sep, hh.base, hh.fresh, hh.room, hh.lonx, hh.glob⟩
theorem Evo.drew {M' : Mem} {ρ' : Rho} {h' : Heap} {w' : World} (e : Evo M ρ h w M' ρ' h' w') : Evo M ρ h w M' ρ' h' w'.drew :=
 ⟨e.rho, e.mem, e.lo, e.nx, e.os, e.tape, e.output, e.size, e.wr, e.frame, e.low, e.new, e.mnew⟩
def Rho.add (ρ : Rho) (b : Nat) (l : Loc) : Rho := fun c => if c = b then some l else ρ c
theorem Rho.add_same (ρ : Rho) (b : Nat) (l : Loc) : ρ.add b l b = some l := by simp [Rho.add]
theorem HRel.none (hh : HRel P gl B M ρ h w) {b : Nat} (hb : h.nx ≤ b) : ρ b = none := by
 cases e : ρ b with
 | none => rfl
 | some l => have := hh.bound b l e; omega
theorem HRel.rle (hh : HRel P gl B M ρ h w) (l : Loc) : Rle ρ (ρ.add h.nx l) := by
 intro b l' e
 have : b ≠ h.nx := by have := hh.bound b l' e; omega
 simp [Rho.add, this, e]
theorem HRel.blkLt (hh : HRel P gl B M ρ h w) {b : Nat} {l : Loc} (e : ρ b = some l) (hl : live h b) : l.blk < w.heap.size := by
 have := hh.blk b l e
 rcases Nat.lt_or_ge l.blk w.heap.size with k | k
 ·exact k
 ·rw [Array.getElem?_eq_none k] at this
  unfold live at hl
  cases hg : h.get b <;> simp_all [BRel]
theorem HRel.memLt (hh : HRel P gl B M ρ h w) {k : Nat} {cs : List Value} (e : M k = some cs) : k < w.heap.size := by
 obtain ⟨e', fr, hk⟩ := hh.mem k cs e
 exact (Array.getElem?_eq_some_iff.1 hk).1
theorem HRel.new (hh : HRel P gl B M ρ h w) (x : Blk) (o : Obj) (l : Loc) (hl : l.blk = w.heap.size) (hx : BRel P gl M (ρ.add h.nx l) l x (some o)) :
  HRel P gl B M (ρ.add h.nx l) (h.new x) (w.alloc o) ∧ Evo M ρ h w M (ρ.add h.nx l) (h.new x) (w.alloc o) := by
 have hr := hh.rle l
 have old : ∀ b l', ρ.add h.nx l b = some l' → b ≠ h.nx → ρ b = some l' := fun b l' e hb => by simpa [Rho.add, hb] using e
 have lv : ∀ b, b ≠ h.nx → (live (h.new x) b ↔ live h b) := fun b hb => by simp [live, Heap.get_new, hb]
 constructor
 ·constructor
  ·intro b l' e
   by_cases hb : b = h.nx
   ·simp [hb]
   ·have := hh.bound b l' (old b l' e hb); simp; omega
  ·intro b l' e
   by_cases hb : b = h.nx
   ·subst hb
    rw [Rho.add_same] at e
    cases e
    rw [Heap.get_new, if_pos rfl, hl, heap_alloc_new]
    exact hx
   ·have e' := old b l' e hb
    rw [Heap.get_new, if_neg hb]
    by_cases hlv : live h b
    ·rw [heap_alloc_old _ _ _ (hh.blkLt e' hlv)]
     exact BRel.mono (Mle.refl _) hr (hh.blk b l' e')
    ·simp [live] at hlv
     simp [hlv, BRel]
  ·intro b b' l1 l2 e1 e2 v1 v2 heq
   by_cases hb : b = h.nx <;> by_cases hb' : b' = h.nx
   ·rw [hb, hb']
   ·subst hb
    rw [Rho.add_same] at e1
    cases e1
    have := hh.blkLt (old b' l2 e2 hb') ((lv b' hb').1 v2)
    omega
   ·subst hb'
    rw [Rho.add_same] at e2
    cases e2
    have := hh.blkLt (old b l1 e1 hb) ((lv b hb).1 v1)
    omega
   ·exact hh.inj b b' l1 l2 (old b l1 e1 hb) (old b' l2 e2 hb') ((lv b hb).1 v1) ((lv b' hb').1 v2) heq
  ·intro k cs e
   obtain ⟨e', fr, hk⟩ := hh.mem k cs e
   exact ⟨e', fr, by rw [heap_alloc_old _ _ _ (hh.memLt e)]; exact hk⟩
  ·intro b l' e v
   by_cases hb : b = h.nx
   ·subst hb
    rw [Rho.add_same] at e
    cases e
    cases hm : M l.blk with
    | none => rfl
    | some cs => have := hh.memLt hm; omega
   ·exact hh.sep b l' (old b l' e hb) ((lv b hb).1 v)
  ·intro b l' e v
   by_cases hb : b = h.nx
   ·subst hb
    rw [Rho.add_same] at e
    cases e
    have := hh.room
    omega
   ·exact hh.base b l' (old b l' e hb) ((lv b hb).1 v)
  ·intro b hb
   simp at hb
   rw [Heap.get_new, if_neg (by omega)]
   exact hh.fresh b (by omega)
  ·have := hh.room
   simp
   omega
  ·have := hh.lonx
   simp
   omega
  ·exact hh.glob
 ·refine ⟨hr, Mle.refl _, rfl, by simp, rfl, rfl, rfl, by simp, ?_, ?_, ?_, ?_, fun _ _ q => .inl q⟩
  ·intro b l' e v hlo
   by_cases hb : b = h.nx
   ·subst hb
    rw [Rho.add_same] at e
    cases e
    exact .inl (by omega)
   ·exact .inr ⟨b, l', old b l' e hb, (lv b hb).1 v, hlo, rfl⟩
  ·intro k hk _
   exact heap_alloc_old _ _ _ hk
  ·intro b _ _ hb
   rw [Heap.get_new]
   have := hh.lonx
   rw [if_neg (by omega)]
  ·intro b l' e e'
   by_cases hb : b = h.nx
   ·omega
   ·rw [old b l' e hb] at e'
    cases e'
theorem HRel.upd (hh : HRel P gl B M ρ h w) {b : Nat} {l : Loc} (e : ρ b = some l) (hlv : live h b) (hlo : h.lo ≤ b) (x : Blk) (w' : World)
  (hos : w'.os = w.os) (htape : w'.tape = w.tape) (hout : w'.output = w.output) (hsz : w'.heap.size = w.heap.size)
  (hoth : ∀ k, k ≠ l.blk → w'.heap[k]? = w.heap[k]?) (hx : BRel P gl M ρ l x w'.heap[l.blk]?) :
  HRel P gl B M ρ (h.set b x) w' ∧ Evo M ρ h w M ρ (h.set b x) w' := by
 have lv : ∀ c, live (h.set b x) c → live h c := by
  intro c hc
  by_cases hb : c = b
  ·rw [hb]; exact hlv
  ·simpa [live, Heap.get_set, hb] using hc
 constructor
 ·constructor
  ·intro c l' e'
   simpa using hh.bound c l' e'
  ·intro c l' e'
   rw [Heap.get_set]
   by_cases hb : c = b
   ·subst hb
    rw [e] at e'
    cases e'
    rw [if_pos rfl]
    exact hx
   ·rw [if_neg hb]
    by_cases hc : live h c
    ·have hne : l'.blk ≠ l.blk := fun q => hb (hh.inj c b l' l e' e hc hlv q)
     rw [hoth _ hne]
     exact hh.blk c l' e'
    ·simp [live] at hc
     simp [hc, BRel]
  ·intro c c' l1 l2 e1 e2 v1 v2 heq
   exact hh.inj c c' l1 l2 e1 e2 (lv c v1) (lv c' v2) heq
  ·intro k cs hk
   obtain ⟨e', fr, hk'⟩ := hh.mem k cs hk
   have hne : k ≠ l.blk := fun q => by have := hh.sep b l e hlv; rw [← q, hk] at this; cases this
   exact ⟨e', fr, by rw [hoth _ hne]; exact hk'⟩
  ·intro c l' e' v
   exact hh.sep c l' e' (lv c v)
  ·intro c l' e' v
   exact hh.base c l' e' (lv c v)
  ·intro c hc
   simp at hc
   have hb : c ≠ b := by have := hh.bound b l e; omega
   rw [Heap.get_set, if_neg hb]
   exact hh.fresh c hc
  ·rw [hsz]; exact hh.room
  ·simpa using hh.lonx
  ·exact hh.glob
 ·refine ⟨Rle.refl _, Mle.refl _, rfl, by simp, hos, htape, hout, by omega, ?_, ?_, ?_, ?_, fun _ _ q => .inl q⟩
  ·intro c l' e' v hc
   exact .inr ⟨c, l', e', lv c v, hc, rfl⟩
  ·intro k _ hno
   exact hoth k (fun q => hno b l e hlv hlo q.symm)
  ·intro c _ _ hc
   rw [Heap.get_set, if_neg (by omega)]
  ·intro c l' e1 e2
   rw [e1] at e2
   cases e2
theorem HRel.kill (hh : HRel P gl B M ρ h w) {b : Nat} {l : Loc} (e : ρ b = some l) (hlv : live h b) (hlo : h.lo ≤ b) :
  HRel P gl B M ρ (h.set b .dead) w ∧ Evo M ρ h w M ρ (h.set b .dead) w :=
 hh.upd e hlv hlo .dead w rfl rfl rfl rfl (fun _ _ => rfl) (by simp [BRel])
end
section
variable {P : Program} {gl : Nat → Option (List V)} {B : Nat} {M : Mem} {ρ : Rho} {h : Heap} {w : World}
theorem cell_of_obj {w : World} {g j : Nat} {cs : Array Value} {t : TypeId} {fr : Nat × Nat} (hg : w.heap[g]? = some (.cells cs t fr)) : w.cell? ⟨g, j, none⟩ = cs[j]? := by
 simp [World.cell?, hg]
theorem addr_add (g j i : Nat) : (⟨g, j, none⟩ : Addr).add i = ⟨g, j + i, none⟩ := by
 unfold Addr.add
 split
 ·rename_i e; subst e; rfl
 ·rfl
theorem cellsAt_rel (hh : HRel P gl B M ρ h w) {v : V} {x : Value} (hv : VRel M ρ v x) {cs : List V} (hc : cellsAt h v = some cs) :
  ∃ a row, x = .pointer (some a) ∧ a.spot = none ∧ VRels M ρ cs row ∧ ∀ i u, row[i]? = some u → w.cell? (a.add i) = some u := by
 cases v with
 | ptr b off =>
  simp only [cellsAt] at hc
  simp only [VRel] at hv
  obtain ⟨l, e, rfl⟩ := hv
  have hb := hh.blk b l e
  split at hc
  ·rename_i c o heq
   cases hc
   rw [heq] at hb
   simp only [BRel] at hb
   obtain ⟨cur, e', fr, h1, h2, h3, h4, h5, h6⟩ := hb
   refine ⟨_, (cur.toList.drop l.base).drop off, rfl, rfl, VRels.drop off h4, ?_⟩
   intro i u hu
   rw [addr_add, cell_of_obj h1]
   simpa [List.drop_drop, List.getElem?_drop, Nat.add_assoc] using hu
  ·cases hc
 | iptr c =>
  simp only [cellsAt] at hc
  cases hc
  simp only [VRel] at hv
  obtain ⟨a, row, rfl, h1, h2, h3⟩ := hv
  obtain ⟨e', fr, hk⟩ := hh.mem _ _ h1
  refine ⟨a, row.drop a.off, rfl, h2, VRels.mono (Mle.refl _) (fun _ _ q => by cases q) _ h3, ?_⟩
  intro i u hu
  obtain ⟨ab, ao, as⟩ := a
  cases h2
  rw [addr_add, cell_of_obj hk]
  simpa [List.getElem?_drop] using hu
 | _ => simp [cellsAt] at hc
theorem takeN_eq : ∀ (n : Nat) (l r : List V), takeN n l = some r → r = l.take n ∧ r.length = n
 | 0, _, r, h => by simp [takeN] at h; subst h; simp
 | n + 1, [], r, h => by simp [takeN] at h
 | n + 1, x :: xs, r, h => by
  simp only [takeN] at h
  split at h
  ·rename_i q hq
   cases h
   obtain ⟨h1, h2⟩ := takeN_eq n xs q hq
   exact ⟨by simp [h1], by simp [h2]⟩
  ·cases h
theorem VRels.takeN {vs us : List V} {xs : List Value} {n : Nat} (h : VRels M ρ vs xs) (hn : Go.VE.takeN n vs = some us) : VRels M ρ us (xs.take n) ∧ us.length = n ∧ (xs.take n).length = n := by
 obtain ⟨rfl, hl⟩ := takeN_eq n vs us hn
 have hlen : n ≤ vs.length := by simp at hl; omega
 have hx := h.length
 refine ⟨?_, hl, by simp; omega⟩
 have key : ∀ (n : Nat) (vs : List V) (xs : List Value), VRels M ρ vs xs → VRels M ρ (vs.take n) (xs.take n) := by
  intro n
  induction n with
  | zero => intro vs xs _; simp [VRels.nil]
  | succ n ih =>
   intro vs xs h
   cases vs with
   | nil => simp [VRels.nil]
   | cons v vs =>
    obtain ⟨x, ys, rfl, h1, h2⟩ := VRels.cons_iff.1 h
    simp only [List.take_succ_cons]
    exact VRels.cons_iff.2 ⟨x, _, rfl, h1, ih vs ys h2⟩
 exact key n vs xs h
theorem rowOf_rel (hh : HRel P gl B M ρ h w) {v : V} {x : Value} (hv : VRel M ρ v x) {sz : Nat} {cs : List V} {n : Nat} (hc : rowOf h sz v = some cs) (hn : lenOf v = some n) (hl : cs.length = n * sz) :
  ∃ ba cap row, x = .slice ba n cap ∧ VRels M ρ cs row ∧ row.length = n * sz ∧ (ba = none → n = 0) ∧ ∀ a, ba = some a → ∀ i u, row[i]? = some u → w.cell? (a.add i) = some u := by
 cases v with
 | sl b off len cap sz' =>
  simp only [rowOf] at hc
  simp only [lenOf, Option.some.injEq] at hn
  subst hn
  simp only [VRel] at hv
  obtain ⟨l, a, cap', e, rfl, h1, h2, h2'⟩ := hv
  by_cases hsz : sz = sz'
  ·subst hsz
   simp only [beq_dec, decide_true, cond_true] at hc
   have hb := hh.blk b l e
   split at hc
   ·rename_i c o heq
    rw [heq] at hb
    simp only [BRel] at hb
    obtain ⟨cur, e', fr, k1, k2, k3, k4, k5, k6⟩ := hb
    obtain ⟨q1, q2, q3⟩ := VRels.takeN (VRels.drop off k4) hc
    refine ⟨some a, cap', _, rfl, q1, by rw [q3], by simp, ?_⟩
    rintro a' rfl' i u hu
    cases rfl'
    have hi : i < len * sz := by
     have := (List.getElem?_eq_some_iff.1 hu).1
     rw [q3] at this
     exact this
    rcases h2 with h2 | h2
    ·exfalso
     have := capR_le h1
     have : len = 0 := by omega
     subst this
     omega
    ·subst h2
     rw [addr_add, cell_of_obj k1]
     rw [List.getElem?_take, if_pos hi] at hu
     simpa [List.drop_drop, List.getElem?_drop, Nat.add_assoc] using hu
   ·cases hc
  ·simp [beq_dec, hsz] at hc
 | nils =>
  simp only [rowOf, Option.some.injEq] at hc
  simp only [lenOf, Option.some.injEq] at hn
  subst hc hn
  simp only [VRel] at hv
  subst hv
  exact ⟨none, 0, [], rfl, VRels.nil, by simp, by simp, by simp⟩
 | isl c len cap =>
  simp only [rowOf] at hc
  simp only [lenOf, Option.some.injEq] at hn
  subst hn
  simp only [VRel] at hv
  obtain ⟨a, cap', rfl, h1, h2, h3⟩ := hv
  by_cases hq : c.length = len * sz
  ·simp only [beq_dec, hq, decide_true, cond_true, Option.some.injEq] at hc
   subst hc
   rcases h3 with rfl | ⟨row, k1, k2, k3⟩
   ·refine ⟨some a, cap', [], rfl, VRels.nil, by simpa using hl, by simp, by simp⟩
   ·obtain ⟨e', fr, hk⟩ := hh.mem _ _ k1
    have hlen := k3.length
    refine ⟨some a, cap', (row.drop a.off).take c.length, rfl, VRels.mono (Mle.refl _) (fun _ _ q => by cases q) _ (VRels.take _ k3 (Nat.le_refl _)), ?_, by simp, ?_⟩
    ·rw [List.length_take, hl] at *
     omega
    ·rintro a' rfl' i u hu
     cases rfl'
     obtain ⟨ab, ao, as⟩ := a
     cases k2
     rw [addr_add, cell_of_obj hk]
     rw [List.getElem?_take] at hu
     split at hu
     ·simpa [List.getElem?_drop] using hu
     ·cases hu
  ·simp [beq_dec, hq] at hc
 | _ => simp [rowOf] at hc
theorem rowOf_len {v : V} {sz : Nat} {cs : List V} {n : Nat} (hc : rowOf h sz v = some cs) (hn : lenOf v = some n) : cs.length = n * sz := by
 cases v with
 | sl b off len cap sz' =>
  simp only [rowOf] at hc
  simp only [lenOf, Option.some.injEq] at hn
  subst hn
  by_cases hsz : sz = sz'
  ·subst hsz
   simp only [beq_dec, decide_true, cond_true] at hc
   split at hc
   ·exact (takeN_eq _ _ _ hc).2
   ·cases hc
  ·simp [beq_dec, hsz] at hc
 | nils =>
  simp only [rowOf, Option.some.injEq] at hc
  simp only [lenOf, Option.some.injEq] at hn
  subst hc hn
  simp
 | isl c len cap =>
  simp only [rowOf] at hc
  simp only [lenOf, Option.some.injEq] at hn
  subst hn
  by_cases hq : c.length = len * sz
  ·simp only [beq_dec, hq, decide_true, cond_true, Option.some.injEq] at hc
   subst hc
   exact hq
  ·simp [beq_dec, hq] at hc
 | _ => simp [rowOf] at hc
end
end Go.VE
end
section
namespace Go.VE
theorem opd_congr {s t : Slots} {x : Opd} (h : ∀ i ∈ opdR x, s.at i = t.at i) : x.ev s = x.ev t := by
 cases x with
 | t i => exact h i (by simp [opdR])
 | k v => rfl
theorem opds_congr {s t : Slots} : ∀ {xs : List Opd}, (∀ i ∈ opdsR xs, s.at i = t.at i) → evs s xs = evs t xs
 | [], _ => rfl
 | x :: r, h => by
  simp only [opdsR, List.mem_append] at h
  simp only [evs, List.map_cons]
  rw [opd_congr (x := x) (fun i hi => h i (.inl hi))]
  have := opds_congr (xs := r) (fun i hi => h i (.inr hi))
  simp only [evs] at this
  rw [this]
theorem opdo_congr {s t : Slots} {x : Option Opd} (h : ∀ i ∈ opdoR x, s.at i = t.at i) : evo s x = evo t x := by
 cases x with
 | none => rfl
 | some x => simp [evo, opd_congr (x := x) h]
theorem ps_congr {s t : Slots} : ∀ {ps : List (Nat × Nat × Opd)}, (∀ i ∈ psR ps, s.at i = t.at i) →
  (ps.map fun p => (p.1, p.2.1, p.2.2.ev s)) = (ps.map fun p => (p.1, p.2.1, p.2.2.ev t))
 | [], _ => rfl
 | x :: r, h => by
  simp only [psR, List.mem_append] at h
  simp only [List.map_cons]
  rw [opd_congr (x := x.2.2) (fun i hi => h i (.inl hi)), ps_congr (ps := r) (fun i hi => h i (.inr hi))]
theorem opE_congr {s t : Slots} {h : Heap} {o : VOp} (hr : ∀ i ∈ rdOp o, s.at i = t.at i) : opE o s h = opE o t h := by
 cases o <;> simp only [rdOp, List.mem_append] at hr <;> simp only [opE]
 case mv x => simp only [op_mv, opd_congr hr]
 case pick c a b => simp only [op_pick, opd_congr (x := c) (fun i q => hr i (.inl q)), opd_congr (x := a) (fun i q => hr i (.inr (.inl q))), opd_congr (x := b) (fun i q => hr i (.inr (.inr q)))]
 case alloc t z => simp only [op_alloc]
 case box n x => simp only [op_box, opd_congr hr]
 case build z ps => simp only [op_build, ps_congr hr]
 case bsl n sz z ps => simp only [op_bsl, ps_congr hr]
 case ld n a => simp only [op_ld, opd_congr hr]
 case st n a x => simp only [op_st, opd_congr (x := a) (fun i q => hr i (.inl q)), opd_congr (x := x) (fun i q => hr i (.inr q))]
 case nck x => simp only [op_nck, opd_congr hr]
 case bin op x y => simp only [op_bin, opd_congr (x := x) (fun i q => hr i (.inl q)), opd_congr (x := y) (fun i q => hr i (.inr q))]
 case eqb neg x y => simp only [op_eqb, opd_congr (x := x) (fun i q => hr i (.inl q)), opd_congr (x := y) (fun i q => hr i (.inr q))]
 case eqn neg k x y => simp only [op_eqn, opd_congr (x := x) (fun i q => hr i (.inl q)), opd_congr (x := y) (fun i q => hr i (.inr q))]
 case eqa neg ks x y => simp only [op_eqa, opd_congr (x := x) (fun i q => hr i (.inl q)), opd_congr (x := y) (fun i q => hr i (.inr q))]
 case un op x => simp only [op_un, opd_congr hr]
 case cnv k x => simp only [op_cnv, opd_congr hr]
 case mkf f xs => simp only [op_mkf, opds_congr hr]
 case mks e b z x y => simp only [op_mks, opd_congr (x := x) (fun i q => hr i (.inl q)), opd_congr (x := y) (fun i q => hr i (.inr q))]
 case slc sz x lo hi mx => simp only [op_slc, opd_congr (x := x) (fun i q => hr i (.inl q)), opdo_congr (x := lo) (fun i q => hr i (.inr (.inl q))), opdo_congr (x := hi) (fun i q => hr i (.inr (.inr (.inl q)))), opdo_congr (x := mx) (fun i q => hr i (.inr (.inr (.inr q))))]
 case slca n sz x lo hi mx => simp only [op_slca, opd_congr (x := x) (fun i q => hr i (.inl q)), opdo_congr (x := lo) (fun i q => hr i (.inr (.inl q))), opdo_congr (x := hi) (fun i q => hr i (.inr (.inr (.inl q)))), opdo_congr (x := mx) (fun i q => hr i (.inr (.inr (.inr q))))]
 case fa off x => simp only [op_fa, opd_congr hr]
 case fld off n x => simp only [op_fld, opd_congr hr]
 case ia sz x y => simp only [op_ia, opd_congr (x := x) (fun i q => hr i (.inl q)), opd_congr (x := y) (fun i q => hr i (.inr q))]
 case iaa n sz x y => simp only [op_iaa, opd_congr (x := x) (fun i q => hr i (.inl q)), opd_congr (x := y) (fun i q => hr i (.inr q))]
 case ix l sz n x y => simp only [op_ix, opd_congr (x := x) (fun i q => hr i (.inl q)), opd_congr (x := y) (fun i q => hr i (.inr q))]
 case ext i x => simp only [op_ext, opd_congr hr]
 case len x => simp only [op_len, opd_congr hr]
 case lenc n => simp only [op_lenc]
 case app sz b x y => simp only [op_app, opd_congr (x := x) (fun i q => hr i (.inl q)), opd_congr (x := y) (fun i q => hr i (.inr q))]
 case cpy sz x y => simp only [op_cpy, opd_congr (x := x) (fun i q => hr i (.inl q)), opd_congr (x := y) (fun i q => hr i (.inr q))]
 case mini xs => simp only [op_mini, opds_congr hr]
 case maxi xs => simp only [op_maxi, opds_congr hr]
 case mkif t x => simp only [op_mkif, opd_congr hr]
theorem map_pair {α β : Type} {x : Option α} {v' : α} {h h' : β} (e : x.map (fun v => (v, h)) = some (v', h')) : x = some v' ∧ h' = h := by
 cases x with
 | none => cases e
 | some z => cases e; exact ⟨rfl, rfl⟩
theorem kind0 {o : VOp} {s : Slots} {h h' : Heap} {v : V} (hk : kindOf o = 0) (he : opE o s h = some (v, h')) : h' = h ∧ ∀ h2, opE o s h2 = some (v, h2) := by
 cases o <;> simp only [kindOf] at hk <;> (try cases hk) <;> simp only [opE] at he ⊢
 case mv x => cases he; exact ⟨rfl, fun _ => rfl⟩
 case pick c a b =>
  simp only [op_pick] at he ⊢
  split at he <;> cases he <;> exact ⟨rfl, fun _ => rfl⟩
 case build z ps =>
  simp only [op_build] at he ⊢
  cases hf : fill z (ps.map fun p => (p.1, p.2.1, p.2.2.ev s)) with
  | none => rw [hf] at he; cases he
  | some cs => rw [hf] at he; cases he; exact ⟨rfl, fun _ => rfl⟩
 case nck x =>
  simp only [op_nck] at he ⊢
  split at he <;> cases he <;> exact ⟨rfl, fun _ => rfl⟩
 case bin op x y =>
  simp only [op_bin] at he ⊢
  obtain ⟨e, rfl⟩ := map_pair he
  exact ⟨rfl, fun _ => by rw [e]; rfl⟩
 case eqb neg x y =>
  simp only [op_eqb] at he ⊢
  split at he <;> cases he <;> exact ⟨rfl, fun _ => rfl⟩
 case eqn neg k x y =>
  simp only [op_eqn] at he ⊢
  split at he <;> cases he <;> exact ⟨rfl, fun _ => rfl⟩
 case eqa neg ks x y =>
  simp only [op_eqa] at he ⊢
  split at he
  ·cases hb : (Nat.beq _ ks.length && Nat.beq _ ks.length) with
   | false => rw [hb] at he; cases he
   | true =>
    rw [hb] at he
    simp only [cond_true] at he ⊢
    split at he <;> cases he <;> exact ⟨rfl, fun _ => rfl⟩
  ·cases he
 case un op x =>
  simp only [op_un] at he ⊢
  obtain ⟨e, rfl⟩ := map_pair he
  exact ⟨rfl, fun _ => by rw [e]; rfl⟩
 case cnv k x =>
  simp only [op_cnv] at he ⊢
  split at he <;> cases he <;> exact ⟨rfl, fun _ => rfl⟩
 case mkf f xs => cases he; exact ⟨rfl, fun _ => rfl⟩
 case fa off x =>
  simp only [op_fa] at he ⊢
  split at he <;> cases he <;> exact ⟨rfl, fun _ => rfl⟩
 case fld off n x =>
  simp only [op_fld] at he ⊢
  split at he
  ·obtain ⟨e, rfl⟩ := map_pair he
   exact ⟨rfl, fun _ => by rw [e]; rfl⟩
  ·cases he
 case ia sz x i =>
  simp only [op_ia] at he ⊢
  split at he
  ·rename_i i' b off len _ _ _ _
   cases hb : Nat.blt i' len with
   | false => rw [hb] at he; cases he
   | true => rw [hb] at he; cases he; exact ⟨rfl, fun _ => rfl⟩
  ·rename_i i' cs len _ _ _
   cases hb : (Nat.blt i' len && Nat.blt (i' * sz) cs.length) with
   | false => rw [hb] at he; cases he
   | true => rw [hb] at he; cases he; exact ⟨rfl, fun _ => rfl⟩
  ·cases he
 case iaa len sz x i =>
  simp only [op_iaa] at he ⊢
  split at he
  ·rename_i i' b off _ _
   cases hb : Nat.blt i' len with
   | false => rw [hb] at he; cases he
   | true => rw [hb] at he; cases he; exact ⟨rfl, fun _ => rfl⟩
  ·rename_i i' cs _ _
   cases hb : Nat.blt i' len with
   | false => rw [hb] at he; cases he
   | true => rw [hb] at he; cases he; exact ⟨rfl, fun _ => rfl⟩
  ·cases he
 case ix len sz n x i =>
  simp only [op_ix] at he ⊢
  split at he
  ·rename_i i' cs _ _
   cases hb : Nat.blt i' len with
   | false => rw [hb] at he; cases he
   | true =>
    rw [hb] at he
    obtain ⟨e, rfl⟩ := map_pair he
    exact ⟨rfl, fun _ => by rw [e]; rfl⟩
  ·cases he
 case ext i x =>
  simp only [op_ext] at he ⊢
  split at he
  ·obtain ⟨e, rfl⟩ := map_pair he
   exact ⟨rfl, fun _ => by rw [e]; rfl⟩
  ·cases he
 case len x =>
  simp only [op_len] at he ⊢
  split at he
  ·cases he
  ·split at he <;> cases he
   exact ⟨rfl, fun _ => rfl⟩
 case lenc n => cases he; exact ⟨rfl, fun _ => rfl⟩
 case mini xs =>
  simp only [op_mini] at he ⊢
  split at he
  ·obtain ⟨e, rfl⟩ := map_pair he
   exact ⟨rfl, fun _ => by rw [e]; rfl⟩
  ·cases he
 case maxi xs =>
  simp only [op_maxi] at he ⊢
  split at he
  ·obtain ⟨e, rfl⟩ := map_pair he
   exact ⟨rfl, fun _ => by rw [e]; rfl⟩
  ·cases he
 case mkif t x => cases he; exact ⟨rfl, fun _ => rfl⟩
 case st n a x => cases a <;> simp [kSt] at hk
 case ld n a =>
  cases a with
  | t i => cases hk
  | k u =>
   simp only [op_ld, Opd.ev] at he ⊢
   cases u with
   | iptr cs =>
    simp only [cellsAt] at he ⊢
    obtain ⟨e, rfl⟩ := map_pair he
    exact ⟨rfl, fun _ => by rw [e]; rfl⟩
   | _ => simp [kLd] at hk
 case slc sz x lo hi mx =>
  cases mx with
  | some m => cases hk
  | none =>
   simp only [op_slc, evo, Option.map_none] at he ⊢
   obtain ⟨e, rfl⟩ := map_pair he
   refine ⟨rfl, fun h2 => ?_⟩
   have : ∀ h1 : Heap, sliceV h1 sz (x.ev s) (lo.map (Opd.ev s)) (hi.map (Opd.ev s)) none = sliceV h' sz (x.ev s) (lo.map (Opd.ev s)) (hi.map (Opd.ev s)) none := by
    intro h1
    unfold sliceV
    rfl
   rw [this h2, e]
   rfl
theorem kind1 {o : VOp} {s : Slots} {h h' : Heap} {v : V} (hk : kindOf o = 1) (he : opE o s h = some (v, h')) : ∃ x, h' = h.new x ∧ ∀ h2 : Heap, h2.nx = h.nx → opE o s h2 = some (v, h2.new x) := by
 cases o <;> simp only [kindOf] at hk <;> (try cases hk) <;> simp only [opE] at he ⊢
 case alloc t z => cases he; exact ⟨_, rfl, fun h2 e => by simp only [op_alloc, e]⟩
 case box n x =>
  simp only [op_box] at he ⊢
  split at he
  ·rename_i l _
   cases hb : Nat.beq l.length n with
   | false => rw [hb] at he; cases he
   | true => rw [hb] at he; cases he; exact ⟨_, rfl, fun h2 e => by simp only [e, cond_true]⟩
  ·cases he
 case bsl n sz z ps =>
  simp only [op_bsl] at he ⊢
  cases hf : fill z (ps.map fun p => (p.1, p.2.1, p.2.2.ev s)) with
  | none => rw [hf] at he; cases he
  | some cs => rw [hf] at he; cases he; exact ⟨_, rfl, fun h2 e => by simp only [Option.map_some, e]⟩
 case mks t b z x y =>
  simp only [op_mks] at he ⊢
  split at he
  ·rename_i l c _ _
   cases hb : (Nat.ble l c && Nat.ble (c * b) 140737488355328 && Nat.ble c 9223372036854775807) with
   | false => rw [hb] at he; cases he
   | true => rw [hb] at he; cases he; exact ⟨_, rfl, fun h2 e => by simp only [e, cond_true]⟩
  ·cases he
 case slc sz x lo hi mx => cases mx <;> simp [kMx] at hk
 case ld n a => cases a with
  | t i => simp [kLd] at hk
  | k u => cases u <;> simp [kLd] at hk
 case st n a x => cases a <;> simp [kSt] at hk
theorem kind2_is {o : VOp} (hk : kindOf o = 2) : ∃ n i, o = .ld n (.t i) := by
 cases o <;> simp only [kindOf] at hk <;> (try cases hk)
 case slc sz x lo hi mx => cases mx <;> simp [kMx] at hk
 case ld n a => cases a with
  | t i => exact ⟨n, i, rfl⟩
  | k u => cases u <;> simp [kLd] at hk
 case st n a x => cases a <;> simp [kSt] at hk
theorem kind3_is {o : VOp} (hk : kindOf o = 3) : ∃ n i x, o = .st n (.t i) x := by
 cases o <;> simp only [kindOf] at hk <;> (try cases hk)
 case slc sz x lo hi mx => cases mx <;> simp [kMx] at hk
 case ld n a => cases a with
  | t i => simp [kLd] at hk
  | k u => cases u <;> simp [kLd] at hk
 case st n a x => cases a with
  | t i => exact ⟨n, i, x, rfl⟩
  | k u => simp [kSt] at hk
theorem kind2 {n : Option Nat} {i : Nat} {s : Slots} {h h' : Heap} {v : V} (he : opE (.ld n (.t i)) s h = some (v, h')) : h' = h ∧
  ((∃ b off, s.at i = .ptr b off ∧ (∃ c o, h.get b = .cells c o) ∧ ∀ h2 : Heap, h2.get b = h.get b → opE (.ld n (.t i)) s h2 = some (v, h2)) ∨ ((∀ b off, s.at i ≠ .ptr b off) ∧ ∀ h2 : Heap, opE (.ld n (.t i)) s h2 = some (v, h2))) := by
 simp only [opE, op_ld, Opd.ev] at he ⊢
 cases hv : s.at i with
 | ptr b off =>
  rw [hv] at he
  simp only [cellsAt] at he ⊢
  cases hg : h.get b with
  | cells c o =>
   rw [hg] at he
   simp only at he
   obtain ⟨e, rfl⟩ := map_pair he
   refine ⟨rfl, .inl ⟨b, off, rfl, ⟨c, o, hg⟩, fun h2 e2 => ?_⟩⟩
   rw [e2, hg]
   show Option.map (fun v => (v, h2)) (part n (List.drop off c)) = some (v, h2)
   rw [e]
   rfl
  | _ => rw [hg] at he; cases he
 | iptr cs =>
  rw [hv] at he
  simp only [cellsAt] at he ⊢
  obtain ⟨e, rfl⟩ := map_pair he
  refine ⟨rfl, .inr ⟨fun _ _ q => (by cases q), fun h2 => ?_⟩⟩
  rw [e]
  rfl
 | _ => rw [hv] at he; simp [cellsAt] at he
theorem kind3 {n : Nat} {i : Nat} {x : Opd} {s : Slots} {h h' : Heap} {v : V} (he : opE (.st n (.t i) x) s h = some (v, h')) :
  ∃ b off, s.at i = .ptr b off ∧ ((n = 0 ∧ h' = h ∧ ∀ h2 : Heap, opE (.st n (.t i) x) s h2 = some (v, h2)) ∨ (n ≠ 0 ∧ h.lo ≤ b ∧ (∃ c o, h.get b = .cells c o) ∧ ∃ y, h' = h.set b y ∧ y ≠ .dead ∧
   ∀ h2 : Heap, h2.get b = h.get b → h2.lo = h.lo → opE (.st n (.t i) x) s h2 = some (v, h2.set b y))) := by
 simp only [opE, op_st, Opd.ev] at he ⊢
 split at he
 ·rename_i l hl
  cases hb : Nat.beq l.length n with
  | false => rw [hb] at he; cases he
  | true =>
   rw [hb] at he
   simp only [cond_true] at he
   split at he
   ·rename_i b off ha
    refine ⟨b, off, ha, ?_⟩
    cases l with
    | nil =>
     simp only [store, Option.map_some] at he ⊢
     cases he
     rw [beq_dec] at hb
     exact .inl ⟨by simpa using (of_decide_eq_true hb).symm, rfl, fun h2 => by simp [ha, beq_dec, (of_decide_eq_true hb).symm]⟩
    | cons y ys =>
     right
     simp only [store] at he ⊢
     cases hlo : Nat.blt b h.lo with
     | true => rw [hlo] at he; cases he
     | false =>
      rw [hlo] at he
      simp only [cond_false] at he
      rw [blt_dec] at hlo
      have hlo' : h.lo ≤ b := by simpa using hlo
      cases hg : h.get b with
      | cells c o =>
       rw [hg] at he
       simp only at he
       cases ho : over off c (y :: ys) with
       | none => rw [ho] at he; cases he
       | some c' =>
        rw [ho] at he
        cases he
        refine ⟨by rw [beq_dec] at hb; have := of_decide_eq_true hb; simp at this; omega, hlo', ⟨c, o, rfl⟩, _, rfl, by simp, fun h2 e1 e2 => ?_⟩
        have hlo2 : Nat.blt b h2.lo = false := by rw [blt_dec, e2]; simpa using hlo'
        simp only [ha, hb, cond_true, hlo2, cond_false, e1, ho, Option.map_some]
      | _ => rw [hg] at he; cases he
   ·cases he
 ·cases he
theorem kind4 {o : VOp} {s : Slots} {h h' : Heap} {v : V} (hk : kindOf o = 4) (hc : ∀ f xs, o ≠ .callp f xs) (he : opE o s h = some (v, h')) : h' = h := by
 cases o <;> simp only [kindOf] at hk <;> (try cases hk) <;> simp only [opE] at he
 case callp f xs => exact absurd rfl (hc f xs)
 case slc sz x lo hi mx =>
  simp only [op_slc] at he
  exact (map_pair he).2
 case slca n sz x lo hi mx =>
  simp only [op_slca] at he
  split at he
  ·cases he
  ·split at he
   ·cases he
   ·split at he
    ·cases he
    ·split at he
     ·split at he
      ·simp only [Bool.cond_eq_ite] at he
       split at he
       ·cases he
       ·split at he
        ·cases he; rfl
        ·cases he
      ·cases he
     ·obtain ⟨_, _, e⟩ := by
       cases hq : takeN _ _ with
       | none => rw [hq] at he; cases he
       | some z => rw [hq] at he; exact (⟨z, trivial, (Prod.mk.inj (Option.some.inj he)).2⟩ : ∃ z : List V, True ∧ h = h')
      exact e.symm
     ·cases he
 case ld n a => cases a with
  | t i => simp [kLd] at hk
  | k u => cases u <;> simp [kLd] at hk
 case st n a x => cases a <;> simp [kSt] at hk
end Go.VE
end
section
namespace Go.VE
def wf (h : Heap) : Prop := ∀ b, h.nx ≤ b → h.get b = .dead
structure Step (h h' : Heap) : Prop where
 nx : h.nx ≤ h'.nx
 lo : h'.lo = h.lo
 wf : wf h → wf h'
 low : h.lo ≤ h.nx → ∀ b, b < h.lo → h'.get b = h.get b
theorem Step.refl (h : Heap) : Step h h := ⟨Nat.le_refl _, rfl, id, fun _ _ _ => rfl⟩
theorem Step.trans {a b c : Heap} (x : Step a b) (y : Step b c) : Step a c :=
 ⟨Nat.le_trans x.nx y.nx, y.lo.trans x.lo, fun q => y.wf (x.wf q), fun q i hi => (y.low (by rw [x.lo]; exact Nat.le_trans q x.nx) i (by rw [x.lo]; exact hi)).trans (x.low q i hi)⟩
theorem Step.new (h : Heap) (x : Blk) : Step h (h.new x) := by
 refine ⟨by simp, rfl, fun q b hb => ?_, fun q b hb => ?_⟩
 ·simp at hb
  rw [Heap.get_new, if_neg (by omega)]
  exact q b (by omega)
 ·rw [Heap.get_new, if_neg (by omega)]
theorem lo_of {b lo : Nat} (h : ¬ (Nat.blt b lo = true)) : lo ≤ b := by
 rw [blt_dec] at h
 simpa using h
theorem Step.set {h : Heap} {b : Nat} (x : Blk) (hb : h.get b ≠ .dead) (hlo : h.lo ≤ b) : Step h (h.set b x) := by
 refine ⟨by simp, rfl, fun q c hc => ?_, fun q c hc => ?_⟩
 ·simp at hc
  rw [Heap.get_set, if_neg (fun e => hb (by subst e; exact q c hc))]
  exact q c hc
 ·rw [Heap.get_set, if_neg (by omega)]
theorem Step.kill {h : Heap} (b : Nat) (hlo : h.lo ≤ b) : Step h (h.set b .dead) := by
 refine ⟨by simp, rfl, fun q c hc => ?_, fun q c hc => ?_⟩
 ·simp at hc
  rw [Heap.get_set]
  split
  ·rfl
  ·exact q c hc
 ·rw [Heap.get_set, if_neg (by omega)]
theorem Step.killNew {h h2 : Heap} (s : Step h h2) : Step h (h2.set h.nx .dead) := by
 refine ⟨by simpa using s.nx, by simpa using s.lo, fun q c hc => ?_, fun q c hc => ?_⟩
 ·simp at hc
  rw [Heap.get_set]
  split
  ·rfl
  ·exact s.wf q c hc
 ·rw [Heap.get_set, if_neg (by omega)]
  exact s.low q c hc
theorem killFrom_nx : ∀ (n : Nat) (h : Heap) (c : Nat), (killFrom h n c).nx = h.nx
 | 0, _, _ => rfl
 | n + 1, h, c => by rw [killFrom, killFrom_nx n]; simp
theorem killFrom_get : ∀ (n : Nat) (h : Heap) (c x : Nat), (killFrom h n c).get x = if c ≤ x ∧ x < c + n then .dead else h.get x
 | 0, h, c, x => by rw [if_neg (by omega)]; rfl
 | n + 1, h, c, x => by
  rw [killFrom, killFrom_get n, Heap.get_set]
  by_cases h1 : x = c
  ·subst h1
   rw [if_neg (by omega), if_pos rfl, if_pos (by omega)]
  ·by_cases h2 : c + 1 ≤ x ∧ x < c + 1 + n
   ·rw [if_pos h2, if_pos (by omega)]
   ·rw [if_neg h2, if_neg h1, if_neg (by omega)]
theorem backFrom_nx (h : Heap) : ∀ (n : Nat) (h' : Heap) (c : Nat), (backFrom h h' n c).nx = h'.nx
 | 0, _, _ => rfl
 | n + 1, h', c => by rw [backFrom, backFrom_nx h n]; simp
theorem backFrom_get (h : Heap) : ∀ (n : Nat) (h' : Heap) (c x : Nat), (backFrom h h' n c).get x = if c ≤ x ∧ x < c + n then h.get x else h'.get x
 | 0, h', c, x => by rw [if_neg (by omega)]; rfl
 | n + 1, h', c, x => by
  rw [backFrom, backFrom_get h n, Heap.get_set]
  by_cases h1 : x = c
  ·subst h1
   rw [if_neg (by omega), if_pos rfl, if_pos (by omega)]
  ·by_cases h2 : c + 1 ≤ x ∧ x < c + 1 + n
   ·rw [if_pos h2, if_pos (by omega)]
   ·rw [if_neg h2, if_neg h1, if_neg (by omega)]
theorem cutH_nx (h : Heap) (b : Nat) : (cutH h b).nx = h.nx := killFrom_nx _ _ _
theorem cutH_lo (h : Heap) (b : Nat) : (cutH h b).lo = b := rfl
theorem cutH_get (h : Heap) (b c : Nat) : (cutH h b).get c = if b < c ∧ c < h.nx then .dead else h.get c := by
 show (killFrom h (h.nx - (b + 1)) (b + 1)).get c = _
 rw [killFrom_get]
 by_cases q : b < c ∧ c < h.nx
 ·rw [if_pos (by omega), if_pos q]
 ·rw [if_neg (by omega), if_neg q]
theorem tr_set_id {α : Type} : ∀ (f : Nat) (t : Tr α) (i : Nat) (x : α), i < f → t.get i = some x → Tr.setF f t i x = t
 | 0, _, _, _, h, _ => by omega
 | f + 1, .lf, i, x, _, h => by simp [Tr.get] at h
 | f + 1, .nd v l r, i, x, hi, h => by
  simp only [Tr.get, beq_dec, Bool.cond_eq_ite] at h
  simp only [Tr.setF, beq_dec, Bool.cond_eq_ite]
  by_cases h0 : i = 0
  ·simp only [h0, decide_true, if_true] at h ⊢
   rw [h]
  ·simp only [h0, decide_false, Bool.false_eq_true, if_false] at h ⊢
   by_cases h1 : i % 2 = 1
   ·simp only [h1, decide_true, if_true] at h ⊢
    rw [tr_set_id f l (i / 2) x (by omega) h]
   ·simp only [h1, decide_false, Bool.false_eq_true, if_false] at h ⊢
    rw [tr_set_id f r (i / 2 - 1) x (by omega) h]
theorem killFrom_raw : ∀ (n : Nat) (h : Heap) (c x : Nat), (killFrom h n c).tr.get x = if c ≤ x ∧ x < c + n then some .dead else h.tr.get x
 | 0, h, c, x => by rw [if_neg (by omega)]; rfl
 | n + 1, h, c, x => by
  have e : (h.set c .dead).tr.get x = if x = c then some .dead else h.tr.get x := Tr.get_set _ _ _ _
  rw [killFrom, killFrom_raw n, e]
  by_cases h1 : x = c
  ·subst h1
   rw [if_neg (by omega), if_pos rfl, if_pos (by omega)]
  ·by_cases h2 : c + 1 ≤ x ∧ x < c + 1 + n
   ·rw [if_pos h2, if_pos (by omega)]
   ·rw [if_neg h2, if_neg h1, if_neg (by omega)]
theorem killFrom_id : ∀ (n : Nat) (h : Heap) (c : Nat), (∀ x, c ≤ x → x < c + n → h.tr.get x = some .dead) → killFrom h n c = h
 | 0, _, _, _ => rfl
 | n + 1, h, c, hd => by
  have e : h.set c .dead = h := by
   show ({ h with tr := Tr.setF (c + 1) h.tr c .dead } : Heap) = h
   rw [tr_set_id (c + 1) h.tr c .dead (by omega) (hd c (by omega) (by omega))]
  rw [killFrom, e]
  exact killFrom_id n h (c + 1) (fun x h1 h2 => hd x (by omega) (by omega))
theorem cutH_cut (h : Heap) (b : Nat) : cutH (cutH h b) b = cutH h b := by
 have : killFrom (cutH h b) ((cutH h b).nx - (b + 1)) (b + 1) = cutH h b := by
  refine killFrom_id _ _ _ (fun x h1 h2 => ?_)
  rw [cutH_nx] at h2
  show (killFrom h (h.nx - (b + 1)) (b + 1)).tr.get x = _
  rw [killFrom_raw, if_pos ⟨h1, h2⟩]
 show ({ killFrom (cutH h b) ((cutH h b).nx - (b + 1)) (b + 1) with lo := b } : Heap) = _
 rw [this]
 rfl
theorem backH_nx (h h' : Heap) (b : Nat) : (backH h h' b).nx = h'.nx := backFrom_nx _ _ _ _
theorem backH_lo (h h' : Heap) (b : Nat) : (backH h h' b).lo = h.lo := rfl
theorem backH_get (h h' : Heap) (b c : Nat) : (backH h h' b).get c = if b < c ∧ c < h.nx then h.get c else h'.get c := by
 show (backFrom h h' (h.nx - (b + 1)) (b + 1)).get c = _
 rw [backFrom_get]
 by_cases q : b < c ∧ c < h.nx
 ·rw [if_pos (by omega), if_pos q]
 ·rw [if_neg (by omega), if_neg q]
theorem Step.back {h h' : Heap} {b : Nat} (s : Step (cutH h b) h') (hlo : h.lo ≤ b) (hb : b < h.nx) : Step h (backH h h' b) := by
 have hn := s.nx
 rw [cutH_nx] at hn
 refine ⟨by rw [backH_nx]; exact hn, rfl, fun q c hc => ?_, fun q c hc => ?_⟩
 ·rw [backH_nx] at hc
  rw [backH_get, if_neg (by omega)]
  refine s.wf (fun x hx => ?_) c hc
  rw [cutH_nx] at hx
  rw [cutH_get, if_neg (by omega)]
  exact q x hx
 ·rw [backH_get, if_neg (by omega), s.low (by rw [cutH_lo, cutH_nx]; omega) c (by rw [cutH_lo]; omega), cutH_get, if_neg (by omega)]
theorem store_step {h h' : Heap} {b off : Nat} {xs : List V} (he : store h b off xs = some h') : Step h h' := by
 cases xs with
 | nil => cases he; exact .refl _
 | cons x xs =>
  simp only [store, Bool.cond_eq_ite] at he
  split at he
  ·cases he
  ·split at he
   ·rename_i hg
    split at he
    ·cases he
     exact .set _ (by rw [hg]; simp) (lo_of (by assumption))
    ·cases he
   ·cases he
theorem append_step {h h' : Heap} {sz bytes n : Nat} {s v : V} {new : List V} {tg : Option Nat} (he : appendV h tg sz bytes s n new = some (v, h')) : Step h h' := by
 unfold appendV at he
 split at he
 ·split at he <;> cases he <;> exact .refl _
 ·split at he
  ·simp only [Bool.cond_eq_ite] at he
   split at he
   ·cases he
   ·cases he; exact .new _ _
  ·simp only [Bool.cond_eq_ite] at he
   split at he
   ·cases he
   ·split at he
    ·cases he
    ·split at he
     ·cases he; exact .new _ _
     ·cases he
  ·simp only [Bool.cond_eq_ite] at he
   split at he
   ·split at he
    ·rename_i hg
     split at he
     ·split at he
      ·cases he
      ·split at he
       ·cases he; exact .set _ (by rw [hg]; simp) (lo_of (by assumption))
       ·cases he
     ·split at he
      ·cases he
      ·split at he
       ·cases he
       ·split at he
        ·split at he
         ·cases he
         ·rename_i hor
          have hlo := lo_of (fun q => hor (by rw [q]; rfl))
          cases he; exact .trans (.kill _ hlo) (.new _ _)
        ·cases he; exact .new _ _
    ·cases he
   ·cases he
  ·cases he
theorem insert_step {h h' : Heap} {sz bytes : Nat} {s i x v : V} (he : insertV h sz bytes s i x = some (v, h')) : Step h h' := by
 unfold insertV at he
 split at he
 ·simp only [Bool.cond_eq_ite] at he
  split at he
  ·split at he
   ·cases he; exact .refl _
   ·cases he
  ·split at he
   ·exact append_step he
   ·split at he
    ·cases he
    ·split at he
     ·split at he
      ·split at he
       ·cases he
       ·cases he; exact .new _ _
      ·split at he
       ·rename_i hg
        split at he
        ·cases he
        ·rename_i hor
         have hlo := lo_of (fun q => hor (by rw [q, Bool.or_true]))
         split at he
         ·split at he
          ·cases he; exact .set _ (by rw [hg]; simp) hlo
          ·cases he
         ·split at he
          ·cases he; exact .trans (.kill _ hlo) (.new _ _)
          ·cases he; exact .new _ _
       ·cases he
      ·cases he
     ·cases he
 ·cases he
theorem copyTo_step {h h' : Heap} {sz n : Nat} {d v : V} {cs : List V} (he : copyTo h sz d n cs = some (v, h')) : Step h h' := by
 unfold copyTo at he
 split at he
 ·simp only [Bool.cond_eq_ite] at he
  split at he
  ·split at he
   ·rename_i hs
    cases he
    exact store_step hs
   ·cases he
  ·cases he
 ·cases he; exact .refl _
 ·cases he
theorem opE_step {o : VOp} {s : Slots} {h h' : Heap} {v : V} (he : opE o s h = some (v, h')) : Step h h' := by
 by_cases h0 : kindOf o = 0
 ·rw [(kind0 h0 he).1]; exact .refl _
 by_cases h1 : kindOf o = 1
 ·obtain ⟨x, rfl, _⟩ := kind1 h1 he; exact .new _ _
 by_cases h2 : kindOf o = 2
 ·obtain ⟨n, i, rfl⟩ := kind2_is h2
  rw [(kind2 he).1]; exact .refl _
 by_cases h3 : kindOf o = 3
 ·obtain ⟨n, i, x, rfl⟩ := kind3_is h3
  obtain ⟨b, off, _, ⟨_, rfl, _⟩ | ⟨_, hlo, ⟨c, o, hg⟩, y, rfl, _⟩⟩ := kind3 he
  ·exact .refl _
  ·exact .set _ (by rw [hg]; simp) hlo
 by_cases h4 : kindOf o = 4
 ·by_cases hc : ∀ f xs, o ≠ .callp f xs
  ·rw [kind4 h4 hc he]; exact .refl _
  ·cases o <;> simp at hc
   cases he
 cases o <;> simp only [kindOf] at h0 h1 h2 h3 h4 <;> (try exact absurd trivial h0) <;> (try exact absurd trivial h1) <;> (try exact absurd trivial h4) <;> simp only [opE] at he
 case ld n a =>
  cases a with
  | t i => exact absurd rfl h2
  | k u =>
   simp only [op_ld] at he
   split at he
   ·rw [(map_pair he).2]; exact .refl _
   ·cases he
 case st n a x =>
  simp only [op_st, Bool.cond_eq_ite] at he
  split at he
  ·split at he
   ·split at he
    ·cases hs : store h _ _ _ with
     | none => rw [hs] at he; cases he
     | some h1 => rw [hs] at he; cases he; exact store_step hs
    ·cases he
   ·cases he
  ·cases he
 case slc sz x lo hi mx =>
  simp only [op_slc] at he
  rw [(map_pair he).2]; exact .refl _
 case app sz b x y =>
  simp only [op_app] at he
  split at he
  ·exact append_step he
  ·cases he
 case cpy sz x y =>
  simp only [op_cpy, copyV] at he
  split at he
  ·split at he
   ·cases he
   ·exact copyTo_step he
  ·cases he
 case call => cases he
 case callv => cases he
 case callvo => cases he
 case callo => cases he
 case callc => cases he
 case bad => cases he
theorem finish_step {mode : Nat} {h h' h2 : Heap} {v v' : V} (s : Step (enterH mode h) h') (he : finish mode h h' v = some (v', h2)) : Step h h2 := by
 unfold finish at he
 split at he
 ·cases he; simpa [enterH] using s
 ·cases hf : frz frzFuel h' h.nx false v with
  | none => rw [hf] at he; cases he
  | some x => rw [hf] at he; cases he; exact .refl _
 ·rename_i n1 n2
  cases he
  have e : enterH mode h = { h with lo := h.nx } := by
   unfold enterH
   split
   ·exact absurd rfl n1
   ·rfl
  rw [e] at s
  exact ⟨s.nx, rfl, fun q => s.wf q, fun q b hb => s.low (Nat.le_refl _) b (Nat.lt_of_lt_of_le hb q)⟩
theorem finishI_step {h h' h2 : Heap} {v v' : V} (he : finishI h h' v = some (v', h2)) : Step h h2 := by
 unfold finishI at he
 cases hf : frz frzFuel h' 0 false v with
 | none => rw [hf] at he; cases he
 | some x => rw [hf] at he; cases he; exact .refl _
theorem run_step (vp : Nat → Option VFn) : ∀ n : Nat,
  (∀ c s h x s' h', exec vp n c s h = some (x, s', h') → Step h h') ∧
  (∀ ops s h s' h', runOps vp n ops s h = some (s', h') → Step h h') ∧
  (∀ o s h v h', stepOp vp n o s h = some (v, h') → Step h h') ∧
  (∀ x args h v h', callV vp n x args h = some (v, h') → Step h h') ∧
  (∀ f args h v h', callF vp n f args h = some (v, h') → Step h h') := by
 intro n
 induction n with
 | zero =>
  refine ⟨?_, ?_, ?_, ?_, ?_⟩ <;> intros <;> rename_i he
  ·simp [exec] at he
  ·simp [runOps] at he
  ·simp [stepOp] at he
  ·simp [callV] at he
  ·simp [callF] at he
 | succ n ih =>
  obtain ⟨i1, i2, i3, i4, i5⟩ := ih
  refine ⟨?_, ?_, ?_, ?_, ?_⟩
  ·intro c s h x s' h' he
   unfold exec at he
   split at he
   ·cases he; exact .refl _
   ·split at he
    ·rename_i hr
     simp only [Bool.cond_eq_ite] at he
     split at he
     ·cases he; exact i2 _ _ _ _ _ hr
     ·cases he
    ·cases he
   ·split at he
    ·rename_i hr
     exact (i1 _ _ _ _ _ _ hr).trans (i1 _ _ _ _ _ _ he)
    ·exact i1 _ _ _ _ _ _ he
   ·split at he
    ·exact i1 _ _ _ _ _ _ he
    ·exact i1 _ _ _ _ _ _ he
    ·cases he
   ·split at he
    ·rename_i hr
     cases he; exact i1 _ _ _ _ _ _ hr
    ·exact i1 _ _ _ _ _ _ he
   ·split at he
    ·rename_i hr
     exact (i1 _ _ _ _ _ _ hr).trans (i1 _ _ _ _ _ _ he)
    ·exact i1 _ _ _ _ _ _ he
   ·cases he; exact .refl _
   ·cases he; exact .refl _
   ·exact i1 _ _ _ _ _ _ he
   ·simp only at he
    split at he
    ·rename_i hr
     split at hr
     case h_2 => cases hr
     have k := (Step.new _ _).trans (i5 _ _ _ _ _ hr)
     split at he
     ·rename_i hg
      simp only [Bool.cond_eq_ite] at he
      split at he
      ·cases he
      ·split at he
       ·cases he; exact k.killNew
       ·cases he; exact k.killNew
     ·cases he
    ·cases he
  ·intro ops s h s' h' he
   unfold runOps at he
   split at he
   ·cases he; exact .refl _
   ·split at he
    ·split at he
     ·rename_i hr
      exact (i3 _ _ _ _ _ hr).trans (i2 _ _ _ _ _ he)
     ·cases he
    ·exact i2 _ _ _ _ _ he
    ·cases he
  ·intro o s h v h' he
   unfold stepOp at he
   split at he
   ·exact i5 _ _ _ _ _ he
   ·split at he
    ·split at he
     ·simp only [Bool.cond_eq_ite] at he
      split at he
      ·exact i5 _ _ _ _ _ he
      ·cases he
     ·cases he
    ·cases he
   ·split at he
    ·split at he
     ·simp only [Bool.cond_eq_ite] at he
      split at he
      ·exact i5 _ _ _ _ _ he
      ·cases he
     ·cases he
    ·cases he
   ·split at he
    ·simp only [Bool.cond_eq_ite] at he
     split at he
     ·rename_i hq
      simp only [ble_dec, blt_dec, Bool.and_eq_true, decide_eq_true_eq] at hq
      split at he
      ·rename_i hr
       cases he
       exact (i5 _ _ _ _ _ hr).back hq.1 hq.2
      ·cases he
     ·cases he
    ·cases he
   ·exact i4 _ _ _ _ _ he
   ·split at he
    ·split at he
     ·split at he
      ·simp only [Bool.cond_eq_ite] at he
       split at he
       ·exact i5 _ _ _ _ _ he
       ·cases he
      ·cases he
     ·cases he
    ·cases he
   ·exact opE_step he
  ·intro x args h v h' he
   unfold callV at he
   split at he
   ·exact i5 _ _ _ _ _ he
   ·simp only [Bool.cond_eq_ite] at he
    split at he
    ·cases he
    ·split at he
     ·rename_i hg
      split at he
      ·split at he
       ·rename_i hr
        have k := i1 _ _ _ _ _ _ hr
        split at he
        ·rename_i hg1
         have k2 := fun X => k.trans (Step.set X (by rw [hg1]; simp) (by rw [k.lo]; exact lo_of (by assumption)))
         split at he
         ·rename_i hr2
          have k3 := (k2 _).trans (i1 _ _ _ _ _ _ hr2)
          split at he
          ·rename_i hg2
           split at he
           ·cases he
            exact k3.trans (Step.set _ (by rw [hg2]; simp) (by rw [k3.lo]; exact lo_of (by assumption)))
           ·cases he
            exact k3.trans (Step.set _ (by rw [hg2]; simp) (by rw [k3.lo]; exact lo_of (by assumption)))
          ·cases he
         ·cases he
        ·cases he
       ·cases he
      ·cases he
     ·cases he
   ·cases he
  ·intro f args h v h' he
   unfold callF at he
   split at he
   ·cases he
   ·split at he
    ·split at he
     ·exact insert_step he
     ·cases he
    ·split at he
     ·split at he
      ·split at he
       ·exact finishI_step he
       ·cases he
      ·split at he
       ·exact finishI_step he
       ·cases he
      ·cases he
     ·split at he
      ·rename_i hr
       split at he
       ·exact finish_step (i1 _ _ _ _ _ _ hr) he
       ·cases he
      ·rename_i hr
       split at he
       ·exact finish_step (i1 _ _ _ _ _ _ hr) he
       ·cases he
      ·cases he
end Go.VE
end

