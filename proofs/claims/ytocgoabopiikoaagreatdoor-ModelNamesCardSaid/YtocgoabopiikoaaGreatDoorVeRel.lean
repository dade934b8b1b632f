/- A part of a proof that a small evaluator of the translated code agrees with the model (part Rel). No statement of the program stands here. -/
import Derived.Test.YtocgoabopiikoaaGreatDoorVeComp
import Derived.Orders
import Derived.Below
import Derived.Laws.MakeOwn
import Derived.Laws.StructEq
set_option linter.all false
namespace Go.VE

structure Loc where
  blk : Nat
  base : Nat
  fin : Nat
  sz : Nat
  ex : Nat

abbrev Rho := Nat → Option Loc
abbrev Mem := Nat → Option (List Value)

/-- The model's capacity of a slice: where it reaches the end of a row that may have grown, that is told in elements beyond. -/
def capR (l : Loc) (off cap sz cap' : Nat) : Prop :=
  (l.ex = 0 ∧ cap' = cap) ∨ (l.ex ≠ 0 ∧ off + cap * sz ≠ l.fin ∧ cap' = cap) ∨ (l.ex ≠ 0 ∧ off + cap * sz = l.fin ∧ sz = l.sz ∧ cap' = cap + l.ex)

theorem capR_le {l : Loc} {off cap sz cap' : Nat} (h : capR l off cap sz cap') : cap ≤ cap' := by
  rcases h with ⟨_, h⟩ | ⟨_, _, h⟩ | ⟨_, _, _, h⟩ <;> omega

mutual
def VRel (M : Mem) (ρ : Rho) : V → Value → Prop
  | .top, _ => True
  | .int k n, x => x = .int k n
  | .bool b, x => x = .bool b
  | .str s, x => x = .string ⟨s.toArray⟩
  | .ptr b off, x => ∃ l, ρ b = some l ∧ x = .pointer (some ⟨l.blk, l.base + off, none⟩)
  | .nilp, x => x = .pointer none
  | .sl b off len cap sz, x => ∃ l a cap', ρ b = some l ∧ x = .slice (some a) len cap' ∧ capR l off cap sz cap' ∧ (cap' = 0 ∨ a = ⟨l.blk, l.base + off, none⟩) ∧ len ≤ cap
  | .nils, x => x = .slice none 0 0
  | .isl cs len cap, x => ∃ a cap', x = .slice (some a) len cap' ∧ (∀ c, cap = some c → cap' = c) ∧ len ≤ cap' ∧
      (cs = [] ∨ ∃ row, M a.block = some row ∧ a.spot = none ∧ VRels M (fun _ => none) cs (row.drop a.off))
  | .iptr cs, x => ∃ a row, x = .pointer (some a) ∧ M a.block = some row ∧ a.spot = none ∧ VRels M (fun _ => none) cs (row.drop a.off)
  | .fn f caps, x => ∃ xs : List Value, x = .func (.func f) #[] xs.toArray ∧ caps.length = xs.length ∧ VRels M ρ caps xs
  | .yld b, x => ∃ l, ρ b = some l ∧ x = .func (.yield l.blk) #[] #[]
  | .nilf, x => x = .nilFunc
  | .ifc t v, x => ∃ y, x = .iface t y ∧ VRel M ρ v y
  | .nili, x => x = .nilIface
  | .agg cs, x => ∃ xs : List Value, x = .agg xs.toArray ∧ cs.length = xs.length ∧ VRels M ρ cs xs
  | .tup cs, x => ∃ xs : List Value, x = .tuple xs.toArray ∧ cs.length = xs.length ∧ VRels M ρ cs xs
  | .mp b, x => ∃ l, ρ b = some l ∧ x = .map (some l.blk)
  | .nilm, x => x = .map none
/-- The first list's values, as the second list begins. -/
def VRels (M : Mem) (ρ : Rho) : List V → List Value → Prop
  | [], _ => True
  | v :: vs, xs => match xs with
    | [] => False
    | x :: xs => VRel M ρ v x ∧ VRels M ρ vs xs
end

theorem VRels.nil {M : Mem} {ρ : Rho} {xs : List Value} : VRels M ρ [] xs := by simp [VRels]
theorem VRels.cons_iff {M : Mem} {ρ : Rho} {v : V} {vs : List V} {xs : List Value} :
    VRels M ρ (v :: vs) xs ↔ ∃ x ys, xs = x :: ys ∧ VRel M ρ v x ∧ VRels M ρ vs ys := by
  cases xs with
  | nil => simp [VRels]
  | cons x xs =>
    simp only [VRels]
    constructor
    · rintro ⟨h1, h2⟩
      exact ⟨x, xs, rfl, h1, h2⟩
    · rintro ⟨y, ys, h, h1, h2⟩
      cases h
      exact ⟨h1, h2⟩

theorem VRels.length {M : Mem} {ρ : Rho} : ∀ {vs : List V} {xs : List Value}, VRels M ρ vs xs → vs.length ≤ xs.length
  | [], _, _ => by simp
  | v :: vs, xs, h => by
    obtain ⟨x, ys, rfl, _, h⟩ := VRels.cons_iff.1 h
    simpa using VRels.length h

theorem VRels.get {M : Mem} {ρ : Rho} : ∀ {vs : List V} {xs : List Value} (i : Nat) {v : V}, VRels M ρ vs xs → vs[i]? = some v → ∃ x, xs[i]? = some x ∧ VRel M ρ v x
  | [], _, _, _, _, h => by simp at h
  | v :: vs, xs, i, u, h, hi => by
    obtain ⟨x, ys, rfl, h1, h2⟩ := VRels.cons_iff.1 h
    cases i with
    | zero => simp at hi; subst hi; exact ⟨x, rfl, h1⟩
    | succ i => simpa using VRels.get i h2 (by simpa using hi)

theorem VRels.drop {M : Mem} {ρ : Rho} : ∀ {vs : List V} {xs : List Value} (n : Nat), VRels M ρ vs xs → VRels M ρ (vs.drop n) (xs.drop n)
  | [], _, _, _ => by simp [VRels.nil]
  | v :: vs, xs, 0, h => by simpa using h
  | v :: vs, xs, n + 1, h => by
    obtain ⟨x, ys, rfl, _, h⟩ := VRels.cons_iff.1 h
    simpa using VRels.drop n h

theorem VRels.append {M : Mem} {ρ : Rho} : ∀ {vs us : List V} {xs ys : List Value}, VRels M ρ vs xs → vs.length = xs.length → VRels M ρ us ys → VRels M ρ (vs ++ us) (xs ++ ys)
  | [], us, xs, ys, _, hl, h => by cases xs <;> simp_all
  | v :: vs, us, xs, ys, h, hl, h' => by
    obtain ⟨x, zs, rfl, h1, h2⟩ := VRels.cons_iff.1 h
    simp only [List.cons_append]
    exact VRels.cons_iff.2 ⟨x, zs ++ ys, rfl, h1, VRels.append h2 (by simpa using hl) h'⟩

/-- A longer second list. -/
theorem VRels.more {M : Mem} {ρ : Rho} : ∀ {vs : List V} {xs : List Value} (ys : List Value), VRels M ρ vs xs → VRels M ρ vs (xs ++ ys)
  | [], _, _, _ => VRels.nil
  | v :: vs, xs, ys, h => by
    obtain ⟨x, zs, rfl, h1, h2⟩ := VRels.cons_iff.1 h
    exact VRels.cons_iff.2 ⟨x, zs ++ ys, rfl, h1, VRels.more ys h2⟩

theorem VRels.take {M : Mem} {ρ : Rho} : ∀ {vs : List V} {xs : List Value} (n : Nat), VRels M ρ vs xs → vs.length ≤ n → VRels M ρ vs (xs.take n)
  | [], _, _, _, _ => VRels.nil
  | v :: vs, xs, 0, h, hn => by simp at hn
  | v :: vs, xs, n + 1, h, hn => by
    obtain ⟨x, zs, rfl, h1, h2⟩ := VRels.cons_iff.1 h
    exact VRels.cons_iff.2 ⟨x, zs.take n, by simp, h1, VRels.take n h2 (by simpa using hn)⟩

def Mle (M M' : Mem) : Prop := ∀ k cs, M k = some cs → M' k = some cs
def Rle (ρ ρ' : Rho) : Prop := ∀ b l, ρ b = some l → ρ' b = some l
theorem Mle.refl (M : Mem) : Mle M M := fun _ _ h => h
theorem Rle.refl (ρ : Rho) : Rle ρ ρ := fun _ _ h => h
theorem Mle.trans {A B C : Mem} (h : Mle A B) (k : Mle B C) : Mle A C := fun i c x => k i c (h i c x)
theorem Rle.trans {A B C : Rho} (h : Rle A B) (k : Rle B C) : Rle A C := fun i c x => k i c (h i c x)

mutual
theorem VRel.mono {M M' : Mem} (hM : Mle M M') : ∀ {ρ ρ' : Rho} (_ : Rle ρ ρ') (v : V) {x : Value}, VRel M ρ v x → VRel M' ρ' v x
  | _, _, _, .top, _, _ => by simp [VRel]
  | _, _, _, .int k n, _, h => by simpa [VRel] using h
  | _, _, _, .bool b, _, h => by simpa [VRel] using h
  | _, _, _, .str s, _, h => by simpa [VRel] using h
  | _, _, hρ, .ptr b off, _, h => by
    simp only [VRel] at h ⊢
    obtain ⟨l, h1, h2⟩ := h
    exact ⟨l, hρ _ _ h1, h2⟩
  | _, _, _, .nilp, _, h => by simpa [VRel] using h
  | _, _, hρ, .sl b off len cap sz, _, h => by
    simp only [VRel] at h ⊢
    obtain ⟨l, a, c, h1, h2⟩ := h
    exact ⟨l, a, c, hρ _ _ h1, h2⟩
  | _, _, _, .nils, _, h => by simpa [VRel] using h
  | _, _, _, .isl cs len cap, _, h => by
    simp only [VRel] at h ⊢
    obtain ⟨a, c, h1, h2, h3, h4⟩ := h
    refine ⟨a, c, h1, h2, h3, h4.imp id ?_⟩
    rintro ⟨row, k1, k2, k3⟩
    exact ⟨row, hM _ _ k1, k2, VRels.mono hM (Rle.refl _) cs k3⟩
  | _, _, _, .iptr cs, _, h => by
    simp only [VRel] at h ⊢
    obtain ⟨a, row, h1, k1, k2, k3⟩ := h
    exact ⟨a, row, h1, hM _ _ k1, k2, VRels.mono hM (Rle.refl _) cs k3⟩
  | _, _, hρ, .fn f caps, _, h => by
    simp only [VRel] at h ⊢
    obtain ⟨xs, h1, h2, h3⟩ := h
    exact ⟨xs, h1, h2, VRels.mono hM hρ caps h3⟩
  | _, _, hρ, .yld b, _, h => by
    simp only [VRel] at h ⊢
    obtain ⟨l, h1, h2⟩ := h
    exact ⟨l, hρ _ _ h1, h2⟩
  | _, _, _, .nilf, _, h => by simpa [VRel] using h
  | _, _, hρ, .ifc t v, _, h => by
    simp only [VRel] at h ⊢
    obtain ⟨y, h1, h2⟩ := h
    exact ⟨y, h1, VRel.mono hM hρ v h2⟩
  | _, _, _, .nili, _, h => by simpa [VRel] using h
  | _, _, hρ, .agg cs, _, h => by
    simp only [VRel] at h ⊢
    obtain ⟨xs, h1, h2, h3⟩ := h
    exact ⟨xs, h1, h2, VRels.mono hM hρ cs h3⟩
  | _, _, hρ, .tup cs, _, h => by
    simp only [VRel] at h ⊢
    obtain ⟨xs, h1, h2, h3⟩ := h
    exact ⟨xs, h1, h2, VRels.mono hM hρ cs h3⟩
  | _, _, hρ, .mp b, _, h => by
    simp only [VRel] at h ⊢
    obtain ⟨l, h1, h2⟩ := h
    exact ⟨l, hρ _ _ h1, h2⟩
  | _, _, _, .nilm, _, h => by simpa [VRel] using h
theorem VRels.mono {M M' : Mem} (hM : Mle M M') : ∀ {ρ ρ' : Rho} (_ : Rle ρ ρ') (vs : List V) {xs : List Value}, VRels M ρ vs xs → VRels M' ρ' vs xs
  | _, _, _, [], _, _ => VRels.nil
  | _, _, hρ, v :: vs, xs, h => by
    obtain ⟨x, ys, rfl, h1, h2⟩ := VRels.cons_iff.1 h
    exact VRels.cons_iff.2 ⟨x, ys, rfl, VRel.mono hM hρ v h1, VRels.mono hM hρ vs h2⟩
end

-- ------------------------------------------------------------------ memory

def FreeFrom (base : Nat) (fr : Nat × Nat) (size : Nat) : Prop := ∀ i, base ≤ i → i ≤ size → ¬ (fr.1 ≤ i ∧ i < fr.2)

def ERel (M : Mem) (ρ : Rho) : List (V × V × Nat) → List MapEntry → Prop
  | [], [] => True
  | e :: es, x :: xs => VRel M ρ e.1 x.key ∧ VRel M ρ e.2.1 x.val ∧ e.2.2 = x.born ∧ ERel M ρ es xs
  | _, _ => False

/-- The model's object for a block of ours. -/
def BRel (P : Program) (gl : Nat → Option (List V)) (M : Mem) (ρ : Rho) (l : Loc) : Blk → Option Obj → Prop
  | .dead, _ => True
  | .cells c o, x => ∃ cur e fr, x = some (.cells cur e fr) ∧ FreeFrom l.base fr cur.size ∧ c.length = l.fin ∧ VRels M ρ c (cur.toList.drop l.base) ∧
      cur.size = l.base + l.fin + l.ex * l.sz ∧ (o = false → l.ex = 0)
  | .siter s pos, x => x = some (.stringIter ⟨s.toArray⟩ pos) ∧ l.base = 0
  | .map es clock, x => ∃ xs : List MapEntry, x = some (.map xs.toArray clock) ∧ ERel M ρ es xs
  | .miter .., _ => False
  | .loop .., _ => False

def live (h : Heap) (b : Nat) : Prop := h.get b ≠ .dead

structure HRel (P : Program) (gl : Nat → Option (List V)) (B : Nat) (M : Mem) (ρ : Rho) (h : Heap) (w : World) : Prop where
  bound : ∀ b l, ρ b = some l → b < h.nx
  blk : ∀ b l, ρ b = some l → BRel P gl M ρ l (h.get b) w.heap[l.blk]?
  inj : ∀ b b' l l', ρ b = some l → ρ b' = some l' → live h b → live h b' → l.blk = l'.blk → b = b'
  mem : ∀ k cs, M k = some cs → ∃ e fr, w.heap[k]? = some (.cells cs.toArray e fr)
  sep : ∀ b l, ρ b = some l → live h b → M l.blk = none
  base : ∀ b l, ρ b = some l → live h b → B ≤ l.blk
  fresh : ∀ b, h.nx ≤ b → h.get b = .dead
  room : B ≤ w.heap.size
  lonx : h.lo ≤ h.nx
  glob : ∀ g cs, gl g = some cs → ∃ row, M g = some row ∧ VRels M (fun _ => none) cs row

structure Evo (M : Mem) (ρ : Rho) (h : Heap) (w : World) (M' : Mem) (ρ' : Rho) (h' : Heap) (w' : World) : Prop where
  rho : Rle ρ ρ'
  mem : Mle M M'
  lo : h'.lo = h.lo
  nx : h.nx ≤ h'.nx
  os : w'.os = w.os
  tape : w'.tape = w.tape
  output : w'.output = w.output
  size : w.heap.size ≤ w'.heap.size
  wr : ∀ b l, ρ' b = some l → live h' b → h.lo ≤ b → (w.heap.size ≤ l.blk ∨ ∃ b0 l0, ρ b0 = some l0 ∧ live h b0 ∧ h.lo ≤ b0 ∧ l0.blk = l.blk)
  frame : ∀ k, k < w.heap.size → (∀ b l, ρ b = some l → live h b → h.lo ≤ b → l.blk ≠ k) → w'.heap[k]? = w.heap[k]?
  low : ∀ b l, ρ b = some l → b < h.lo → h'.get b = h.get b
  new : ∀ b l, ρ' b = some l → ρ b = none → h.nx ≤ b
  mnew : ∀ k cs, M' k = some cs → M k = some cs ∨ w.heap.size ≤ k

theorem Evo.refl (M : Mem) (ρ : Rho) (h : Heap) (w : World) : Evo M ρ h w M ρ h w where
  rho := Rle.refl _
  mem := Mle.refl _
  lo := rfl
  nx := Nat.le_refl _
  os := rfl
  tape := rfl
  output := rfl
  size := Nat.le_refl _
  wr := fun b l h1 h2 h3 => .inr ⟨b, l, h1, h2, h3, rfl⟩
  frame := fun _ _ _ => rfl
  low := fun _ _ _ _ => rfl
  new := fun b l h1 h2 => by rw [h2] at h1; cases h1
  mnew := fun _ _ q => .inl q

theorem Evo.trans {M M1 M2 : Mem} {ρ ρ1 ρ2 : Rho} {h h1 h2 : Heap} {w w1 w2 : World} (a : Evo M ρ h w M1 ρ1 h1 w1) (b : Evo M1 ρ1 h1 w1 M2 ρ2 h2 w2) :
    Evo M ρ h w M2 ρ2 h2 w2 where
  rho := a.rho.trans b.rho
  mem := a.mem.trans b.mem
  lo := b.lo.trans a.lo
  nx := Nat.le_trans a.nx b.nx
  os := b.os.trans a.os
  tape := b.tape.trans a.tape
  output := b.output.trans a.output
  size := Nat.le_trans a.size b.size
  wr := by
    intro i l e1 e2 e3
    rcases b.wr i l e1 e2 (by rw [a.lo]; exact e3) with k | ⟨b0, l0, f1, f2, f3, f4⟩
    · exact .inl (Nat.le_trans a.size k)
    · rcases a.wr b0 l0 f1 f2 (by rw [a.lo] at f3; exact f3) with k | ⟨b1, l1, g1, g2, g3, g4⟩
      · exact .inl (by omega)
      · exact .inr ⟨b1, l1, g1, g2, g3, g4.trans f4⟩
  frame := by
    intro k hk hno
    rw [b.frame k (Nat.lt_of_lt_of_le hk a.size) ?_, a.frame k hk hno]
    intro i l e1 e2 e3 e4
    rcases a.wr i l e1 e2 (by rw [a.lo] at e3; exact e3) with q | ⟨b0, l0, f1, f2, f3, f4⟩
    · omega
    · exact hno b0 l0 f1 f2 f3 (f4.trans e4)
  low := fun i l e hi => (b.low i l (a.rho i l e) (by rw [a.lo]; exact hi)).trans (a.low i l e hi)
  mnew := by
    intro k cs e
    rcases b.mnew k cs e with q | q
    · exact a.mnew k cs q
    · exact .inr (Nat.le_trans a.size q)
  new := by
    intro i l e1 e2
    cases e3 : ρ1 i with
    | none => exact Nat.le_trans a.nx (b.new i l e1 e3)
    | some l' => exact a.new i l' e3 e2

end Go.VE
