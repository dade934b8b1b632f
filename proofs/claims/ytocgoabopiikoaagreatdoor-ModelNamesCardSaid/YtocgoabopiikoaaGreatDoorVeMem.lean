/- A part of a proof that a small evaluator of the translated code agrees with the model (part Mem). No statement of the program stands here. -/
import Derived.Test.YtocgoabopiikoaaGreatDoorVeRel
set_option linter.all false
namespace Go.VE

theorem beq_dec (a b : Nat) : Nat.beq a b = decide (a = b) := by
  rw [Bool.eq_iff_iff, Nat.beq_eq, decide_eq_true_iff]

theorem blt_dec (a b : Nat) : Nat.blt a b = decide (a < b) := by
  rw [Bool.eq_iff_iff, Nat.blt_eq, decide_eq_true_iff]
theorem ble_dec (a b : Nat) : Nat.ble a b = decide (a ≤ b) := by
  rw [Bool.eq_iff_iff, Nat.ble_eq, decide_eq_true_iff]

namespace Tr
variable {α : Type}
theorem get_lf (i : Nat) : (Tr.lf : Tr α).get i = none := by simp [get]
theorem get_setF : ∀ (f : Nat) (t : Tr α) (i : Nat) (x : α) (j : Nat), i < f → (setF f t i x).get j = if j = i then some x else t.get j
  | 0, _, _, _, _, h => by omega
  | f + 1, t, i, x, j, h => by
    have ih1 := fun (t : Tr α) (j : Nat) (hi : i / 2 < f) => get_setF f t (i / 2) x j hi
    have ih2 := fun (t : Tr α) (j : Nat) (hi : i / 2 - 1 < f) => get_setF f t (i / 2 - 1) x j hi
    by_cases h0 : i = 0
    · subst h0
      cases t <;> by_cases hj : j = 0 <;> simp [setF, get, beq_dec, hj]
    · have hi1 : i / 2 < f := by omega
      have hi2 : i / 2 - 1 < f := by omega
      by_cases hodd : i % 2 = 1
      · cases t <;> by_cases hj : j = 0 <;> by_cases hjo : j % 2 = 1 <;> simp [setF, get, beq_dec, h0, hodd, hj, hjo, ih1 _ _ hi1, get_lf]
        all_goals (try omega)
        all_goals (first
          | (have : ¬ (0 = i) := by omega
             simp [this]; done)
          | (have e : (j / 2 = i / 2) = (j = i) := by apply propext; constructor <;> intro <;> omega
             simp [e]; done)
          | (have e : ¬ (j = i) := by omega
             simp [e]; done)
          | skip)
      · cases t <;> by_cases hj : j = 0 <;> by_cases hjo : j % 2 = 1 <;> simp [setF, get, beq_dec, h0, hodd, hj, hjo, ih2 _ _ hi2, get_lf]
        all_goals (first
          | (have : ¬ (0 = i) := by omega
             simp [this]; done)
          | (have e : (j / 2 - 1 = i / 2 - 1) = (j = i) := by apply propext; constructor <;> intro <;> omega
             simp [e]; done)
          | (have e : ¬ (j = i) := by omega
             simp [e]; done)
          | skip)
theorem get_set (t : Tr α) (i : Nat) (x : α) (j : Nat) : (t.set i x).get j = if j = i then some x else t.get j :=
  get_setF (i + 1) t i x j (by omega)
end Tr

namespace Heap
theorem get_set (h : Heap) (b : Nat) (x : Blk) (c : Nat) : (h.set b x).get c = if c = b then x else h.get c := by
  unfold Heap.get Heap.set
  simp only [Tr.get_set]
  split <;> simp
theorem get_new (h : Heap) (x : Blk) (c : Nat) : (h.new x).get c = if c = h.nx then x else h.get c := by
  unfold Heap.get Heap.new
  simp only [Tr.get_set]
  split <;> simp
@[simp] theorem nx_set (h : Heap) (b : Nat) (x : Blk) : (h.set b x).nx = h.nx := rfl
@[simp] theorem lo_set (h : Heap) (b : Nat) (x : Blk) : (h.set b x).lo = h.lo := rfl
@[simp] theorem nx_new (h : Heap) (x : Blk) : (h.new x).nx = h.nx + 1 := rfl
@[simp] theorem lo_new (h : Heap) (x : Blk) : (h.new x).lo = h.lo := rfl
end Heap

theorem Slots.at_set (s : Slots) (i : Nat) (v : V) (j : Nat) : Slots.at (Tr.set s i v) j = if j = i then v else s.at j := by
  unfold Slots.at
  rw [Tr.get_set]
  split <;> simp

structure SRel (M : Mem) (ρ : Rho) (N : Nat) (s : Slots) (tm : Array Value) : Prop where
  size : N ≤ tm.size
  rel : ∀ i, VRel M ρ (s.at i) (tm.getD i undef)

theorem SRel.mono {M M' : Mem} {ρ ρ' : Rho} {N : Nat} {s : Slots} {tm : Array Value} (h : SRel M ρ N s tm) (hM : Mle M M') (hρ : Rle ρ ρ') : SRel M' ρ' N s tm :=
  ⟨h.size, fun i => VRel.mono hM hρ _ (h.rel i)⟩

theorem SRel.put {M : Mem} {ρ : Rho} {N : Nat} {s : Slots} {tm : Array Value} (h : SRel M ρ N s tm) {d : Nat} (hd : d < N) {v : V} {x : Value} (hv : VRel M ρ v x) :
    SRel M ρ N (Tr.set s d v) (tm.setIfInBounds d x) := by
  refine ⟨by simpa using h.size, fun i => ?_⟩
  rw [Slots.at_set]
  by_cases hi : i = d
  · subst hi
    have : i < tm.size := Nat.lt_of_lt_of_le hd h.size
    simpa [this] using hv
  · rw [if_neg hi]
    have := h.rel i
    simpa [Array.getElem?_setIfInBounds_ne (Ne.symm hi)] using this

-- ------------------------------------------------------------------ changes of memory

section
variable {P : Program} {gl : Nat → Option (List V)} {B : Nat} {M : Mem} {ρ : Rho} {h : Heap} {w : World}

theorem BRel.mono {M' : Mem} {ρ' : Rho} {l : Loc} (hM : Mle M M') (hρ : Rle ρ ρ') : ∀ {x : Blk} {o : Option Obj}, BRel P gl M ρ l x o → BRel P gl M' ρ' l x o
  | .dead, _, _ => by simp [BRel]
  | .cells c o, _, hb => by
    simp only [BRel] at hb ⊢
    obtain ⟨cur, e, fr, h1, h2, h3, h4, h5, h6⟩ := hb
    exact ⟨cur, e, fr, h1, h2, h3, VRels.mono hM hρ c h4, h5, h6⟩
  | .siter s pos, _, hb => by simpa [BRel] using hb
  | .map es clock, _, hb => by
    simp only [BRel] at hb ⊢
    obtain ⟨xs, h1, h2⟩ := hb
    refine ⟨xs, h1, ?_⟩
    clear h1
    induction es generalizing xs with
    | nil => cases xs <;> simp_all [ERel]
    | cons e es ih =>
      cases xs with
      | nil => simp [ERel] at h2
      | cons x xs =>
        simp only [ERel] at h2 ⊢
        exact ⟨VRel.mono hM hρ _ h2.1, VRel.mono hM hρ _ h2.2.1, h2.2.2.1, ih xs h2.2.2.2⟩
  | .miter .., _, hb => by simp [BRel] at hb
  | .loop .., _, hb => by simp [BRel] at hb

theorem BRel.cells_iff {l : Loc} {c : List V} {o : Bool} {x : Option Obj} : BRel P gl M ρ l (.cells c o) x ↔ ∃ cur e fr, x = some (.cells cur e fr) ∧ FreeFrom l.base fr cur.size ∧ c.length = l.fin ∧ VRels M ρ c (cur.toList.drop l.base) ∧
      cur.size = l.base + l.fin + l.ex * l.sz ∧ (o = false → l.ex = 0) := Iff.rfl

/-- A draw. -/
theorem HRel.drew (hh : HRel P gl B M ρ h w) : HRel P gl B M ρ h w.drew := ⟨hh.bound, hh.blk, hh.inj, hh.mem, hh.sep, hh.base, hh.fresh, hh.room, hh.lonx, hh.glob⟩
theorem Evo.drew {M' : Mem} {ρ' : Rho} {h' : Heap} {w' : World} (e : Evo M ρ h w M' ρ' h' w') : Evo M ρ h w M' ρ' h' w'.drew :=
  ⟨e.rho, e.mem, e.lo, e.nx, e.os, e.tape, e.output, e.size, e.wr, e.frame, e.low, e.new, e.mnew⟩

def Rho.add (ρ : Rho) (b : Nat) (l : Loc) : Rho := fun c => if c = b then some l else ρ c

theorem Rho.add_same (ρ : Rho) (b : Nat) (l : Loc) : ρ.add b l b = some l := by simp [Rho.add]

theorem HRel.none (hh : HRel P gl B M ρ h w) {b : Nat} (hb : h.nx ≤ b) : ρ b = none := by
  cases e : ρ b with
  | none => rfl
  | some l => have := hh.bound b l e; omega

theorem HRel.rle (hh : HRel P gl B M ρ h w) (l : Loc) : Rle ρ (ρ.add h.nx l) := by
  intro b l' e
  have : b ≠ h.nx := by have := hh.bound b l' e; omega
  simp [Rho.add, this, e]

theorem HRel.blkLt (hh : HRel P gl B M ρ h w) {b : Nat} {l : Loc} (e : ρ b = some l) (hl : live h b) : l.blk < w.heap.size := by
  have := hh.blk b l e
  rcases Nat.lt_or_ge l.blk w.heap.size with k | k
  · exact k
  · rw [Array.getElem?_eq_none k] at this
    unfold live at hl
    cases hg : h.get b <;> simp_all [BRel]

theorem HRel.memLt (hh : HRel P gl B M ρ h w) {k : Nat} {cs : List Value} (e : M k = some cs) : k < w.heap.size := by
  obtain ⟨e', fr, hk⟩ := hh.mem k cs e
  exact (Array.getElem?_eq_some_iff.1 hk).1

/-- A new block. -/
theorem HRel.new (hh : HRel P gl B M ρ h w) (x : Blk) (o : Obj) (l : Loc) (hl : l.blk = w.heap.size) (hx : BRel P gl M (ρ.add h.nx l) l x (some o)) :
    HRel P gl B M (ρ.add h.nx l) (h.new x) (w.alloc o) ∧ Evo M ρ h w M (ρ.add h.nx l) (h.new x) (w.alloc o) := by
  have hr := hh.rle l
  have old : ∀ b l', ρ.add h.nx l b = some l' → b ≠ h.nx → ρ b = some l' := fun b l' e hb => by simpa [Rho.add, hb] using e
  have lv : ∀ b, b ≠ h.nx → (live (h.new x) b ↔ live h b) := fun b hb => by simp [live, Heap.get_new, hb]
  constructor
  · constructor
    · intro b l' e
      by_cases hb : b = h.nx
      · simp [hb]
      · have := hh.bound b l' (old b l' e hb); simp; omega
    · intro b l' e
      by_cases hb : b = h.nx
      · subst hb
        rw [Rho.add_same] at e
        cases e
        rw [Heap.get_new, if_pos rfl, hl, heap_alloc_new]
        exact hx
      · have e' := old b l' e hb
        rw [Heap.get_new, if_neg hb]
        by_cases hlv : live h b
        · rw [heap_alloc_old _ _ _ (hh.blkLt e' hlv)]
          exact BRel.mono (Mle.refl _) hr (hh.blk b l' e')
        · simp [live] at hlv
          simp [hlv, BRel]
    · intro b b' l1 l2 e1 e2 v1 v2 heq
      by_cases hb : b = h.nx <;> by_cases hb' : b' = h.nx
      · rw [hb, hb']
      · subst hb
        rw [Rho.add_same] at e1
        cases e1
        have := hh.blkLt (old b' l2 e2 hb') ((lv b' hb').1 v2)
        omega
      · subst hb'
        rw [Rho.add_same] at e2
        cases e2
        have := hh.blkLt (old b l1 e1 hb) ((lv b hb).1 v1)
        omega
      · exact hh.inj b b' l1 l2 (old b l1 e1 hb) (old b' l2 e2 hb') ((lv b hb).1 v1) ((lv b' hb').1 v2) heq
    · intro k cs e
      obtain ⟨e', fr, hk⟩ := hh.mem k cs e
      exact ⟨e', fr, by rw [heap_alloc_old _ _ _ (hh.memLt e)]; exact hk⟩
    · intro b l' e v
      by_cases hb : b = h.nx
      · subst hb
        rw [Rho.add_same] at e
        cases e
        cases hm : M l.blk with
        | none => rfl
        | some cs => have := hh.memLt hm; omega
      · exact hh.sep b l' (old b l' e hb) ((lv b hb).1 v)
    · intro b l' e v
      by_cases hb : b = h.nx
      · subst hb
        rw [Rho.add_same] at e
        cases e
        have := hh.room
        omega
      · exact hh.base b l' (old b l' e hb) ((lv b hb).1 v)
    · intro b hb
      simp at hb
      rw [Heap.get_new, if_neg (by omega)]
      exact hh.fresh b (by omega)
    · have := hh.room
      simp
      omega
    · have := hh.lonx
      simp
      omega
    · exact hh.glob
  · refine ⟨hr, Mle.refl _, rfl, by simp, rfl, rfl, rfl, by simp, ?_, ?_, ?_, ?_, fun _ _ q => .inl q⟩
    · intro b l' e v hlo
      by_cases hb : b = h.nx
      · subst hb
        rw [Rho.add_same] at e
        cases e
        exact .inl (by omega)
      · exact .inr ⟨b, l', old b l' e hb, (lv b hb).1 v, hlo, rfl⟩
    · intro k hk _
      exact heap_alloc_old _ _ _ hk
    · intro b _ _ hb
      rw [Heap.get_new]
      have := hh.lonx
      rw [if_neg (by omega)]
    · intro b l' e e'
      by_cases hb : b = h.nx
      · omega
      · rw [old b l' e hb] at e'
        cases e'

/-- One block's object is another one; the block of ours becomes x (or dies). -/
theorem HRel.upd (hh : HRel P gl B M ρ h w) {b : Nat} {l : Loc} (e : ρ b = some l) (hlv : live h b) (hlo : h.lo ≤ b) (x : Blk) (w' : World)
    (hos : w'.os = w.os) (htape : w'.tape = w.tape) (hout : w'.output = w.output) (hsz : w'.heap.size = w.heap.size)
    (hoth : ∀ k, k ≠ l.blk → w'.heap[k]? = w.heap[k]?) (hx : BRel P gl M ρ l x w'.heap[l.blk]?) :
    HRel P gl B M ρ (h.set b x) w' ∧ Evo M ρ h w M ρ (h.set b x) w' := by
  have lv : ∀ c, live (h.set b x) c → live h c := by
    intro c hc
    by_cases hb : c = b
    · rw [hb]; exact hlv
    · simpa [live, Heap.get_set, hb] using hc
  constructor
  · constructor
    · intro c l' e'
      simpa using hh.bound c l' e'
    · intro c l' e'
      rw [Heap.get_set]
      by_cases hb : c = b
      · subst hb
        rw [e] at e'
        cases e'
        rw [if_pos rfl]
        exact hx
      · rw [if_neg hb]
        by_cases hc : live h c
        · have hne : l'.blk ≠ l.blk := fun q => hb (hh.inj c b l' l e' e hc hlv q)
          rw [hoth _ hne]
          exact hh.blk c l' e'
        · simp [live] at hc
          simp [hc, BRel]
    · intro c c' l1 l2 e1 e2 v1 v2 heq
      exact hh.inj c c' l1 l2 e1 e2 (lv c v1) (lv c' v2) heq
    · intro k cs hk
      obtain ⟨e', fr, hk'⟩ := hh.mem k cs hk
      have hne : k ≠ l.blk := fun q => by have := hh.sep b l e hlv; rw [← q, hk] at this; cases this
      exact ⟨e', fr, by rw [hoth _ hne]; exact hk'⟩
    · intro c l' e' v
      exact hh.sep c l' e' (lv c v)
    · intro c l' e' v
      exact hh.base c l' e' (lv c v)
    · intro c hc
      simp at hc
      have hb : c ≠ b := by have := hh.bound b l e; omega
      rw [Heap.get_set, if_neg hb]
      exact hh.fresh c hc
    · rw [hsz]; exact hh.room
    · simpa using hh.lonx
    · exact hh.glob
  · refine ⟨Rle.refl _, Mle.refl _, rfl, by simp, hos, htape, hout, by omega, ?_, ?_, ?_, ?_, fun _ _ q => .inl q⟩
    · intro c l' e' v hc
      exact .inr ⟨c, l', e', lv c v, hc, rfl⟩
    · intro k _ hno
      exact hoth k (fun q => hno b l e hlv hlo q.symm)
    · intro c _ _ hc
      rw [Heap.get_set, if_neg (by omega)]
    · intro c l' e1 e2
      rw [e1] at e2
      cases e2

/-- A block is forgotten. -/
theorem HRel.kill (hh : HRel P gl B M ρ h w) {b : Nat} {l : Loc} (e : ρ b = some l) (hlv : live h b) (hlo : h.lo ≤ b) :
    HRel P gl B M ρ (h.set b .dead) w ∧ Evo M ρ h w M ρ (h.set b .dead) w :=
  hh.upd e hlv hlo .dead w rfl rfl rfl rfl (fun _ _ => rfl) (by simp [BRel])
end

-- ------------------------------------------------------------------ reading cells

section
variable {P : Program} {gl : Nat → Option (List V)} {B : Nat} {M : Mem} {ρ : Rho} {h : Heap} {w : World}

theorem cell_of_obj {w : World} {g j : Nat} {cs : Array Value} {t : TypeId} {fr : Nat × Nat} (hg : w.heap[g]? = some (.cells cs t fr)) : w.cell? ⟨g, j, none⟩ = cs[j]? := by
  simp [World.cell?, hg]

theorem addr_add (g j i : Nat) : (⟨g, j, none⟩ : Addr).add i = ⟨g, j + i, none⟩ := by
  unfold Addr.add
  split
  · rename_i e; subst e; rfl
  · rfl

/-- What is read from a place on: an address, and values that lie there. -/
theorem cellsAt_rel (hh : HRel P gl B M ρ h w) {v : V} {x : Value} (hv : VRel M ρ v x) {cs : List V} (hc : cellsAt h v = some cs) :
    ∃ a row, x = .pointer (some a) ∧ a.spot = none ∧ VRels M ρ cs row ∧ ∀ i u, row[i]? = some u → w.cell? (a.add i) = some u := by
  cases v with
  | ptr b off =>
    simp only [cellsAt] at hc
    simp only [VRel] at hv
    obtain ⟨l, e, rfl⟩ := hv
    have hb := hh.blk b l e
    split at hc
    · rename_i c o heq
      cases hc
      rw [heq] at hb
      simp only [BRel] at hb
      obtain ⟨cur, e', fr, h1, h2, h3, h4, h5, h6⟩ := hb
      refine ⟨_, (cur.toList.drop l.base).drop off, rfl, rfl, VRels.drop off h4, ?_⟩
      intro i u hu
      rw [addr_add, cell_of_obj h1]
      simpa [List.drop_drop, List.getElem?_drop, Nat.add_assoc] using hu
    · cases hc
  | iptr c =>
    simp only [cellsAt] at hc
    cases hc
    simp only [VRel] at hv
    obtain ⟨a, row, rfl, h1, h2, h3⟩ := hv
    obtain ⟨e', fr, hk⟩ := hh.mem _ _ h1
    refine ⟨a, row.drop a.off, rfl, h2, VRels.mono (Mle.refl _) (fun _ _ q => by cases q) _ h3, ?_⟩
    intro i u hu
    obtain ⟨ab, ao, as⟩ := a
    cases h2
    rw [addr_add, cell_of_obj hk]
    simpa [List.getElem?_drop] using hu
  | _ => simp [cellsAt] at hc

theorem takeN_eq : ∀ (n : Nat) (l r : List V), takeN n l = some r → r = l.take n ∧ r.length = n
  | 0, _, r, h => by simp [takeN] at h; subst h; simp
  | n + 1, [], r, h => by simp [takeN] at h
  | n + 1, x :: xs, r, h => by
    simp only [takeN] at h
    split at h
    · rename_i q hq
      cases h
      obtain ⟨h1, h2⟩ := takeN_eq n xs q hq
      exact ⟨by simp [h1], by simp [h2]⟩
    · cases h

theorem VRels.takeN {vs us : List V} {xs : List Value} {n : Nat} (h : VRels M ρ vs xs) (hn : Go.VE.takeN n vs = some us) : VRels M ρ us (xs.take n) ∧ us.length = n ∧ (xs.take n).length = n := by
  obtain ⟨rfl, hl⟩ := takeN_eq n vs us hn
  have hlen : n ≤ vs.length := by simp at hl; omega
  have hx := h.length
  refine ⟨?_, hl, by simp; omega⟩
  have key : ∀ (n : Nat) (vs : List V) (xs : List Value), VRels M ρ vs xs → VRels M ρ (vs.take n) (xs.take n) := by
    intro n
    induction n with
    | zero => intro vs xs _; simp [VRels.nil]
    | succ n ih =>
      intro vs xs h
      cases vs with
      | nil => simp [VRels.nil]
      | cons v vs =>
        obtain ⟨x, ys, rfl, h1, h2⟩ := VRels.cons_iff.1 h
        simp only [List.take_succ_cons]
        exact VRels.cons_iff.2 ⟨x, _, rfl, h1, ih vs ys h2⟩
  exact key n vs xs h

/-- The cells of a slice. -/
theorem rowOf_rel (hh : HRel P gl B M ρ h w) {v : V} {x : Value} (hv : VRel M ρ v x) {sz : Nat} {cs : List V} {n : Nat} (hc : rowOf h sz v = some cs) (hn : lenOf v = some n) (hl : cs.length = n * sz) :
    ∃ ba cap row, x = .slice ba n cap ∧ VRels M ρ cs row ∧ row.length = n * sz ∧ (ba = none → n = 0) ∧ ∀ a, ba = some a → ∀ i u, row[i]? = some u → w.cell? (a.add i) = some u := by
  cases v with
  | sl b off len cap sz' =>
    simp only [rowOf] at hc
    simp only [lenOf, Option.some.injEq] at hn
    subst hn
    simp only [VRel] at hv
    obtain ⟨l, a, cap', e, rfl, h1, h2, h2'⟩ := hv
    by_cases hsz : sz = sz'
    · subst hsz
      simp only [beq_dec, decide_true, cond_true] at hc
      have hb := hh.blk b l e
      split at hc
      · rename_i c o heq
        rw [heq] at hb
        simp only [BRel] at hb
        obtain ⟨cur, e', fr, k1, k2, k3, k4, k5, k6⟩ := hb
        obtain ⟨q1, q2, q3⟩ := VRels.takeN (VRels.drop off k4) hc
        refine ⟨some a, cap', _, rfl, q1, by rw [q3], by simp, ?_⟩
        rintro a' rfl' i u hu
        cases rfl'
        have hi : i < len * sz := by
          have := (List.getElem?_eq_some_iff.1 hu).1
          rw [q3] at this
          exact this
        rcases h2 with h2 | h2
        · exfalso
          have := capR_le h1
          have : len = 0 := by omega
          subst this
          omega
        · subst h2
          rw [addr_add, cell_of_obj k1]
          rw [List.getElem?_take, if_pos hi] at hu
          simpa [List.drop_drop, List.getElem?_drop, Nat.add_assoc] using hu
      · cases hc
    · simp [beq_dec, hsz] at hc
  | nils =>
    simp only [rowOf, Option.some.injEq] at hc
    simp only [lenOf, Option.some.injEq] at hn
    subst hc hn
    simp only [VRel] at hv
    subst hv
    exact ⟨none, 0, [], rfl, VRels.nil, by simp, by simp, by simp⟩
  | isl c len cap =>
    simp only [rowOf] at hc
    simp only [lenOf, Option.some.injEq] at hn
    subst hn
    simp only [VRel] at hv
    obtain ⟨a, cap', rfl, h1, h2, h3⟩ := hv
    by_cases hq : c.length = len * sz
    · simp only [beq_dec, hq, decide_true, cond_true, Option.some.injEq] at hc
      subst hc
      rcases h3 with rfl | ⟨row, k1, k2, k3⟩
      · refine ⟨some a, cap', [], rfl, VRels.nil, by simpa using hl, by simp, by simp⟩
      · obtain ⟨e', fr, hk⟩ := hh.mem _ _ k1
        have hlen := k3.length
        refine ⟨some a, cap', (row.drop a.off).take c.length, rfl, VRels.mono (Mle.refl _) (fun _ _ q => by cases q) _ (VRels.take _ k3 (Nat.le_refl _)), ?_, by simp, ?_⟩
        · rw [List.length_take, hl] at *
          omega
        · rintro a' rfl' i u hu
          cases rfl'
          obtain ⟨ab, ao, as⟩ := a
          cases k2
          rw [addr_add, cell_of_obj hk]
          rw [List.getElem?_take] at hu
          split at hu
          · simpa [List.getElem?_drop] using hu
          · cases hu
    · simp [beq_dec, hq] at hc
  | _ => simp [rowOf] at hc

theorem rowOf_len {v : V} {sz : Nat} {cs : List V} {n : Nat} (hc : rowOf h sz v = some cs) (hn : lenOf v = some n) : cs.length = n * sz := by
  cases v with
  | sl b off len cap sz' =>
    simp only [rowOf] at hc
    simp only [lenOf, Option.some.injEq] at hn
    subst hn
    by_cases hsz : sz = sz'
    · subst hsz
      simp only [beq_dec, decide_true, cond_true] at hc
      split at hc
      · exact (takeN_eq _ _ _ hc).2
      · cases hc
    · simp [beq_dec, hsz] at hc
  | nils =>
    simp only [rowOf, Option.some.injEq] at hc
    simp only [lenOf, Option.some.injEq] at hn
    subst hc hn
    simp
  | isl c len cap =>
    simp only [rowOf] at hc
    simp only [lenOf, Option.some.injEq] at hn
    subst hn
    by_cases hq : c.length = len * sz
    · simp only [beq_dec, hq, decide_true, cond_true, Option.some.injEq] at hc
      subst hc
      exact hq
    · simp [beq_dec, hq] at hc
  | _ => simp [rowOf] at hc
end
end Go.VE
