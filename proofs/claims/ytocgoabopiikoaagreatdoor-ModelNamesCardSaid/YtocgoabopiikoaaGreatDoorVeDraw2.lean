/- A part of a proof that a small evaluator of the translated code agrees with the model (part Draw2). No statement of the program stands here. -/
import Derived.Test.YtocgoabopiikoaaGreatDoorVeDraw1
set_option linter.all false
namespace Go.VE

-- ------------------------------------------------------------------ the run in the text's order

def StepAt (vp : Nat → Option VFn) (n : Nat) (y : VOper) (s : Slots) (h : Heap) (s1 : Slots) (h1 : Heap) : Prop :=
  (gEval y.g s = some true ∧ ∃ m v, m < n ∧ stepOp vp m y.op s h = some (v, h1) ∧ s1 = slotsPut s y.dst v) ∨
  (gEval y.g s = some false ∧ h1 = h ∧ s1 = slotsPut s y.dst (.tup []))

theorem StepAt.mono {vp : Nat → Option VFn} {n n' : Nat} {y : VOper} {s s1 : Slots} {h h1 : Heap} (hn : n ≤ n') (x : StepAt vp n y s h s1 h1) : StepAt vp n' y s h s1 h1 := by
  rcases x with ⟨a, m, v, b, c⟩ | x
  · exact .inl ⟨a, m, v, by omega, c⟩
  · exact .inr x

theorem trace_of {vp : Nat → Option VFn} : ∀ (n : Nat) (l : List VOper) (s s' : Slots) (h h' : Heap), runOps vp n l s h = some (s', h') →
    ∃ (S : Nat → Slots) (H : Nat → Heap), S 0 = s ∧ H 0 = h ∧ S l.length = s' ∧ H l.length = h' ∧ ∀ (k : Nat) y, l[k]? = some y → StepAt vp n y (S k) (H k) (S (k + 1)) (H (k + 1))
  | 0, l, s, s', h, h', e => by simp [runOps] at e
  | n + 1, [], s, s', h, h', e => by
    simp only [runOps] at e
    cases e
    exact ⟨fun _ => s, fun _ => h, rfl, rfl, rfl, rfl, fun k y hy => by simp at hy⟩
  | n + 1, y :: l, s, s', h, h', e => by
    simp only [runOps] at e
    have key : ∀ (s1 : Slots) (h1 : Heap), StepAt vp (n + 1) y s h s1 h1 → runOps vp n l s1 h1 = some (s', h') →
        ∃ (S : Nat → Slots) (H : Nat → Heap), S 0 = s ∧ H 0 = h ∧ S (y :: l).length = s' ∧ H (y :: l).length = h' ∧ ∀ (k : Nat) z, (y :: l)[k]? = some z → StepAt vp (n + 1) z (S k) (H k) (S (k + 1)) (H (k + 1)) := by
      intro s1 h1 hst hr
      obtain ⟨S, H, a1, a2, a3, a4, a5⟩ := trace_of n l s1 s' h1 h' hr
      refine ⟨fun k => match k with | 0 => s | k + 1 => S k, fun k => match k with | 0 => h | k + 1 => H k, rfl, rfl, a3, a4, ?_⟩
      intro k z hz
      cases k with
      | zero =>
        simp at hz
        subst hz
        show StepAt vp (n + 1) y s h (S 0) (H 0)
        rw [a1, a2]
        exact hst
      | succ k => exact (a5 k z (by simpa using hz)).mono (by omega)
    split at e
    · rename_i hg
      split at e
      · rename_i v h1 hst
        exact key _ _ (.inl ⟨hg, n, v, by omega, hst, rfl⟩) e
      · cases e
    · rename_i hg
      exact key _ _ (.inr ⟨hg, rfl, rfl⟩) e
    · cases e

/-- a region's run -/
structure Run (vp : Nat → Option VFn) (n : Nat) (ys : List VOper) (chk : List (Nat × Nat)) (S : Nat → Slots) (H : Nat → Heap) : Prop where
  step : ∀ (k : Nat) y, ys[k]? = some y → StepAt vp n y (S k) (H k) (S (k + 1)) (H (k + 1))
  wf : wf (H 0)
  chk : chkOk chk (S ys.length) = true

section
variable {vp : Nat → Option VFn} {n : Nat} {ys : List VOper} {chk : List (Nat × Nat)} {S : Nat → Slots} {H : Nat → Heap}

theorem Run.heap (r : Run vp n ys chk S H) {k : Nat} (hk : k < ys.length) : Step (H k) (H (k + 1)) := by
  rcases r.step k ys[k] (by simp [hk]) with ⟨_, m, v, _, h2, _⟩ | ⟨_, h2, _⟩
  · exact (run_step vp m).2.2.1 _ _ _ _ _ h2
  · rw [h2]; exact .refl _

theorem Run.heaps (r : Run vp n ys chk S H) {k : Nat} : ∀ {j : Nat}, k ≤ j → j ≤ ys.length → Step (H k) (H j)
  | 0, hkj, _ => by
    have : k = 0 := by omega
    subst this
    exact .refl _
  | j + 1, hkj, hj => by
    by_cases e : k = j + 1
    · subst e; exact .refl _
    · exact (r.heaps (j := j) (by omega) (by omega)).trans (r.heap (by omega))

theorem Run.nx (r : Run vp n ys chk S H) {k j : Nat} (hkj : k ≤ j) (hj : j ≤ ys.length) : (H k).nx ≤ (H j).nx := (r.heaps hkj hj).nx
theorem Run.lo (r : Run vp n ys chk S H) {k : Nat} (hk : k ≤ ys.length) : (H k).lo = (H 0).lo := (r.heaps (Nat.zero_le _) hk).lo
theorem Run.wfs (r : Run vp n ys chk S H) {k : Nat} (hk : k ≤ ys.length) : VE.wf (H k) := (r.heaps (Nat.zero_le _) hk).wf r.wf

theorem slotsPut_at {s : Slots} {d : Option Nat} {v : V} {t : Nat} (h : d ≠ some t) : (slotsPut s d v).at t = s.at t := by
  cases d with
  | none => rfl
  | some i =>
    simp only [slotsPut]
    rw [Slots.at_set, if_neg (fun e => h (by rw [e]))]
theorem slotsPut_same {s : Slots} {v : V} {t : Nat} : (slotsPut s (some t) v).at t = v := by
  simp only [slotsPut]
  rw [Slots.at_set, if_pos rfl]

theorem Run.slot1 (r : Run vp n ys chk S H) {k : Nat} {y : VOper} (hy : ys[k]? = some y) {t : Nat} (ht : y.dst ≠ some t) : (S (k + 1)).at t = (S k).at t := by
  rcases r.step k y hy with ⟨_, m, v, _, _, h2⟩ | ⟨_, _, h2⟩
  · rw [h2, slotsPut_at ht]
  · rw [h2, slotsPut_at ht]

theorem Run.slots (r : Run vp n ys chk S H) {t k : Nat} : ∀ {j : Nat}, k ≤ j → j ≤ ys.length → (∀ (i : Nat) y, k ≤ i → i < j → ys[i]? = some y → y.dst ≠ some t) → (S j).at t = (S k).at t
  | 0, hkj, _, _ => by
    have : k = 0 := by omega
    subst this
    rfl
  | j + 1, hkj, hj, hno => by
    by_cases e : k = j + 1
    · subst e; rfl
    · rw [r.slot1 (k := j) (y := ys[j]'(by omega)) (by simp) (hno j _ (by omega) (by omega) (by simp))]
      exact r.slots (j := j) (by omega) (by omega) (fun i y h1 h2 => hno i y h1 (by omega))

/-- operation k is carried out and writes (or makes) block b -/
def Wr (ys : List VOper) (S : Nat → Slots) (H : Nat → Heap) (k b : Nat) : Prop :=
  ∃ y, ys[k]? = some y ∧ gEval y.g (S k) = some true ∧
    (((kindOf y.op = 1 ∨ kindOf y.op = 6) ∧ (H k).nx ≤ b ∧ b < (H (k + 1)).nx) ∨ (∃ m i x off, y.op = .st m (.t i) x ∧ (S k).at i = .ptr b off ∧ m ≠ 0) ∨ (kindOf y.op = 5 ∧ b < (H (k + 1)).nx))

theorem callp_same {m : Nat} {f : Nat} {as : List Opd} {s : Slots} {h h' : Heap} {v : V} (he : stepOp vp m (.callp f as) s h = some (v, h')) : h' = h ∧ stepOp vp m (.callp f as) s { h with lo := h.nx } = some (v, { h with lo := h.nx }) := by
  cases m with
  | zero => simp [stepOp] at he
  | succ m =>
    simp only [stepOp] at he ⊢
    split at he
    · rename_i fn hfn
      split at he
      · rename_i hprim
        rw [Bool.cond_eq_ite] at he ⊢
        split at he
        · rename_i hm
          rw [if_pos hm]
          rw [beq_dec] at hm
          have hm : fn.mode = 1 := by simpa using hm
          cases m with
          | zero => simp [callF] at he
          | succ m =>
            simp only [callF, hfn, hprim, hm, finish, enterH] at he ⊢
            split at he
            · rename_i hx
              split at he
              · rename_i hres
                obtain ⟨u, e1, e2⟩ := map_some he
                cases e2
                refine ⟨rfl, ?_⟩
                rw [e1]
                rfl
              · cases he
            · rename_i hx
              split at he
              · rename_i hres
                obtain ⟨u, e1, e2⟩ := map_some he
                cases e2
                refine ⟨rfl, ?_⟩
                rw [e1]
                rfl
              · cases he
            · cases he
        · cases he
      · cases he
    · cases he

theorem callo_same {m : Nat} {f : Nat} {as : List Opd} {s : Slots} {h h' : Heap} {v : V} (he : stepOp vp m (.callo f as) s h = some (v, h')) : stepOp vp m (.callo f as) s { h with lo := h.nx } = some (v, { h' with lo := h.nx }) := by
  cases m with
  | zero => simp [stepOp] at he
  | succ m =>
    simp only [stepOp] at he ⊢
    split at he
    · rename_i fn hfn
      split at he
      · rename_i hprim
        rw [Bool.cond_eq_ite] at he ⊢
        split at he
        · rename_i hm
          rw [if_pos hm]
          rw [beq_dec] at hm
          have hm : fn.mode = 2 := by simpa using hm
          cases m with
          | zero => simp [callF] at he
          | succ m =>
            simp only [callF, hfn, hprim, hm, finish, enterH] at he ⊢
            split at he
            · rename_i hx
              split at he
              · rename_i hres
                cases he
                rfl
              · cases he
            · rename_i hx
              split at he
              · rename_i hres
                cases he
                rfl
              · cases he
            · cases he
        · cases he
      · cases he
    · cases he
end
end Go.VE
