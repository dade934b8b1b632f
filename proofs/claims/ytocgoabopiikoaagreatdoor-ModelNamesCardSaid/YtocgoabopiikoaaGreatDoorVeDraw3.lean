/- A part of a proof that a small evaluator of the translated code agrees with the model (part Draw3). No statement of the program stands here. -/
import Derived.Test.YtocgoabopiikoaaGreatDoorVeDraw2
set_option linter.all false
namespace Go.VE

theorem stepOp_congr {vp : Nat → Option VFn} {m : Nat} {o : VOp} {s t : Slots} {h : Heap} (hr : ∀ i ∈ rdOp o, s.at i = t.at i) : stepOp vp m o s h = stepOp vp m o t h := by
  cases m with
  | zero => simp [stepOp]
  | succ m =>
    cases o
    case call f xs => simp only [rdOp] at hr; simp only [stepOp, opds_congr hr]
    case callp f xs => simp only [rdOp] at hr; simp only [stepOp, opds_congr hr]
    case callo f xs => simp only [rdOp] at hr; simp only [stepOp, opds_congr hr]
    case callv x xs =>
      simp only [rdOp, List.mem_append] at hr
      simp only [stepOp]
      rw [opds_congr (fun i q => hr i (.inr q)), opd_congr (x := x) (fun i q => hr i (.inl q))]
    all_goals
      simp only [stepOp]
      exact opE_congr hr

/-- does an operation look at block b, or change it? -/
def View (o : VOp) (s : Slots) (b : Nat) : Prop :=
  (∃ n i off, o = .ld n (.t i) ∧ s.at i = .ptr b off) ∨ (∃ n i x off, o = .st n (.t i) x ∧ s.at i = .ptr b off) ∨ kindOf o = 4 ∨ kindOf o = 5 ∨ kindOf o = 6

theorem stepOp_opE {vp : Nat → Option VFn} {m : Nat} {o : VOp} {s : Slots} {h h' : Heap} {v : V} (he : stepOp vp m o s h = some (v, h')) (hc : isCall o = false) : opE o s h = some (v, h') ∧ ∀ s2 h2, stepOp vp m o s2 h2 = opE o s2 h2 := by
  cases m with
  | zero => simp [stepOp] at he
  | succ m => cases o <;> first | (cases hc; done) | (exact ⟨by simpa [stepOp] using he, fun s2 h2 => by simp [stepOp]⟩)

theorem kind_call {o : VOp} (hc : isCall o = true) : kindOf o = 5 ∨ (∃ f xs, o = .callp f xs) ∨ ∃ f xs, o = .callo f xs := by
  cases o <;> first | (cases hc; done) | exact .inl rfl | exact .inr (.inl ⟨_, _, rfl⟩) | exact .inr (.inr ⟨_, _, rfl⟩)

def bare (m : Nat) : Heap := { nx := m, lo := m, tr := .lf }
theorem bare_get (m b : Nat) : (bare m).get b = .dead := by simp [bare, Heap.get, Tr.get_lf]

theorem slca_lo {n sz : Nat} {x : Opd} {lo hi mx : Option Opd} {s : Slots} {h h' : Heap} {v : V} {l : Nat} (he : op_slca n sz x lo hi mx s h = some (v, h')) : op_slca n sz x lo hi mx s { h with lo := l } = some (v, { h with lo := l }) := by
  simp only [op_slca, Bool.cond_eq_ite] at he ⊢
  split at he
  · cases he
  · split at he
    · cases he
    · split at he
      · cases he
      · split at he
        · split at he
          · rename_i c o hg
            have hg' : ({ h with lo := l } : Heap).get _ = .cells c o := hg
            rw [hg']
            simp only
            split at he
            · cases he
            · rename_i h1
              rw [if_neg h1]
              split at he
              · rename_i h2
                cases he
                rw [if_pos h2]
              · cases he
          · cases he
        · cases hq : takeN _ _ with
          | none => rw [hq] at he; cases he
          | some z => rw [hq] at he; cases he; rfl
        · cases he

theorem slc_lo {sz : Nat} {x : Opd} {lo hi mx : Option Opd} {s : Slots} {h h' : Heap} {v : V} {l : Nat} (he : op_slc sz x lo hi mx s h = some (v, h')) : op_slc sz x lo hi mx s { h with lo := l } = some (v, { h with lo := l }) := by
  simp only [op_slc] at he ⊢
  obtain ⟨e1, _⟩ := map_pair he
  have : ∀ u a b c, sliceV { h with lo := l } sz u a b c = sliceV h sz u a b c := by
    intro u a b c
    unfold sliceV
    rfl
  rw [this, e1]
  rfl

theorem quiet_view {vp : Nat → Option VFn} {m : Nat} {o : VOp} {s : Slots} {h h' : Heap} {v : V} (hwf : wf h) (hk : kindOf o = 0 ∨ kindOf o = 2 ∨ kindOf o = 4) (he : stepOp vp m o s h = some (v, h')) :
    h' = h ∧ ∃ hv : Heap, hv.nx = h.nx ∧ hv.lo = h.nx ∧ (∀ b, hv.get b = .dead ∨ (View o s b ∧ hv.get b = h.get b)) ∧ stepOp vp m o s hv = some (v, hv) := by
  cases hc : isCall o with
  | true =>
    rcases kind_call hc with q | ⟨f, xs, rfl⟩ | ⟨f, xs, rfl⟩
    · omega
    case inr.inr => simp [kindOf] at hk
    · obtain ⟨e1, e2⟩ := callp_same he
      exact ⟨e1, { h with lo := h.nx }, rfl, rfl, fun b => .inr ⟨.inr (.inr (.inl rfl)), rfl⟩, e2⟩
  | false =>
    obtain ⟨he', hall⟩ := stepOp_opE he hc
    rcases hk with hk | hk | hk
    · obtain ⟨e1, e2⟩ := kind0 hk he'
      exact ⟨e1, bare h.nx, rfl, rfl, fun b => .inl (bare_get _ _), by rw [hall]; exact e2 _⟩
    · obtain ⟨n, i, rfl⟩ := kind2_is hk
      obtain ⟨e1, ⟨b, off, e2, _, e3⟩ | ⟨e2, e3⟩⟩ := kind2 he'
      · refine ⟨e1, (bare h.nx).set b (h.get b), rfl, rfl, fun c => ?_, ?_⟩
        · rw [Heap.get_set]
          split
          · rename_i e; subst e; exact .inr ⟨.inl ⟨n, i, off, rfl, e2⟩, rfl⟩
          · exact .inl (bare_get _ _)
        · rw [hall]
          exact e3 _ (by rw [Heap.get_set, if_pos rfl])
      · exact ⟨e1, bare h.nx, rfl, rfl, fun b => .inl (bare_get _ _), by rw [hall]; exact e3 _⟩
    · have e1 := kind4 hk (fun f xs q => by subst q; cases hc) he'
      refine ⟨e1, { h with lo := h.nx }, rfl, rfl, fun b => .inr ⟨.inr (.inr (.inl hk)), rfl⟩, ?_⟩
      rw [hall]
      cases o <;> simp only [kindOf] at hk <;> (try (cases hk; done))
      case callp => cases hc
      case slc sz x lo hi mx => exact slc_lo he'
      case slca n sz x lo hi mx => exact slca_lo he'
      case ld n a => cases a with
        | t i => simp [kLd] at hk
        | k u => cases u <;> simp [kLd] at hk
      case st n a x => cases a <;> simp [kSt] at hk

theorem new_view {vp : Nat → Option VFn} {m : Nat} {o : VOp} {s : Slots} {h h' : Heap} {v : V} (hk : kindOf o = 1) (he : stepOp vp m o s h = some (v, h')) :
    ∃ X, h' = h.new X ∧ stepOp vp m o s (bare h.nx) = some (v, (bare h.nx).new X) := by
  have hc : isCall o = false := by cases o <;> first | rfl | (cases hk; done)
  obtain ⟨he', hall⟩ := stepOp_opE he hc
  obtain ⟨X, e1, e2⟩ := kind1 hk he'
  exact ⟨X, e1, by rw [hall]; exact e2 _ rfl⟩

/-- a call that makes blocks of its own -/
theorem own_view {vp : Nat → Option VFn} {m : Nat} {o : VOp} {s : Slots} {h h' : Heap} {v : V} (hk : kindOf o = 6) (he : stepOp vp m o s h = some (v, h')) :
    (∀ b, b < h.nx → h'.get b = h.get b) ∧ stepOp vp m o s { h with lo := h.nx } = some (v, { h' with lo := h.nx }) := by
  cases o <;> simp only [kindOf] at hk <;> (try (cases hk; done))
  case callo f xs =>
    have e := callo_same he
    have st := (run_step vp m).2.2.1 _ _ _ _ _ e
    exact ⟨fun b hb => st.low (Nat.le_refl _) b hb, e⟩
  case slc sz x lo hi mx => cases mx <;> simp [kMx] at hk
  case ld n a => cases a with
    | t i => simp [kLd] at hk
    | k u => cases u <;> simp [kLd] at hk
  case st n a x => cases a <;> simp [kSt] at hk

/-- a store -/
theorem store_view {vp : Nat → Option VFn} {m n i : Nat} {x : Opd} {s : Slots} {h h' : Heap} {v : V} (he : stepOp vp m (.st n (.t i) x) s h = some (v, h')) :
    ∃ b off, s.at i = .ptr b off ∧ ((n = 0 ∧ h' = h ∧ stepOp vp m (.st n (.t i) x) s (bare h.nx) = some (v, bare h.nx)) ∨
      (n ≠ 0 ∧ h.lo ≤ b ∧ (∃ c o, h.get b = .cells c o) ∧ ∃ y, h' = h.set b y ∧ y ≠ .dead ∧ ∀ h2 : Heap, h2.get b = h.get b → h2.lo = h.lo → stepOp vp m (.st n (.t i) x) s h2 = some (v, h2.set b y))) := by
  obtain ⟨he', hall⟩ := stepOp_opE he rfl
  obtain ⟨b, off, e1, ⟨e0, e2, e3⟩ | ⟨e0, e2, e3, y, e4, e5, e6⟩⟩ := kind3 he'
  · exact ⟨b, off, e1, .inl ⟨e0, e2, by rw [hall]; exact e3 _⟩⟩
  · exact ⟨b, off, e1, .inr ⟨e0, e2, e3, y, e4, e5, fun h2 q1 q2 => by rw [hall]; exact e6 h2 q1 q2⟩⟩

-- ------------------------------------------------------------------ slots that are not looked at

/-- slots as they are at the listed places, unknown elsewhere -/
theorem mask_slots (s : Slots) (l : List Nat) (K : Nat) : ∃ s2 : Slots, (∀ t, t ∈ l → s2.at t = s.at t) ∧ (∀ t, t ∉ l → t < K → s2.at t = .top) ∧ (∀ t, t ∉ l → K ≤ t → s2.at t = .tup []) := by
  have base : ∀ K, ∃ s0 : Slots, (∀ t, t < K → s0.at t = .top) ∧ (∀ t, K ≤ t → s0.at t = .tup []) := by
    intro K
    induction K with
    | zero => exact ⟨.lf, fun t h => by omega, fun t _ => by simp [Slots.at, Tr.get_lf]⟩
    | succ K ih =>
      obtain ⟨s0, h1, h2⟩ := ih
      refine ⟨Tr.set s0 K .top, fun t ht => ?_, fun t ht => ?_⟩
      · rw [Slots.at_set]
        split
        · rfl
        · exact h1 t (by omega)
      · rw [Slots.at_set, if_neg (by omega)]
        exact h2 t (by omega)
  induction l with
  | nil =>
    obtain ⟨s0, h1, h2⟩ := base K
    exact ⟨s0, fun t h => by simp at h, fun t _ h => h1 t h, fun t _ h => h2 t h⟩
  | cons i l ih =>
    obtain ⟨s0, h1, h2, h3⟩ := ih
    refine ⟨Tr.set s0 i (s.at i), fun t ht => ?_, fun t ht hK => ?_, fun t ht hK => ?_⟩
    · rw [Slots.at_set]
      split
      · rename_i e; rw [e]
      · rename_i e
        exact h1 t ((List.mem_cons.1 ht).resolve_left e)
    · simp at ht
      rw [Slots.at_set, if_neg ht.1]
      exact h2 t ht.2 hK
    · simp at ht
      rw [Slots.at_set, if_neg ht.1]
      exact h3 t ht.2 hK

def Rho.below (ρ : Rho) (m : Nat) : Rho := fun b => if b < m then ρ b else none
theorem Rho.below_some {ρ : Rho} {m b : Nat} {l : Loc} : ρ.below m b = some l ↔ b < m ∧ ρ b = some l := by
  unfold Rho.below
  by_cases h : b < m
  · simp [h]
  · simp [h]
theorem below_le (ρ : Rho) (m : Nat) : Rle (ρ.below m) ρ := fun b l e => (Rho.below_some.1 e).2
theorem below_mono {ρ ρ' : Rho} (h : Rle ρ ρ') {m m' : Nat} (hm : m ≤ m') : Rle (ρ.below m) (ρ'.below m') := fun b l e => by
  obtain ⟨h1, h2⟩ := Rho.below_some.1 e
  exact Rho.below_some.2 ⟨by omega, h b l h2⟩
end Go.VE
