/- A part of a proof that a small evaluator of the translated code agrees with the model (part Step). No statement of the program stands here. -/
import Derived.Test.YtocgoabopiikoaaGreatDoorVeFoot
set_option linter.all false
namespace Go.VE

def wf (h : Heap) : Prop := ∀ b, h.nx ≤ b → h.get b = .dead
structure Step (h h' : Heap) : Prop where
  nx : h.nx ≤ h'.nx
  lo : h'.lo = h.lo
  wf : wf h → wf h'
  low : h.lo ≤ h.nx → ∀ b, b < h.lo → h'.get b = h.get b
theorem Step.refl (h : Heap) : Step h h := ⟨Nat.le_refl _, rfl, id, fun _ _ _ => rfl⟩
theorem Step.trans {a b c : Heap} (x : Step a b) (y : Step b c) : Step a c :=
  ⟨Nat.le_trans x.nx y.nx, y.lo.trans x.lo, fun q => y.wf (x.wf q), fun q i hi => (y.low (by rw [x.lo]; exact Nat.le_trans q x.nx) i (by rw [x.lo]; exact hi)).trans (x.low q i hi)⟩
theorem Step.new (h : Heap) (x : Blk) : Step h (h.new x) := by
  refine ⟨by simp, rfl, fun q b hb => ?_, fun q b hb => ?_⟩
  · simp at hb
    rw [Heap.get_new, if_neg (by omega)]
    exact q b (by omega)
  · rw [Heap.get_new, if_neg (by omega)]
theorem lo_of {b lo : Nat} (h : ¬ (Nat.blt b lo = true)) : lo ≤ b := by
  rw [blt_dec] at h
  simpa using h
theorem Step.set {h : Heap} {b : Nat} (x : Blk) (hb : h.get b ≠ .dead) (hlo : h.lo ≤ b) : Step h (h.set b x) := by
  refine ⟨by simp, rfl, fun q c hc => ?_, fun q c hc => ?_⟩
  · simp at hc
    rw [Heap.get_set, if_neg (fun e => hb (by subst e; exact q c hc))]
    exact q c hc
  · rw [Heap.get_set, if_neg (by omega)]
theorem Step.kill {h : Heap} (b : Nat) (hlo : h.lo ≤ b) : Step h (h.set b .dead) := by
  refine ⟨by simp, rfl, fun q c hc => ?_, fun q c hc => ?_⟩
  · simp at hc
    rw [Heap.get_set]
    split
    · rfl
    · exact q c hc
  · rw [Heap.get_set, if_neg (by omega)]

theorem Step.setAt {h h2 : Heap} {b : Nat} (x : Blk) (s : Step h h2) (hb : h.get b ≠ .dead) (hlo : h.lo ≤ b) : Step h (h2.set b x) := by
  refine ⟨by simpa using s.nx, by simpa using s.lo, fun q c hc => ?_, fun q c hc => ?_⟩
  · simp at hc
    have hlt : b < h.nx := by
      rcases Nat.lt_or_ge b h.nx with k | k
      · exact k
      · exact absurd (q b k) hb
    have := s.nx
    rw [Heap.get_set, if_neg (by omega)]
    exact s.wf q c hc
  · rw [Heap.get_set, if_neg (by omega)]
    exact s.low q c hc

theorem Step.killNew {h h2 : Heap} (s : Step h h2) : Step h (h2.set h.nx .dead) := by
  refine ⟨by simpa using s.nx, by simpa using s.lo, fun q c hc => ?_, fun q c hc => ?_⟩
  · simp at hc
    rw [Heap.get_set]
    split
    · rfl
    · exact s.wf q c hc
  · rw [Heap.get_set, if_neg (by omega)]
    exact s.low q c hc

theorem store_step {h h' : Heap} {b off : Nat} {xs : List V} (he : store h b off xs = some h') : Step h h' := by
  cases xs with
  | nil => cases he; exact .refl _
  | cons x xs =>
    simp only [store, Bool.cond_eq_ite] at he
    split at he
    · cases he
    · split at he
      · rename_i hg
        split at he
        · cases he
          exact .set _ (by rw [hg]; simp) (lo_of (by assumption))
        · cases he
      · cases he

theorem append_step {h h' : Heap} {sz bytes n : Nat} {s v : V} {new : List V} (he : appendV h sz bytes s n new = some (v, h')) : Step h h' := by
  unfold appendV at he
  split at he
  · split at he <;> cases he <;> exact .refl _
  · split at he
    · simp only [Bool.cond_eq_ite] at he
      split at he
      · cases he
      · cases he; exact .new _ _
    · simp only [Bool.cond_eq_ite] at he
      split at he
      · cases he
      · split at he
        · cases he
        · split at he
          · cases he; exact .new _ _
          · cases he
    · simp only [Bool.cond_eq_ite] at he
      split at he
      · split at he
        · rename_i hg
          split at he
          · split at he
            · cases he
            · split at he
              · cases he; exact .set _ (by rw [hg]; simp) (lo_of (by assumption))
              · cases he
          · split at he
            · cases he
            · split at he
              · cases he
              · split at he
                · split at he
                  · cases he
                  · rename_i hor
                    have hlo := lo_of (fun q => hor (by rw [q]; rfl))
                    cases he; exact .trans (.kill _ hlo) (.new _ _)
                · cases he; exact .new _ _
        · cases he
      · cases he
    · cases he

theorem insert_step {h h' : Heap} {sz bytes : Nat} {s i x v : V} (he : insertV h sz bytes s i x = some (v, h')) : Step h h' := by
  unfold insertV at he
  split at he
  · simp only [Bool.cond_eq_ite] at he
    split at he
    · split at he
      · cases he; exact .refl _
      · cases he
    · split at he
      · exact append_step he
      · split at he
        · cases he
        · split at he
          · split at he
            · split at he
              · cases he
              · cases he; exact .new _ _
            · split at he
              · rename_i hg
                split at he
                · cases he
                · rename_i hor
                  have hlo := lo_of (fun q => hor (by rw [q, Bool.or_true]))
                  split at he
                  · split at he
                    · cases he; exact .set _ (by rw [hg]; simp) hlo
                    · cases he
                  · split at he
                    · cases he; exact .trans (.kill _ hlo) (.new _ _)
                    · cases he; exact .new _ _
              · cases he
            · cases he
          · cases he
  · cases he

theorem copyTo_step {h h' : Heap} {sz n : Nat} {d v : V} {cs : List V} (he : copyTo h sz d n cs = some (v, h')) : Step h h' := by
  unfold copyTo at he
  split at he
  · simp only [Bool.cond_eq_ite] at he
    split at he
    · split at he
      · rename_i hs
        cases he
        exact store_step hs
      · cases he
    · cases he
  · cases he; exact .refl _
  · cases he

theorem opE_step {o : VOp} {s : Slots} {h h' : Heap} {v : V} (he : opE o s h = some (v, h')) : Step h h' := by
  by_cases h0 : kindOf o = 0
  · rw [(kind0 h0 he).1]; exact .refl _
  by_cases h1 : kindOf o = 1
  · obtain ⟨x, rfl, _⟩ := kind1 h1 he; exact .new _ _
  by_cases h2 : kindOf o = 2
  · obtain ⟨n, i, rfl⟩ := kind2_is h2
    rw [(kind2 he).1]; exact .refl _
  by_cases h3 : kindOf o = 3
  · obtain ⟨n, i, x, rfl⟩ := kind3_is h3
    obtain ⟨b, off, _, ⟨_, rfl, _⟩ | ⟨_, hlo, ⟨c, o, hg⟩, y, rfl, _⟩⟩ := kind3 he
    · exact .refl _
    · exact .set _ (by rw [hg]; simp) hlo
  by_cases h4 : kindOf o = 4
  · by_cases hc : ∀ f xs, o ≠ .callp f xs
    · rw [kind4 h4 hc he]; exact .refl _
    · cases o <;> simp at hc
      cases he
  cases o <;> simp only [kindOf] at h0 h1 h2 h3 h4 <;> (try exact absurd trivial h0) <;> (try exact absurd trivial h1) <;> (try exact absurd trivial h4) <;> simp only [opE] at he
  case ld n a =>
    cases a with
    | t i => exact absurd rfl h2
    | k u =>
      simp only [op_ld] at he
      split at he
      · rw [(map_pair he).2]; exact .refl _
      · cases he
  case st n a x =>
    simp only [op_st, Bool.cond_eq_ite] at he
    split at he
    · split at he
      · split at he
        · cases hs : store h _ _ _ with
          | none => rw [hs] at he; cases he
          | some h1 => rw [hs] at he; cases he; exact store_step hs
        · cases he
      · cases he
    · cases he
  case s2b x =>
    simp only [op_s2b, Bool.cond_eq_ite] at he
    split at he
    · split at he
      · cases he
      · cases he; exact .new _ _
    · cases he
  case b2s x =>
    simp only [op_b2s] at he
    split at he
    · rename_i cs _
      cases hb : bytesOf cs with
      | none => rw [hb] at he; cases he
      | some l => rw [hb] at he; cases he; exact .refl _
    · cases he
  case slcs x lo hi =>
    simp only [op_slcs] at he
    split at he
    · split at he
      · cases he
      · split at he
        · cases he
        · cases he; exact .refl _
    · cases he
  case slc sz x lo hi mx =>
    simp only [op_slc] at he
    rw [(map_pair he).2]; exact .refl _
  case app sz b x y =>
    simp only [op_app] at he
    split at he
    · exact append_step he
    · cases he
  case apps b x y =>
    simp only [op_apps] at he
    split at he
    · exact append_step he
    · cases he
  case app0 b z x y =>
    simp only [op_app0, Bool.cond_eq_ite] at he
    split at he
    · split at he
      · exact append_step he
      · cases he
    · cases he
  case cpy sz x y =>
    simp only [op_cpy, copyV] at he
    split at he
    · split at he
      · cases he
      · exact copyTo_step he
    · cases he
  case cpys x y =>
    simp only [op_cpys] at he
    split at he
    · simp only [copyS] at he
      split at he
      · split at he
        · cases he
        · exact copyTo_step he
      · cases he
    · cases he
  case call => cases he
  case callv => cases he
  case callo => cases he
  case bad => cases he
  case carry =>
    simp only [op_carry, Bool.cond_eq_ite] at he
    split at he
    · split at he
      · cases he; exact .refl _
      · cases he
    · cases he
  case tasrt t ok z x =>
    simp only [op_tasrt, Bool.cond_eq_ite] at he
    split at he
    · split at he
      · cases he; exact .refl _
      · split at he
        · cases he; exact .refl _
        · cases he
    · split at he
      · cases he; exact .refl _
      · cases he
    · cases he
  case rngs x =>
    simp only [op_rngs] at he
    split at he
    · cases he; exact .new _ _
    · cases he
  case nxts x =>
    simp only [op_nxts, Bool.cond_eq_ite] at he
    split at he
    · split at he
      · cases he
      · split at he
        · rename_i hg
          split at he
          · cases he; exact .refl _
          · split at he
            · cases he; exact .set _ (by rw [hg]; simp) (lo_of (by assumption))
            · cases he
        · cases he
    · cases he
  case mkmap =>
    simp only [op_mkmap] at he
    cases he; exact .new _ _
  case look z ok m k =>
    simp only [op_look] at he
    split at he
    · cases he; exact .refl _
    · split at he
      · split at he
        · cases he; exact .refl _
        · cases he; exact .refl _
        · cases he
      · cases he
    · cases he
  case mupd m k x =>
    simp only [op_mupd, Bool.cond_eq_ite] at he
    split at he
    · split at he
      · cases he
      · split at he
        · rename_i hg
          split at he
          · cases he; exact .set _ (by rw [hg]; simp) (lo_of (by assumption))
          · cases he; exact .set _ (by rw [hg]; simp) (lo_of (by assumption))
          · cases he
        · cases he
    · cases he
  case mdel m k =>
    simp only [op_mdel, Bool.cond_eq_ite] at he
    split at he
    · cases he; exact .refl _
    · split at he
      · cases he
      · split at he
        · rename_i hg
          split at he
          · cases he; exact .set _ (by rw [hg]; simp) (lo_of (by assumption))
          · cases he; exact .refl _
          · cases he
        · cases he
    · cases he
  case lenm m =>
    simp only [op_lenm] at he
    split at he
    · cases he; exact .refl _
    · split at he
      · cases he; exact .refl _
      · cases he
    · cases he
  case clr x z =>
    simp only [op_clr, Bool.cond_eq_ite] at he
    split at he
    · cases he; exact .refl _
    · cases hs : store h _ _ _ with
      | none => rw [hs] at he; cases he
      | some h1 =>
        rw [hs] at he
        simp only [Option.bind_some] at he
        split at he
        · cases he; exact store_step hs
        · cases he
    · cases he

-- ------------------------------------------------------------------ runs

theorem finish_step {mode : Nat} {h h' h2 : Heap} {v v' : V} (s : Step (enterH mode h) h') (he : finish mode h h' v = some (v', h2)) : Step h h2 := by
  unfold finish at he
  split at he
  · cases he; simpa [enterH] using s
  · cases hf : frz frzFuel h' h.nx false v with
    | none => rw [hf] at he; cases he
    | some x => rw [hf] at he; cases he; exact .refl _
  · rename_i n1 n2
    cases he
    have e : enterH mode h = { h with lo := h.nx } := by
      unfold enterH
      split
      · exact absurd rfl n1
      · rfl
    rw [e] at s
    exact ⟨s.nx, rfl, fun q => s.wf q, fun q b hb => s.low (Nat.le_refl _) b (Nat.lt_of_lt_of_le hb q)⟩

theorem run_step (vp : Nat → Option VFn) : ∀ n : Nat,
    (∀ c s h x s' h', exec vp n c s h = some (x, s', h') → Step h h') ∧
    (∀ ops s h s' h', runOps vp n ops s h = some (s', h') → Step h h') ∧
    (∀ o s h v h', stepOp vp n o s h = some (v, h') → Step h h') ∧
    (∀ x args h v h', callV vp n x args h = some (v, h') → Step h h') ∧
    (∀ f args h v h', callF vp n f args h = some (v, h') → Step h h') := by
  intro n
  induction n with
  | zero =>
    refine ⟨?_, ?_, ?_, ?_, ?_⟩ <;> intros <;> rename_i he
    · simp [exec] at he
    · simp [runOps] at he
    · simp [stepOp] at he
    · simp [callV] at he
    · simp [callF] at he
  | succ n ih =>
    obtain ⟨i1, i2, i3, i4, i5⟩ := ih
    refine ⟨?_, ?_, ?_, ?_, ?_⟩
    · intro c s h x s' h' he
      unfold exec at he
      split at he
      · cases he; exact .refl _
      · split at he
        · rename_i hr
          simp only [Bool.cond_eq_ite] at he
          split at he
          · cases he; exact i2 _ _ _ _ _ hr
          · cases he
        · cases he
      · split at he
        · rename_i hr
          exact (i1 _ _ _ _ _ _ hr).trans (i1 _ _ _ _ _ _ he)
        · exact i1 _ _ _ _ _ _ he
      · split at he
        · exact i1 _ _ _ _ _ _ he
        · exact i1 _ _ _ _ _ _ he
        · cases he
      · split at he
        · rename_i hr
          cases he; exact i1 _ _ _ _ _ _ hr
        · exact i1 _ _ _ _ _ _ he
      · split at he
        · rename_i hr
          exact (i1 _ _ _ _ _ _ hr).trans (i1 _ _ _ _ _ _ he)
        · exact i1 _ _ _ _ _ _ he
      · cases he; exact .refl _
      · cases he; exact .refl _
      · exact i1 _ _ _ _ _ _ he
      · simp only at he
        split at he
        · rename_i hr
          have k := (Step.new _ _).trans (i4 _ _ _ _ _ hr)
          split at he
          · rename_i hg
            simp only [Bool.cond_eq_ite] at he
            split at he
            · cases he
            · split at he
              · cases he; exact k.killNew
              · cases he; exact k.killNew
          · cases he
        · cases he
    · intro ops s h s' h' he
      unfold runOps at he
      split at he
      · cases he; exact .refl _
      · split at he
        · split at he
          · rename_i hr
            exact (i3 _ _ _ _ _ hr).trans (i2 _ _ _ _ _ he)
          · cases he
        · exact i2 _ _ _ _ _ he
        · cases he
    · intro o s h v h' he
      unfold stepOp at he
      split at he
      · exact i5 _ _ _ _ _ he
      · split at he
        · split at he
          · simp only [Bool.cond_eq_ite] at he
            split at he
            · exact i5 _ _ _ _ _ he
            · cases he
          · cases he
        · cases he
      · split at he
        · split at he
          · simp only [Bool.cond_eq_ite] at he
            split at he
            · exact i5 _ _ _ _ _ he
            · cases he
          · cases he
        · cases he
      · exact i4 _ _ _ _ _ he
      · exact opE_step he
    · intro x args h v h' he
      unfold callV at he
      split at he
      · exact i5 _ _ _ _ _ he
      · simp only [Bool.cond_eq_ite] at he
        split at he
        · cases he
        · split at he
          · rename_i hg
            split at he
            · split at he
              · rename_i hr
                have k := i1 _ _ _ _ _ _ hr
                split at he
                · rename_i hr2
                  cases he
                  exact ((k.setAt _ (by rw [hg]; simp) (lo_of (by assumption))).trans (i1 _ _ _ _ _ _ hr2)).setAt _ (by rw [hg]; simp) (lo_of (by assumption))
                · rename_i hr2
                  cases he
                  exact ((k.setAt _ (by rw [hg]; simp) (lo_of (by assumption))).trans (i1 _ _ _ _ _ _ hr2)).setAt _ (by rw [hg]; simp) (lo_of (by assumption))
                · cases he
              · cases he
            · cases he
          · cases he
      · cases he
    · intro f args h v h' he
      unfold callF at he
      split at he
      · cases he
      · split at he
        · split at he
          · exact insert_step he
          · cases he
        · split at he
          · rename_i hr
            split at he
            · exact finish_step (i1 _ _ _ _ _ _ hr) he
            · cases he
          · rename_i hr
            split at he
            · exact finish_step (i1 _ _ _ _ _ _ hr) he
            · cases he
          · cases he
end Go.VE
