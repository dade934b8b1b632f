/- A part of a proof that a small evaluator of the translated code agrees with the model (part Sound6). No statement of the program stands here. -/
import Derived.Test.YtocgoabopiikoaaGreatDoorVeSound5
set_option linter.all false
namespace Go.VE

theorem argSlots_go : ∀ (args : List V) (i : Nat) (s : Slots) (t : Nat), (argSlots.go i args s).at t = if i ≤ t ∧ t < i + args.length then (args[t - i]?).getD (.tup []) else s.at t
  | [], i, s, t => by
    simp only [argSlots.go, List.length_nil]
    rw [if_neg (by omega)]
  | v :: r, i, s, t => by
    simp only [argSlots.go]
    rw [argSlots_go r (i + 1), Slots.at_set]
    by_cases h1 : i + 1 ≤ t ∧ t < i + 1 + r.length
    · rw [if_pos h1, if_pos (by simp only [List.length_cons]; omega)]
      rw [show t - i = (t - (i + 1)) + 1 by omega]
      simp
    · rw [if_neg h1]
      by_cases h2 : t = i
      · subst h2
        rw [if_pos rfl, if_pos (by simp only [List.length_cons]; omega)]
        simp
      · rw [if_neg h2, if_neg (by simp only [List.length_cons]; omega)]

theorem argSlots_at (args : List V) (t : Nat) : (argSlots args).at t = (args[t]?).getD (.tup []) := by
  unfold argSlots
  rw [argSlots_go]
  by_cases h : t < args.length
  · rw [if_pos (by omega)]
    simp
  · rw [if_neg (by omega)]
    simp [Slots.at, Tr.get_lf, List.getElem?_eq_none (by omega : args.length ≤ t)]

section
variable {P : Program} {gl : Nat → Option (List V)} {pu : Nat → Nat} {N B : Nat} {vp : Nat → Option VFn}

theorem args_rel {M : Mem} {ρ : Rho} {args : List V} {xs : List Value} (hx : VRels M ρ args xs) (hl : args.length = xs.length) (N : Nat) :
    SRel M ρ N (argSlots args) (xs.toArray ++ Array.replicate (N - xs.toArray.size) undef) := by
  refine ⟨by simp; omega, fun t => ?_⟩
  rw [argSlots_at]
  by_cases h : t < args.length
  · obtain ⟨x, h1, h2⟩ := VRels.get t hx (List.getElem?_eq_getElem h)
    have hsz : t < xs.length := by omega
    have e : (xs.toArray ++ Array.replicate (N - xs.toArray.size) undef).getD t undef = x := by
      have : (xs.toArray ++ Array.replicate (N - xs.toArray.size) undef)[t]? = some x := by
        rw [Array.getElem?_append_left (by simpa using hsz)]
        simpa using h1
      simp only [Array.getD_eq_getD_getElem?, this, Option.getD_some]
    rw [e]
    simpa [List.getElem?_eq_getElem h] using h2
  · rw [List.getElem?_eq_none (by omega)]
    have e : (xs.toArray ++ Array.replicate (N - xs.toArray.size) undef).getD t undef = undef := by
      simp only [Array.getD_eq_getD_getElem?]
      rw [Array.getElem?_append_right (by simp; omega)]
      by_cases hq : t - xs.toArray.size < N - xs.toArray.size
      · rw [Array.getElem?_replicate, if_pos hq]
        rfl
      · rw [Array.getElem?_replicate, if_neg hq]
        rfl
    rw [e]
    simp only [Option.getD_none]
    exact undef_rel

theorem call_sound (ht : TabOK P gl pu vp) : ∀ (n : Nat), CallOK P gl B vp n := by
  intro n
  induction n using Nat.strongRecOn with
  | _ n ih =>
    intro M ρ h h' w f args v xs hh hx hl he
    cases n with
    | zero => simp [callF] at he
    | succ n =>
      simp only [callF] at he
      split at he
      · cases he
      · rename_i vf hvf
        split at he
        · rename_i sz bytes hprim
          obtain ⟨t, e, it, ti, z, i1, rfl, rfl⟩ := ht.prim f vf sz bytes hvf hprim
          split at he
          · rename_i s i v
            obtain ⟨X1, r1, rfl, k1, hx⟩ := VRels.cons_iff.1 hx
            obtain ⟨X2, r2, rfl, k2, hx⟩ := VRels.cons_iff.1 hx
            obtain ⟨X3, r3, rfl, k3, hx⟩ := VRels.cons_iff.1 hx
            cases r3 with
            | nil => exact insert_sim i1 hh k1 k2 k3 he
            | cons _ _ => simp at hl
          · cases he
        rename_i hprim
        obtain ⟨fn, c, q1, q2, q3, q4, q5⟩ := ht.body hvf hprim
        have hs := args_rel hx hl fn.ntmps
        have fin : ∀ (x : VX) (s' : Slots) (h1 : Heap), (x = .norm ∨ x = .ret) → exec vp n vf.body (argSlots args) (enterH vf.mode h) = some (x, s', h1) → (match resOf s' h1 vf.res with | some v => finish vf.mode h h1 v | none => none) = some (v, h') →
            Calls P f xs.toArray w (fun e w' => ∃ x, e = .returned x ∧ Post P gl B M ρ h w v h' x w') := by
          intro x s' h1 hxx hex hfin
          refine calls_of_wp q1 q3 ?_
          have := code_sound ht n (fun m hm => ih m (by omega)) c vf.body q4 (a := { tmps := xs.toArray ++ Array.replicate (fn.ntmps - xs.toArray.size) undef, defers := [] }) (hh.enter vf.mode) hs hex
          refine wp_mono this ?_
          rintro e a' w' ⟨rfl, p1, M1, ρ1, p2, p3, p4⟩
          split at hfin
          · rename_i u hu
            obtain ⟨y, r1, r2⟩ := results_run p2 p4.rel q5 hu
            have hpost := finish_sound hh hfin ⟨M1, ρ1, p2, p3, r2⟩
            rcases hxx with rfl | rfl
            · exact ⟨p1, y, r1, y, rfl, hpost⟩
            · exact ⟨p1, y, r1, y, rfl, hpost⟩
          · cases hfin
        split at he
        · rename_i s' h1 hex
          exact fin _ s' h1 (.inl rfl) hex he
        · rename_i s' h1 hex
          exact fin _ s' h1 (.inr rfl) hex he
        · cases he
end
end Go.VE
