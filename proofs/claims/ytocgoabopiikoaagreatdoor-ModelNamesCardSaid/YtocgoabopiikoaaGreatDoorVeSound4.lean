/- A part of a proof that a small evaluator of the translated code agrees with the model (part Sound4). No statement of the program stands here. -/
import Derived.Test.YtocgoabopiikoaaGreatDoorVeSound3
set_option linter.all false
namespace Go.VE
section
variable {P : Program} {gl : Nat → Option (List V)} {pu : Nat → Nat} {N B : Nat} {M : Mem} {ρ : Rho} {h : Heap} {w : World} {s : Slots} {a : Act} {vp : Nat → Option VFn}

/-- an operation and what it became -/
structure OpAs (P : Program) (gl : Nat → Option (List V)) (pu : Nat → Nat) (N : Nat) (ops : Array Oper) (o : Oper) (y : VOper) : Prop where
  dst : y.dst = o.dst
  dlt : ∀ d, o.dst = some d → d < N
  op : okd (compOp P gl pu o) = y.op
  grd : (o.guard = none ∧ y.g = none) ∨ ∃ g w d, o.guard = some (g, w) ∧ (ops[g]?).bind (·.dst) = some d ∧ d < N ∧ y.g = some (d, w)

theorem compOps_as {ops : Array Oper} : ∀ {os : List Oper} {l : List VOper}, compOps P gl pu N ops os = some l → l.length = os.length ∧ ∀ (i : Nat) o y, os[i]? = some o → l[i]? = some y → OpAs P gl pu N ops o y
  | [], l, e => by cases e; exact ⟨rfl, fun i o y h => by simp at h⟩
  | o :: os, l, e => by
    unfold compOps at e
    split at e
    · rename_i r hr
      obtain ⟨k1, k2⟩ := compOps_as hr
      split at e
      · rename_i hd
        have hdl : ∀ d, o.dst = some d → d < N := by
          intro d hq
          rw [hq] at hd
          simpa [dstOk] using hd
        have fin : ∀ y : VOper, OpAs P gl pu N ops o y → some (y :: r) = some l → l.length = (o :: os).length ∧ ∀ (i : Nat) o' y', (o :: os)[i]? = some o' → l[i]? = some y' → OpAs P gl pu N ops o' y' := by
          intro y hy q
          cases q
          refine ⟨by simp [k1], fun i o' y' e1 e2 => ?_⟩
          cases i with
          | zero => simp at e1 e2; subst e1; subst e2; exact hy
          | succ i => exact k2 i o' y' (by simpa using e1) (by simpa using e2)
        split at e
        · rename_i hg
          exact fin _ ⟨rfl, hdl, rfl, .inl ⟨hg, rfl⟩⟩ e
        · rename_i g wt hg
          split at e
          · rename_i d hdg
            split at e
            · rename_i hlt
              exact fin _ ⟨rfl, hdl, rfl, .inr ⟨g, wt, d, hg, hdg, hlt, rfl⟩⟩ e
            · cases e
          · cases e
      · cases e
    · cases e

theorem guard_rel {ops : Array Oper} {o : Oper} {y : VOper} (hoa : OpAs P gl pu N ops o y) (hsz : N ≤ a.tmps.size) (hs : ∀ d w, y.g = some (d, w) → VRel M ρ (s.at d) (a.tmps.getD d undef)) {t : Bool} (e : gEval y.g s = some t) :
    Region.wanted o (yielded ops a.tmps) = t := by
  rcases hoa.grd with ⟨h1, h2⟩ | ⟨g, wt, d, h1, h2, h3, h4⟩
  · rw [h2] at e
    cases e
    simp [Region.wanted, h1]
  · rw [h4] at e
    have hr := hs d wt h4
    have hget : a.tmps[d]? = some (a.tmps.getD d undef) := by
      have : d < a.tmps.size := Nat.lt_of_lt_of_le h3 hsz
      simp [this]
    simp only [gEval] at e
    simp only [Region.wanted, h1, yielded, h2, Option.bind_some, hget]
    split at e
    · rename_i b hb
      rw [hb] at hr
      simp only [VRel] at hr
      rw [hr]
      cases e
      cases b <;> cases wt <;> rfl
    · rename_i hb
      rw [hb] at hr
      simp only [VRel] at hr
      obtain ⟨xs, e1, e2, _⟩ := hr
      rw [e1]
      cases e
      rfl
    · cases e

/-- What a piece of code leaves. -/
def PostS (P : Program) (gl : Nat → Option (List V)) (B N : Nat) (M : Mem) (ρ : Rho) (h : Heap) (w : World) (a : Act) (s' : Slots) (h' : Heap) (a' : Act) (w' : World) : Prop :=
  a'.defers = a.defers ∧ ∃ M' ρ', HRel P gl B M' ρ' h' w' ∧ Evo M ρ h w M' ρ' h' w' ∧ SRel M' ρ' N s' a'.tmps

theorem PostS.refl (hh : HRel P gl B M ρ h w) (hs : SRel M ρ N s a.tmps) : PostS P gl B N M ρ h w a s h a w := ⟨rfl, M, ρ, hh, Evo.refl _ _ _ _, hs⟩

theorem slots_put (hs : SRel M ρ N s a.tmps) {d : Option Nat} (hd : ∀ i, d = some i → i < N) {v : V} {x : Value} (hv : VRel M ρ v x) : SRel M ρ N (slotsPut s d v) (a.put d x).tmps := by
  cases d with
  | none => exact hs
  | some i => exact hs.put (hd i rfl) hv

theorem put_defers (a : Act) (d : Option Nat) (x : Value) : (a.put d x).defers = a.defers := by cases d <;> rfl

theorem ops_text (ht : TabOK P gl pu vp) {ops : Array Oper} {Q : Exit → Act → World → Prop} : ∀ (n : Nat), (∀ m, m < n → CallOK P gl B vp m) →
    ∀ (os : List Oper) (l : List VOper) (k : Nat) {M : Mem} {ρ : Rho} {h h' : Heap} {w : World} {s s' : Slots} {a : Act}, l.length = os.length → (∀ (i : Nat) o y, os[i]? = some o → l[i]? = some y → OpAs P gl pu N ops o y) → (∀ j : Nat, os[j]? = ops[k + j]?) →
      HRel P gl B M ρ h w → SRel M ρ N s a.tmps → runOps vp n l s h = some (s', h') →
      (∀ a' w', PostS P gl B N M ρ h w a s' h' a' w' → Q .normal a' w') → wpOps P ops Q (List.range' k os.length) a w
  | 0, _, _, _, _, _, _, _, _, _, _, _, _, _, _, _, _, _, he, _ => by simp [runOps] at he
  | n + 1, ih, [], l, k, M, ρ, h, h', w, s, s', a, hlen, hall, hops, hh, hs, he, hQ => by
    have : l = [] := by simpa using hlen
    subst this
    simp only [runOps] at he
    cases he
    simp only [List.length_nil, List.range'_zero, wpOps]
    exact hQ a w (.refl hh hs)
  | n + 1, ih, o :: os, [], k, M, ρ, h, h', w, s, s', a, hlen, hall, hops, hh, hs, he, hQ => by simp at hlen
  | n + 1, ih, o :: os, y :: l, k, M, ρ, h, h', w, s, s', a, hlen, hall, hops, hh, hs, he, hQ => by
    have hoa : OpAs P gl pu N ops o y := hall 0 o y rfl rfl
    have h0 : ops[k]? = some o := by simpa using (hops 0).symm
    simp only [runOps] at he
    simp only [List.length_cons, List.range'_succ, wpOps, h0]
    have next : ∀ {M1 : Mem} {ρ1 : Rho} {h1 : Heap} {w1 : World} {v : V} {x : Value}, HRel P gl B M1 ρ1 h1 w1 → Evo M ρ h w M1 ρ1 h1 w1 → VRel M1 ρ1 v x → runOps vp n l (slotsPut s y.dst v) h1 = some (s', h') →
        wpOps P ops Q (List.range' (k + 1) os.length) (a.put o.dst x) w1 := by
      intro M1 ρ1 h1 w1 v x g1 g2 g3 g4
      rw [hoa.dst] at g4
      refine ops_text ht n (fun m hm => ih m (by omega)) os l (k + 1) (by simpa using hlen) (fun i o' y' e1 e2 => hall (i + 1) o' y' (by simpa using e1) (by simpa using e2))
        (fun j => by have := hops (j + 1); simpa [Nat.add_assoc, Nat.add_comm 1 j] using this) g1 (slots_put (hs.mono g2.mem g2.rho) hoa.dlt g3) g4 ?_
      rintro a' w' ⟨q1, M2, ρ2, q2, q3, q4⟩
      exact hQ a' w' ⟨by rw [q1, put_defers], M2, ρ2, q2, g2.trans q3, q4⟩
    cases hg : gEval y.g s with
    | none => rw [hg] at he; cases he
    | some t =>
      rw [hg] at he
      have hw := guard_rel hoa hs.size (fun d _ _ => hs.rel d) hg
      rw [hw]
      cases t with
      | true =>
        simp only [if_true]
        simp only at he
        split at he
        · rename_i v h1 hst
          left
          cases n with
          | zero => simp [stepOp] at hst
          | succ n =>
            refine step_sound ht (ih n (by omega)) (ih (n - 1) (by omega)) hh hs hoa.op hst ?_
            rintro x w1 ⟨M1, ρ1, g1, g2, g3⟩
            exact next g1 g2 g3 he
        · cases he
      | false =>
        simp only [Bool.false_eq_true, if_false]
        simp only at he
        exact next hh (Evo.refl _ _ _ _) undef_rel he
end
end Go.VE
