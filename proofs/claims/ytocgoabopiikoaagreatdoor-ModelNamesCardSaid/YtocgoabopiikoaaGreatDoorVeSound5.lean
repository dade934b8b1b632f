/- A part of a proof that a small evaluator of the translated code agrees with the model (part Sound5). No statement of the program stands here. -/
import Derived.Test.YtocgoabopiikoaaGreatDoorVeDraw8
import Derived.LoopN
import Derived.Scope
set_option linter.all false
namespace Go.VE
section
variable {P : Program} {gl : Nat → Option (List V)} {pu : Nat → Nat} {N B : Nat} {vp : Nat → Option VFn}

def toExit : VX → Exit
  | .norm => .normal
  | .exit i => .exit i
  | .ret => .ret

/-- a piece of code, run -/
def PostC (P : Program) (gl : Nat → Option (List V)) (B N : Nat) (M : Mem) (ρ : Rho) (h : Heap) (w : World) (a : Act) (x : VX) (s' : Slots) (h' : Heap) (e : Exit) (a' : Act) (w' : World) : Prop :=
  e = toExit x ∧ PostS P gl B N M ρ h w a s' h' a' w'

theorem PostC.trans {M M1 : Mem} {ρ ρ1 : Rho} {h h1 h2 : Heap} {w w1 : World} {a a1 : Act} {x : VX} {s2 : Slots} (e1 : a1.defers = a.defers) (e2 : Evo M ρ h w M1 ρ1 h1 w1) {e : Exit} {a' : Act} {w' : World}
    (p : PostC P gl B N M1 ρ1 h1 w1 a1 x s2 h2 e a' w') : PostC P gl B N M ρ h w a x s2 h2 e a' w' := by
  obtain ⟨q1, q2, M2, ρ2, q3, q4, q5⟩ := p
  exact ⟨q1, q2.trans e1, M2, ρ2, q3, e2.trans q4, q5⟩

theorem code_sound (ht : TabOK P gl pu vp) : ∀ (n : Nat), (∀ m, m < n → CallOK P gl B vp m) → ∀ (c : Code) (vc : VCode), comp P gl pu N c = some vc →
    ∀ {M : Mem} {ρ : Rho} {h h' : Heap} {w : World} {s s' : Slots} {a : Act} {x : VX}, HRel P gl B M ρ h w → SRel M ρ N s a.tmps → exec vp n vc s h = some (x, s', h') →
      c.wp P (PostC P gl B N M ρ h w a x s' h') a w
  | 0, _, _, _, _, _, _, _, _, _, _, _, _, _, _, _, he => by simp [exec] at he
  | n + 1, ih, c, vc, hc, M, ρ, h, h', w, s, s', a, x, hh, hs, he => by
    have ih' : ∀ m, m < n → CallOK P gl B vp m := fun m hm => ih m (by omega)
    have recd := fun c vc hc {M ρ h h' w s s' a x} hh hs he => @code_sound ht n ih' c vc hc M ρ h h' w s s' a x hh hs he
    cases c with
    | skip =>
      cases hc
      cases he
      exact wp_skip ⟨rfl, .refl hh hs⟩
    | region id ops drawn =>
      simp only [comp] at hc
      split at hc
      · rename_i l hl
        cases drawn with
        | false =>
          cases hc
          simp only [exec] at he
          split at he
          · rename_i s1 h1 hr
            simp only [chkOk, cond_true] at he
            cases he
            obtain ⟨k1, k2⟩ := compOps_as hl
            have := ops_text (Q := PostC P gl B N M ρ h w a .norm s' h') ht n ih' ops.toList l 0 k1 k2 (fun j => by simp) hh hs hr (fun a' w' p => ⟨rfl, p⟩)
            refine wp_region ?_
            rw [List.range_eq_range']
            simpa using this
          · cases he
        | true =>
          simp only [regOf] at hc
          split at hc
          · rename_i hd
            cases hc
            simp only [exec] at he
            split at he
            · rename_i s1 h1 hr
              rw [Bool.cond_eq_ite] at he
              split at he
              · rename_i hk
                cases he
                exact region_drawn ht ih' hl hd hh hs hr hk (fun a' w' p => ⟨rfl, p⟩)
              · cases he
            · cases he
          · cases hc
      · cases hc
    | seq p q =>
      simp only [comp] at hc
      split at hc
      · rename_i vp' vq hp hq
        cases hc
        simp only [exec] at he
        refine wp_seq ?_
        split at he
        · rename_i s1 h1 hr
          refine wp_mono (recd p vp' hp hh hs hr) ?_
          rintro e a1 w1 ⟨rfl, q1, M1, ρ1, q2, q3, q4⟩
          exact wp_mono (recd q vq hq q2 q4 he) (fun e a' w' p => p.trans q1 q3)
        · rename_i hne
          refine wp_mono (recd p vp' hp hh hs he) ?_
          rintro e a1 w1 ⟨rfl, p1⟩
          cases x with
          | norm => exact absurd he (hne _ _)
          | exit i => exact ⟨rfl, p1⟩
          | ret => exact ⟨rfl, p1⟩
      · cases hc
    | cond g p q =>
      simp only [comp] at hc
      split at hc
      · rename_i g' vp' vq hg hp hq
        cases hc
        simp only [exec] at he
        have hgr := opd_rel hh hs hg
        split at he
        · rename_i hb
          rw [hb] at hgr
          refine wp_cond_true (by simpa [VRel] using hgr) (recd p vp' hp hh hs he)
        · rename_i hb
          rw [hb] at hgr
          refine wp_cond_false (by simpa [VRel] using hgr) (recd q vq hq hh hs he)
        · cases he
      · cases hc
    | block id p =>
      obtain ⟨vp', hp, e⟩ := map_some (show (comp P gl pu N p).map (VCode.block id) = some vc from hc)
      subst e
      simp only [exec] at he
      refine wp_block ?_
      split at he
      · rename_i i s1 h1 hr
        cases he
        refine wp_mono (recd p vp' hp hh hs hr) ?_
        rintro e a1 w1 ⟨rfl, p1⟩
        rw [Bool.cond_eq_ite, beq_dec]
        simp only [toExit, Exit.inBlock, decide_eq_true_eq]
        split
        · exact ⟨rfl, p1⟩
        · exact ⟨rfl, p1⟩
      · rename_i hne
        refine wp_mono (recd p vp' hp hh hs he) ?_
        rintro e a1 w1 ⟨rfl, p1⟩
        cases x with
        | norm => exact ⟨rfl, p1⟩
        | exit i => exact absurd he (hne _ _ _)
        | ret => exact ⟨rfl, p1⟩
    | loop p =>
      obtain ⟨vp', hp, e⟩ := map_some (show (comp P gl pu N p).map VCode.loop = some vc from hc)
      subst e
      have key : ∀ (m : Nat), m ≤ n + 1 → ∀ {M1 : Mem} {ρ1 : Rho} {h1 : Heap} {w1 : World} {s1 : Slots} {a1 : Act}, HRel P gl B M1 ρ1 h1 w1 → SRel M1 ρ1 N s1 a1.tmps → exec vp m (.loop vp') s1 h1 = some (x, s', h') →
          Code.rounds P p (PostC P gl B N M1 ρ1 h1 w1 a1 x s' h') m a1 w1 := by
        intro m
        induction m with
        | zero => intro _ M1 ρ1 h1 w1 s1 a1 _ _ he1; simp [exec] at he1
        | succ m ihm =>
          intro hm M1 ρ1 h1 w1 s1 a1 hh1 hs1 he1
          rw [rounds_succ]
          simp only [exec] at he1
          have rec1 := fun {M ρ h h' w s s' a x} hh hs he => @code_sound ht m (fun q hq => ih q (by omega)) p vp' hp M ρ h h' w s s' a x hh hs he
          split at he1
          · rename_i s2 h2 hr
            refine wp_mono (rec1 hh1 hs1 hr) ?_
            rintro e a2 w2 ⟨rfl, q1, M2, ρ2, q2, q3, q4⟩
            have := ihm (by omega) q2 q4 he1
            have mono : ∀ (k : Nat) {Q Q' : Exit → Act → World → Prop} {a : Act} {w : World}, (∀ e a w, Q e a w → Q' e a w) → Code.rounds P p Q k a w → Code.rounds P p Q' k a w := by
              intro k
              induction k with
              | zero => intro Q Q' a w _ hf; exact hf.elim
              | succ k ihk =>
                intro Q Q' a w hQ hf
                rw [rounds_succ] at hf ⊢
                refine wp_mono hf ?_
                intro e a' w' he'
                cases e with
                | normal => exact ihk hQ he'
                | _ => exact hQ _ _ _ he'
            exact mono m (fun e a' w' p => p.trans q1 q3) this
          · rename_i hne
            refine wp_mono (rec1 hh1 hs1 he1) ?_
            rintro e a2 w2 ⟨rfl, p1⟩
            cases x with
            | norm => exact absurd he1 (hne _ _)
            | exit i => exact ⟨rfl, p1⟩
            | ret => exact ⟨rfl, p1⟩
      exact wp_loop_rounds (n + 1) (key (n + 1) (Nat.le_refl _) hh hs he)
    | exit id =>
      cases hc
      cases he
      exact wp_exit ⟨rfl, .refl hh hs⟩
    | ret =>
      cases hc
      cases he
      exact wp_ret ⟨rfl, .refl hh hs⟩
    | scope p =>
      obtain ⟨vp', hp, e⟩ := map_some (show (comp P gl pu N p).map VCode.scope = some vc from hc)
      subst e
      simp only [exec] at he
      refine wp_scope_straight ?_
      refine wp_mono (recd p vp' hp hh hs he) ?_
      rintro e a1 w1 ⟨rfl, p1⟩
      cases x <;> exact ⟨rfl, p1⟩
    | label l =>
      cases hc
      cases he
      exact wp_label ⟨rfl, .refl hh hs⟩
    | _ => cases hc
end
end Go.VE
