/- A part of a proof that a small evaluator of the translated code agrees with the model (part Sim11). No statement of the program stands here. -/
import Derived.Test.YtocgoabopiikoaaGreatDoorVeSim10
set_option linter.all false
namespace Go.VE
section
variable {P : Program} {gl : Nat → Option (List V)} {N B : Nat} {M : Mem} {ρ : Rho} {h : Heap} {w : World} {s : Slots} {a : Act}

theorem bound_mono {x : Option V} {d m m2 n : Nat} (e : bound x d m = some n) (hm : m ≤ m2) : bound x d m2 = some n := by
  unfold bound at e ⊢
  split at e
  · exact e
  · split at e
    · rename_i k hk
      rw [ble_dec] at e
      by_cases q : k ≤ m
      · simp [q] at e
        subst e
        have : k ≤ m2 := by omega
        simp [hk, ble_dec, this]
      · simp [q] at e
    · cases e

theorem sliceRun {t e : TypeId} {i : TypeInfo} (ht : P.underlying t = some (.slice e)) (hi : P.info? e = some i) {ad : Option Addr} {len cap l hh m : Nat} {L H X : Option Value} (hb : (Instr.sliceBounds true len cap L H X).run P w = .ok (l, hh, m) w) :
    (Instr.sliceAt t (.slice ad len cap) L H X).run P w = .ok (.slice (if m = l then ad else ad.map (·.add (l * i.size))) (hh - l) (m - l)) w := by
  simp only [Instr.sliceAt, Sem.run_bind, run_underlying ht, Result.andThen_ok, Instr.slice, hb, sizeOf, typeInfo, run_program, hi, Sem.run_pure]

theorem capR_sub {l : Loc} {off cap sz cap' k : Nat} (hc : capR l off cap sz cap') (hk : k ≤ cap) : capR l (off + k * sz) (cap - k) sz (cap' - k) := by
  have e : off + k * sz + (cap - k) * sz = off + cap * sz := by
    rw [Nat.add_assoc, ← Nat.add_mul, Nat.add_sub_cancel' hk]
  unfold capR at hc ⊢
  rw [e]
  rcases hc with ⟨h1, h2⟩ | ⟨h1, h2, h3⟩ | ⟨h1, h2, h3, h4⟩
  · exact .inl ⟨h1, by omega⟩
  · exact .inr (.inl ⟨h1, h2, by omega⟩)
  · exact .inr (.inr ⟨h1, h2, h3, by omega⟩)

theorem sim_slc (hh : HRel P gl B M ρ h w) (hs : SRel M ρ N s a.tmps) {o : Oper} {t e : TypeId} {x : Operand} {lo hi mx : Option Operand} (ho : o.op = .slice t x lo hi mx) (ht : P.underlying t = some (.slice e)) {sz : Nat} (hsz : szOf P e = some sz)
    {x' : Opd} {lo' hi' mx' : Option Opd} (e1 : opd gl x = some x') (e2 : opdo gl lo = some lo') (e3 : opdo gl hi = some hi') (e4 : opdo gl mx = some mx') (hmx : mx = none ∨ hi ≠ none)
    {v : V} {h' : Heap} (he : op_slc sz x' lo' hi' mx' s h = some (v, h')) : Good P gl B M ρ h w v h' ((execOp a.eval o).run P w) := by
  have hx := opd_rel hh hs e1
  have hl := opdo_rel hh hs e2
  have hhi := opdo_rel hh hs e3
  have hm := opdo_rel hh hs e4
  obtain ⟨i, hi1, rfl⟩ := szOf_spec hsz
  have hX : mx.map a.eval = none ∨ hi.map a.eval ≠ none := by
    rcases hmx with rfl | q
    · exact .inl rfl
    · right; intro q2; apply q; cases hi <;> simp_all
  have hmxn : evo s mx' = none ↔ mx.map a.eval = none := by
    cases mx' <;> cases mx <;> simp [opdo] at e4 <;> simp [evo]
  have hex : ∀ r, (Instr.sliceAt t (a.eval x) (lo.map a.eval) (hi.map a.eval) (mx.map a.eval)).run P w = .ok r w → (execOp a.eval o).run P w = .ok (.value r) w := by
    intro r hr
    simp only [execOp, ho, Sem.run_bind, hr, Result.andThen_ok, Sem.run_pure]
  unfold op_slc at he
  cases q : sliceV h i.size (x'.ev s) (evo s lo') (evo s hi') (evo s mx') with
  | none => simp [q] at he
  | some u =>
    simp only [q, Option.map_some, Option.some.injEq, Prod.mk.injEq] at he
    obtain ⟨rfl, rfl⟩ := he
    unfold sliceV at q
    split at q
    · rename_i ex
      rw [ex] at hx
      simp only [VRel] at hx
      split at q
      · rename_i m0 h0 l0 q1 q2 q3
        cases q
        have b0 : m0 ≤ 0 ∧ h0 ≤ 0 ∧ l0 ≤ 0 := by
          have aux : ∀ {y : Option V} {n : Nat}, bound y 0 0 = some n → n ≤ 0 := by
            intro y n hy
            unfold bound at hy
            split at hy
            · cases hy; exact Nat.le_refl _
            · split at hy
              · rename_i k hk
                rw [ble_dec] at hy
                by_cases z : k ≤ 0
                · simp [z] at hy; omega
                · simp [z] at hy
              · cases hy
          exact ⟨aux q1, aux q2, aux q3⟩
        have z1 : m0 = 0 := by omega
        have z2 : h0 = 0 := by omega
        have z3 : l0 = 0 := by omega
        subst z1 z2 z3
        obtain ⟨m', k1, k2, k3, _⟩ := bounds_rel (P := P) (w := w) (isSlice := true) (len := 0) (cap := 0) (cap' := 0) hl hhi hm hX (Nat.le_refl _) q1 q2 q3
        have hm0 : m' = 0 := by
          by_cases z : mx.map a.eval = none
          · exact (k2 z).1
          · exact k3 z
        subst hm0
        have hr := sliceRun (P := P) ht hi1 (ad := none) k1
        refine Good.same hh (x := .slice none 0 0) (by simp [VRel]) (hex _ ?_)
        rw [hx, hr]
        simp
      · cases q
    · rename_i b off len cap sz' ex
      rw [ex] at hx
      simp only [VRel] at hx
      obtain ⟨loc, ad, cap', r1, r2, r3, r4, r5⟩ := hx
      have hcc := capR_le r3
      by_cases hsz' : i.size = sz'
      · subst hsz'
        simp only [beq_dec, decide_true, cond_true] at q
        split at q
        · cases q
        · rename_i m q1
          split at q
          · cases q
          · rename_i h2 q2
            split at q
            · cases q
            · rename_i l q3
              obtain ⟨m', k1, k2, k3, k4, k5, k6, k7, k8⟩ := bounds_rel (P := P) (w := w) (isSlice := true) hl hhi hm hX hcc q1 q2 q3
              have hlh : l ≤ h2 := by
                by_cases z : lo.map a.eval = none
                · rw [k5 z]; omega
                · exact k7 z
              have hhm : h2 ≤ m := by
                by_cases z : hi.map a.eval = none
                · rw [k6 z]
                  rcases hX with z2 | z2
                  · rw [(k2 z2).2]; omega
                  · exact absurd z z2
                · exact k8 z
              have hr := sliceRun (P := P) ht hi1 (ad := some ad) k1
              rw [← r2] at hr
              split at q
              · rename_i z
                cases q
                obtain ⟨rfl, rfl⟩ := k2 (hmxn.1 z)
                refine Good.same hh ?_ (hex _ hr)
                simp only [VRel]
                refine ⟨loc, if m' = l then ad else ad.add (l * i.size), m' - l, r1, ?_, capR_sub r3 (by omega), ?_, by omega⟩
                · split <;> simp
                · by_cases z2 : m' = l
                  · exact .inl (by omega)
                  · rcases r4 with r4 | r4
                    · omega
                    · right
                      rw [if_neg z2, r4, addr_add, Nat.add_assoc]
              · rename_i u z
                have hmm : m' = m := k3 (fun z2 => by have := hmxn.2 z2; rw [z] at this; cases this)
                subst hmm
                split at q
                · rename_i c oo hg
                  have hb := hh.blk b loc r1
                  rw [hg] at hb
                  obtain ⟨cur, e', fr, c1, c2, c3, c4, c5, c6⟩ := BRel.cells_iff.1 hb
                  cases z3 : (oo && decide (off + m' * i.size = c.length))
                  · simp only [z3, cond_false, Option.some.injEq] at q
                    subst q
                    refine Good.same hh ?_ (hex _ hr)
                    simp only [VRel]
                    refine ⟨loc, if m' = l then ad else ad.add (l * i.size), m' - l, r1, ?_, ?_, ?_, by omega⟩
                    · split <;> simp
                    · have e5 : off + l * i.size + (m' - l) * i.size = off + m' * i.size := by
                        rw [Nat.add_assoc, ← Nat.add_mul, Nat.add_sub_cancel' (by omega)]
                      unfold capR
                      rw [e5]
                      by_cases z4 : loc.ex = 0
                      · exact .inl ⟨z4, rfl⟩
                      · right; left
                        refine ⟨z4, ?_, rfl⟩
                        intro z5
                        cases oo with
                        | false => exact z4 (c6 rfl)
                        | true => simp [c3, z5] at z3
                    · by_cases z2 : m' = l
                      · exact .inl (by omega)
                      · rcases r4 with r4 | r4
                        · omega
                        · right
                          rw [if_neg z2, r4, addr_add, Nat.add_assoc]
                  · simp only [z3, cond_true, Option.some.injEq] at q
                    subst q
                    exact Good.same hh (by simp [VRel]) (hex _ hr)
                · cases q
      · simp [beq_dec, hsz'] at q
    · rename_i cs len cap ex
      rw [ex] at hx
      simp only [VRel] at hx
      obtain ⟨ad, cap', r2, r3, r4, r5⟩ := hx
      split at q
      · cases q
      · rename_i m q1
        split at q
        · cases q
        · rename_i h2 q2
          split at q
          · cases q
          · rename_i l q3
            split at q
            · cases q
            · rename_i cs' q4
              cases q
              have hcc : (match evo s mx' with | none => len | some _ => cap.getD len) ≤ cap' := by
                split
                · exact r4
                · cases cap with
                  | none => exact r4
                  | some c => exact Nat.le_of_eq (r3 c rfl).symm
              have q1' : bound (evo s mx') (match evo s mx' with | none => len | some _ => cap.getD len) (match evo s mx' with | none => len | some _ => cap.getD len) = some m := by
                cases z : evo s mx' with
                | none => rw [z] at q1; simpa [bound] using q1
                | some u => rw [z] at q1; simpa [bound] using q1
              obtain ⟨m', k1, k2, k3, k4, k5, k6, k7, k8⟩ := bounds_rel (P := P) (w := w) (isSlice := true) hl hhi hm hX hcc q1' (bound_mono q2 (Nat.min_le_left _ _)) q3
              have hlh : l ≤ h2 := by
                by_cases z : lo.map a.eval = none
                · rw [k5 z]; omega
                · exact k7 z
              have hhm : h2 ≤ m' := by
                by_cases z : mx.map a.eval = none
                · rw [(k2 z).1]
                  by_cases z2 : hi.map a.eval = none
                  · rw [k6 z2]; exact r4
                  · have := k8 z2; omega
                · rw [k3 z]
                  rcases hX with z2 | z2
                  · exact absurd z2 z
                  · exact k8 z2
              have hr := sliceRun (P := P) ht hi1 (ad := some ad) k1
              rw [← r2] at hr
              refine Good.same hh ?_ (hex _ hr)
              simp only [VRel]
              refine ⟨if m' = l then ad else ad.add (l * i.size), m' - l, by split <;> simp, ?_, by omega, ?_⟩
              · intro c hc
                split at hc
                · rename_i u z
                  have := k3 (fun z2 => by have := hmxn.2 z2; rw [z] at this; cases this)
                  cases hc
                  omega
                · rename_i z
                  obtain ⟨z1, _⟩ := k2 (hmxn.1 z)
                  cases cap with
                  | none => cases hc
                  | some c0 =>
                    simp at hc
                    have := r3 c0 rfl
                    omega
              · by_cases z : cs' = []
                · exact .inl z
                · right
                  obtain ⟨t1, t2⟩ := takeN_eq _ _ _ q4
                  have hpos : 0 < (h2 - l) * i.size := by
                    rw [← t2]
                    exact List.length_pos_iff.2 z
                  have hne : m' ≠ l := by
                    intro z2
                    have : h2 - l = 0 := by omega
                    rw [this] at hpos
                    simp at hpos
                  rw [if_neg hne]
                  rcases r5 with rfl | ⟨row, m1, m2, m3⟩
                  · simp at t1
                    exact absurd t1 z
                  · obtain ⟨ab, ao, as⟩ := ad
                    cases m2
                    rw [addr_add]
                    refine ⟨row, m1, rfl, ?_⟩
                    have hd := VRels.drop (l * i.size) m3
                    obtain ⟨u1, u2, u3⟩ := VRels.takeN hd q4
                    have := VRels.more ((row.drop ao).drop (l * i.size) |>.drop ((h2 - l) * i.size)) u1
                    rw [List.take_append_drop] at this
                    simpa [List.drop_drop] using this
    · cases q
end
end Go.VE
