/- A part of a proof that a small evaluator of the translated code agrees with the model (part Sim6). No statement of the program stands here. -/
import Derived.Test.YtocgoabopiikoaaGreatDoorVeSim5
set_option linter.all false
namespace Go.VE
section
variable {P : Program} {gl : Nat → Option (List V)} {N B : Nat} {M : Mem} {ρ : Rho} {h : Heap} {w : World} {s : Slots} {a : Act}

theorem one_of {us : List V} {xs : List Value} (h : VRels M ρ us xs) (h1 : us.length = 1) (h2 : xs.length = 1) : ∃ u x, us = [u] ∧ xs = [x] ∧ VRel M ρ u x := by
  cases us with
  | nil => simp at h1
  | cons u us =>
    cases us with
    | cons => simp at h1
    | nil =>
      obtain ⟨x, ys, rfl, k1, _⟩ := VRels.cons_iff.1 h
      cases ys with
      | nil => exact ⟨u, x, rfl, rfl, k1⟩
      | cons => simp at h2

theorem flat_eq : ∀ (d : Nat) (t : TypeId) (ks : List Nat), plainK P d t = some ks → ∀ n, FlatEq P M ρ (n + d) t ks
  | 0, t, ks, hp, n => by simp [plainK] at hp
  | d + 1, t, ks, hp, n => by
    have ih := flat_eq d
    intro xs ys us vs b w hu hv l1 l2 l3 l4 he
    simp only [plainK] at hp
    split at hp
    · rename_i hun
      cases hp
      obtain ⟨u, x, rfl, rfl, ru⟩ := one_of hu l1 l3
      obtain ⟨v, y, rfl, rfl, rv⟩ := one_of hv l2 l4
      have ha : aggT P t = false := by simp [aggT, hun, aggD]
      cases u <;> cases v <;> simp only [eqCells, eqK] at he <;> first
        | (cases he; done)
        | (rename_i c e
           simp only [VRel] at ru rv
           subst ru rv
           simp only [valOf, ha, Bool.false_eq_true, if_false, List.headD]
           rw [show n + (d + 1) = (n + d) + 1 by omega, run_equalIn_bool' w _ t c e hun]
           cases q : (c == e) <;> simp_all)
    · rename_i k hun
      cases hp
      obtain ⟨u, x, rfl, rfl, ru⟩ := one_of hu l1 l3
      obtain ⟨v, y, rfl, rfl, rv⟩ := one_of hv l2 l4
      have ha : aggT P t = false := by simp [aggT, hun, aggD]
      cases u <;> cases v <;> simp only [eqCells, eqK] at he <;> first
        | (cases he; done)
        | (rename_i k1 c k2 e
           simp only [VRel] at ru rv
           subst ru rv
           cases qk : kEq k1 k2
           · simp [qk] at he
           · rw [kEq_iff] at qk
             subst qk
             simp only [(kEq_iff k1 k1).2 rfl, cond_true, eqI_eq] at he
             simp only [valOf, ha, Bool.false_eq_true, if_false, List.headD]
             rw [show n + (d + 1) = (n + d) + 1 by omega, run_equalIn_int w _ t k1 k c e hun]
             cases q : (c == e) <;> simp_all)
    · rename_i hun
      cases hp
      obtain ⟨u, x, rfl, rfl, ru⟩ := one_of hu l1 l3
      obtain ⟨v, y, rfl, rfl, rv⟩ := one_of hv l2 l4
      have ha : aggT P t = false := by simp [aggT, hun, aggD]
      cases u <;> cases v <;> simp only [eqCells, eqK] at he <;> first
        | (cases he; done)
        | (rename_i c e
           simp only [VRel] at ru rv
           subst ru rv
           simp only [valOf, ha, Bool.false_eq_true, if_false, List.headD]
           rw [show n + (d + 1) = (n + d) + 1 by omega, run_equalIn_string w _ t _ _ hun, toList_mk, toList_mk]
           rw [eqBytes_eq] at he
           cases q : (c == e) <;> simp_all)
    · rename_i fs hun
      split at hp
      · cases hp
      · rename_i hst
        have ha : aggT P t = true := by simp [aggT, hun, aggD]
        have hf : P.fieldsOf t = fs := by simp [Program.fieldsOf, hun]
        simp only [valOf, ha, if_true]
        rw [show n + (d + 1) = (n + d) + 1 by omega, run_equalIn_struct w _ t _ _ (by rw [hf]; exact hun) (by simpa using hst), hf]
        exact fields_flat (fun t ks hk => ih t ks hk n) _ 0 ks hp us vs b w (by simpa using hu) (by simpa using hv) l1 l2 (by simp; omega) (by simp; omega) he
    · rename_i len e hun
      split at hp
      · rename_i l m hl hm
        split at hp
        · rename_i hlm
          cases hp
          have ha : aggT P t = true := by simp [aggT, hun, aggD]
          obtain ⟨d', hun'⟩ := plain_under hl
          have hsc := plain_scalar hl
          have hm' : szOf P e = some l.length := by rw [hlm]; exact hm
          obtain ⟨i, hi, hi'⟩ := szOf_spec hm'
          have loop := array_loop (P := P) (m := n + d) (ih e l hl n) hun' hm' hsc (X := xs.toArray) (Y := ys.toArray) len 0 us vs b w (by simpa using hu) (by simpa using hv) (by simpa using l1) (by simpa using l2)
            (by simp at l3 ⊢; omega) (by simp at l4 ⊢; omega) he
          simp only [valOf, ha, if_true]
          rw [show n + (d + 1) = (n + d) + 1 by omega]
          simp only [Op.equalIn, Sem.run_bind, run_underlying hun, Result.andThen_ok, sizeOf, typeInfo, run_program, hi, Sem.run_pure, hi']
          rw [Std.Legacy.Range.forIn_eq_forIn_range']
          simp only [Std.Legacy.Range.size, Nat.sub_zero, Nat.add_sub_cancel, Nat.div_one]
          rw [loop]
          cases b <;> simp
        · cases hp
      · cases hp
    · cases hp

theorem sim_eqa (hh : HRel P gl B M ρ h w) (hs : SRel M ρ N s a.tmps) {o : Oper} {t u : TypeId} {x y : Operand} {neg : Bool} (ho : o.op = .binOp (if neg then .neq else .eql) t x y u)
    {d : TypeDesc} (ht : P.underlying t = some d) (hd : aggD d = true) (hg : P.eqGuardType P.depth t = false) {ks : List Nat} (hk : plainK P 50 t = some ks) {x' y' : Opd} (e1 : opd gl x = some x') (e2 : opd gl y = some y')
    {v : V} {h' : Heap} (he : op_eqa neg ks x' y' s h = some (v, h')) :
    Good P gl B M ρ h w v h' ((execOp a.eval o).run P w) := by
  have hx := opd_rel hh hs e1
  have hy := opd_rel hh hs e2
  unfold op_eqa at he
  split at he
  · rename_i c e ex ey
    cases q : (Nat.beq c.length ks.length && Nat.beq e.length ks.length)
    · simp [q] at he
    · simp only [q, cond_true] at he
      have hq : c.length = ks.length ∧ e.length = ks.length := by simpa [beq_dec] using q
      split at he
      · rename_i r hr
        cases he
        rw [ex] at hx
        rw [ey] at hy
        obtain ⟨xs, hxs, l1, r1⟩ := VRel.agg_iff.1 hx
        obtain ⟨ys, hys, l2, r2⟩ := VRel.agg_iff.1 hy
        have ha : aggT P t = true := by simp [aggT, ht, hd]
        have hf := flat_eq (M := M) (ρ := ρ) 50 t ks hk 9950 xs ys c e r w r1 r2 hq.1 hq.2 (by omega) (by omega) hr
        simp only [valOf, ha, if_true] at hf
        have hgd := run_eqGuard_agg (P := P) w (if neg then .neq else .eql) t x y xs.toArray ys.toArray hg
        refine Good.same hh (x := .bool (bif neg then !r else r)) (by simp [VRel]) ?_
        have hf' : (Op.equalIn 10000 t (.agg xs.toArray) (.agg ys.toArray)).run P w = .ok r w := hf
        cases neg
        · simp only [Bool.false_eq_true, if_false] at ho hgd
          simp only [execOp, ho, hxs, hys, Sem.run_bind, hgd, Result.andThen_ok, run_eql_struct, hf', Sem.run_pure, cond_false]
        · simp only [if_true] at ho hgd
          simp only [execOp, ho, hxs, hys, Sem.run_bind, hgd, Result.andThen_ok, run_neq_struct, hf', Sem.run_pure, cond_true]
      · cases he
  · cases he
end
end Go.VE
