/- A part of a proof that a small evaluator of the translated code agrees with the model (part Sim8). No statement of the program stands here. -/
import Derived.Test.YtocgoabopiikoaaGreatDoorVeSim7
set_option linter.all false
namespace Go.VE

/-- Another world, in one row. -/
structure RowAt (w w' : World) (g : Nat) (o : Obj) : Prop where
  os : w'.os = w.os
  tape : w'.tape = w.tape
  output : w'.output = w.output
  size : w'.heap.size = w.heap.size
  oth : ∀ k, k ≠ g → w'.heap[k]? = w.heap[k]?
  row : w'.heap[g]? = some o

section
variable {P : Program} {gl : Nat → Option (List V)} {N B : Nat} {M : Mem} {ρ : Rho} {h : Heap} {w : World} {s : Slots} {a : Act}

theorem setCell_row {w : World} {g j : Nat} {cur : Array Value} {e : TypeId} {fr : Nat × Nat} (hg : w.heap[g]? = some (.cells cur e fr)) (v : Value) :
    RowAt w (w.setCell ⟨g, j, none⟩ v) g (.cells (cur.setIfInBounds j v) e fr) := by
  refine ⟨rfl, rfl, rfl, by simp [World.setCell], fun k hk => ?_, ?_⟩
  · simp only [World.setCell, Array.getElem?_modify]
    rw [if_neg (fun q => hk q.symm)]
  · simp only [World.setCell, Array.getElem?_modify, if_true, hg]
    simp

theorem run_storeRow (g off : Nat) (e : TypeId) (fr : Nat × Nat) : ∀ (vs : List Value) (i : Nat) (cur : Array Value) (w : World), w.heap[g]? = some (.cells cur e fr) → off + i + vs.length ≤ cur.size →
    FreeFrom off fr cur.size → (∀ v ∈ vs, v.oneCell' = true) →
    ∃ w', (storeCells ⟨g, off, none⟩ vs i).run P w = .ok () w' ∧ RowAt w w' g (.cells (overC (off + i) cur.toList vs).toArray e fr)
  | [], i, cur, w, hg, _, _, _ => by
    refine ⟨w, by simp [storeCells], rfl, rfl, rfl, rfl, fun _ _ => rfl, ?_⟩
    rw [hg]
    simp [overC]
  | v :: vs, i, cur, w, hg, hl, hf, h1 => by
    simp only [List.length_cons] at hl
    have hlt : off + i < cur.size := by omega
    have hcell : w.cell? ⟨g, off + i, none⟩ = some cur[off + i] := by rw [cell_of_obj hg]; simp [hlt]
    have hfr : w.frozen? ⟨g, off + i, none⟩ = false := by
      have := hf (off + i) (by omega) (Nat.le_of_lt hlt)
      simp only [World.frozen?, hg]
      by_cases q : fr.1 ≤ off + i
      · have : ¬ off + i < fr.2 := fun q2 => this ⟨q, q2⟩
        simp [this]
      · simp [q]
    have hs := run_store P w ⟨g, off + i, none⟩ v .plain (h1 v (by simp))
    rw [hcell] at hs
    simp only [hfr, Bool.false_eq_true, if_false] at hs
    have hr := setCell_row (j := off + i) hg v
    obtain ⟨w', k1, k2⟩ := run_storeRow g off e fr vs (i + 1) _ _ hr.row (by simp; omega) (by simpa using hf) (fun u hu => h1 u (by simp [hu]))
    refine ⟨w', ?_, ?_⟩
    · simp only [storeCells, Sem.run_bind, addr_add, hs, Result.andThen_ok]
      exact k1
    · refine ⟨k2.os.trans hr.os, k2.tape.trans hr.tape, k2.output.trans hr.output, k2.size.trans hr.size, fun k hk => (k2.oth k hk).trans (hr.oth k hk), ?_⟩
      rw [k2.row]
      congr 2
      apply congrArg List.toArray
      have hlt' : off + i < cur.toList.length := by simpa using hlt
      unfold overC
      simp only [Array.toList_setIfInBounds, List.length_cons]
      rw [List.take_set, List.drop_set, if_pos (by omega)]
      have e1 : (cur.toList.take (off + (i + 1))).set (off + i) v = cur.toList.take (off + i) ++ [v] := by
        rw [show off + (i + 1) = off + i + 1 by omega, List.take_succ_eq_append_getElem hlt', List.set_append_right _ _ (by simp; omega)]
        have e2 : off + i - min (off + i) cur.size = 0 := by omega
        simp [e2]
      rw [e1]
      simp [List.append_assoc, show off + (i + 1) + vs.length = off + i + (vs.length + 1) by omega]

/-- Cells stored into a block of ours. -/
theorem store_rel (hh : HRel P gl B M ρ h w) {b off : Nat} {l : Loc} (e : ρ b = some l) {xs : List V} {ys : List Value} (hx : VRels M ρ xs ys) (hl : xs.length = ys.length) {h' : Heap} (hs : store h b off xs = some h') :
    ∃ w', (storeCells ⟨l.blk, l.base + off, none⟩ ys).run P w = .ok () w' ∧ HRel P gl B M ρ h' w' ∧ Evo M ρ h w M ρ h' w' := by
  cases xs with
  | nil =>
    have : ys = [] := List.eq_nil_of_length_eq_zero (by simpa using hl.symm)
    subst this
    simp only [store, Option.some.injEq] at hs
    subst hs
    exact ⟨w, by simp [storeCells], hh, Evo.refl _ _ _ _⟩
  | cons x xs =>
    simp only [store] at hs
    cases q : Nat.blt b h.lo with
    | true => simp [q] at hs
    | false =>
      simp only [q, cond_false] at hs
      have hlo : h.lo ≤ b := by rw [blt_dec] at q; simpa using q
      split at hs
      · rename_i c o hg
        split at hs
        · rename_i c' hc'
          cases hs
          have hb := hh.blk b l e
          have hlv : live h b := by unfold live; rw [hg]; simp
          rw [hg] at hb
          obtain ⟨cur, e', fr, k1, k2, k3, k4, k5, k6⟩ := BRel.cells_iff.1 hb
          obtain ⟨m1, m2, m3, m4⟩ := over_rel hc' k4 hx hl
          have hne : ys ≠ [] := by intro q; subst q; simp at hl
          have hfit := m4 hne
          obtain ⟨w', r1, r2⟩ := run_storeRow (P := P) l.blk (l.base + off) e' fr ys 0 cur w k1 (by omega) (fun i h1 h2 => k2 i (by omega) h2) m3
          simp only [Nat.add_zero] at r2
          have hlen : (overC (l.base + off) cur.toList ys).length = cur.size := by rw [overC_length (by simp; omega)]; simp
          obtain ⟨u1, u2⟩ := hh.upd e hlv hlo (.cells c' o) w' r2.os r2.tape r2.output r2.size r2.oth (by
            rw [r2.row]
            refine BRel.cells_iff.2 ⟨_, e', fr, rfl, ?_, by omega, ?_, ?_, k6⟩
            · simpa [hlen] using k2
            · have : (overC (l.base + off) cur.toList ys).toArray.toList.drop l.base = overC off (cur.toList.drop l.base) ys := by
                simp only [overC]
                rw [List.append_assoc, List.drop_append, List.length_take, List.drop_take, Nat.add_sub_cancel_left]
                have : min (l.base + off) cur.toList.length = l.base + off := by simp; omega
                rw [this, show l.base - (l.base + off) = 0 by omega, List.drop_zero, List.drop_drop, List.append_assoc]
                congr 3
                omega
              rw [this]
              exact m1
            · simp [hlen, k5])
          exact ⟨w', r1, u1, u2⟩
        · cases hs
      · cases hs

theorem sim_st (hh : HRel P gl B M ρ h w) (hs : SRel M ρ N s a.tmps) {o : Oper} {t : TypeId} {x y : Operand} (ho : o.op = .store t x y) {n : Nat} (hn : szOf P t = some n) {x' y' : Opd}
    (e1 : opd gl x = some x') (e2 : opd gl y = some y') {v : V} {h' : Heap} (he : op_st n x' y' s h = some (v, h')) :
    Good P gl B M ρ h w v h' ((execOp a.eval o).run P w) := by
  have hx := opd_rel hh hs e1
  have hy := opd_rel hh hs e2
  obtain ⟨i, hi, hi'⟩ := szOf_spec hn
  unfold op_st at he
  split at he
  · rename_i l hl
    obtain ⟨c1, c2⟩ := cellsO_rel hy hl
    cases q : Nat.beq l.length n
    · simp [q] at he
    · simp only [q, cond_true] at he
      have hq : l.length = n := by simpa using q
      split at he
      · rename_i b off hb
        cases hst : store h b off l with
        | none => simp [hst] at he
        | some h1 =>
          simp only [hst, Option.map_some, Option.some.injEq, Prod.mk.injEq] at he
          obtain ⟨rfl, rfl⟩ := he
          rw [hb] at hx
          simp only [VRel] at hx
          obtain ⟨loc, k1, k2⟩ := hx
          obtain ⟨w', r1, r2, r3⟩ := store_rel hh k1 c1 (by simpa using c2) hst
          refine ⟨ρ, w', undef, r2, r3, undef_rel, .inr ⟨?_, rfl⟩⟩
          have hsz : ¬ (a.eval y).cells.size ≠ i.size := by simp; omega
          simp only [execOp, ho, Instr.storeAt, Sem.run_bind, k2, sureAddr_run, Result.andThen_ok, storeVar, sizeOf, typeInfo, run_program, hi, Sem.run_pure, Sem.run_ite, hsz, if_false, r1]
      · cases he
  · cases he

theorem sim_nck (hh : HRel P gl B M ρ h w) (hs : SRel M ρ N s a.tmps) {o : Oper} {x : Operand} (ho : o.op = .nilCheck x) {x' : Opd} (e1 : opd gl x = some x') {v : V} {h' : Heap} (he : op_nck x' s h = some (v, h')) :
    Good P gl B M ρ h w v h' ((execOp a.eval o).run P w) := by
  have hx := opd_rel hh hs e1
  unfold op_nck at he
  split at he
  all_goals first
    | (cases he; done)
    | (rename_i ex
       cases he
       rw [ex] at hx
       refine Good.same hh hx ?_
       simp only [VRel] at hx
       first
        | (obtain ⟨_, _, hx⟩ := hx; simp [execOp, ho, hx]; done)
        | (obtain ⟨_, _, hx, _⟩ := hx; simp [execOp, ho, hx]; done)
        | (obtain ⟨_, hx, _⟩ := hx; simp [execOp, ho, hx]; done))

theorem sim_mkf (hh : HRel P gl B M ρ h w) (hs : SRel M ρ N s a.tmps) {o : Oper} {f : FuncId} {first caps : Array Operand} (ho : o.op = .makeFunc (.func f) first caps) (hf : first.size = 0) {cs : List Opd} (e1 : opds gl caps.toList = some cs)
    {v : V} {h' : Heap} (he : op_mkf f cs s h = some (v, h')) : Good P gl B M ρ h w v h' ((execOp a.eval o).run P w) := by
  obtain ⟨k1, k2⟩ := opds_rel hh hs e1
  cases he
  refine Good.same hh (x := .func (.func f) #[] (caps.toList.map a.eval).toArray) ?_ ?_
  · simp only [VRel]
    exact ⟨_, rfl, by simpa using k2, k1⟩
  · have : first = #[] := Array.eq_empty_of_size_eq_zero hf
    subst this
    have e2 : caps.map a.eval = (caps.toList.map a.eval).toArray := by apply Array.ext'; simp
    simp only [execOp, ho, Instr.makeFunc, Sem.run_bind, Sem.run_pure, Result.andThen_ok, e2]
    simp

theorem sim_fa (hh : HRel P gl B M ρ h w) (hs : SRel M ρ N s a.tmps) {o : Oper} {t : TypeId} {x : Operand} {f : Nat} (ho : o.op = .fieldAddr t x f) {fs : Array Field} (ht : P.underlying t = some (.struct fs)) {fl : Field} (hf : fs[f]? = some fl)
    {n : Nat} (hn : szOf P fl.type = some (n + 1)) {x' : Opd} (e1 : opd gl x = some x') {v : V} {h' : Heap} (he : op_fa fl.offset x' s h = some (v, h')) : Good P gl B M ρ h w v h' ((execOp a.eval o).run P w) := by
  have hx := opd_rel hh hs e1
  obtain ⟨i, hi, hi'⟩ := szOf_spec hn
  have hrun : ∀ ad : Addr, a.eval x = .pointer (some ad) → (execOp a.eval o).run P w = .ok (.value (.pointer (some (ad.add fl.offset)))) w := by
    intro ad hq
    simp only [execOp, ho, Instr.fieldAt, Sem.run_bind, run_underlying ht, Result.andThen_ok, hf, hq, sureAddr_run, fieldPlace, sizeOf, typeInfo, run_program, hi, hi', Sem.run_pure]
    simp
  unfold op_fa at he
  split at he
  · rename_i b off ex
    cases he
    rw [ex] at hx
    simp only [VRel] at hx
    obtain ⟨l, k1, k2⟩ := hx
    refine Good.same hh ?_ (hrun _ k2)
    simp only [VRel]
    exact ⟨l, k1, by rw [addr_add, Nat.add_assoc]⟩
  · rename_i cs ex
    cases he
    rw [ex] at hx
    simp only [VRel] at hx
    obtain ⟨ad, row, k1, k2, k3, k4⟩ := hx
    refine Good.same hh ?_ (hrun _ k1)
    simp only [VRel]
    obtain ⟨ab, ao, as⟩ := ad
    cases k3
    rw [addr_add]
    exact ⟨_, row, rfl, k2, rfl, by have := VRels.drop fl.offset k4; simpa [List.drop_drop] using this⟩
  · cases he
end
end Go.VE
