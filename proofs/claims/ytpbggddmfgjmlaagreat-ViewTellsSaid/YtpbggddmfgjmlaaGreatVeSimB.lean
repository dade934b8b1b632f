/- A part of a proof that a small evaluator of the translated code agrees with the model (part SimB). No statement of the program stands here. -/
import Derived.Test.YtpbggddmfgjmlaaGreatVeSimA
import Derived.Laws.Build
set_option linter.all false
section
namespace Go.VE
structure RowAt (w w' : World) (g : Nat) (o : Obj) : Prop where
 os : w'.os = w.os
 tape : w'.tape = w.tape
 output : w'.output = w.output
 size : w'.heap.size = w.heap.size
 oth : ∀ k, k ≠ g → w'.heap[k]? = w.heap[k]?
 row : w'.heap[g]? = some o
section
variable {P : Program} {gl : Nat → Option (List V)} {N B : Nat} {M : Mem} {ρ : Rho} {h : Heap} {w : World} {s : Slots} {a : Act}
theorem setCell_row {w : World} {g j : Nat} {cur : Array Value} {e : TypeId} {fr : Nat × Nat} (hg : w.heap[g]? = some (.cells cur e fr)) (v : Value) :
  RowAt w (w.setCell ⟨g, j, none⟩ v) g (.cells (cur.setIfInBounds j v) e fr) := by
 refine ⟨rfl, rfl, rfl, by simp [World.setCell], fun k hk => ?_, ?_⟩
 ·simp only [World.setCell, Array.getElem?_modify]
  rw [if_neg (fun q => hk q.symm)]
 ·simp only [World.setCell, Array.getElem?_modify, if_true, hg]
  simp
theorem run_storeRow (g off : Nat) (e : TypeId) (fr : Nat × Nat) : ∀ (vs : List Value) (i : Nat) (cur : Array Value) (w : World), w.heap[g]? = some (.cells cur e fr) → off + i + vs.length ≤ cur.size →
  FreeFrom off fr cur.size → (∀ v ∈ vs, v.oneCell' = true) →
  ∃ w', (storeCells ⟨g, off, none⟩ vs i).run P w = .ok () w' ∧ RowAt w w' g (.cells (overC (off + i) cur.toList vs).toArray e fr)
 | [], i, cur, w, hg, _, _, _ => by
  refine ⟨w, by simp [storeCells], rfl, rfl, rfl, rfl, fun _ _ => rfl, ?_⟩
  rw [hg]
  simp [overC]
 | v :: vs, i, cur, w, hg, hl, hf, h1 => by
  simp only [List.length_cons] at hl
  have hlt : off + i < cur.size := by omega
  have hcell : w.cell? ⟨g, off + i, none⟩ = some cur[off + i] := by rw [cell_of_obj hg]; simp [hlt]
  have hfr : w.frozen? ⟨g, off + i, none⟩ = false := by
   have := hf (off + i) (by omega) (Nat.le_of_lt hlt)
   simp only [World.frozen?, hg]
   by_cases q : fr.1 ≤ off + i
   ·have : ¬ off + i < fr.2 := fun q2 => this ⟨q, q2⟩
    simp [this]
   ·simp [q]
  have hs := run_store P w ⟨g, off + i, none⟩ v .plain (h1 v (by simp))
  rw [hcell] at hs
  simp only [hfr, Bool.false_eq_true, if_false] at hs
  have hr := setCell_row (j := off + i) hg v
  obtain ⟨w', k1, k2⟩ := run_storeRow g off e fr vs (i + 1) _ _ hr.row (by simp; omega) (by simpa using hf) (fun u hu => h1 u (by simp [hu]))
  refine ⟨w', ?_, ?_⟩
  ·simp only [storeCells, Sem.run_bind, addr_add, hs, Result.andThen_ok]
   exact k1
  ·refine ⟨k2.os.trans hr.os, k2.tape.trans hr.tape, k2.output.trans hr.output, k2.size.trans hr.size, fun k hk => (k2.oth k hk).trans (hr.oth k hk), ?_⟩
   rw [k2.row]
   congr 2
   apply congrArg List.toArray
   have hlt' : off + i < cur.toList.length := by simpa using hlt
   unfold overC
   simp only [Array.toList_setIfInBounds, List.length_cons]
   rw [List.take_set, List.drop_set, if_pos (by omega)]
   have e1 : (cur.toList.take (off + (i + 1))).set (off + i) v = cur.toList.take (off + i) ++ [v] := by
    rw [show off + (i + 1) = off + i + 1 by omega, List.take_succ_eq_append_getElem hlt', List.set_append_right _ _ (by simp; omega)]
    have e2 : off + i - min (off + i) cur.size = 0 := by omega
    simp [e2]
   rw [e1]
   simp [List.append_assoc, show off + (i + 1) + vs.length = off + i + (vs.length + 1) by omega]
theorem store_rel (hh : HRel P gl B M ρ h w) {b off : Nat} {l : Loc} (e : ρ b = some l) {xs : List V} {ys : List Value} (hx : VRels M ρ xs ys) (hl : xs.length = ys.length) {h' : Heap} (hs : store h b off xs = some h') :
  ∃ w', (storeCells ⟨l.blk, l.base + off, none⟩ ys).run P w = .ok () w' ∧ HRel P gl B M ρ h' w' ∧ Evo M ρ h w M ρ h' w' := by
 cases xs with
 | nil =>
  have : ys = [] := List.eq_nil_of_length_eq_zero (by simpa using hl.symm)
  subst this
  simp only [store, Option.some.injEq] at hs
  subst hs
  exact ⟨w, by simp [storeCells], hh, Evo.refl _ _ _ _⟩
 | cons x xs =>
  simp only [store] at hs
  cases q : Nat.blt b h.lo with
  | true => simp [q] at hs
  | false =>
   simp only [q, cond_false] at hs
   have hlo : h.lo ≤ b := by rw [blt_dec] at q; simpa using q
   split at hs
   ·rename_i c o hg
    split at hs
    ·rename_i c' hc'
     cases hs
     have hb := hh.blk b l e
     have hlv : live h b := by unfold live; rw [hg]; simp
     rw [hg] at hb
     obtain ⟨cur, e', fr, k1, k2, k3, k4, k5, k6⟩ := BRel.cells_iff.1 hb
     obtain ⟨m1, m2, m3, m4⟩ := over_rel hc' k4 hx hl
     have hne : ys ≠ [] := by intro q; subst q; simp at hl
     have hfit := m4 hne
     obtain ⟨w', r1, r2⟩ := run_storeRow (P := P) l.blk (l.base + off) e' fr ys 0 cur w k1 (by omega) (fun i h1 h2 => k2 i (by omega) h2) m3
     simp only [Nat.add_zero] at r2
     have hlen : (overC (l.base + off) cur.toList ys).length = cur.size := by rw [overC_length (by simp; omega)]; simp
     obtain ⟨u1, u2⟩ := hh.upd e hlv hlo (.cells c' o) w' r2.os r2.tape r2.output r2.size r2.oth (by
      rw [r2.row]
      refine BRel.cells_iff.2 ⟨_, e', fr, rfl, ?_, by omega, ?_, ?_, k6⟩
      ·simpa [hlen] using k2
      ·have : (overC (l.base + off) cur.toList ys).toArray.toList.drop l.base = overC off (cur.toList.drop l.base) ys := by
        simp only [overC]
        rw [List.append_assoc, List.drop_append, List.length_take, List.drop_take, Nat.add_sub_cancel_left]
        have : min (l.base + off) cur.toList.length = l.base + off := by simp; omega
        rw [this, show l.base - (l.base + off) = 0 by omega, List.drop_zero, List.drop_drop, List.append_assoc]
        congr 3
        omega
       rw [this]
       exact m1
      ·simp [hlen, k5])
     exact ⟨w', r1, u1, u2⟩
    ·cases hs
   ·cases hs
theorem sim_st (hh : HRel P gl B M ρ h w) (hs : SRel M ρ N s a.tmps) {o : Oper} {t : TypeId} {x y : Operand} (ho : o.op = .store t x y) {n : Nat} (hn : szOf P t = some n) {x' y' : Opd}
  (e1 : opd gl x = some x') (e2 : opd gl y = some y') {v : V} {h' : Heap} (he : op_st n x' y' s h = some (v, h')) :
  Good P gl B M ρ h w v h' ((execOp a.eval o).run P w) := by
 have hx := opd_rel hh hs e1
 have hy := opd_rel hh hs e2
 obtain ⟨i, hi, hi'⟩ := szOf_spec hn
 unfold op_st at he
 split at he
 ·rename_i l hl
  obtain ⟨c1, c2⟩ := cellsO_rel hy hl
  cases q : Nat.beq l.length n
  ·simp [q] at he
  ·simp only [q, cond_true] at he
   have hq : l.length = n := by simpa using q
   split at he
   ·rename_i b off hb
    cases hst : store h b off l with
    | none => simp [hst] at he
    | some h1 =>
     simp only [hst, Option.map_some, Option.some.injEq, Prod.mk.injEq] at he
     obtain ⟨rfl, rfl⟩ := he
     rw [hb] at hx
     simp only [VRel] at hx
     obtain ⟨loc, k1, k2⟩ := hx
     obtain ⟨w', r1, r2, r3⟩ := store_rel hh k1 c1 (by simpa using c2) hst
     refine ⟨ρ, w', undef, r2, r3, undef_rel, .inr ⟨?_, rfl⟩⟩
     have hsz : ¬ (a.eval y).cells.size ≠ i.size := by simp; omega
     simp only [execOp, ho, Instr.storeAt, Sem.run_bind, k2, sureAddr_run, Result.andThen_ok, storeVar, sizeOf, typeInfo, run_program, hi, Sem.run_pure, Sem.run_ite, hsz, if_false, r1]
   ·cases he
 ·cases he
theorem sim_nck (hh : HRel P gl B M ρ h w) (hs : SRel M ρ N s a.tmps) {o : Oper} {x : Operand} (ho : o.op = .nilCheck x) {x' : Opd} (e1 : opd gl x = some x') {v : V} {h' : Heap} (he : op_nck x' s h = some (v, h')) :
  Good P gl B M ρ h w v h' ((execOp a.eval o).run P w) := by
 have hx := opd_rel hh hs e1
 unfold op_nck at he
 split at he
 all_goals first
  |(cases he; done)
  |(rename_i ex
    cases he
    rw [ex] at hx
    refine Good.same hh hx ?_
    simp only [VRel] at hx
    first
    |(obtain ⟨_, _, hx⟩ := hx; simp [execOp, ho, hx]; done)
    |(obtain ⟨_, _, hx, _⟩ := hx; simp [execOp, ho, hx]; done)
    |(obtain ⟨_, hx, _⟩ := hx; simp [execOp, ho, hx]; done))
theorem sim_mkf (hh : HRel P gl B M ρ h w) (hs : SRel M ρ N s a.tmps) {o : Oper} {f : FuncId} {first caps : Array Operand} (ho : o.op = .makeFunc (.func f) first caps) (hf : first.size = 0) {cs : List Opd} (e1 : opds gl caps.toList = some cs)
  {v : V} {h' : Heap} (he : op_mkf f cs s h = some (v, h')) : Good P gl B M ρ h w v h' ((execOp a.eval o).run P w) := by
 obtain ⟨k1, k2⟩ := opds_rel hh hs e1
 cases he
 refine Good.same hh (x := .func (.func f) #[] (caps.toList.map a.eval).toArray) ?_ ?_
 ·simp only [VRel]
  exact ⟨_, rfl, by simpa using k2, k1⟩
 ·have : first = #[] := Array.eq_empty_of_size_eq_zero hf
  subst this
  have e2 : caps.map a.eval = (caps.toList.map a.eval).toArray := by apply Array.ext'; simp
  simp only [execOp, ho, Instr.makeFunc, Sem.run_bind, Sem.run_pure, Result.andThen_ok, e2]
  simp
theorem sim_fa (hh : HRel P gl B M ρ h w) (hs : SRel M ρ N s a.tmps) {o : Oper} {t : TypeId} {x : Operand} {f : Nat} (ho : o.op = .fieldAddr t x f) {fs : Array Field} (ht : P.underlying t = some (.struct fs)) {fl : Field} (hf : fs[f]? = some fl)
  {n : Nat} (hn : szOf P fl.type = some (n + 1)) {x' : Opd} (e1 : opd gl x = some x') {v : V} {h' : Heap} (he : op_fa fl.offset x' s h = some (v, h')) : Good P gl B M ρ h w v h' ((execOp a.eval o).run P w) := by
 have hx := opd_rel hh hs e1
 obtain ⟨i, hi, hi'⟩ := szOf_spec hn
 have hrun : ∀ ad : Addr, a.eval x = .pointer (some ad) → (execOp a.eval o).run P w = .ok (.value (.pointer (some (ad.add fl.offset)))) w := by
  intro ad hq
  simp only [execOp, ho, Instr.fieldAt, Sem.run_bind, run_underlying ht, Result.andThen_ok, hf, hq, sureAddr_run, fieldPlace, sizeOf, typeInfo, run_program, hi, hi', Sem.run_pure]
  simp
 unfold op_fa at he
 split at he
 ·rename_i b off ex
  cases he
  rw [ex] at hx
  simp only [VRel] at hx
  obtain ⟨l, k1, k2⟩ := hx
  refine Good.same hh ?_ (hrun _ k2)
  simp only [VRel]
  exact ⟨l, k1, by rw [addr_add, Nat.add_assoc]⟩
 ·rename_i cs ex
  cases he
  rw [ex] at hx
  simp only [VRel] at hx
  obtain ⟨ad, row, k1, k2, k3, k4⟩ := hx
  refine Good.same hh ?_ (hrun _ k1)
  simp only [VRel]
  obtain ⟨ab, ao, as⟩ := ad
  cases k3
  rw [addr_add]
  exact ⟨_, row, rfl, k2, rfl, by have := VRels.drop fl.offset k4; simpa [List.drop_drop] using this⟩
 ·cases he
end
end Go.VE
end
section
namespace Go.VE
section
variable {P : Program} {gl : Nat → Option (List V)} {N B : Nat} {M : Mem} {ρ : Rho} {h : Heap} {w : World} {s : Slots} {a : Act}
theorem asNat_spec {v : V} {n : Nat} (e : asNat v = some n) : ∃ k, v = .int k (n : Int) := by
 unfold asNat at e
 split at e
 ·cases e; exact ⟨_, rfl⟩
 ·cases e
theorem asNat_rel {v : V} {x : Value} {n : Nat} (e : asNat v = some n) (hv : VRel M ρ v x) : ∃ k, x = .int k (n : Int) := by
 obtain ⟨k, rfl⟩ := asNat_spec e
 exact ⟨k, by simpa [VRel] using hv⟩
theorem part_rel {t : TypeId} {n : Option Nat} (e : aggOf P t = some n) {cs : List V} {v : V} (hp : part n cs = some v) {row : Array Value} {off : Nat} (hr : VRels M ρ cs (row.toList.drop off)) :
  ∃ x, (Go.part t row off).run P w = .ok x w ∧ VRel M ρ v x := by
 obtain ⟨d, i, h1, h2, h3⟩ := aggOf_spec e
 rcases h3 with ⟨rfl, hagg⟩ | ⟨rfl, hagg⟩
 ·simp only [part] at hp
  split at hp
  ·rename_i l hl
   cases hp
   obtain ⟨k1, k2, k3⟩ := VRels.takeN hr hl
   refine ⟨.agg (row.extract off (off + i.size)), ?_, ?_⟩
   ·simp [Go.part, isAgg_run h1, hagg, sizeOf, typeInfo, h2]
   ·have e : row.extract off (off + i.size) = ((row.toList.drop off).take i.size).toArray := by
     apply Array.ext'
     simp [Array.toList_extract]
    rw [e]
    simp only [VRel]
    exact ⟨_, rfl, by rw [k2, k3], k1⟩
  ·cases hp
 ·simp only [part] at hp
  split at hp
  ·rename_i x l
   cases hp
   obtain ⟨y, ys, e2, k1, k2⟩ := VRels.cons_iff.1 hr
   refine ⟨y, ?_, k1⟩
   have h0 : row[off]? = some y := by
    have := congrArg (fun l : List Value => l[0]?) e2
    simpa [List.getElem?_drop] using this
   simp [Go.part, isAgg_run h1, hagg, h0]
  ·cases hp
theorem sim_fld (hh : HRel P gl B M ρ h w) (hs : SRel M ρ N s a.tmps) {o : Oper} {t : TypeId} {x : Operand} {f : Nat} (ho : o.op = .field t x f) {fs : Array Field} (ht : P.underlying t = some (.struct fs)) {fl : Field} (hf : fs[f]? = some fl)
  {n : Option Nat} (hn : aggOf P fl.type = some n) {x' : Opd} (e1 : opd gl x = some x') {v : V} {h' : Heap} (he : op_fld fl.offset n x' s h = some (v, h')) : Good P gl B M ρ h w v h' ((execOp a.eval o).run P w) := by
 have hx := opd_rel hh hs e1
 unfold op_fld at he
 split at he
 ·rename_i cs ex
  rw [ex] at hx
  obtain ⟨xs, hxs, l1, r1⟩ := VRel.agg_iff.1 hx
  cases q : part n (cs.drop fl.offset) with
  | none => simp [q] at he
  | some u =>
   simp only [q, Option.map_some, Option.some.injEq, Prod.mk.injEq] at he
   obtain ⟨rfl, rfl⟩ := he
   obtain ⟨y, k1, k2⟩ := part_rel (w := w) hn q (row := xs.toArray) (off := fl.offset) (by simpa using VRels.drop fl.offset r1)
   exact Good.same hh k2 (by simp only [execOp, ho, Instr.field, Sem.run_bind, run_underlying ht, Result.andThen_ok, hf, hxs, asAgg, Sem.run_pure, k1])
 ·cases he
theorem sim_ix (hh : HRel P gl B M ρ h w) (hs : SRel M ρ N s a.tmps) {o : Oper} {t e : TypeId} {x i : Operand} (ho : o.op = .index t x i) {len : Nat} (ht : P.underlying t = some (.array len e)) {sz : Nat} (hsz : szOf P e = some sz)
  {n : Option Nat} (hn : aggOf P e = some n) {x' i' : Opd} (e1 : opd gl x = some x') (e2 : opd gl i = some i') {v : V} {h' : Heap} (he : op_ix len sz n x' i' s h = some (v, h')) : Good P gl B M ρ h w v h' ((execOp a.eval o).run P w) := by
 have hx := opd_rel hh hs e1
 have hi := opd_rel hh hs e2
 obtain ⟨ii, hii, hii'⟩ := szOf_spec hsz
 unfold op_ix at he
 split at he
 ·rename_i j cs ej ex
  rw [ex] at hx
  obtain ⟨xs, hxs, l1, r1⟩ := VRel.agg_iff.1 hx
  obtain ⟨k, hk⟩ := asNat_rel ej hi
  cases q : Nat.blt j len
  ·simp [q] at he
  ·simp only [q, cond_true] at he
   have hlt : j < len := by rw [blt_dec] at q; simpa using q
   cases q2 : part n (cs.drop (j * sz)) with
   | none => simp [q2] at he
   | some u =>
    simp only [q2, Option.map_some, Option.some.injEq, Prod.mk.injEq] at he
    obtain ⟨rfl, rfl⟩ := he
    obtain ⟨y, k1, k2⟩ := part_rel (w := w) hn q2 (row := xs.toArray) (off := j * sz) (by simpa using VRels.drop (j * sz) r1)
    have hc : (0 : Int) ≤ (j : Int) ∧ (j : Int) < (len : Int) := by omega
    refine Good.same hh k2 ?_
    simp only [execOp, ho, Instr.index, Sem.run_bind, hk, asIntOf, Sem.run_pure, Result.andThen_ok, run_underlying ht, hxs, Sem.run_ite, hc, and_self, if_true, sizeOf, typeInfo, run_program, hii, hii', Int.toNat_natCast, k1]
 ·cases he
theorem sim_ext (hh : HRel P gl B M ρ h w) (hs : SRel M ρ N s a.tmps) {o : Oper} {x : Operand} {i : Nat} (ho : o.op = .extract x i) {x' : Opd} (e1 : opd gl x = some x') {v : V} {h' : Heap} (he : op_ext i x' s h = some (v, h')) :
  Good P gl B M ρ h w v h' ((execOp a.eval o).run P w) := by
 have hx := opd_rel hh hs e1
 unfold op_ext at he
 split at he
 ·rename_i cs ex
  rw [ex] at hx
  simp only [VRel] at hx
  obtain ⟨xs, hxs, l1, r1⟩ := hx
  cases q : cs[i]? with
  | none => simp [q] at he
  | some u =>
   simp only [q, Option.map_some, Option.some.injEq, Prod.mk.injEq] at he
   obtain ⟨rfl, rfl⟩ := he
   obtain ⟨y, k1, k2⟩ := VRels.get i r1 q
   exact Good.same hh k2 (by simp [execOp, ho, Instr.extract, hxs, k1])
 ·cases he
theorem sim_ia (hh : HRel P gl B M ρ h w) (hs : SRel M ρ N s a.tmps) {o : Oper} {t e : TypeId} {x i : Operand} (ho : o.op = .indexAddr t x i) (ht : P.underlying t = some (.slice e)) {sz : Nat} (hsz : szOf P e = some sz)
  {x' i' : Opd} (e1 : opd gl x = some x') (e2 : opd gl i = some i') {v : V} {h' : Heap} (he : op_ia sz x' i' s h = some (v, h')) (h0 : sz ≠ 0) : Good P gl B M ρ h w v h' ((execOp a.eval o).run P w) := by
 have hx := opd_rel hh hs e1
 have hi := opd_rel hh hs e2
 obtain ⟨ii, hii, hii'⟩ := szOf_spec hsz
 have hrun : ∀ (ad : Addr) (len cap j : Nat) (k : IntKind), a.eval x = .slice (some ad) len cap → a.eval i = .int k (j : Int) → j < len → (execOp a.eval o).run P w = .ok (.value (.pointer (some (ad.add (j * sz))))) w := by
  intro ad len cap j k hq hk hlt
  have hc : (0 : Int) ≤ (j : Int) ∧ (j : Int) < (len : Int) := by omega
  simp only [execOp, ho, Instr.indexAt, Sem.run_bind, hk, asIntOf, Sem.run_pure, Result.andThen_ok, run_underlying ht, hq, Sem.run_ite, hc, and_self, if_true, sizeOf, typeInfo, run_program, hii, hii', Int.toNat_natCast]
 unfold op_ia at he
 split at he
 ·rename_i j b off len cap sz' ej ex
  rw [ex] at hx
  simp only [VRel] at hx
  obtain ⟨l, ad, cap', k1, k2, k3, k4, k5⟩ := hx
  obtain ⟨k, hk⟩ := asNat_rel ej hi
  cases q : Nat.blt j len
  ·simp [q] at he
  ·simp only [q, cond_true, Option.some.injEq, Prod.mk.injEq] at he
   obtain ⟨rfl, rfl⟩ := he
   have hlt : j < len := by rw [blt_dec] at q; simpa using q
   have had : ad = ⟨l.blk, l.base + off, none⟩ := by
    rcases k4 with k4 | k4
    ·have := capR_le k3
     omega
    ·exact k4
   subst had
   refine Good.same hh ?_ (hrun _ len cap' j k k2 hk hlt)
   simp only [VRel]
   exact ⟨l, k1, by rw [addr_add, Nat.add_assoc]⟩
 ·rename_i j cs len cap ej ex
  rw [ex] at hx
  simp only [VRel] at hx
  obtain ⟨ad, cap', k2, k3, k4, k5⟩ := hx
  obtain ⟨k, hk⟩ := asNat_rel ej hi
  cases q : (Nat.blt j len && Nat.blt (j * sz) cs.length)
  ·simp [q] at he
  ·simp only [q, cond_true, Option.some.injEq, Prod.mk.injEq] at he
   obtain ⟨rfl, rfl⟩ := he
   have hlt : j < len ∧ j * sz < cs.length := by simpa [blt_dec] using q
   refine Good.same hh ?_ (hrun _ len cap' j k k2 hk hlt.1)
   rcases k5 with rfl | ⟨row, m1, m2, m3⟩
   ·simp at hlt
   ·obtain ⟨ab, ao, as⟩ := ad
    cases m2
    simp only [VRel]
    rw [addr_add]
    exact ⟨_, row, rfl, m1, rfl, by have := VRels.drop (j * sz) m3; simpa [List.drop_drop] using this⟩
 ·cases he
theorem sim_iaa (hh : HRel P gl B M ρ h w) (hs : SRel M ρ N s a.tmps) {o : Oper} {t e : TypeId} {x i : Operand} (ho : o.op = .indexAddr t x i) {len : Nat} (ht : P.underlying t = some (.array len e)) {sz : Nat} (hsz : szOf P e = some sz)
  {x' i' : Opd} (e1 : opd gl x = some x') (e2 : opd gl i = some i') {v : V} {h' : Heap} (he : op_iaa len sz x' i' s h = some (v, h')) : Good P gl B M ρ h w v h' ((execOp a.eval o).run P w) := by
 have hx := opd_rel hh hs e1
 have hi := opd_rel hh hs e2
 obtain ⟨ii, hii, hii'⟩ := szOf_spec hsz
 have hrun : ∀ (ad : Addr) (j : Nat) (k : IntKind), a.eval x = .pointer (some ad) → a.eval i = .int k (j : Int) → j < len → (execOp a.eval o).run P w = .ok (.value (.pointer (some (ad.add (j * sz))))) w := by
  intro ad j k hq hk hlt
  have hc : (0 : Int) ≤ (j : Int) ∧ (j : Int) < (len : Int) := by omega
  simp only [execOp, ho, Instr.indexAt, Sem.run_bind, hk, asIntOf, Sem.run_pure, Result.andThen_ok, run_underlying ht, hq, sureAddr_run, Sem.run_ite, hc, and_self, if_true, sizeOf, typeInfo, run_program, hii, hii', Int.toNat_natCast]
 unfold op_iaa at he
 split at he
 ·rename_i j b off ej ex
  rw [ex] at hx
  simp only [VRel] at hx
  obtain ⟨l, k1, k2⟩ := hx
  obtain ⟨k, hk⟩ := asNat_rel ej hi
  cases q : Nat.blt j len
  ·simp [q] at he
  ·simp only [q, cond_true, Option.some.injEq, Prod.mk.injEq] at he
   obtain ⟨rfl, rfl⟩ := he
   have hlt : j < len := by rw [blt_dec] at q; simpa using q
   refine Good.same hh ?_ (hrun _ j k k2 hk hlt)
   simp only [VRel]
   exact ⟨l, k1, by rw [addr_add, Nat.add_assoc]⟩
 ·rename_i j cs ej ex
  rw [ex] at hx
  simp only [VRel] at hx
  obtain ⟨ad, row, k2, k3, k4, k5⟩ := hx
  obtain ⟨k, hk⟩ := asNat_rel ej hi
  cases q : Nat.blt j len
  ·simp [q] at he
  ·simp only [q, cond_true, Option.some.injEq, Prod.mk.injEq] at he
   obtain ⟨rfl, rfl⟩ := he
   have hlt : j < len := by rw [blt_dec] at q; simpa using q
   refine Good.same hh ?_ (hrun _ j k k2 hk hlt)
   obtain ⟨ab, ao, as⟩ := ad
   cases k4
   simp only [VRel]
   rw [addr_add]
   exact ⟨_, row, rfl, k3, rfl, by have := VRels.drop (j * sz) k5; simpa [List.drop_drop] using this⟩
 ·cases he
theorem lenOf_rel {v : V} {x : Value} {n : Nat} (hv : VRel M ρ v x) (e : lenOf v = some n) : (∃ ad c, x = .slice ad n c) ∨ (∃ l : List UInt8, v = .str l ∧ x = .string ⟨l.toArray⟩ ∧ l.length = n) := by
 unfold lenOf at e
 split at e
 ·cases e
  simp only [VRel] at hv
  obtain ⟨_, _, _, _, hv, _⟩ := hv
  exact .inl ⟨_, _, hv⟩
 ·cases e
  simp only [VRel] at hv
  exact .inl ⟨_, _, hv⟩
 ·cases e
  simp only [VRel] at hv
  obtain ⟨_, _, hv, _⟩ := hv
  exact .inl ⟨_, _, hv⟩
 ·cases e
  simp only [VRel] at hv
  exact .inr ⟨_, rfl, hv, rfl⟩
 ·cases e
end
end Go.VE
end
section
namespace Go.VE
section
variable {P : Program} {gl : Nat → Option (List V)} {N B : Nat} {M : Mem} {ρ : Rho} {h : Heap} {w : World} {s : Slots} {a : Act}
theorem builtin_run {o : Oper} {c : Call} {b : Builtin} (ho : o.op = .call c) (hc : c.callee = .builtin b) :
  ∃ consts, execOp a.eval o = Go.builtin b c.argTypes o.type consts (c.args.map a.eval) := by
 refine ⟨c.args.map (fun | .const _ => true | _ => false), ?_⟩
 simp only [execOp, ho, resolve, hc, pure_bind, invoke]
 rfl
theorem args1 {args : Array Operand} {x : Operand} (h : args.toList = [x]) : args.map a.eval = #[a.eval x] := by
 apply Array.ext'
 simp [h]
theorem args2 {args : Array Operand} {x y : Operand} (h : args.toList = [x, y]) : args.map a.eval = #[a.eval x, a.eval y] := by
 apply Array.ext'
 simp [h]
theorem arr1 {α : Type} {xs : Array α} {x : α} (h : xs.toList = [x]) : xs = #[x] := by apply Array.ext'; simpa using h
theorem arr2 {α : Type} {xs : Array α} {x y : α} (h : xs.toList = [x, y]) : xs = #[x, y] := by apply Array.ext'; simpa using h
theorem sim_len (hh : HRel P gl B M ρ h w) (hs : SRel M ρ N s a.tmps) {o : Oper} {c : Call} (ho : o.op = .call c) (hc : c.callee = .builtin .len) {x : Operand} (hx : c.args.toList = [x]) {t : TypeId} (hty : c.argTypes.toList = [t])
  {e : TypeId} (ht : P.underlying t = some (.slice e)) {x' : Opd} (e1 : opd gl x = some x') {v : V} {h' : Heap} (he : op_len x' s h = some (v, h')) :
  Good P gl B M ρ h w v h' ((execOp a.eval o).run P w) := by
 have hv := opd_rel hh hs e1
 obtain ⟨consts, hrun⟩ := builtin_run (a := a) ho hc
 rw [hrun, args1 hx, arr1 hty]
 unfold op_len at he
 split at he
 ·cases he
 ·rename_i hns
  cases q : lenOf (x'.ev s) with
  | none => simp [q] at he
  | some n =>
   simp only [q, Option.some.injEq, Prod.mk.injEq] at he
   obtain ⟨rfl, rfl⟩ := he
   refine Good.same hh (x := .int .i64 n) (by simp [VRel]) ?_
   rcases lenOf_rel hv q with ⟨ad, cap, hx'⟩ | ⟨l, hl, hx', hn⟩
   ·simp [Go.builtin, Builtin.len_, run_underlying ht, hx', goInt]
   ·exact absurd hl (hns l)
theorem sim_lenc (hh : HRel P gl B M ρ h w) {o : Oper} {c : Call} (ho : o.op = .call c) (hc : c.callee = .builtin .len) {x : Operand} (hx : c.args.toList = [x]) {t : TypeId} (hty : c.argTypes.toList = [t]) {n : Nat}
  (ht : (∃ e, P.underlying t = some (.array n e)) ∨ ∃ u e, P.underlying t = some (.pointer u) ∧ P.underlying u = some (.array n e)) {v : V} {h' : Heap} (he : op_lenc n s h = some (v, h')) :
  Good P gl B M ρ h w v h' ((execOp a.eval o).run P w) := by
 obtain ⟨consts, hrun⟩ := builtin_run (a := a) ho hc
 rw [hrun, args1 hx, arr1 hty]
 cases he
 refine Good.same hh (x := .int .i64 n) (by simp [VRel]) ?_
 rcases ht with ⟨e, ht⟩ | ⟨u, e, ht, hu⟩
 ·simp [Go.builtin, Builtin.len_, run_underlying ht, goInt]
 ·simp [Go.builtin, Builtin.len_, run_underlying ht, run_underlying hu, goInt]
theorem min2_rel {u v r : V} {x y : Value} (hu : VRel M ρ u x) (hv : VRel M ρ v y) (e : min2 u v = some r) : ∃ z, (Builtin.min2 x y).run P w = .ok z w ∧ VRel M ρ r z := by
 unfold min2 at e
 split at e
 ·cases e
  simp only [VRel] at hu hv
  subst hu hv
  rename_i k c k' d
  refine ⟨.int k (if d < c then d else c), by simp [Builtin.min2], ?_⟩
  simp only [VRel, ltI_eq, cond_eq_ite, decide_eq_true_eq]
 ·cases e
theorem max2_rel {u v r : V} {x y : Value} (hu : VRel M ρ u x) (hv : VRel M ρ v y) (e : max2 u v = some r) : ∃ z, (Builtin.max2 x y).run P w = .ok z w ∧ VRel M ρ r z := by
 unfold max2 at e
 split at e
 ·cases e
  simp only [VRel] at hu hv
  subst hu hv
  rename_i k c k' d
  refine ⟨.int k (if d > c then d else c), by simp [Builtin.max2], ?_⟩
  simp only [VRel, ltI_eq, cond_eq_ite, decide_eq_true_eq, gt_iff_lt]
 ·cases e
theorem fold2_rel {f : V → V → Option V} {g : Value → Value → Sem Value} (hfg : ∀ {u v r x y}, VRel M ρ u x → VRel M ρ v y → f u v = some r → ∃ z, (g x y).run P w = .ok z w ∧ VRel M ρ r z) :
  ∀ {vs : List V} {u r : V} {xs : List Value} {x : Value}, VRel M ρ u x → VRels M ρ vs xs → vs.length = xs.length → fold2 f u vs = some r → ∃ z, (xs.foldlM g x).run P w = .ok z w ∧ VRel M ρ r z
 | [], u, r, xs, x, hu, hv, hl, e => by
  have : xs = [] := List.eq_nil_of_length_eq_zero (by simpa using hl.symm)
  subst this
  simp [fold2] at e
  subst e
  exact ⟨x, by simp, hu⟩
 | v :: vs, u, r, xs, x, hu, hv, hl, e => by
  obtain ⟨y, ys, rfl, k1, k2⟩ := VRels.cons_iff.1 hv
  simp only [fold2] at e
  split at e
  ·rename_i z hz
   obtain ⟨z', m1, m2⟩ := hfg hu k1 hz
   obtain ⟨q, n1, n2⟩ := fold2_rel hfg m2 k2 (by simpa using hl) e
   exact ⟨q, by simp [m1, n1], n2⟩
  ·cases e
theorem sim_mini (hh : HRel P gl B M ρ h w) (hs : SRel M ρ N s a.tmps) {o : Oper} {c : Call} (ho : o.op = .call c) (hc : c.callee = .builtin .min) {xs : List Opd} (e1 : opds gl c.args.toList = some xs) {v : V} {h' : Heap} (he : op_mini xs s h = some (v, h')) :
  Good P gl B M ρ h w v h' ((execOp a.eval o).run P w) := by
 obtain ⟨consts, hrun⟩ := builtin_run (a := a) ho hc
 obtain ⟨k1, k2⟩ := opds_rel hh hs e1
 rw [hrun]
 unfold op_mini at he
 split at he
 ·rename_i u l hl
  cases q : fold2 min2 u l with
  | none => simp [q] at he
  | some r =>
   simp only [q, Option.map_some, Option.some.injEq, Prod.mk.injEq] at he
   obtain ⟨rfl, rfl⟩ := he
   rw [hl] at k1 k2
   obtain ⟨y, ys, hy, m1, m2⟩ := VRels.cons_iff.1 k1
   have hlen : l.length = ys.length := by
    have := congrArg List.length hy
    simp at this k2
    omega
   obtain ⟨z, n1, n2⟩ := fold2_rel (g := Builtin.min2) (fun h1 h2 h3 => min2_rel (P := P) (w := w) h1 h2 h3) m1 m2 hlen q
   refine Good.same hh n2 ?_
   simp [Go.builtin, Builtin.min_, hy, n1]
 ·cases he
theorem sim_maxi (hh : HRel P gl B M ρ h w) (hs : SRel M ρ N s a.tmps) {o : Oper} {c : Call} (ho : o.op = .call c) (hc : c.callee = .builtin .max) {xs : List Opd} (e1 : opds gl c.args.toList = some xs) {v : V} {h' : Heap} (he : op_maxi xs s h = some (v, h')) :
  Good P gl B M ρ h w v h' ((execOp a.eval o).run P w) := by
 obtain ⟨consts, hrun⟩ := builtin_run (a := a) ho hc
 obtain ⟨k1, k2⟩ := opds_rel hh hs e1
 rw [hrun]
 unfold op_maxi at he
 split at he
 ·rename_i u l hl
  cases q : fold2 max2 u l with
  | none => simp [q] at he
  | some r =>
   simp only [q, Option.map_some, Option.some.injEq, Prod.mk.injEq] at he
   obtain ⟨rfl, rfl⟩ := he
   rw [hl] at k1 k2
   obtain ⟨y, ys, hy, m1, m2⟩ := VRels.cons_iff.1 k1
   have hlen : l.length = ys.length := by
    have := congrArg List.length hy
    simp at this k2
    omega
   obtain ⟨z, n1, n2⟩ := fold2_rel (g := Builtin.max2) (fun h1 h2 h3 => max2_rel (P := P) (w := w) h1 h2 h3) m1 m2 hlen q
   refine Good.same hh n2 ?_
   simp [Go.builtin, Builtin.max_, hy, n1]
 ·cases he
theorem sim_mkif (hh : HRel P gl B M ρ h w) (hs : SRel M ρ N s a.tmps) {o : Oper} {t : TypeId} {x : Operand} (ho : o.op = .makeInterface t x) {d : TypeDesc} (ht : P.underlying t = some d) (hd : ∀ m, d ≠ .interface m) {x' : Opd} (e1 : opd gl x = some x')
  {v : V} {h' : Heap} (he : op_mkif t x' s h = some (v, h')) : Good P gl B M ρ h w v h' ((execOp a.eval o).run P w) := by
 have hx := opd_rel hh hs e1
 cases he
 refine Good.same hh (x := .iface t (a.eval x)) (by simp only [VRel]; exact ⟨_, rfl, hx⟩) ?_
 have := run_makeInterface (P := P) w t (a.eval x) (by unfold Program.concrete; rw [ht]; cases d <;> simp_all)
 simp only [execOp, ho, Sem.run_bind, this, Result.andThen_ok, Sem.run_pure]
theorem bound_rel {x : Option V} {X : Option Value} (hx : match x, X with | none, none => True | some u, some y => VRel M ρ u y | _, _ => False) {d m n : Nat} (e : bound x d m = some n) (code : BoundsCode) {m' : Nat} (hm : m ≤ m') :
  match X with
  | none => n = d
  | some y => (Instr.sliceBound y m' code).run P w = .ok n w ∧ n ≤ m := by
 unfold bound at e
 split at e
 ·cases e
  cases X with
  | none => rfl
  | some y => simp at hx
 ·rename_i u
  cases X with
  | none => simp at hx
  | some y =>
   simp only at hx
   split at e
   ·rename_i k hk
    cases q : Nat.ble k m
    ·simp [q] at e
    ·simp only [q, cond_true, Option.some.injEq] at e
     subst e
     obtain ⟨kk, rfl⟩ := asNat_rel hk hx
     have hle : k ≤ m := by rw [ble_dec] at q; simpa using q
     refine ⟨?_, hle⟩
     have hc : (0 : Int) ≤ (k : Int) ∧ (k : Int) ≤ (m' : Int) := by omega
     simp only [Instr.sliceBound, asIntOf, Sem.run_bind, Sem.run_pure, Result.andThen_ok, Sem.run_ite, hc, and_self, if_true, Int.toNat_natCast]
   ·cases e
def ORel (M : Mem) (ρ : Rho) (x : Option V) (X : Option Value) : Prop :=
 match x, X with
 | none, none => True
 | some u, some y => VRel M ρ u y
 | _, _ => False
theorem opdo_rel (hh : HRel P gl B M ρ h w) (hs : SRel M ρ N s a.tmps) {x : Option Operand} {o : Option Opd} (e : opdo gl x = some o) : ORel M ρ (evo s o) (x.map a.eval) := by
 cases x with
 | none =>
  simp only [opdo, Option.some.injEq] at e
  subst e
  simp [evo, ORel]
 | some x =>
  simp only [opdo] at e
  cases q : opd gl x with
  | none => simp [q] at e
  | some u =>
   simp only [q, Option.map_some, Option.some.injEq] at e
   subst e
   exact opd_rel hh hs q
theorem bounds_rel {lo hi mx : Option V} {L H X : Option Value} (hl : ORel M ρ lo L) (hhi : ORel M ρ hi H) (hm : ORel M ρ mx X) (hx : X = none ∨ H ≠ none) {isSlice : Bool} {len cap cap' m hh l : Nat} (hcap : cap ≤ cap')
  (e1 : bound mx cap cap = some m) (e2 : bound hi len m = some hh) (e3 : bound lo 0 hh = some l) :
  ∃ m', (Instr.sliceBounds isSlice len cap' L H X).run P w = .ok (l, hh, m') w ∧ (X = none → m' = cap' ∧ m = cap) ∧ (X ≠ none → m' = m) ∧ m ≤ cap ∧ (L = none → l = 0) ∧ (H = none → hh = len) ∧ (L ≠ none → l ≤ hh) ∧ (H ≠ none → hh ≤ m) := by
 have b1 := fun code => bound_rel (P := P) (w := w) (m' := cap') hm e1 code hcap
 cases X with
 | none =>
  simp only at b1
  have hmc := b1 .index
  subst hmc
  have b2 := fun code => bound_rel (P := P) (w := w) (m' := cap') hhi e2 code hcap
  have b3 := fun code => bound_rel (P := P) (w := w) (m' := hh) hl e3 code (Nat.le_refl _)
  refine ⟨cap', ?_, fun _ => ⟨rfl, rfl⟩, by simp, Nat.le_refl _, ?_, ?_, ?_, ?_⟩
  ·cases H with
   | none =>
    have hq := b2 .index
    simp only at hq
    subst hq
    cases L with
    | none =>
     have hq3 := b3 .index
     simp only at hq3
     subst hq3
     simp [Instr.sliceBounds]
    | some y => simp [Instr.sliceBounds, (b3 _).1]
   | some z =>
    cases L with
    | none =>
     have hq3 := b3 .index
     simp only at hq3
     subst hq3
     simp [Instr.sliceBounds, (b2 _).1]
    | some y => simp [Instr.sliceBounds, (b2 _).1, (b3 _).1]
  ·rintro rfl; exact b3 .index
  ·rintro rfl; exact b2 .index
  ·intro hq; cases L with
   | none => exact absurd rfl hq
   | some y => exact (b3 .index).2
  ·intro hq; cases H with
   | none => exact absurd rfl hq
   | some y => exact (b2 .index).2
 | some xm =>
  simp only at b1
  have b2 := fun code => bound_rel (P := P) (w := w) (m' := m) hhi e2 code (Nat.le_refl _)
  have b3 := fun code => bound_rel (P := P) (w := w) (m' := hh) hl e3 code (Nat.le_refl _)
  cases H with
  | none => simp at hx
  | some z =>
   refine ⟨m, ?_, by simp, fun _ => rfl, (b1 .index).2, ?_, by simp, ?_, ?_⟩
   ·cases L with
    | none =>
     have hq3 := b3 .index
     simp only at hq3
     subst hq3
     simp [Instr.sliceBounds, (b1 _).1, (b2 _).1]
    | some y => simp [Instr.sliceBounds, (b1 _).1, (b2 _).1, (b3 _).1]
   ·rintro rfl; exact b3 .index
   ·intro hq; cases L with
    | none => exact absurd rfl hq
    | some y => exact (b3 .index).2
   ·intro _; exact (b2 .index).2
end
end Go.VE
end
section
namespace Go.VE
section
variable {P : Program} {gl : Nat → Option (List V)} {N B : Nat} {M : Mem} {ρ : Rho} {h : Heap} {w : World} {s : Slots} {a : Act}
theorem bound_mono {x : Option V} {d m m2 n : Nat} (e : bound x d m = some n) (hm : m ≤ m2) : bound x d m2 = some n := by
 unfold bound at e ⊢
 split at e
 ·exact e
 ·split at e
  ·rename_i k hk
   rw [ble_dec] at e
   by_cases q : k ≤ m
   ·simp [q] at e
    subst e
    have : k ≤ m2 := by omega
    simp [hk, ble_dec, this]
   ·simp [q] at e
  ·cases e
theorem sliceRun {t e : TypeId} {i : TypeInfo} (ht : P.underlying t = some (.slice e)) (hi : P.info? e = some i) {ad : Option Addr} {len cap l hh m : Nat} {L H X : Option Value} (hb : (Instr.sliceBounds true len cap L H X).run P w = .ok (l, hh, m) w) :
  (Instr.sliceAt t (.slice ad len cap) L H X).run P w = .ok (.slice (if m = l then ad else ad.map (·.add (l * i.size))) (hh - l) (m - l)) w := by
 simp only [Instr.sliceAt, Sem.run_bind, run_underlying ht, Result.andThen_ok, Instr.slice, hb, sizeOf, typeInfo, run_program, hi, Sem.run_pure]
theorem capR_sub {l : Loc} {off cap sz cap' k : Nat} (hc : capR l off cap sz cap') (hk : k ≤ cap) : capR l (off + k * sz) (cap - k) sz (cap' - k) := by
 have e : off + k * sz + (cap - k) * sz = off + cap * sz := by
  rw [Nat.add_assoc, ← Nat.add_mul, Nat.add_sub_cancel' hk]
 unfold capR at hc ⊢
 rw [e]
 rcases hc with ⟨h1, h2⟩ | ⟨h1, h2, h3⟩ | ⟨h1, h2, h3, h4⟩
 ·exact .inl ⟨h1, by omega⟩
 ·exact .inr (.inl ⟨h1, h2, by omega⟩)
 ·exact .inr (.inr ⟨h1, h2, h3, by omega⟩)
theorem sim_slc (hh : HRel P gl B M ρ h w) (hs : SRel M ρ N s a.tmps) {o : Oper} {t e : TypeId} {x : Operand} {lo hi mx : Option Operand} (ho : o.op = .slice t x lo hi mx) (ht : P.underlying t = some (.slice e)) {sz : Nat} (hsz : szOf P e = some sz)
  {x' : Opd} {lo' hi' mx' : Option Opd} (e1 : opd gl x = some x') (e2 : opdo gl lo = some lo') (e3 : opdo gl hi = some hi') (e4 : opdo gl mx = some mx') (hmx : mx = none ∨ hi ≠ none)
  {v : V} {h' : Heap} (he : op_slc sz x' lo' hi' mx' s h = some (v, h')) : Good P gl B M ρ h w v h' ((execOp a.eval o).run P w) := by
 have hx := opd_rel hh hs e1
 have hl := opdo_rel hh hs e2
 have hhi := opdo_rel hh hs e3
 have hm := opdo_rel hh hs e4
 obtain ⟨i, hi1, rfl⟩ := szOf_spec hsz
 have hX : mx.map a.eval = none ∨ hi.map a.eval ≠ none := by
  rcases hmx with rfl | q
  ·exact .inl rfl
  ·right; intro q2; apply q; cases hi <;> simp_all
 have hmxn : evo s mx' = none ↔ mx.map a.eval = none := by
  cases mx' <;> cases mx <;> simp [opdo] at e4 <;> simp [evo]
 have hex : ∀ r, (Instr.sliceAt t (a.eval x) (lo.map a.eval) (hi.map a.eval) (mx.map a.eval)).run P w = .ok r w → (execOp a.eval o).run P w = .ok (.value r) w := by
  intro r hr
  simp only [execOp, ho, Sem.run_bind, hr, Result.andThen_ok, Sem.run_pure]
 unfold op_slc at he
 cases q : sliceV h i.size (x'.ev s) (evo s lo') (evo s hi') (evo s mx') with
 | none => simp [q] at he
 | some u =>
  simp only [q, Option.map_some, Option.some.injEq, Prod.mk.injEq] at he
  obtain ⟨rfl, rfl⟩ := he
  unfold sliceV at q
  split at q
  ·rename_i ex
   rw [ex] at hx
   simp only [VRel] at hx
   split at q
   ·rename_i m0 h0 l0 q1 q2 q3
    cases q
    have b0 : m0 ≤ 0 ∧ h0 ≤ 0 ∧ l0 ≤ 0 := by
     have aux : ∀ {y : Option V} {n : Nat}, bound y 0 0 = some n → n ≤ 0 := by
      intro y n hy
      unfold bound at hy
      split at hy
      ·cases hy; exact Nat.le_refl _
      ·split at hy
       ·rename_i k hk
        rw [ble_dec] at hy
        by_cases z : k ≤ 0
        ·simp [z] at hy; omega
        ·simp [z] at hy
       ·cases hy
     exact ⟨aux q1, aux q2, aux q3⟩
    have z1 : m0 = 0 := by omega
    have z2 : h0 = 0 := by omega
    have z3 : l0 = 0 := by omega
    subst z1 z2 z3
    obtain ⟨m', k1, k2, k3, _⟩ := bounds_rel (P := P) (w := w) (isSlice := true) (len := 0) (cap := 0) (cap' := 0) hl hhi hm hX (Nat.le_refl _) q1 q2 q3
    have hm0 : m' = 0 := by
     by_cases z : mx.map a.eval = none
     ·exact (k2 z).1
     ·exact k3 z
    subst hm0
    have hr := sliceRun (P := P) ht hi1 (ad := none) k1
    refine Good.same hh (x := .slice none 0 0) (by simp [VRel]) (hex _ ?_)
    rw [hx, hr]
    simp
   ·cases q
  ·rename_i b off len cap sz' ex
   rw [ex] at hx
   simp only [VRel] at hx
   obtain ⟨loc, ad, cap', r1, r2, r3, r4, r5⟩ := hx
   have hcc := capR_le r3
   by_cases hsz' : i.size = sz'
   ·subst hsz'
    simp only [beq_dec, decide_true, cond_true] at q
    split at q
    ·cases q
    ·rename_i m q1
     split at q
     ·cases q
     ·rename_i h2 q2
      split at q
      ·cases q
      ·rename_i l q3
       obtain ⟨m', k1, k2, k3, k4, k5, k6, k7, k8⟩ := bounds_rel (P := P) (w := w) (isSlice := true) hl hhi hm hX hcc q1 q2 q3
       have hlh : l ≤ h2 := by
        by_cases z : lo.map a.eval = none
        ·rw [k5 z]; omega
        ·exact k7 z
       have hhm : h2 ≤ m := by
        by_cases z : hi.map a.eval = none
        ·rw [k6 z]
         rcases hX with z2 | z2
         ·rw [(k2 z2).2]; omega
         ·exact absurd z z2
        ·exact k8 z
       have hr := sliceRun (P := P) ht hi1 (ad := some ad) k1
       rw [← r2] at hr
       split at q
       ·rename_i z
        cases q
        obtain ⟨rfl, rfl⟩ := k2 (hmxn.1 z)
        refine Good.same hh ?_ (hex _ hr)
        simp only [VRel]
        refine ⟨loc, if m' = l then ad else ad.add (l * i.size), m' - l, r1, ?_, capR_sub r3 (by omega), ?_, by omega⟩
        ·split <;> simp
        ·by_cases z2 : m' = l
         ·exact .inl (by omega)
         ·rcases r4 with r4 | r4
          ·omega
          ·right
           rw [if_neg z2, r4, addr_add, Nat.add_assoc]
       ·rename_i u z
        have hmm : m' = m := k3 (fun z2 => by have := hmxn.2 z2; rw [z] at this; cases this)
        subst hmm
        split at q
        ·rename_i c oo hg
         have hb := hh.blk b loc r1
         rw [hg] at hb
         obtain ⟨cur, e', fr, c1, c2, c3, c4, c5, c6⟩ := BRel.cells_iff.1 hb
         cases z3 : (oo.opn && decide (off + m' * i.size = c.length))
         ·simp only [z3, cond_false, Option.some.injEq] at q
          subst q
          refine Good.same hh ?_ (hex _ hr)
          simp only [VRel]
          refine ⟨loc, if m' = l then ad else ad.add (l * i.size), m' - l, r1, ?_, ?_, ?_, by omega⟩
          ·split <;> simp
          ·have e5 : off + l * i.size + (m' - l) * i.size = off + m' * i.size := by
            rw [Nat.add_assoc, ← Nat.add_mul, Nat.add_sub_cancel' (by omega)]
           unfold capR
           rw [e5]
           by_cases z4 : loc.ex = 0
           ·exact .inl ⟨z4, rfl⟩
           ·right; left
            refine ⟨z4, ?_, rfl⟩
            intro z5
            cases hoo : oo.opn with
            | false => exact z4 (c6.1 hoo)
            | true => simp [hoo, c3, z5] at z3
          ·by_cases z2 : m' = l
           ·exact .inl (by omega)
           ·rcases r4 with r4 | r4
            ·omega
            ·right
             rw [if_neg z2, r4, addr_add, Nat.add_assoc]
         ·simp only [z3, cond_true, Option.some.injEq] at q
          subst q
          exact Good.same hh (by simp [VRel]) (hex _ hr)
        ·cases q
   ·simp [beq_dec, hsz'] at q
  ·rename_i cs len cap ex
   rw [ex] at hx
   simp only [VRel] at hx
   obtain ⟨ad, cap', r2, r3, r4, r5⟩ := hx
   split at q
   ·cases q
   ·rename_i m q1
    split at q
    ·cases q
    ·rename_i h2 q2
     split at q
     ·cases q
     ·rename_i l q3
      split at q
      ·cases q
      ·rename_i cs' q4
       cases q
       have hcc : (match evo s mx' with | none => len | some _ => cap.getD len) ≤ cap' := by
        split
        ·exact r4
        ·cases cap with
         | none => exact r4
         | some c => exact Nat.le_of_eq (r3 c rfl).symm
       have q1' : bound (evo s mx') (match evo s mx' with | none => len | some _ => cap.getD len) (match evo s mx' with | none => len | some _ => cap.getD len) = some m := by
        cases z : evo s mx' with
        | none => rw [z] at q1; simpa [bound] using q1
        | some u => rw [z] at q1; simpa [bound] using q1
       obtain ⟨m', k1, k2, k3, k4, k5, k6, k7, k8⟩ := bounds_rel (P := P) (w := w) (isSlice := true) hl hhi hm hX hcc q1' (bound_mono q2 (Nat.min_le_left _ _)) q3
       have hlh : l ≤ h2 := by
        by_cases z : lo.map a.eval = none
        ·rw [k5 z]; omega
        ·exact k7 z
       have hhm : h2 ≤ m' := by
        by_cases z : mx.map a.eval = none
        ·rw [(k2 z).1]
         by_cases z2 : hi.map a.eval = none
         ·rw [k6 z2]; exact r4
         ·have := k8 z2; omega
        ·rw [k3 z]
         rcases hX with z2 | z2
         ·exact absurd z2 z
         ·exact k8 z2
       have hr := sliceRun (P := P) ht hi1 (ad := some ad) k1
       rw [← r2] at hr
       refine Good.same hh ?_ (hex _ hr)
       simp only [VRel]
       refine ⟨if m' = l then ad else ad.add (l * i.size), m' - l, by split <;> simp, ?_, by omega, ?_⟩
       ·intro c hc
        split at hc
        ·rename_i u z
         have := k3 (fun z2 => by have := hmxn.2 z2; rw [z] at this; cases this)
         cases hc
         omega
        ·rename_i z
         obtain ⟨z1, _⟩ := k2 (hmxn.1 z)
         cases cap with
         | none => cases hc
         | some c0 =>
          simp at hc
          have := r3 c0 rfl
          omega
       ·by_cases z : cs' = []
        ·exact .inl z
        ·right
         obtain ⟨t1, t2⟩ := takeN_eq _ _ _ q4
         have hpos : 0 < (h2 - l) * i.size := by
          rw [← t2]
          exact List.length_pos_iff.2 z
         have hne : m' ≠ l := by
          intro z2
          have : h2 - l = 0 := by omega
          rw [this] at hpos
          simp at hpos
         rw [if_neg hne]
         rcases r5 with rfl | ⟨row, m1, m2, m3⟩
         ·simp at t1
          exact absurd t1 z
         ·obtain ⟨ab, ao, as⟩ := ad
          cases m2
          rw [addr_add]
          refine ⟨row, m1, rfl, ?_⟩
          have hd := VRels.drop (l * i.size) m3
          obtain ⟨u1, u2, u3⟩ := VRels.takeN hd q4
          have := VRels.more ((row.drop ao).drop (l * i.size) |>.drop ((h2 - l) * i.size)) u1
          rw [List.take_append_drop] at this
          simpa [List.drop_drop] using this
  ·cases q
end
end Go.VE
end

