/- A part of a proof that a small evaluator of the translated code agrees with the model (part SimA). No statement of the program stands here. -/
import Derived.Test.YtpbggddmfgjmlaaGreatVeMem
set_option linter.all false
section
namespace Go.VE
theorem cst_rel {M : Mem} {ρ : Rho} : ∀ {v : Value} {u : V}, cst v = some u → VRel M ρ u v := by
 intro v u h
 unfold cst at h
 split at h <;> first
  |(cases h; simp [VRel]; done)
  | cases h
theorem csts_rel {M : Mem} {ρ : Rho} : ∀ {l : List Value} {us : List V}, csts l = some us → VRels M ρ us l ∧ us.length = l.length
 | [], us, h => by simp [csts] at h; subst h; exact ⟨VRels.nil, rfl⟩
 | x :: r, us, h => by
  simp only [csts] at h
  split at h
  ·rename_i a b h1 h2
   cases h
   obtain ⟨k1, k2⟩ := csts_rel (M := M) (ρ := ρ) h2
   exact ⟨VRels.cons_iff.2 ⟨x, r, rfl, cst_rel h1, k1⟩, by simp [k2]⟩
  ·cases h
theorem cstA_rel {M : Mem} {ρ : Rho} {v : Value} {u : V} (h : cstA v = some u) : VRel M ρ u v := by
 unfold cstA at h
 split at h
 ·rename_i cs
  cases e : csts cs.toList with
  | none => simp [e] at h
  | some us =>
   simp [e] at h
   subst h
   obtain ⟨k1, k2⟩ := csts_rel (M := M) (ρ := ρ) e
   simp only [VRel]
   exact ⟨cs.toList, by simp, k2, k1⟩
 ·exact cst_rel h
section
variable {P : Program} {gl : Nat → Option (List V)} {N B : Nat} {M : Mem} {ρ : Rho} {h : Heap} {w : World} {s : Slots} {a : Act}
theorem opd_rel (hh : HRel P gl B M ρ h w) (hs : SRel M ρ N s a.tmps) {x : Operand} {o : Opd} (e : opd gl x = some o) : VRel M ρ (o.ev s) (a.eval x) := by
 cases x with
 | tmp t =>
  simp only [opd, Option.some.injEq] at e
  subst e
  exact hs.rel t
 | const v =>
  simp only [opd] at e
  cases q : cstA v with
  | none => simp [q] at e
  | some u =>
   simp [q] at e
   subst e
   exact cstA_rel q
 | func f =>
  simp only [opd, Option.some.injEq] at e
  subst e
  simp [Opd.ev, Act.eval, VRel, VRels]
 | global g =>
  simp only [opd] at e
  cases q : gl g with
  | none => simp [q] at e
  | some cs =>
   simp [q] at e
   subst e
   obtain ⟨row, h1, h2⟩ := hh.glob g cs q
   simp only [Opd.ev, Act.eval, VRel]
   exact ⟨⟨g, 0, none⟩, row, rfl, h1, rfl, by simpa using h2⟩
theorem opds_rel (hh : HRel P gl B M ρ h w) (hs : SRel M ρ N s a.tmps) : ∀ {xs : List Operand} {os : List Opd}, opds gl xs = some os →
  VRels M ρ (evs s os) (xs.map a.eval) ∧ (evs s os).length = xs.length
 | [], os, e => by simp [opds] at e; subst e; simp [evs, VRels]
 | x :: r, os, e => by
  simp only [opds] at e
  split at e
  ·rename_i o l h1 h2
   cases e
   obtain ⟨k1, k2⟩ := opds_rel hh hs h2
   refine ⟨?_, by simpa [evs] using k2⟩
   simp only [evs, List.map_cons]
   exact VRels.cons_iff.2 ⟨_, _, rfl, opd_rel hh hs h1, k1⟩
  ·cases e
def NxV (r : Result Next) (x : Value) (w' : World) : Prop := r = .ok (.value x) w' ∨ (r = .ok .skip w' ∧ x = undef)
def Good (P : Program) (gl : Nat → Option (List V)) (B : Nat) (M : Mem) (ρ : Rho) (h : Heap) (w : World) (v : V) (h' : Heap) (r : Result Next) : Prop :=
 ∃ ρ' w' x, HRel P gl B M ρ' h' w' ∧ Evo M ρ h w M ρ' h' w' ∧ VRel M ρ' v x ∧ NxV r x w'
def GoodM (P : Program) (gl : Nat → Option (List V)) (B : Nat) (M : Mem) (ρ : Rho) (h : Heap) (w : World) (v : V) (h' : Heap) (r : Result Next) : Prop :=
 ∃ M' ρ' w' x, HRel P gl B M' ρ' h' w' ∧ Evo M ρ h w M' ρ' h' w' ∧ VRel M' ρ' v x ∧ NxV r x w'
theorem GoodM.of {v : V} {h' : Heap} {r : Result Next} (g : Good P gl B M ρ h w v h' r) : GoodM P gl B M ρ h w v h' r := by
 obtain ⟨ρ', w', x, h⟩ := g
 exact ⟨M, ρ', w', x, h⟩
theorem Good.same (hh : HRel P gl B M ρ h w) {v : V} {x : Value} (hv : VRel M ρ v x) {r : Result Next} (hr : r = .ok (.value x) w) : Good P gl B M ρ h w v h r :=
 ⟨ρ, w, x, hh, Evo.refl _ _ _ _, hv, .inl hr⟩
theorem undef_rel : VRel M ρ (.tup []) undef := by simp [VRel, VRels, undef]
theorem VRel.agg_iff {cs : List V} {x : Value} : VRel M ρ (.agg cs) x ↔ ∃ xs : List Value, x = .agg xs.toArray ∧ cs.length = xs.length ∧ VRels M ρ cs xs := by simp only [VRel]
theorem cellsO_rel {v : V} {x : Value} {l : List V} (hv : VRel M ρ v x) (h1 : cellsO v = some l) : VRels M ρ l x.cells.toList ∧ l.length = x.cells.size := by
 cases v with
 | top => cases h1
 | tup cs => cases h1
 | agg cs =>
  cases h1
  obtain ⟨xs, rfl, k1, k2⟩ := VRel.agg_iff.1 hv
  simp [Value.cells, k1, k2]
 | _ =>
  cases h1
  have hx : x.cells = #[x] := by
   simp only [VRel] at hv
   unfold Value.cells
   split
   ·exfalso
    first
     |(cases hv; done)
     |(obtain ⟨_, _, hv⟩ := hv; cases hv; done)
     |(obtain ⟨_, _, _, _, hv, _⟩ := hv; cases hv; done)
     |(obtain ⟨_, _, hv, _⟩ := hv; cases hv; done)
     |(obtain ⟨_, hv, _⟩ := hv; cases hv; done)
   ·rfl
  rw [hx]
  exact ⟨VRels.cons_iff.2 ⟨x, [], by simp, hv, VRels.nil⟩, by simp⟩
theorem oneCell_rel {v : V} {x : Value} (hv : VRel M ρ v x) (h1 : oneCell v = true) : x.oneCell' = true := by
 cases v <;> first
  |(cases h1; done)
  |(simp only [VRel] at hv
    first
    |(cases hv; rfl)
    |(obtain ⟨_, _, hv⟩ := hv; cases hv; rfl)
    |(obtain ⟨_, _, _, _, hv, _⟩ := hv; cases hv; rfl)
    |(obtain ⟨_, _, hv, _⟩ := hv; cases hv; rfl)
    |(obtain ⟨_, hv, _⟩ := hv; cases hv; rfl))
def aggD : TypeDesc → Bool
 | .struct _ | .array _ _ => true
 | _ => false
theorem isAgg_run {t : TypeId} {d : TypeDesc} (hd : P.underlying t = some d) (w : World) : (isAgg t).run P w = .ok (aggD d) w := by
 simp only [isAgg, Sem.run_bind, run_underlying hd, Result.andThen_ok]
 cases d <;> rfl
theorem aggOf_spec {t : TypeId} {n : Option Nat} (e : aggOf P t = some n) : ∃ d i, P.underlying t = some d ∧ P.info? t = some i ∧
  ((n = some i.size ∧ aggD d = true) ∨ (n = none ∧ aggD d = false)) := by
 unfold aggOf at e
 split at e
 ·rename_i fs i h1 h2
  cases e
  exact ⟨_, i, h1, h2, .inl ⟨rfl, rfl⟩⟩
 ·rename_i k e' i h1 h2
  cases e
  exact ⟨_, i, h1, h2, .inl ⟨rfl, rfl⟩⟩
 ·rename_i d i h1 h2 h3 h4
  cases e
  refine ⟨_, i, h3, h4, .inr ⟨rfl, ?_⟩⟩
  cases d <;> simp_all [aggD]
 ·cases e
theorem loadVar_run {t : TypeId} {n : Option Nat} (e : aggOf P t = some n) {cs : List V} {v : V} (hp : part n cs = some v) {ad : Addr} {row : List Value}
  (hr : VRels M ρ cs row) (hc : ∀ i u, row[i]? = some u → w.cell? (ad.add i) = some u) : ∃ x, (loadVar t ad).run P w = .ok x w ∧ VRel M ρ v x := by
 obtain ⟨d, i, h1, h2, h3⟩ := aggOf_spec e
 rcases h3 with ⟨rfl, hagg⟩ | ⟨rfl, hagg⟩
 ·simp only [part] at hp
  split at hp
  ·rename_i l hl
   cases hp
   obtain ⟨k1, k2, k3⟩ := VRels.takeN hr hl
   refine ⟨.agg (row.take i.size).toArray, ?_, ?_⟩
   ·have hload := run_loadCells_list (P := P) w ad (row.take i.size) (fun j u hj => by
     rw [List.getElem?_take] at hj
     split at hj
     ·exact hc j u hj
     ·cases hj)
    rw [k3] at hload
    simp [loadVar, isAgg_run h1, hagg, sizeOf, typeInfo, h2, hload]
   ·simp only [VRel]
    exact ⟨_, rfl, by rw [k2, k3], k1⟩
  ·cases hp
 ·simp only [part] at hp
  split at hp
  ·rename_i x l
   cases hp
   obtain ⟨y, ys, rfl, k1, k2⟩ := VRels.cons_iff.1 hr
   refine ⟨y, ?_, k1⟩
   have h0 := hc 0 y rfl
   simp only [Addr.add, if_true] at h0
   simp [loadVar, isAgg_run h1, hagg, h0]
  ·cases hp
theorem sim_mv (hh : HRel P gl B M ρ h w) (hs : SRel M ρ N s a.tmps) {o : Oper} {x : Operand} (ho : o.op = .move x ∨ o.op = .assign x) {y : Opd} (e : opd gl x = some y) :
  Good P gl B M ρ h w (y.ev s) h ((execOp a.eval o).run P w) :=
 Good.same hh (opd_rel hh hs e) (by rcases ho with ho | ho <;> simp [execOp, ho])
theorem sim_pick (hh : HRel P gl B M ρ h w) (hs : SRel M ρ N s a.tmps) {o : Oper} {c x y : Operand} (ho : o.op = .pick c x y) {c' x' y' : Opd}
  (e1 : opd gl c = some c') (e2 : opd gl x = some x') (e3 : opd gl y = some y') {v : V} {h' : Heap} (he : op_pick c' x' y' s h = some (v, h')) :
  Good P gl B M ρ h w v h' ((execOp a.eval o).run P w) := by
 have hc := opd_rel hh hs e1
 unfold op_pick at he
 split at he
 ·rename_i q
  cases he
  rw [q] at hc
  simp only [VRel] at hc
  exact Good.same hh (opd_rel hh hs e2) (by simp [execOp, ho, hc, asBool])
 ·rename_i q
  cases he
  rw [q] at hc
  simp only [VRel] at hc
  exact Good.same hh (opd_rel hh hs e3) (by simp [execOp, ho, hc, asBool])
 ·cases he
theorem sureAddr_run {ad : Addr} (w : World) : (Instr.sureAddr (.pointer (some ad))).run P w = .ok ad w := rfl
theorem sim_ld (hh : HRel P gl B M ρ h w) (hs : SRel M ρ N s a.tmps) {o : Oper} {t : TypeId} {x : Operand} (ho : o.op = .load t x) {n : Option Nat} {x' : Opd}
  (e1 : aggOf P t = some n) (e2 : opd gl x = some x') {v : V} {h' : Heap} (he : op_ld n x' s h = some (v, h')) :
  Good P gl B M ρ h w v h' ((execOp a.eval o).run P w) := by
 have hx := opd_rel hh hs e2
 unfold op_ld at he
 split at he
 ·rename_i cs hc
  cases hp : part n cs with
  | none => simp [hp] at he
  | some u =>
   simp [hp] at he
   obtain ⟨rfl, rfl⟩ := he
   obtain ⟨ad, row, k1, k2, k3, k4⟩ := cellsAt_rel hh hx hc
   obtain ⟨y, hy, hv⟩ := loadVar_run e1 hp k3 k4
   exact Good.same hh hv (by simp [execOp, ho, k1, Instr.loadAt, sureAddr_run, hy])
 ·cases he
theorem zeroOf_spec {t : TypeId} {z : List V} (e : zeroOf P t = some z) : ∃ i zv, P.info? t = some i ∧ i.zero = some zv ∧ z.length = i.size ∧ (∀ M ρ, VRels M ρ z zv.cells.toList) ∧ z.length = zv.cells.size := by
 unfold zeroOf at e
 split at e
 ·rename_i i hi
  split at e
  ·rename_i zv hz
   cases q : csts zv.cells.toList with
   | none => simp [q] at e
   | some l =>
    simp [q] at e
    obtain ⟨k1, rfl⟩ := e
    refine ⟨i, zv, hi, hz, k1, fun M ρ => (csts_rel q).1, ?_⟩
    have := (csts_rel (M := fun _ => none) (ρ := fun _ => none) q).2
    simpa using this
  ·cases e
 ·cases e
theorem new_row (hh : HRel P gl B M ρ h w) {c : List V} {cur : Array Value} (hc : VRels M ρ c cur.toList) (hl : c.length = cur.size) (e : TypeId) (sz : Nat) (o : Tag) (ho : TagR ⟨w.heap.size, 0, c.length, sz, 0⟩ e o) :
  ∃ ρ', HRel P gl B M ρ' (h.new (.cells c o)) (w.alloc (.cells cur e)) ∧ Evo M ρ h w M ρ' (h.new (.cells c o)) (w.alloc (.cells cur e)) ∧
   ρ' h.nx = some ⟨w.heap.size, 0, c.length, sz, 0⟩ := by
 have hr := hh.rle ⟨w.heap.size, 0, c.length, sz, 0⟩
 obtain ⟨k1, k2⟩ := hh.new (.cells c o) (.cells cur e) ⟨w.heap.size, 0, c.length, sz, 0⟩ rfl (BRel.cells_iff.2 ⟨cur, e, (0, 0), rfl, fun i _ _ q => by simp at q, rfl, by simpa using VRels.mono (Mle.refl _) hr _ hc, by simp [hl], ho⟩)
 exact ⟨_, k1, k2, Rho.add_same _ _ _⟩
theorem ptr_new {ρ' : Rho} {b : Nat} {l : Loc} (e : ρ' b = some l) (hb : l.base = 0) : VRel M ρ' (.ptr b 0) (.pointer (some ⟨l.blk, 0, none⟩)) := by
 simp only [VRel]
 exact ⟨l, e, by simp [hb]⟩
theorem sim_alloc (hh : HRel P gl B M ρ h w) {o : Oper} {t : TypeId} (ho : o.op = .alloc t) {z : List V} (e : zeroOf P t = some z) {v : V} {h' : Heap} (he : op_alloc t z s h = some (v, h')) :
  Good P gl B M ρ h w v h' ((execOp a.eval o).run P w) := by
 obtain ⟨i, zv, h1, h2, h3, h4, h5⟩ := zeroOf_spec e
 cases he
 obtain ⟨ρ', k1, k2, k3⟩ := new_row hh (h4 M ρ) h5 t 1 (.ct t) (tagR_ct rfl rfl)
 exact ⟨ρ', _, _, k1, k2, ptr_new k3 rfl, .inl (by simp [execOp, ho, Instr.alloc, zeroValue, typeInfo, h1, h2, newVar, newRow])⟩
theorem szOf_spec {t : TypeId} {n : Nat} (e : szOf P t = some n) : ∃ i, P.info? t = some i ∧ i.size = n := by
 unfold szOf at e
 cases q : P.info? t with
 | none => simp [q] at e
 | some i => simp [q] at e; exact ⟨i, rfl, e⟩
theorem sim_box (hh : HRel P gl B M ρ h w) (hs : SRel M ρ N s a.tmps) {o : Oper} {t : TypeId} {x : Operand} (ho : o.op = .box t x) {n : Nat} {x' : Opd} (e2 : opd gl x = some x')
  {v : V} {h' : Heap} (he : op_box n x' s h = some (v, h')) :
  Good P gl B M ρ h w v h' ((execOp a.eval o).run P w) := by
 have hx := opd_rel hh hs e2
 unfold op_box at he
 split at he
 ·rename_i l hl
  obtain ⟨c1, c2⟩ := cellsO_rel hx hl
  cases q : Nat.beq l.length n
  ·simp [q] at he
  ·simp [q] at he
   obtain ⟨rfl, rfl⟩ := he
   obtain ⟨ρ', k1, k2, k3⟩ := new_row hh c1 c2 t 1 .cl (tagR_cl rfl)
   exact ⟨ρ', _, _, k1, k2, ptr_new k3 rfl, .inl (by simp [execOp, ho, Instr.box, newVar, newRow])⟩
 ·cases he
def overC (off : Nat) (xs ys : List Value) : List Value := xs.take off ++ ys ++ xs.drop (off + ys.length)
theorem overC_length {off : Nat} {xs ys : List Value} (h : off + ys.length ≤ xs.length) : (overC off xs ys).length = xs.length := by
 simp [overC]; omega
theorem over_rel : ∀ {off : Nat} {l vs r : List V} {xs ys : List Value}, over off l vs = some r → VRels M ρ l xs → VRels M ρ vs ys → vs.length = ys.length →
  VRels M ρ r (overC off xs ys) ∧ r.length = l.length ∧ (∀ y ∈ ys, y.oneCell' = true) ∧ (ys ≠ [] → off + ys.length ≤ l.length)
 | off, l, [], r, xs, ys, he, hl, hv, hn => by
  simp [over] at he
  subst he
  have : ys = [] := by cases ys <;> simp_all
  subst this
  simp [overC, hl]
 | off, [], x :: vs, r, xs, ys, he, _, _, _ => by cases off <;> simp [over] at he
 | 0, y :: l, x :: vs, r, xs, ys, he, hl, hv, hn => by
  simp only [over] at he
  cases q : oneCell x
  ·simp [q] at he
  ·simp only [q, cond_true] at he
   split at he
   ·rename_i r' hr'
    cases he
    obtain ⟨x1, xs', rfl, k1, k2⟩ := VRels.cons_iff.1 hl
    obtain ⟨y1, ys', rfl, k3, k4⟩ := VRels.cons_iff.1 hv
    obtain ⟨m1, m2, m3, m4⟩ := over_rel hr' k2 k4 (by simpa using hn)
    refine ⟨?_, by simp [m2], ?_, ?_⟩
    ·have : overC 0 (x1 :: xs') (y1 :: ys') = y1 :: overC 0 xs' ys' := by simp [overC]
     rw [this]
     exact VRels.cons_iff.2 ⟨_, _, rfl, k3, m1⟩
    ·intro z hz
     rcases List.mem_cons.1 hz with rfl | hz
     ·exact oneCell_rel k3 q
     ·exact m3 z hz
    ·intro _
     by_cases hy : ys' = []
     ·subst hy; simp
     ·have := m4 hy
      simp at this ⊢
      omega
   ·cases he
 | off + 1, y :: l, x :: vs, r, xs, ys, he, hl, hv, hn => by
  simp only [over] at he
  split at he
  ·rename_i r' hr'
   cases he
   obtain ⟨x1, xs', rfl, k1, k2⟩ := VRels.cons_iff.1 hl
   obtain ⟨m1, m2, m3, m4⟩ := over_rel hr' k2 hv hn
   refine ⟨?_, by simp [m2], m3, ?_⟩
   ·have : overC (off + 1) (x1 :: xs') ys = x1 :: overC off xs' ys := by
     simp [overC, Nat.add_right_comm]
    rw [this]
    exact VRels.cons_iff.2 ⟨_, _, rfl, k1, m1⟩
   ·intro hy
    have := m4 hy
    simp
    omega
  ·cases he
theorem foldl_set (off : Nat) : ∀ (vs : List Value) (k : Nat) (cs : Array Value), off + k + vs.length ≤ cs.size →
  ((vs.zipIdx k).foldl (fun cs (x : Value × Nat) => cs.setIfInBounds (off + x.2) x.1) cs).toList = cs.toList.take (off + k) ++ vs ++ cs.toList.drop (off + k + vs.length)
 | [], k, cs, _ => by simp
 | v :: vs, k, cs, hk => by
  simp only [List.zipIdx_cons, List.foldl_cons]
  simp only [List.length_cons] at hk
  rw [foldl_set off vs (k + 1) _ (by simp; omega)]
  have hlt : off + k < cs.toList.length := by simp; omega
  simp only [Array.toList_setIfInBounds]
  rw [List.take_set, List.drop_set]
  rw [if_pos (by omega)]
  have h1 : (cs.toList.take (off + (k + 1))).set (off + k) v = cs.toList.take (off + k) ++ [v] := by
   rw [show off + (k + 1) = off + k + 1 by omega, List.take_succ_eq_append_getElem hlt, List.set_append_right _ _ (by simp; omega)]
   have e : off + k - min (off + k) cs.size = 0 := by simp at hlt; omega
   simp [e]
  rw [h1]
  simp [List.append_assoc, show off + (k + 1) + vs.length = off + k + (vs.length + 1) by omega]
theorem fill_rel {place : Nat → Option (Nat × Nat)} {ev : Opd → V} {cev : Operand → Value} (hev : ∀ (x : Operand) (y : Opd), opd gl x = some y → VRel M ρ (ev y) (cev x)) :
  ∀ {ps : List (Nat × Operand)} {qs : List (Nat × Nat × Opd)} {l r : List V} {xs : Array Value}, placed gl place ps = some qs →
   fill l (qs.map fun p => (p.1, p.2.1, ev p.2.2)) = some r → VRels M ρ l xs.toList → l.length = xs.size →
   ∃ ys : Array Value, Instr.fill place xs (ps.map fun p => (p.1, cev p.2)) = some ys ∧ VRels M ρ r ys.toList ∧ r.length = ys.size ∧ ys.size = xs.size
 | [], qs, l, r, xs, hp, he, hl, hn => by
  simp [placed] at hp
  subst hp
  simp [fill] at he
  subst he
  exact ⟨xs, rfl, hl, hn, rfl⟩
 |(i, x) :: ps, qs, l, r, xs, hp, he, hl, hn => by
  simp only [placed] at hp
  split at hp
  ·rename_i o sz y b h1 h2 h3
   cases hp
   simp only [List.map_cons, fill] at he
   split at he
   ·rename_i c hc
    cases q : (Nat.beq c.length sz && Nat.blt 0 sz)
    ·simp [q] at he
    ·simp only [q, cond_true] at he
     have hq : c.length = sz ∧ 0 < sz := by simpa [beq_dec, blt_dec] using q
     split at he
     ·rename_i l' hl'
      obtain ⟨c1, c2⟩ := cellsO_rel (hev x y h2) hc
      obtain ⟨m1, m2, m3, m4⟩ := over_rel hl' hl c1 (by simpa using c2)
      have hfit : o + (cev x).cells.size ≤ xs.size := by
       have h0 : (cev x).cells.toList ≠ [] := by
        intro h0
        have : c.length = 0 := by rw [c2, ← Array.length_toList, h0]; rfl
        omega
       have := m4 h0
       simp at this
       omega
      have hfold := foldl_set o (cev x).cells.toList 0 xs (by simpa using hfit)
      simp only [Nat.add_zero] at hfold
      have hsz : (((cev x).cells.toList.zipIdx 0).foldl (fun cs (x : Value × Nat) => cs.setIfInBounds (o + x.2) x.1) xs).size = xs.size := by
       rw [← Array.length_toList, hfold]; simp; omega
      obtain ⟨ys, k1, k2, k3, k4⟩ := fill_rel hev (ps := ps) (qs := b) (l := l') (r := r)
       (xs := ((cev x).cells.toList.zipIdx 0).foldl (fun cs (x : Value × Nat) => cs.setIfInBounds (o + x.2) x.1) xs) h3 he
       (by rw [hfold]; exact m1)
       (by rw [m2, hn]; exact hsz.symm)
      refine ⟨ys, ?_, k2, k3, ?_⟩
      ·simp only [List.map_cons, Instr.fill, h1]
       rw [if_neg (by simp; omega)]
       rw [← k1]
       congr 1
       rw [← Array.foldl_toList, Array.toList_zipIdx]
      ·rw [k4]; exact hsz
     ·cases he
   ·cases he
  ·cases hp
end
end Go.VE
end
section
namespace Go.VE
theorem kEq_iff (a b : IntKind) : kEq a b = true ↔ a = b := by cases a <;> cases b <;> simp [kEq]
theorem eqI_eq (a b : Int) : eqI a b = (a == b) := by
 rw [Bool.eq_iff_iff]
 cases a <;> cases b <;> simp [eqI, beq_dec] <;> omega
theorem ltI_eq (a b : Int) : ltI a b = decide (a < b) := by
 rw [Bool.eq_iff_iff]
 cases a <;> cases b <;> simp [ltI, blt_dec] <;> omega
theorem not_lt_dec (a b : Int) : (!decide (b < a)) = decide (a ≤ b) := by
 by_cases q : b < a
 ·have : ¬ a ≤ b := by omega
  simp [q, this]
 ·have : a ≤ b := by omega
  simp [q, this]
theorem md_eq (k : IntKind) : (md k : Int) = 2 ^ k.bits := by cases k <;> rfl
theorem md_nat (k : IntKind) : md k = 2 ^ k.bits := by cases k <;> rfl
theorem low_eq (k : IntKind) (n : Int) : (low k n : Int) = n % 2 ^ k.bits := by
 cases k <;> cases n <;> simp only [low, md, IntKind.bits, Int.ofNat_eq_natCast, Int.negSucc_eq] <;> omega
theorem wr_eq (k : IntKind) (n : Int) : wr k n = k.wrap n := by
 have h := low_eq k n
 have hm := md_eq k
 unfold wr IntKind.wrap
 rw [← h]
 cases k <;> simp only [hf, IntKind.bits, IntKind.signed, md, Bool.false_and, Bool.true_and, Bool.false_eq_true, if_false, blt_dec, cond_eq_ite, decide_eq_true_eq, ge_iff_le] at *
 all_goals first
  | rfl
  |(split <;> split <;> first | rfl | (simp only [Int.ofNat_eq_natCast, Int.negSucc_eq] at *; omega))
theorem low_bv (k : IntKind) (n : Int) : low k n = (BitVec.ofInt k.bits n).toNat := by
 have h := low_eq k n
 rw [BitVec.toNat_ofInt]
 have e : ((2 ^ k.bits : Nat) : Int) = 2 ^ k.bits := by cases k <;> rfl
 rw [e]
 omega
section
variable {P : Program} {gl : Nat → Option (List V)} {N B : Nat} {M : Mem} {ρ : Rho} {h : Heap} {w : World} {s : Slots} {a : Act}
theorem bitOp_run {op : BinOp} {k : IntKind} {x y r : Int} (e : bitOp op k x y = some r) : (Op.intBits op k x y).run P w = .ok (.int k r) w := by
 cases op <;> simp only [bitOp, Option.some.injEq] at e <;> first
  | cases e; done
  |(subst e
    simp only [Op.intBits, Sem.run_pure, wr_eq, low_bv, BitVec.toNat_and, BitVec.toNat_or, BitVec.toNat_xor, BitVec.toNat_not, md_nat]
    rfl)
theorem bits_run {op : BinOp} {k : IntKind} {x y : Int} {v : V} {t : TypeId} (hb : Go.binOp op t (.int k x) (.int k y) = Op.intBits op k x y) (e : (bitOp op k x y).map (.int k) = some v) :
  ∃ X, (Go.binOp op t (.int k x) (.int k y)).run P w = .ok X w ∧ VRel M ρ v X := by
 cases q : bitOp op k x y with
 | none => simp [q] at e
 | some r =>
  simp only [q, Option.map_some, Option.some.injEq] at e
  subst e
  exact ⟨.int k r, by rw [hb]; exact bitOp_run q, by simp [VRel]⟩
theorem binInt_run {op : BinOp} {k : IntKind} {x y : Int} {v : V} (e : binInt op k x y = some v) {t : TypeId} :
  ∃ X, (Go.binOp op t (.int k x) (.int k y)).run P w = .ok X w ∧ VRel M ρ v X := by
 cases op <;> simp only [binInt] at e
 case add => cases e; exact ⟨_, by simp [Go.binOp, Op.intArith]; rfl, by simp [VRel, wr_eq]⟩
 case sub => cases e; exact ⟨_, by simp [Go.binOp, Op.intArith]; rfl, by simp [VRel, wr_eq]⟩
 case mul => cases e; exact ⟨_, by simp [Go.binOp, Op.intArith]; rfl, by simp [VRel, wr_eq]⟩
 case quo =>
  cases q : eqI y 0
  ·simp [q] at e
   subst e
   have : ¬ y = 0 := by rw [eqI_eq] at q; simpa using q
   exact ⟨_, by simp [Go.binOp, Op.intDiv, this]; rfl, by simp [VRel, wr_eq]⟩
  ·simp [q] at e
 case rem =>
  cases q : eqI y 0
  ·simp [q] at e
   subst e
   have : ¬ y = 0 := by rw [eqI_eq] at q; simpa using q
   exact ⟨_, by simp [Go.binOp, Op.intDiv, this]; rfl, by simp [VRel]⟩
  ·simp [q] at e
 case eql => cases e; exact ⟨_, by simp [Go.binOp, Op.intCmp]; rfl, by simp [VRel, eqI_eq]⟩
 case neq => cases e; exact ⟨_, by simp [Go.binOp, Op.intCmp]; rfl, by simp [VRel, eqI_eq, bne]⟩
 case lss => cases e; exact ⟨_, by simp [Go.binOp, Op.intCmp]; rfl, by simp [VRel, ltI_eq]⟩
 case leq => cases e; exact ⟨_, by simp [Go.binOp, Op.intCmp]; rfl, by simp [VRel, ltI_eq, not_lt_dec]⟩
 case gtr => cases e; exact ⟨_, by simp [Go.binOp, Op.intCmp]; rfl, by simp [VRel, ltI_eq]⟩
 case geq => cases e; exact ⟨_, by simp [Go.binOp, Op.intCmp]; rfl, by simp [VRel, ltI_eq, not_lt_dec]⟩
 case shl => cases e
 case shr => cases e
 case and => exact bits_run (by simp [Go.binOp]) e
 case or => exact bits_run (by simp [Go.binOp]) e
 case xor => exact bits_run (by simp [Go.binOp]) e
 case andNot => exact bits_run (by simp [Go.binOp]) e
theorem shiftInt_run {op : BinOp} {k k' : IntKind} {x y : Int} {v : V} (e : shiftInt op k x y = some v) (hop : op = .shl ∨ op = .shr) {t : TypeId} :
  ∃ X, (Go.binOp op t (.int k x) (.int k' y)).run P w = .ok X w ∧ VRel M ρ v X := by
 cases y with
 | negSucc n => simp [shiftInt] at e
 | ofNat n =>
  have hn : ¬ ((Int.ofNat n) < 0) := by simp
  rcases hop with rfl | rfl
  ·simp only [shiftInt, Option.some.injEq] at e
   subst e
   refine ⟨.int k (k.wrap (x * 2 ^ min (Int.ofNat n).toNat k.bits)), by simp only [Go.binOp, Op.shift, hn, if_false, Sem.run_pure], ?_⟩
   simp only [VRel, wr_eq]
   congr 2
  ·simp only [shiftInt, Option.some.injEq] at e
   subst e
   refine ⟨.int k (x.fdiv (2 ^ min (Int.ofNat n).toNat k.bits)), by simp only [Go.binOp, Op.shift, hn, if_false, Sem.run_pure], ?_⟩
   simp only [VRel]
   congr 1
   have hp : (0 : Int) < 2 ^ Nat.min n k.bits := Int.pow_pos (by decide)
   have e2 : (2 : Int) ^ Nat.min n k.bits = ((2 ^ Nat.min n k.bits : Nat) : Int) := by simp
   rw [Int.fdiv_eq_ediv_of_nonneg _ (by exact Int.le_of_lt hp)]
   show x / 2 ^ Nat.min n k.bits = _
   cases x with
   | ofNat a => rw [e2]; simp [Int.ofNat_eq_natCast]
   | negSucc a =>
    rw [Int.negSucc_ediv _ hp, e2]
    simp only [Int.negSucc_eq]
    congr 1
end
end Go.VE
end
section
namespace Go.VE
section
variable {P : Program} {gl : Nat → Option (List V)} {N B : Nat} {M : Mem} {ρ : Rho} {h : Heap} {w : World} {s : Slots} {a : Act}
theorem eqBytes_eq : ∀ (x y : List UInt8), eqBytes x y = (x == y)
 | [], [] => rfl
 | [], _ :: _ => rfl
 | _ :: _, [] => rfl
 | a :: x, b :: y => by
  simp only [eqBytes, beq_dec, eqBytes_eq x y]
  by_cases q : a = b
  ·subst q; simp
  ·have : ¬ a.toNat = b.toNat := fun e => q (UInt8.toNat_inj.1 e)
   simp [this, q]
theorem strLess_eq : ∀ (x y : List UInt8), strLess x y = Op.bytesLess x y
 | _, [] => by simp [strLess, Op.bytesLess]
 | [], _ :: _ => rfl
 | a :: x, b :: y => by
  simp only [strLess, Op.bytesLess, blt_dec, beq_dec, strLess_eq x y]
  have h1 : decide (a.toNat < b.toNat) = decide (a < b) := by simp [UInt8.lt_iff_toNat_lt]
  have h2 : decide (a.toNat = b.toNat) = (a == b) := by
   rw [Bool.eq_iff_iff]; simp [UInt8.toNat_inj]
  rw [h1, h2]
  cases decide (a < b) <;> cases (a == b) <;> simp
theorem toList_mk (l : List UInt8) : (⟨l.toArray⟩ : ByteArray).toList = l := by rw [ByteArray.toList_eq]
theorem size_mk (l : List UInt8) : (⟨l.toArray⟩ : ByteArray).size = l.length := by simp [ByteArray.size]
theorem append_mk (l r : List UInt8) : (⟨l.toArray⟩ : ByteArray) ++ ⟨r.toArray⟩ = ⟨(l ++ r).toArray⟩ := by
 apply ByteArray.ext
 simp [ByteArray.data_append]
theorem binStr_run {op : BinOp} {x y : List UInt8} {v : V} (e : binStr op x y = some v) {t : TypeId} (hop : op ≠ .shl ∧ op ≠ .shr) :
  ∃ X, (Go.binOp op t (.string ⟨x.toArray⟩) (.string ⟨y.toArray⟩)).run P w = .ok X w ∧ VRel M ρ v X := by
 have hb : Go.binOp op t (.string ⟨x.toArray⟩) (.string ⟨y.toArray⟩) = Op.stringOp op ⟨x.toArray⟩ ⟨y.toArray⟩ := by cases op <;> rfl
 rw [hb]
 cases op <;> simp only [binStr] at e
 case add =>
  cases q : Nat.blt 140737488355328 (x.length + y.length)
  ·simp [q] at e
   subst e
   have : ¬ (((x.length + y.length : Nat) : Int) > IntKind.i64.max) := by
    rw [blt_dec] at q
    have : ¬ 140737488355328 < x.length + y.length := by simpa using q
    have hm : IntKind.i64.max = 9223372036854775807 := rfl
    omega
   exact ⟨_, by simp only [Op.stringOp, size_mk, this, if_false, append_mk]; rfl, by simp [VRel]⟩
  ·simp [q] at e
 case eql => cases e; exact ⟨_, by simp only [Op.stringOp, toList_mk]; rfl, by simp [VRel, eqBytes_eq]⟩
 case neq => cases e; exact ⟨_, by simp only [Op.stringOp, toList_mk]; rfl, by simp [VRel, eqBytes_eq]⟩
 case lss => cases e; exact ⟨_, by simp only [Op.stringOp, toList_mk]; rfl, by simp [VRel, strLess_eq]⟩
 case leq => cases e; exact ⟨_, by simp only [Op.stringOp, toList_mk]; rfl, by simp [VRel, strLess_eq, eqBytes_eq]⟩
 case gtr => cases e; exact ⟨_, by simp only [Op.stringOp, toList_mk]; rfl, by simp [VRel, strLess_eq, eqBytes_eq]⟩
 case geq => cases e; exact ⟨_, by simp only [Op.stringOp, toList_mk]; rfl, by simp [VRel, strLess_eq]⟩
 all_goals cases e
theorem eqGuard_int {op : BinOp} {t : TypeId} {x y : Operand} {A C : Value} (h1 : (A ≠ .nilIface ∨ C ≠ .nilIface)) (h2 : (∀ c, A ≠ .agg c) ∨ (∀ c, C ≠ .agg c)) : (eqGuard op t x y A C).run P w = .ok () w := by
 unfold eqGuard
 cases op <;> simp only [Sem.run_bind, Sem.run_pure, Result.andThen_ok] <;> first
  | rfl
  |(simp only [Bool.not_true, Bool.false_eq_true, if_false, Sem.run_ite]
    split
    ·rcases h1 with h1 | h1 <;> simp_all
    ·rcases h2 with h2 | h2 <;> simp_all
    ·rfl)
theorem sim_bin (hh : HRel P gl B M ρ h w) (hs : SRel M ρ N s a.tmps) {o : Oper} {op : BinOp} {t u : TypeId} {x y : Operand} (ho : o.op = .binOp op t x y u) {x' y' : Opd}
  (e1 : opd gl x = some x') (e2 : opd gl y = some y') {v : V} {h' : Heap} (he : op_bin op x' y' s h = some (v, h')) :
  Good P gl B M ρ h w v h' ((execOp a.eval o).run P w) := by
 have hx := opd_rel hh hs e1
 have hy := opd_rel hh hs e2
 unfold op_bin at he
 cases q : binOp op (x'.ev s) (y'.ev s) with
 | none => simp [q] at he
 | some r =>
  simp [q] at he
  obtain ⟨rfl, rfl⟩ := he
  unfold binOp at q
  split at q
  ·rename_i k c k' d ex ey
   rw [ex] at hx
   rw [ey] at hy
   simp only [VRel] at hx hy
   have hg := fun (op : BinOp) => eqGuard_int (P := P) (w := w) (op := op) (t := t) (x := x) (y := y) (A := .int k c) (C := .int k' d) (.inl (by simp)) (.inl (by simp))
   have hfin : (∃ X, (Go.binOp op t (.int k c) (.int k' d)).run P w = .ok X w ∧ VRel M ρ r X) → Good P gl B M ρ h w r h ((execOp a.eval o).run P w) := by
    rintro ⟨X, k1, k2⟩
    exact Good.same hh k2 (by simp [execOp, ho, hx, hy, hg, k1])
   apply hfin
   split at q
   ·exact shiftInt_run q (.inl rfl)
   ·exact shiftInt_run q (.inr rfl)
   ·cases qk : kEq k k'
    ·simp [qk] at q
    ·simp only [qk, cond_true] at q
     rw [kEq_iff] at qk
     subst qk
     exact binInt_run q
  ·rename_i c d ex ey
   rw [ex] at hx
   rw [ey] at hy
   simp only [VRel] at hx hy
   have hg := eqGuard_int (P := P) (w := w) (op := op) (t := t) (x := x) (y := y) (A := .string ⟨c.toArray⟩) (C := .string ⟨d.toArray⟩) (.inl (by simp)) (.inl (by simp))
   obtain ⟨X, k1, k2⟩ := binStr_run (P := P) (w := w) (M := M) (ρ := ρ) q (t := t) (by constructor <;> (rintro rfl; simp [binStr] at q))
   exact Good.same hh k2 (by simp [execOp, ho, hx, hy, hg, k1])
  ·cases q
theorem sim_un (hh : HRel P gl B M ρ h w) (hs : SRel M ρ N s a.tmps) {o : Oper} {op : UnOp} {t : TypeId} {x : Operand} (ho : o.op = .unOp op t x) {x' : Opd}
  (e1 : opd gl x = some x') {v : V} {h' : Heap} (he : op_un op x' s h = some (v, h')) :
  Good P gl B M ρ h w v h' ((execOp a.eval o).run P w) := by
 have hx := opd_rel hh hs e1
 unfold op_un at he
 cases q : unOp op (x'.ev s) with
 | none => simp [q] at he
 | some r =>
  simp [q] at he
  obtain ⟨rfl, rfl⟩ := he
  unfold unOp at q
  split at q
  ·rename_i k n ex
   rw [ex] at hx
   cases q
   simp only [VRel] at hx
   exact Good.same hh (x := .int k (k.wrap (0 - n))) (by simp [VRel, wr_eq]) (by simp [execOp, ho, hx, Op.unary, Op.intArith])
  ·rename_i k n ex
   rw [ex] at hx
   simp only [VRel] at hx
   cases q2 : bitOp .xor k (if k.signed then -1 else k.max) n with
   | none => simp [q2] at q
   | some m =>
    simp only [q2, Option.map_some, Option.some.injEq] at q
    subst q
    have := bitOp_run (P := P) (w := w) q2
    exact Good.same hh (x := .int k m) (by simp [VRel]) (by simp only [execOp, ho, hx, Op.unary, Sem.run_bind, this]; rfl)
  ·rename_i b ex
   rw [ex] at hx
   cases q
   simp only [VRel] at hx
   exact Good.same hh (x := .bool !b) (by simp [VRel]) (by simp [execOp, ho, hx, Op.unary])
  ·cases q
theorem sim_cnv (hh : HRel P gl B M ρ h w) (hs : SRel M ρ N s a.tmps) {o : Oper} {t u : TypeId} {x : Operand} (ho : o.op = .convert t u x) {k0 k : IntKind} (ht : P.underlying t = some (.int k0)) (hu : P.underlying u = some (.int k)) {x' : Opd}
  (e1 : opd gl x = some x') {v : V} {h' : Heap} (he : op_cnv k x' s h = some (v, h')) :
  Good P gl B M ρ h w v h' ((execOp a.eval o).run P w) := by
 have hx := opd_rel hh hs e1
 unfold op_cnv at he
 split at he
 ·rename_i k1 n ex
  cases he
  rw [ex] at hx
  simp only [VRel] at hx
  exact Good.same hh (x := .int k (k.wrap n)) (by simp [VRel, wr_eq]) (by simp [execOp, ho, hx, convert, run_underlying ht, run_underlying hu, Conv.intToInt])
 ·cases he
theorem sim_eqb (hh : HRel P gl B M ρ h w) (hs : SRel M ρ N s a.tmps) {o : Oper} {op : BinOp} {t u : TypeId} {x y : Operand} (ho : o.op = .binOp op t x y u) {neg : Bool} (hop : op = if neg then .neq else .eql)
  (ht : P.underlying t = some .bool) {x' y' : Opd} (e1 : opd gl x = some x') (e2 : opd gl y = some y') {v : V} {h' : Heap} (he : op_eqb neg x' y' s h = some (v, h')) :
  Good P gl B M ρ h w v h' ((execOp a.eval o).run P w) := by
 have hx := opd_rel hh hs e1
 have hy := opd_rel hh hs e2
 unfold op_eqb at he
 split at he
 ·rename_i c d ex ey
  cases he
  rw [ex] at hx
  rw [ey] at hy
  simp only [VRel] at hx hy
  have hg := eqGuard_int (P := P) (w := w) (op := op) (t := t) (x := x) (y := y) (A := .bool c) (C := .bool d) (.inl (by simp)) (.inl (by simp))
  have hq := run_equalIn_bool' (P := P) w 9999 t c d ht
  refine Good.same hh (x := .bool (bif neg then !(c == d) else c == d)) (by simp [VRel]) ?_
  cases neg
  ·simp only [Bool.false_eq_true, if_false] at hop
   subst hop
   simp [execOp, ho, hx, hy, hg, Go.binOp, Op.equal, Op.maxDepth, hq]
  ·simp only [if_true] at hop
   subst hop
   simp [execOp, ho, hx, hy, hg, Go.binOp, Op.equal, Op.maxDepth, hq]
 ·cases he
end
end Go.VE
end
section
namespace Go.VE
def nilVal : Nat → Value
 | 0 => .pointer none
 | 1 => .slice none 0 0
 | 2 => .map none
 | 3 => .nilFunc
 | _ => .nilIface
def nonNil : Nat → Value → Prop
 | 0, x => ∃ a, x = .pointer (some a)
 | 1, x => ∃ a n c, x = .slice (some a) n c
 | 2, x => ∃ r, x = .map (some r)
 | 3, x => ∃ f p q, x = .func f p q
 | _, x => ∃ t v, x = .iface t v
def kindD : TypeDesc → Option Nat
 | .pointer _ => some 0
 | .slice _ => some 1
 | .map _ _ => some 2
 | .func _ _ _ => some 3
 | .interface _ => some 4
 | _ => none
section
variable {P : Program} {gl : Nat → Option (List V)} {N B : Nat} {M : Mem} {ρ : Rho} {h : Heap} {w : World} {s : Slots} {a : Act}
theorem isNil_true {k : Nat} {v : V} {x : Value} (e : isNil k v = some true) (hv : VRel M ρ v x) : x = nilVal k := by
 unfold isNil at e
 split at e <;> first
  |(simp only [VRel] at hv; exact hv)
  | simp at e
theorem isNil_false {k : Nat} {v : V} {x : Value} (e : isNil k v = some false) (hv : VRel M ρ v x) : nonNil k x := by
 unfold isNil at e
 split at e <;> first
  |(simp at e; done)
  |(simp only [VRel] at hv
    first
    |(obtain ⟨_, _, hv⟩ := hv; exact ⟨_, hv⟩)
    |(obtain ⟨_, _, hv, _⟩ := hv; exact ⟨_, hv⟩)
    |(obtain ⟨_, _, _, _, hv, _⟩ := hv; exact ⟨_, _, _, hv⟩)
    |(obtain ⟨_, _, hv, _⟩ := hv; exact ⟨_, _, _, hv⟩)
    |(obtain ⟨_, hv, _⟩ := hv; exact ⟨_, _, _, hv⟩)
    |(obtain ⟨_, _, hv⟩ := hv; exact ⟨_, _, _, hv⟩)
    |(obtain ⟨_, hv, _⟩ := hv; exact ⟨_, _, hv⟩))
theorem equalIn_nil_nil (n : Nat) {t : TypeId} {d : TypeDesc} {k : Nat} (ht : P.underlying t = some d) (hk : kindD d = some k) :
  (Op.equalIn (n + 1) t (nilVal k) (nilVal k)).run P w = .ok true w := by
 cases d <;> simp only [kindD, Option.some.injEq] at hk <;> first
  |(cases hk; done)
  |(subst hk; simp [Op.equalIn, run_underlying ht, nilVal])
theorem equal_nil_nil {t : TypeId} {d : TypeDesc} {k : Nat} (ht : P.underlying t = some d) (hk : kindD d = some k) :
  (Op.equal t (nilVal k) (nilVal k)).run P w = .ok true w := equalIn_nil_nil 9999 ht hk
theorem equalIn_nil_non (n : Nat) {t : TypeId} {d : TypeDesc} {k : Nat} (ht : P.underlying t = some d) (hk : kindD d = some k) {x : Value} (hx : nonNil k x) :
  (Op.equalIn (n + 1) t (nilVal k) x).run P w = .ok false w ∧ (Op.equalIn (n + 1) t x (nilVal k)).run P w = .ok false w := by
 cases d <;> simp only [kindD, Option.some.injEq] at hk <;> first
  |(cases hk; done)
  |(subst hk
    first
    |(obtain ⟨_, rfl⟩ := hx; constructor <;> simp [Op.equalIn, run_underlying ht, nilVal]; done)
    |(obtain ⟨_, _, _, rfl⟩ := hx; constructor <;> simp [Op.equalIn, run_underlying ht, nilVal]; done)
    |(obtain ⟨_, _, rfl⟩ := hx; constructor <;> simp [Op.equalIn, run_underlying ht, nilVal]; done))
theorem equal_nil_non {t : TypeId} {d : TypeDesc} {k : Nat} (ht : P.underlying t = some d) (hk : kindD d = some k) {x : Value} (hx : nonNil k x) :
  (Op.equal t (nilVal k) x).run P w = .ok false w ∧ (Op.equal t x (nilVal k)).run P w = .ok false w := equalIn_nil_non 9999 ht hk hx
theorem eqNil_run {t : TypeId} {d : TypeDesc} {k : Nat} (ht : P.underlying t = some d) (hk : kindD d = some k) {u v : V} {x y : Value} (hu : VRel M ρ u x) (hv : VRel M ρ v y) {r : Bool} (e : eqNil k u v = some r) :
  (Op.equal t x y).run P w = .ok r w ∧ ((∀ c, x ≠ .agg c) ∧ (x = .nilIface ∧ y = .nilIface → k = 4)) := by
 have notagg : ∀ {x : Value}, (x = nilVal k ∨ nonNil k x) → ∀ c, x ≠ .agg c := by
  intro x hx c hc
  subst hc
  rcases hx with hx | hx
  ·unfold nilVal at hx; split at hx <;> cases hx
  ·unfold nonNil at hx
   split at hx
   ·obtain ⟨_, q⟩ := hx; cases q
   ·obtain ⟨_, _, _, q⟩ := hx; cases q
   ·obtain ⟨_, q⟩ := hx; cases q
   ·obtain ⟨_, _, _, q⟩ := hx; cases q
   ·obtain ⟨_, _, q⟩ := hx; cases q
 have nili : ∀ {x : Value}, (x = nilVal k ∨ nonNil k x) → x = .nilIface → k = 4 := by
  intro x hx hc
  subst hc
  have hk' : k ≤ 4 := by
   cases d <;> simp only [kindD, Option.some.injEq] at hk <;> first | (cases hk; done) | omega
  have hk5 : k = 0 ∨ k = 1 ∨ k = 2 ∨ k = 3 ∨ k = 4 := by omega
  rcases hk5 with rfl | rfl | rfl | rfl | rfl <;> first | rfl | (exfalso; simp [nilVal, nonNil] at hx)
 unfold eqNil at e
 split at e
 ·rename_i n h1 h2
  cases e
  have hx := isNil_true h1 hu
  subst hx
  cases r with
  | true =>
   have hy := isNil_true h2 hv
   subst hy
   exact ⟨equal_nil_nil ht hk, notagg (.inl rfl), fun q => nili (.inl rfl) q.1⟩
  | false => exact ⟨(equal_nil_non ht hk (isNil_false h2 hv)).1, notagg (.inl rfl), fun q => nili (.inl rfl) q.1⟩
 ·rename_i n h1 h2
  cases e
  have hy := isNil_true h2 hv
  subst hy
  cases r with
  | true =>
   have hx := isNil_true h1 hu
   subst hx
   exact ⟨equal_nil_nil ht hk, notagg (.inl rfl), fun q => nili (.inl rfl) q.1⟩
  | false =>
   have hx := isNil_false h1 hu
   exact ⟨(equal_nil_non ht hk hx).2, notagg (.inr hx), fun q => nili (.inr hx) q.1⟩
 ·cases e
theorem eqGuard_nil {op : BinOp} {t : TypeId} {x y : Operand} {A C : Value} (h1 : A = .nilIface ∧ C = .nilIface → (isC x || isC y) = true) (h2 : ∀ c, A ≠ .agg c) : (eqGuard op t x y A C).run P w = .ok () w := by
 unfold eqGuard
 cases op <;> simp only [Sem.run_bind, Sem.run_pure, Result.andThen_ok] <;> first
  | rfl
  |(simp only [Bool.not_true, Bool.false_eq_true, if_false, Sem.run_ite]
    split
    ·have := h1 ⟨rfl, rfl⟩
     cases x <;> cases y <;> simp_all [isC]
    ·simp_all
    ·rfl)
theorem binOp_eq_run {t : TypeId} {x y : Value} {r neg : Bool} (hr : (Op.equal t x y).run P w = .ok r w) (hx : (∀ k n, x ≠ .int k n) ∧ (∀ b, x ≠ .string b) ∧ (∀ k n, x ≠ .float k n) ∧ (∀ k n m, x ≠ .complex k n m)) :
  (Go.binOp (if neg then .neq else .eql) t x y).run P w = .ok (.bool (bif neg then !r else r)) w := by
 obtain ⟨h1, h2, h3, h4⟩ := hx
 cases neg
 ·simp only [Bool.false_eq_true, if_false, cond_false]
  unfold Go.binOp
  split <;> simp_all
 ·simp only [if_true, cond_true]
  unfold Go.binOp
  split <;> simp_all
theorem nil_not {k : Nat} {x : Value} (hx : x = nilVal k ∨ nonNil k x) : (∀ k n, x ≠ .int k n) ∧ (∀ b, x ≠ .string b) ∧ (∀ k n, x ≠ .float k n) ∧ (∀ k n m, x ≠ .complex k n m) := by
 rcases hx with rfl | hx
 ·unfold nilVal; split <;> simp
 ·unfold nonNil at hx
  split at hx
  ·obtain ⟨_, rfl⟩ := hx; simp
  ·obtain ⟨_, _, _, rfl⟩ := hx; simp
  ·obtain ⟨_, rfl⟩ := hx; simp
  ·obtain ⟨_, _, _, rfl⟩ := hx; simp
  ·obtain ⟨_, _, rfl⟩ := hx; simp
theorem sim_eqn (hh : HRel P gl B M ρ h w) (hs : SRel M ρ N s a.tmps) {o : Oper} {t u : TypeId} {x y : Operand} {neg : Bool} (ho : o.op = .binOp (if neg then .neq else .eql) t x y u)
  {d : TypeDesc} {k : Nat} (ht : P.underlying t = some d) (hk : kindD d = some k) (hc : k = 4 → (isC x || isC y) = true) {x' y' : Opd} (e1 : opd gl x = some x') (e2 : opd gl y = some y')
  {v : V} {h' : Heap} (he : op_eqn neg k x' y' s h = some (v, h')) :
  Good P gl B M ρ h w v h' ((execOp a.eval o).run P w) := by
 have hx := opd_rel hh hs e1
 have hy := opd_rel hh hs e2
 unfold op_eqn at he
 split at he
 ·rename_i r hr
  cases he
  obtain ⟨k1, k2, k3⟩ := eqNil_run (w := w) ht hk hx hy hr
  have hform : a.eval x = nilVal k ∨ nonNil k (a.eval x) := by
   cases q : isNil k (x'.ev s) with
   | none => simp [eqNil, q] at hr
   | some n =>
    cases n
    ·exact .inr (isNil_false q hx)
    ·exact .inl (isNil_true q hx)
  have hg := eqGuard_nil (P := P) (w := w) (op := if neg then .neq else .eql) (t := t) (x := x) (y := y) (A := a.eval x) (C := a.eval y) (fun q => hc (k3 q)) k2
  have hb := binOp_eq_run (neg := neg) k1 (nil_not hform)
  exact Good.same hh (x := .bool (bif neg then !r else r)) (by simp [VRel]) (by simp [execOp, ho, hg, hb])
 ·cases he
end
end Go.VE
end
section
namespace Go.VE
section
variable {P : Program} {gl : Nat → Option (List V)} {N B : Nat} {M : Mem} {ρ : Rho} {h : Heap} {w : World} {s : Slots} {a : Act}
def aggT (P : Program) (t : TypeId) : Bool :=
 match P.underlying t with
 | some d => aggD d
 | none => false
def valOf (P : Program) (t : TypeId) (xs : List Value) : Value := if aggT P t then .agg xs.toArray else xs.headD undef
theorem part_run {t : TypeId} {d : TypeDesc} (ht : P.underlying t = some d) {n : Nat} (hn : szOf P t = some n) {cs : Array Value} {off : Nat} (hfit : off + n ≤ cs.size) (h1 : aggT P t = false → n = 1) :
  (Go.part t cs off).run P w = .ok (valOf P t ((cs.toList.drop off).take n)) w := by
 obtain ⟨i, hi, rfl⟩ := szOf_spec hn
 have ha : aggT P t = aggD d := by simp [aggT, ht]
 simp only [Go.part, Sem.run_bind, isAgg_run ht, Result.andThen_ok, valOf, ha]
 cases q : aggD d with
 | true =>
  simp only [if_true, Sem.run_bind, sizeOf, typeInfo, run_program, Result.andThen_ok, hi, Sem.run_pure]
  congr 2
  apply Array.ext'
  simp [Array.toList_extract]
 | false =>
  have h1' := h1 (by rw [ha]; exact q)
  have hlt : off < cs.size := by omega
  simp only [Bool.false_eq_true, if_false, h1']
  rw [Array.getElem?_eq_getElem hlt]
  simp only [Sem.run_pure]
  congr 1
  rw [List.take_one, List.head?_drop]
  simp [hlt]
theorem eqCells_append : ∀ {k1 k2 : List Nat} {u1 u2 v1 v2 : List V} {b : Bool}, u1.length = k1.length → v1.length = k1.length → eqCells (k1 ++ k2) (u1 ++ u2) (v1 ++ v2) = some b →
  ∃ b1, eqCells k1 u1 v1 = some b1 ∧ (b1 = false → b = false) ∧ (b1 = true → eqCells k2 u2 v2 = some b)
 | [], k2, u1, u2, v1, v2, b, h1, h2, h => by
  cases u1 <;> cases v1 <;> simp_all [eqCells]
 | k :: k1, k2, [], u2, v1, v2, b, h1, h2, h => by simp at h1
 | k :: k1, k2, u :: u1, u2, [], v2, b, h1, h2, h => by simp at h2
 | k :: k1, k2, u :: u1, u2, v :: v1, v2, b, h1, h2, h => by
  cases q : eqK k u v with
  | none => simp [eqCells, q] at h
  | some r =>
   cases r with
   | true =>
    simp only [List.cons_append, eqCells, q] at h ⊢
    exact eqCells_append (by simpa using h1) (by simpa using h2) h
   | false =>
    simp only [List.cons_append, eqCells, q, Option.some.injEq] at h ⊢
    exact ⟨false, rfl, fun _ => h.symm, fun q => by cases q⟩
def FlatEq (P : Program) (M : Mem) (ρ : Rho) (m : Nat) (t : TypeId) (ks : List Nat) : Prop :=
 ∀ (xs ys : List Value) (us vs : List V) (b : Bool) (w : World), VRels M ρ us xs → VRels M ρ vs ys → us.length = ks.length → vs.length = ks.length → xs.length = ks.length → ys.length = ks.length →
  eqCells ks us vs = some b → (Op.equalIn m t (valOf P t xs) (valOf P t ys)).run P w = .ok b w
theorem split_at {us : List V} {n m : Nat} (h : us.length = n + m) : us = us.take n ++ us.drop n ∧ (us.take n).length = n ∧ (us.drop n).length = m :=
 ⟨(List.take_append_drop n us).symm, by simp; omega, by simp; omega⟩
theorem VRels.split {us : List V} {xs : List Value} (n : Nat) (h : VRels M ρ us xs) : VRels M ρ (us.take n) (xs.take n) ∧ VRels M ρ (us.drop n) (xs.drop n) := by
 refine ⟨?_, VRels.drop n h⟩
 induction n generalizing us xs with
 | zero => simp [VRels.nil]
 | succ n ih =>
  cases us with
  | nil => simp [VRels.nil]
  | cons u us =>
   obtain ⟨x, ys, rfl, h1, h2⟩ := VRels.cons_iff.1 h
   simp only [List.take_succ_cons]
   exact VRels.cons_iff.2 ⟨x, _, rfl, h1, ih h2⟩
theorem plain_scalar {d : Nat} {t : TypeId} {ks : List Nat} (hp : plainK P d t = some ks) : aggT P t = false → ks.length = 1 := by
 cases d with
 | zero => simp [plainK] at hp
 | succ d =>
  intro ha
  unfold aggT at ha
  simp only [plainK] at hp
  split at hp <;> first
   |(cases hp; rfl)
   |(rename_i q; rw [q] at ha; simp [aggD] at ha; done)
   | cases hp
theorem plain_under {d : Nat} {t : TypeId} {ks : List Nat} (hp : plainK P d t = some ks) : ∃ e, P.underlying t = some e := by
 cases d with
 | zero => simp [plainK] at hp
 | succ d =>
  simp only [plainK] at hp
  split at hp <;> first
   |(rename_i q; exact ⟨_, q⟩)
   |(rename_i q _; exact ⟨_, q⟩)
   | cases hp
theorem fields_flat {d m : Nat} (ih : ∀ t ks, plainK P d t = some ks → FlatEq P M ρ m t ks) {X Y : Array Value} : ∀ (fs : List Field) (off : Nat) (ks : List Nat), plainFs P (plainK P d) off fs = some ks →
  ∀ (us vs : List V) (b : Bool) (w : World), VRels M ρ us (X.toList.drop off) → VRels M ρ vs (Y.toList.drop off) → us.length = ks.length → vs.length = ks.length →
   off + ks.length ≤ X.size → off + ks.length ≤ Y.size → eqCells ks us vs = some b → (Op.eqFields m X Y fs).run P w = .ok b w
 | [], off, ks, hp, us, vs, b, w, hu, hv, l1, l2, s1, s2, he => by
  simp [plainFs] at hp
  subst hp
  cases us <;> cases vs <;> simp_all [eqCells, Op.eqFields]
 | f :: fs, off, ks, hp, us, vs, b, w, hu, hv, l1, l2, s1, s2, he => by
  simp only [plainFs] at hp
  split at hp
  ·rename_i hf
   split at hp
   ·rename_i l n hl hn
    split at hp
    ·rename_i hln
     cases q : plainFs P (plainK P d) (off + n) fs with
     | none => simp [q] at hp
     | some r =>
      simp only [q, Option.map_some, Option.some.injEq] at hp
      subst hp
      simp only [List.length_append] at l1 l2 s1 s2
      obtain ⟨eu, au, bu⟩ := split_at l1
      obtain ⟨ev, av, bv⟩ := split_at l2
      rw [eu, ev] at he
      obtain ⟨b1, c1, c2, c3⟩ := eqCells_append au av he
      obtain ⟨hu1, hu2⟩ := VRels.split l.length hu
      obtain ⟨hv1, hv2⟩ := VRels.split l.length hv
      obtain ⟨e', hun⟩ := plain_under hl
      have hsc := plain_scalar hl
      have px := part_run (w := w) hun hn (cs := X) (off := off) (by omega) (fun q => by have := hsc q; omega)
      have py := part_run (w := w) hun hn (cs := Y) (off := off) (by omega) (fun q => by have := hsc q; omega)
      have hq := ih f.type l hl ((X.toList.drop off).take n) ((Y.toList.drop off).take n) _ _ b1 w (by rw [← hln]; exact hu1) (by rw [← hln]; exact hv1) au av (by simp; omega) (by simp; omega) c1
      simp only [Op.eqFields, hf.1, ne_eq, not_false_eq_true, if_true, Sem.run_bind, hf.2, px, py, Result.andThen_ok, hq]
      cases b1 with
      | false => simp [c2 rfl]
      | true =>
       simp only [Bool.not_true, Bool.false_eq_true, if_false]
       refine fields_flat ih fs (off + n) r q _ _ b w ?_ ?_ bu bv (by omega) (by omega) (c3 rfl)
       ·rw [← hln, ← List.drop_drop]; exact hu2
       ·rw [← hln, ← List.drop_drop]; exact hv2
    ·cases hp
   ·cases hp
  ·cases hp
theorem array_loop {m : Nat} {e : TypeId} {l : List Nat} (ihe : FlatEq P M ρ m e l) {d' : TypeDesc} (hun : P.underlying e = some d') (hn : szOf P e = some l.length) (hsc : aggT P e = false → l.length = 1) {X Y : Array Value} :
  ∀ (k i : Nat) (us vs : List V) (b : Bool) (w : World), VRels M ρ us (X.toList.drop (i * l.length)) → VRels M ρ vs (Y.toList.drop (i * l.length)) → us.length = k * l.length → vs.length = k * l.length →
   (i + k) * l.length ≤ X.size → (i + k) * l.length ≤ Y.size → eqCells ((List.replicate k l).flatten) us vs = some b →
   (forIn (List.range' i k 1) ((none, ()) : Option Bool × Unit) (fun j (_ : Option Bool × Unit) => (do
    let x ← Go.part e X (j * l.length)
    let y ← Go.part e Y (j * l.length)
    let r ← Op.equalIn m e x y
    if (!r) = true then pure (ForInStep.done (some false, ())) else pure (ForInStep.yield (none, ())) : Sem (ForInStep (Option Bool × Unit))))).run P w
    = .ok (if b then (none, ()) else (some false, ())) w
 | 0, i, us, vs, b, w, hu, hv, l1, l2, s1, s2, he => by
  have : us = [] := List.eq_nil_of_length_eq_zero (by simpa using l1)
  subst this
  have : vs = [] := List.eq_nil_of_length_eq_zero (by simpa using l2)
  subst this
  simp [eqCells] at he
  subst he
  simp
 | k + 1, i, us, vs, b, w, hu, hv, l1, l2, s1, s2, he => by
  have l1' : us.length = l.length + k * l.length := by rw [l1, Nat.add_mul]; omega
  have l2' : vs.length = l.length + k * l.length := by rw [l2, Nat.add_mul]; omega
  have s1' : i * l.length + l.length ≤ X.size := by
   have : (i + (k + 1)) * l.length = i * l.length + l.length + k * l.length := by rw [Nat.add_mul, Nat.add_mul]; omega
   omega
  have s2' : i * l.length + l.length ≤ Y.size := by
   have : (i + (k + 1)) * l.length = i * l.length + l.length + k * l.length := by rw [Nat.add_mul, Nat.add_mul]; omega
   omega
  obtain ⟨eu, au, bu⟩ := split_at l1'
  obtain ⟨ev, av, bv⟩ := split_at l2'
  rw [eu, ev, List.replicate_succ, List.flatten_cons] at he
  obtain ⟨b1, c1, c2, c3⟩ := eqCells_append au av he
  obtain ⟨hu1, hu2⟩ := VRels.split l.length hu
  obtain ⟨hv1, hv2⟩ := VRels.split l.length hv
  have px := part_run (w := w) hun hn (cs := X) (off := i * l.length) s1' hsc
  have py := part_run (w := w) hun hn (cs := Y) (off := i * l.length) s2' hsc
  have hq := ihe _ _ _ _ b1 w hu1 hv1 au av (by simp; omega) (by simp; omega) c1
  simp only [List.range'_succ, List.forIn_cons, Sem.run_bind, px, py, Result.andThen_ok, hq]
  cases b1 with
  | false => simp [c2 rfl]
  | true =>
   simp only [Bool.not_true, Bool.false_eq_true, if_false, Sem.run_pure, Result.andThen_ok]
   refine array_loop ihe hun hn hsc k (i + 1) _ _ b w ?_ ?_ bu bv ?_ ?_ (c3 rfl)
   ·rw [Nat.add_mul, Nat.one_mul, ← List.drop_drop]; exact hu2
   ·rw [Nat.add_mul, Nat.one_mul, ← List.drop_drop]; exact hv2
   ·rw [show i + 1 + k = i + (k + 1) by omega]; exact s1
   ·rw [show i + 1 + k = i + (k + 1) by omega]; exact s2
end
end Go.VE
end
section
namespace Go.VE
section
variable {P : Program} {gl : Nat → Option (List V)} {N B : Nat} {M : Mem} {ρ : Rho} {h : Heap} {w : World} {s : Slots} {a : Act}
theorem one_of {us : List V} {xs : List Value} (h : VRels M ρ us xs) (h1 : us.length = 1) (h2 : xs.length = 1) : ∃ u x, us = [u] ∧ xs = [x] ∧ VRel M ρ u x := by
 cases us with
 | nil => simp at h1
 | cons u us =>
  cases us with
  | cons => simp at h1
  | nil =>
   obtain ⟨x, ys, rfl, k1, _⟩ := VRels.cons_iff.1 h
   cases ys with
   | nil => exact ⟨u, x, rfl, rfl, k1⟩
   | cons => simp at h2
theorem flat_eq : ∀ (d : Nat) (t : TypeId) (ks : List Nat), plainK P d t = some ks → ∀ n, FlatEq P M ρ (n + d) t ks
 | 0, t, ks, hp, n => by simp [plainK] at hp
 | d + 1, t, ks, hp, n => by
  have ih := flat_eq d
  intro xs ys us vs b w hu hv l1 l2 l3 l4 he
  simp only [plainK] at hp
  split at hp
  ·rename_i hun
   cases hp
   obtain ⟨u, x, rfl, rfl, ru⟩ := one_of hu l1 l3
   obtain ⟨v, y, rfl, rfl, rv⟩ := one_of hv l2 l4
   have ha : aggT P t = false := by simp [aggT, hun, aggD]
   cases u <;> cases v <;> simp only [eqCells, eqK] at he <;> first
    |(cases he; done)
    |(rename_i c e
      simp only [VRel] at ru rv
      subst ru rv
      simp only [valOf, ha, Bool.false_eq_true, if_false, List.headD]
      rw [show n + (d + 1) = (n + d) + 1 by omega, run_equalIn_bool' w _ t c e hun]
      cases q : (c == e) <;> simp_all)
  ·rename_i k hun
   cases hp
   obtain ⟨u, x, rfl, rfl, ru⟩ := one_of hu l1 l3
   obtain ⟨v, y, rfl, rfl, rv⟩ := one_of hv l2 l4
   have ha : aggT P t = false := by simp [aggT, hun, aggD]
   cases u <;> cases v <;> simp only [eqCells, eqK] at he <;> first
    |(cases he; done)
    |(rename_i k1 c k2 e
      simp only [VRel] at ru rv
      subst ru rv
      cases qk : kEq k1 k2
      ·simp [qk] at he
      ·rw [kEq_iff] at qk
       subst qk
       simp only [(kEq_iff k1 k1).2 rfl, cond_true, eqI_eq] at he
       simp only [valOf, ha, Bool.false_eq_true, if_false, List.headD]
       rw [show n + (d + 1) = (n + d) + 1 by omega, run_equalIn_int w _ t k1 k c e hun]
       cases q : (c == e) <;> simp_all)
  ·rename_i hun
   cases hp
   obtain ⟨u, x, rfl, rfl, ru⟩ := one_of hu l1 l3
   obtain ⟨v, y, rfl, rfl, rv⟩ := one_of hv l2 l4
   have ha : aggT P t = false := by simp [aggT, hun, aggD]
   cases u <;> cases v <;> simp only [eqCells, eqK] at he <;> first
    |(cases he; done)
    |(rename_i c e
      simp only [VRel] at ru rv
      subst ru rv
      simp only [valOf, ha, Bool.false_eq_true, if_false, List.headD]
      rw [show n + (d + 1) = (n + d) + 1 by omega, run_equalIn_string w _ t _ _ hun, toList_mk, toList_mk]
      rw [eqBytes_eq] at he
      cases q : (c == e) <;> simp_all)
  ·rename_i fs hun
   split at hp
   ·cases hp
   ·rename_i hst
    have ha : aggT P t = true := by simp [aggT, hun, aggD]
    have hf : P.fieldsOf t = fs := by simp [Program.fieldsOf, hun]
    simp only [valOf, ha, if_true]
    rw [show n + (d + 1) = (n + d) + 1 by omega, run_equalIn_struct w _ t _ _ (by rw [hf]; exact hun) (by simpa using hst), hf]
    exact fields_flat (fun t ks hk => ih t ks hk n) _ 0 ks hp us vs b w (by simpa using hu) (by simpa using hv) l1 l2 (by simp; omega) (by simp; omega) he
  ·rename_i len e hun
   split at hp
   ·rename_i l m hl hm
    split at hp
    ·rename_i hlm
     cases hp
     have ha : aggT P t = true := by simp [aggT, hun, aggD]
     obtain ⟨d', hun'⟩ := plain_under hl
     have hsc := plain_scalar hl
     have hm' : szOf P e = some l.length := by rw [hlm]; exact hm
     obtain ⟨i, hi, hi'⟩ := szOf_spec hm'
     have loop := array_loop (P := P) (m := n + d) (ih e l hl n) hun' hm' hsc (X := xs.toArray) (Y := ys.toArray) len 0 us vs b w (by simpa using hu) (by simpa using hv) (by simpa using l1) (by simpa using l2)
      (by simp at l3 ⊢; omega) (by simp at l4 ⊢; omega) he
     simp only [valOf, ha, if_true]
     rw [show n + (d + 1) = (n + d) + 1 by omega]
     simp only [Op.equalIn, Sem.run_bind, run_underlying hun, Result.andThen_ok, sizeOf, typeInfo, run_program, hi, Sem.run_pure, hi']
     rw [Std.Legacy.Range.forIn_eq_forIn_range']
     simp only [Std.Legacy.Range.size, Nat.sub_zero, Nat.add_sub_cancel, Nat.div_one]
     rw [loop]
     cases b <;> simp
    ·cases hp
   ·cases hp
  ·cases hp
theorem sim_eqa (hh : HRel P gl B M ρ h w) (hs : SRel M ρ N s a.tmps) {o : Oper} {t u : TypeId} {x y : Operand} {neg : Bool} (ho : o.op = .binOp (if neg then .neq else .eql) t x y u)
  {d : TypeDesc} (ht : P.underlying t = some d) (hd : aggD d = true) (hg : P.eqGuardType P.depth t = false) {ks : List Nat} (hk : plainK P 50 t = some ks) {x' y' : Opd} (e1 : opd gl x = some x') (e2 : opd gl y = some y')
  {v : V} {h' : Heap} (he : op_eqa neg ks x' y' s h = some (v, h')) :
  Good P gl B M ρ h w v h' ((execOp a.eval o).run P w) := by
 have hx := opd_rel hh hs e1
 have hy := opd_rel hh hs e2
 unfold op_eqa at he
 split at he
 ·rename_i c e ex ey
  cases q : (Nat.beq c.length ks.length && Nat.beq e.length ks.length)
  ·simp [q] at he
  ·simp only [q, cond_true] at he
   have hq : c.length = ks.length ∧ e.length = ks.length := by simpa [beq_dec] using q
   split at he
   ·rename_i r hr
    cases he
    rw [ex] at hx
    rw [ey] at hy
    obtain ⟨xs, hxs, l1, r1⟩ := VRel.agg_iff.1 hx
    obtain ⟨ys, hys, l2, r2⟩ := VRel.agg_iff.1 hy
    have ha : aggT P t = true := by simp [aggT, ht, hd]
    have hf := flat_eq (M := M) (ρ := ρ) 50 t ks hk 9950 xs ys c e r w r1 r2 hq.1 hq.2 (by omega) (by omega) hr
    simp only [valOf, ha, if_true] at hf
    have hgd := run_eqGuard_agg (P := P) w (if neg then .neq else .eql) t x y xs.toArray ys.toArray hg
    refine Good.same hh (x := .bool (bif neg then !r else r)) (by simp [VRel]) ?_
    have hf' : (Op.equalIn 10000 t (.agg xs.toArray) (.agg ys.toArray)).run P w = .ok r w := hf
    cases neg
    ·simp only [Bool.false_eq_true, if_false] at ho hgd
     simp only [execOp, ho, hxs, hys, Sem.run_bind, hgd, Result.andThen_ok, run_eql_struct, hf', Sem.run_pure, cond_false]
    ·simp only [if_true] at ho hgd
     simp only [execOp, ho, hxs, hys, Sem.run_bind, hgd, Result.andThen_ok, run_neq_struct, hf', Sem.run_pure, cond_true]
   ·cases he
 ·cases he
end
end Go.VE
end
section
namespace Go.VE
section
variable {P : Program} {gl : Nat → Option (List V)} {N B : Nat} {M : Mem} {ρ : Rho} {h : Heap} {w : World} {s : Slots} {a : Act}
theorem run_places (fs : List Field) (w : World) (hall : fs.all (fun f => (szOf P f.type).isSome) = true) :
  (fs.mapM fun f => (do pure (f.offset, ← sizeOf f.type) : Sem (Nat × Nat))).run P w = .ok (fs.map fun f => (f.offset, (szOf P f.type).getD 0)) w := by
 induction fs with
 | nil => simp
 | cons f fs ih =>
  simp only [List.all_cons, Bool.and_eq_true] at hall
  obtain ⟨n, hn⟩ := Option.isSome_iff_exists.1 hall.1
  obtain ⟨i, hi, hi'⟩ := szOf_spec hn
  have h1 : (sizeOf f.type).run P w = .ok n w := by simp [sizeOf, typeInfo, hi, hi']
  simp only [List.mapM_cons, Sem.run_bind, h1, Result.andThen_ok, Sem.run_pure, ih hall.2, List.map_cons, hn, Option.getD_some]
theorem map_parts (ps : Array (Nat × Operand)) (f : Operand → Value) : (ps.map fun (i, x) => (i, f x)).toList = ps.toList.map fun p => (p.1, f p.2) := by simp
theorem sim_build_struct (hh : HRel P gl B M ρ h w) (hs : SRel M ρ N s a.tmps) {o : Oper} {t : TypeId} {ps : Array (Nat × Operand)} (ho : o.op = .build t ps) {fs : Array Field} (ht : P.underlying t = some (.struct fs))
  {z : List V} (hz : zeroOf P t = some z) (hall : fs.toList.all (fun f => (szOf P f.type).isSome) = true) {qs : List (Nat × Nat × Opd)}
  (hp : placed gl (fun i => (fs[i]?).bind fun f => (szOf P f.type).map fun s => (f.offset, s)) ps.toList = some qs) {v : V} {h' : Heap} (he : op_build z qs s h = some (v, h')) :
  Good P gl B M ρ h w v h' ((execOp a.eval o).run P w) := by
 obtain ⟨i, zv, h1, h2, h3, h4, h5⟩ := zeroOf_spec hz
 unfold op_build at he
 cases q : fill z (qs.map fun p => (p.1, p.2.1, p.2.2.ev s)) with
 | none => simp [q] at he
 | some cs =>
  simp only [q, Option.map_some, Option.some.injEq, Prod.mk.injEq] at he
  obtain ⟨rfl, rfl⟩ := he
  obtain ⟨ys, k1, k2, k3, k4⟩ := fill_rel (M := M) (ρ := ρ) (ev := fun y => y.ev s) (cev := a.eval) (fun x y e => opd_rel hh hs e) hp q (h4 M ρ) h5
  have hpl := run_places (P := P) fs.toList w hall
  refine Good.same hh (x := .agg ys) ?_ ?_
  ·simp only [VRel]
   exact ⟨ys.toList, by simp, by simpa using k3, k2⟩
  ·have hfun : (fun (i : Nat) => (fs[i]?).bind fun (f : Field) => (szOf P f.type).map fun s => (f.offset, s)) = (fun (i : Nat) => (fs.map fun (f : Field) => (f.offset, (szOf P f.type).getD 0))[i]?) := by
    funext i
    rw [Array.getElem?_map]
    cases hf : fs[i]? with
    | none => rfl
    | some f =>
     have : f ∈ fs.toList := by
      have := Array.mem_of_getElem? hf
      exact Array.mem_toList_iff.2 this
     obtain ⟨n, hn⟩ := Option.isSome_iff_exists.1 (List.all_eq_true.1 hall f this)
     simp [hn]
   rw [hfun] at k1
   simp only [execOp, ho, Instr.build, Sem.run_bind, zeroValue, typeInfo, run_program, Result.andThen_ok, h1, Sem.run_pure, h2, run_underlying ht]
   rw [Array.mapM_eq_mapM_toList]
   simp only [Sem.run_map, hpl, Result.andThen_ok, map_parts]
   have e1 : (List.map (fun (f : Field) => (f.offset, (szOf P f.type).getD 0)) fs.toList).toArray = fs.map fun (f : Field) => (f.offset, (szOf P f.type).getD 0) := by
    apply Array.ext'; simp
   rw [e1, k1]
   simp
theorem sim_build_array (hh : HRel P gl B M ρ h w) (hs : SRel M ρ N s a.tmps) {o : Oper} {t e : TypeId} {n : Nat} {ps : Array (Nat × Operand)} (ho : o.op = .build t ps) (ht : P.underlying t = some (.array n e))
  {z : List V} (hz : zeroOf P t = some z) {sz : Nat} (hsz : szOf P e = some sz) {qs : List (Nat × Nat × Opd)}
  (hp : placed gl (fun i => some (i * sz, sz)) ps.toList = some qs) {v : V} {h' : Heap} (he : op_build z qs s h = some (v, h')) :
  Good P gl B M ρ h w v h' ((execOp a.eval o).run P w) := by
 obtain ⟨i, zv, h1, h2, h3, h4, h5⟩ := zeroOf_spec hz
 obtain ⟨i2, hi2, hi2'⟩ := szOf_spec hsz
 unfold op_build at he
 cases q : fill z (qs.map fun p => (p.1, p.2.1, p.2.2.ev s)) with
 | none => simp [q] at he
 | some cs =>
  simp only [q, Option.map_some, Option.some.injEq, Prod.mk.injEq] at he
  obtain ⟨rfl, rfl⟩ := he
  obtain ⟨ys, k1, k2, k3, k4⟩ := fill_rel (M := M) (ρ := ρ) (ev := fun y => y.ev s) (cev := a.eval) (fun x y e => opd_rel hh hs e) hp q (h4 M ρ) h5
  refine Good.same hh (x := .agg ys) ?_ ?_
  ·simp only [VRel]
   exact ⟨ys.toList, by simp, by simpa using k3, k2⟩
  ·simp only [execOp, ho, Instr.build, Sem.run_bind, zeroValue, typeInfo, run_program, Result.andThen_ok, h1, Sem.run_pure, h2, run_underlying ht, sizeOf, hi2, hi2', map_parts, k1]
theorem rep_length : ∀ (n : Nat) (z : List V), (rep n z).length = n * z.length
 | 0, z => by simp [rep]
 | n + 1, z => by simp [rep, rep_length n z, Nat.add_mul, Nat.add_comm]
theorem range_mod (zs : List Value) (hz : 0 < zs.length) : ∀ n, (List.range (n * zs.length)).map (fun i => zs.toArray[i % zs.toArray.size]!) = (List.replicate n zs).flatten
 | 0 => by simp
 | n + 1 => by
  rw [List.replicate_succ', List.flatten_append, ← range_mod zs hz n]
  rw [Nat.add_mul, Nat.one_mul, List.range_add, List.map_append]
  congr 1
  simp only [List.map_map, List.flatten_cons, List.flatten_nil, List.append_nil]
  apply List.ext_getElem
  ·simp
  ·intro j h1 h2
   simp at h1
   simp [Nat.mod_eq_of_lt h1, Nat.mul_add_mod', h1]
theorem rep_rel {z : List V} {zs : List Value} (hz : VRels M ρ z zs) (hl : z.length = zs.length) : ∀ n, VRels M ρ (rep n z) (List.replicate n zs).flatten
 | 0 => by simp [rep, VRels.nil]
 | n + 1 => by
  simp only [rep, List.replicate_succ, List.flatten_cons]
  exact VRels.append hz hl (rep_rel hz hl n)
theorem made_rel {z : List V} {zv : Array Value} (hz : VRels M ρ z zv.toList) (hl : z.length = zv.size) (h0 : z.length ≠ 0) (n : Nat) :
  VRels M ρ (rep n z) ((Array.range (n * zv.size)).map (zv[· % zv.size]!)).toList ∧ (rep n z).length = ((Array.range (n * zv.size)).map (zv[· % zv.size]!)).size := by
 have e : ((Array.range (n * zv.size)).map (zv[· % zv.size]!)).toList = (List.replicate n zv.toList).flatten := by
  rw [← range_mod zv.toList (by simp; omega) n]
  simp [Array.toList_range]
 rw [e]
 refine ⟨rep_rel hz (by simpa using hl) n, ?_⟩
 rw [rep_length, hl]
 simp
theorem sl_new {ρ' : Rho} {b : Nat} {l : Loc} (e : ρ' b = some l) (hb : l.base = 0) (hx : l.ex = 0) {len cap sz : Nat} (hc : len ≤ cap) : VRel M ρ' (.sl b 0 len cap sz) (.slice (some ⟨l.blk, 0, none⟩) len cap) := by
 simp only [VRel]
 exact ⟨l, ⟨l.blk, 0, none⟩, cap, e, rfl, .inl ⟨hx, rfl⟩, .inr (by simp [hb]), hc⟩
theorem sim_bsl (hh : HRel P gl B M ρ h w) (hs : SRel M ρ N s a.tmps) {o : Oper} {t e : TypeId} {n : Nat} {ps : Array (Nat × Operand)} (ho : o.op = .buildSlice t n ps) (ht : P.underlying t = some (.slice e))
  {z : List V} (hz : zeroOf P e = some z) (hn : ¬ n * z.length > 2 ^ 24) {qs : List (Nat × Nat × Opd)}
  (hp : placed gl (fun i => some (i * z.length, z.length)) ps.toList = some qs) {v : V} {h' : Heap} (he : op_bsl n z.length (rep n z) qs s h = some (v, h')) (h0 : z.length ≠ 0) :
  Good P gl B M ρ h w v h' ((execOp a.eval o).run P w) := by
 obtain ⟨i, zv, h1, h2, h3, h4, h5⟩ := zeroOf_spec hz
 unfold op_bsl at he
 cases q : fill (rep n z) (qs.map fun p => (p.1, p.2.1, p.2.2.ev s)) with
 | none => simp [q] at he
 | some cs =>
  simp only [q, Option.map_some, Option.some.injEq, Prod.mk.injEq] at he
  obtain ⟨rfl, rfl⟩ := he
  obtain ⟨m1, m2⟩ := made_rel (h4 M ρ) h5 h0 n
  obtain ⟨ys, k1, k2, k3, k4⟩ := fill_rel (M := M) (ρ := ρ) (ev := fun y => y.ev s) (cev := a.eval) (fun x y e => opd_rel hh hs e) hp q m1 m2
  obtain ⟨ρ', r1, r2, r3⟩ := new_row hh k2 k3 e z.length .cl (tagR_cl rfl)
  refine ⟨ρ', _, _, r1, r2, sl_new r3 rfl rfl (Nat.le_refl n), .inl ?_⟩
  have hsz : i.size = zv.cells.size := by omega
  have hn' : ¬ n * i.size > 2 ^ 24 := by rw [← h3]; exact hn
  simp only [execOp, ho, Instr.buildSlice, Sem.run_bind, zeroValue, typeInfo, run_program, Result.andThen_ok, h1, Sem.run_pure, h2, run_underlying ht, sizeOf, map_parts, Sem.run_ite, hn', if_false]
  rw [hsz] at *
  by_cases hn0 : n * zv.cells.size = 0
  ·have hnz : n = 0 := by
    rcases Nat.mul_eq_zero.1 hn0 with q | q
    ·exact q
    ·omega
   subst hnz
   simp only [Nat.zero_mul, if_true, Sem.run_pure, Result.andThen_ok] at k1 ⊢
   have e0 : Array.map (fun x => (#[] : Array Value)[x % (#[] : Array Value).size]!) (Array.range 0) = Array.map (fun x => zv.cells[x % zv.cells.size]!) (Array.range 0) := by simp [Array.range_zero']
   rw [e0]
   rw [← h3, h5] at *
   simp only [k1, newRow, Sem.run_bind, run_newObj, Result.andThen_ok, Sem.run_pure]
   rfl
  ·rw [← h3, h5] at *
   simp only [hn0, if_false, Sem.run_pure, Result.andThen_ok, k1, newRow, Sem.run_bind, run_newObj]
   rfl
end
end Go.VE
end

