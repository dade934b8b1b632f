/- A part of a proof that a small evaluator of the translated code agrees with the model (part Sim1). No statement of the program stands here. -/
import Derived.Test.YtocgoabopiikoaaGreatDoorVeMem
set_option linter.all false
namespace Go.VE

theorem cst_rel {M : Mem} {ρ : Rho} : ∀ {v : Value} {u : V}, cst v = some u → VRel M ρ u v := by
  intro v u h
  unfold cst at h
  split at h <;> first
    | (cases h; simp [VRel]; done)
    | cases h

theorem csts_rel {M : Mem} {ρ : Rho} : ∀ {l : List Value} {us : List V}, csts l = some us → VRels M ρ us l ∧ us.length = l.length
  | [], us, h => by simp [csts] at h; subst h; exact ⟨VRels.nil, rfl⟩
  | x :: r, us, h => by
    simp only [csts] at h
    split at h
    · rename_i a b h1 h2
      cases h
      obtain ⟨k1, k2⟩ := csts_rel (M := M) (ρ := ρ) h2
      exact ⟨VRels.cons_iff.2 ⟨x, r, rfl, cst_rel h1, k1⟩, by simp [k2]⟩
    · cases h

theorem cstA_rel {M : Mem} {ρ : Rho} {v : Value} {u : V} (h : cstA v = some u) : VRel M ρ u v := by
  unfold cstA at h
  split at h
  · rename_i cs
    cases e : csts cs.toList with
    | none => simp [e] at h
    | some us =>
      simp [e] at h
      subst h
      obtain ⟨k1, k2⟩ := csts_rel (M := M) (ρ := ρ) e
      simp only [VRel]
      exact ⟨cs.toList, by simp, k2, k1⟩
  · exact cst_rel h

section
variable {P : Program} {gl : Nat → Option (List V)} {N B : Nat} {M : Mem} {ρ : Rho} {h : Heap} {w : World} {s : Slots} {a : Act}

theorem opd_rel (hh : HRel P gl B M ρ h w) (hs : SRel M ρ N s a.tmps) {x : Operand} {o : Opd} (e : opd gl x = some o) : VRel M ρ (o.ev s) (a.eval x) := by
  cases x with
  | tmp t =>
    simp only [opd, Option.some.injEq] at e
    subst e
    exact hs.rel t
  | const v =>
    simp only [opd] at e
    cases q : cstA v with
    | none => simp [q] at e
    | some u =>
      simp [q] at e
      subst e
      exact cstA_rel q
  | func f =>
    simp only [opd, Option.some.injEq] at e
    subst e
    simp [Opd.ev, Act.eval, VRel, VRels]
  | global g =>
    simp only [opd] at e
    cases q : gl g with
    | none => simp [q] at e
    | some cs =>
      simp [q] at e
      subst e
      obtain ⟨row, h1, h2⟩ := hh.glob g cs q
      simp only [Opd.ev, Act.eval, VRel]
      exact ⟨⟨g, 0, none⟩, row, rfl, h1, rfl, by simpa using h2⟩

theorem opds_rel (hh : HRel P gl B M ρ h w) (hs : SRel M ρ N s a.tmps) : ∀ {xs : List Operand} {os : List Opd}, opds gl xs = some os →
    VRels M ρ (evs s os) (xs.map a.eval) ∧ (evs s os).length = xs.length
  | [], os, e => by simp [opds] at e; subst e; simp [evs, VRels]
  | x :: r, os, e => by
    simp only [opds] at e
    split at e
    · rename_i o l h1 h2
      cases e
      obtain ⟨k1, k2⟩ := opds_rel hh hs h2
      refine ⟨?_, by simpa [evs] using k2⟩
      simp only [evs, List.map_cons]
      exact VRels.cons_iff.2 ⟨_, _, rfl, opd_rel hh hs h1, k1⟩
    · cases e

def NxV (r : Result Next) (x : Value) (w' : World) : Prop := r = .ok (.value x) w' ∨ (r = .ok .skip w' ∧ x = undef)

/-- What an operation that calls nothing comes to. -/
def Good (P : Program) (gl : Nat → Option (List V)) (B : Nat) (M : Mem) (ρ : Rho) (h : Heap) (w : World) (v : V) (h' : Heap) (r : Result Next) : Prop :=
  ∃ ρ' w' x, HRel P gl B M ρ' h' w' ∧ Evo M ρ h w M ρ' h' w' ∧ VRel M ρ' v x ∧ NxV r x w'

theorem Good.same (hh : HRel P gl B M ρ h w) {v : V} {x : Value} (hv : VRel M ρ v x) {r : Result Next} (hr : r = .ok (.value x) w) : Good P gl B M ρ h w v h r :=
  ⟨ρ, w, x, hh, Evo.refl _ _ _ _, hv, .inl hr⟩

theorem undef_rel : VRel M ρ (.tup []) undef := by simp [VRel, VRels, undef]

theorem VRel.agg_iff {cs : List V} {x : Value} : VRel M ρ (.agg cs) x ↔ ∃ xs : List Value, x = .agg xs.toArray ∧ cs.length = xs.length ∧ VRels M ρ cs xs := by simp only [VRel]

/-- The cells of a value. -/
theorem cellsO_rel {v : V} {x : Value} {l : List V} (hv : VRel M ρ v x) (h1 : cellsO v = some l) : VRels M ρ l x.cells.toList ∧ l.length = x.cells.size := by
  cases v with
  | top => cases h1
  | tup cs => cases h1
  | agg cs =>
    cases h1
    obtain ⟨xs, rfl, k1, k2⟩ := VRel.agg_iff.1 hv
    simp [Value.cells, k1, k2]
  | _ =>
    cases h1
    have hx : x.cells = #[x] := by
      simp only [VRel] at hv
      unfold Value.cells
      split
      · exfalso
        first
          | (cases hv; done)
          | (obtain ⟨_, _, hv⟩ := hv; cases hv; done)
          | (obtain ⟨_, _, _, _, hv, _⟩ := hv; cases hv; done)
          | (obtain ⟨_, _, hv, _⟩ := hv; cases hv; done)
          | (obtain ⟨_, hv, _⟩ := hv; cases hv; done)
      · rfl
    rw [hx]
    exact ⟨VRels.cons_iff.2 ⟨x, [], by simp, hv, VRels.nil⟩, by simp⟩

theorem oneCell_rel {v : V} {x : Value} (hv : VRel M ρ v x) (h1 : oneCell v = true) : x.oneCell' = true := by
  cases v <;> first
    | (cases h1; done)
    | (simp only [VRel] at hv
       first
        | (cases hv; rfl)
        | (obtain ⟨_, _, hv⟩ := hv; cases hv; rfl)
        | (obtain ⟨_, _, _, _, hv, _⟩ := hv; cases hv; rfl)
        | (obtain ⟨_, _, hv, _⟩ := hv; cases hv; rfl)
        | (obtain ⟨_, hv, _⟩ := hv; cases hv; rfl))

def aggD : TypeDesc → Bool
  | .struct _ | .array _ _ => true
  | _ => false
theorem isAgg_run {t : TypeId} {d : TypeDesc} (hd : P.underlying t = some d) (w : World) : (isAgg t).run P w = .ok (aggD d) w := by
  simp only [isAgg, Sem.run_bind, run_underlying hd, Result.andThen_ok]
  cases d <;> rfl

theorem aggOf_spec {t : TypeId} {n : Option Nat} (e : aggOf P t = some n) : ∃ d i, P.underlying t = some d ∧ P.info? t = some i ∧
    ((n = some i.size ∧ aggD d = true) ∨ (n = none ∧ aggD d = false)) := by
  unfold aggOf at e
  split at e
  · rename_i fs i h1 h2
    cases e
    exact ⟨_, i, h1, h2, .inl ⟨rfl, rfl⟩⟩
  · rename_i k e' i h1 h2
    cases e
    exact ⟨_, i, h1, h2, .inl ⟨rfl, rfl⟩⟩
  · rename_i d i h1 h2 h3 h4
    cases e
    refine ⟨_, i, h3, h4, .inr ⟨rfl, ?_⟩⟩
    cases d <;> simp_all [aggD]
  · cases e

/-- Reading a variable: its cells lie at a. -/
theorem loadVar_run {t : TypeId} {n : Option Nat} (e : aggOf P t = some n) {cs : List V} {v : V} (hp : part n cs = some v) {ad : Addr} {row : List Value}
    (hr : VRels M ρ cs row) (hc : ∀ i u, row[i]? = some u → w.cell? (ad.add i) = some u) : ∃ x, (loadVar t ad).run P w = .ok x w ∧ VRel M ρ v x := by
  obtain ⟨d, i, h1, h2, h3⟩ := aggOf_spec e
  rcases h3 with ⟨rfl, hagg⟩ | ⟨rfl, hagg⟩
  · simp only [part] at hp
    split at hp
    · rename_i l hl
      cases hp
      obtain ⟨k1, k2, k3⟩ := VRels.takeN hr hl
      refine ⟨.agg (row.take i.size).toArray, ?_, ?_⟩
      · have hload := run_loadCells_list (P := P) w ad (row.take i.size) (fun j u hj => by
          rw [List.getElem?_take] at hj
          split at hj
          · exact hc j u hj
          · cases hj)
        rw [k3] at hload
        simp [loadVar, isAgg_run h1, hagg, sizeOf, typeInfo, h2, hload]
      · simp only [VRel]
        exact ⟨_, rfl, by rw [k2, k3], k1⟩
    · cases hp
  · simp only [part] at hp
    split at hp
    · rename_i x l
      cases hp
      obtain ⟨y, ys, rfl, k1, k2⟩ := VRels.cons_iff.1 hr
      refine ⟨y, ?_, k1⟩
      have h0 := hc 0 y rfl
      simp only [Addr.add, if_true] at h0
      simp [loadVar, isAgg_run h1, hagg, h0]
    · cases hp

-- ------------------------------------------------------------------ operations, one by one

theorem sim_mv (hh : HRel P gl B M ρ h w) (hs : SRel M ρ N s a.tmps) {o : Oper} {x : Operand} (ho : o.op = .move x ∨ o.op = .assign x) {y : Opd} (e : opd gl x = some y) :
    Good P gl B M ρ h w (y.ev s) h ((execOp a.eval o).run P w) :=
  Good.same hh (opd_rel hh hs e) (by rcases ho with ho | ho <;> simp [execOp, ho])

theorem sim_pick (hh : HRel P gl B M ρ h w) (hs : SRel M ρ N s a.tmps) {o : Oper} {c x y : Operand} (ho : o.op = .pick c x y) {c' x' y' : Opd}
    (e1 : opd gl c = some c') (e2 : opd gl x = some x') (e3 : opd gl y = some y') {v : V} {h' : Heap} (he : op_pick c' x' y' s h = some (v, h')) :
    Good P gl B M ρ h w v h' ((execOp a.eval o).run P w) := by
  have hc := opd_rel hh hs e1
  unfold op_pick at he
  split at he
  · rename_i q
    cases he
    rw [q] at hc
    simp only [VRel] at hc
    exact Good.same hh (opd_rel hh hs e2) (by simp [execOp, ho, hc, asBool])
  · rename_i q
    cases he
    rw [q] at hc
    simp only [VRel] at hc
    exact Good.same hh (opd_rel hh hs e3) (by simp [execOp, ho, hc, asBool])
  · cases he

theorem sureAddr_run {ad : Addr} (w : World) : (Instr.sureAddr (.pointer (some ad))).run P w = .ok ad w := rfl

theorem sim_ld (hh : HRel P gl B M ρ h w) (hs : SRel M ρ N s a.tmps) {o : Oper} {t : TypeId} {x : Operand} (ho : o.op = .load t x) {n : Option Nat} {x' : Opd}
    (e1 : aggOf P t = some n) (e2 : opd gl x = some x') {v : V} {h' : Heap} (he : op_ld n x' s h = some (v, h')) :
    Good P gl B M ρ h w v h' ((execOp a.eval o).run P w) := by
  have hx := opd_rel hh hs e2
  unfold op_ld at he
  split at he
  · rename_i cs hc
    cases hp : part n cs with
    | none => simp [hp] at he
    | some u =>
      simp [hp] at he
      obtain ⟨rfl, rfl⟩ := he
      obtain ⟨ad, row, k1, k2, k3, k4⟩ := cellsAt_rel hh hx hc
      obtain ⟨y, hy, hv⟩ := loadVar_run e1 hp k3 k4
      exact Good.same hh hv (by simp [execOp, ho, k1, Instr.loadAt, sureAddr_run, hy])
  · cases he

theorem zeroOf_spec {t : TypeId} {z : List V} (e : zeroOf P t = some z) : ∃ i zv, P.info? t = some i ∧ i.zero = some zv ∧ z.length = i.size ∧ (∀ M ρ, VRels M ρ z zv.cells.toList) ∧ z.length = zv.cells.size := by
  unfold zeroOf at e
  split at e
  · rename_i i hi
    split at e
    · rename_i zv hz
      cases q : csts zv.cells.toList with
      | none => simp [q] at e
      | some l =>
        simp [q] at e
        obtain ⟨k1, rfl⟩ := e
        refine ⟨i, zv, hi, hz, k1, fun M ρ => (csts_rel q).1, ?_⟩
        have := (csts_rel (M := fun _ => none) (ρ := fun _ => none) q).2
        simpa using this
    · cases e
  · cases e

/-- A new row of cells of our own. -/
theorem new_row (hh : HRel P gl B M ρ h w) {c : List V} {cur : Array Value} (hc : VRels M ρ c cur.toList) (hl : c.length = cur.size) (e : TypeId) (sz : Nat) :
    ∃ ρ', HRel P gl B M ρ' (h.new (.cells c false)) (w.alloc (.cells cur e)) ∧ Evo M ρ h w M ρ' (h.new (.cells c false)) (w.alloc (.cells cur e)) ∧
      ρ' h.nx = some ⟨w.heap.size, 0, c.length, sz, 0⟩ := by
  have hr := hh.rle ⟨w.heap.size, 0, c.length, sz, 0⟩
  obtain ⟨k1, k2⟩ := hh.new (.cells c false) (.cells cur e) ⟨w.heap.size, 0, c.length, sz, 0⟩ rfl (BRel.cells_iff.2 ⟨cur, e, (0, 0), rfl, fun i _ _ q => by simp at q, rfl, by simpa using VRels.mono (Mle.refl _) hr _ hc, by simp [hl], fun _ => rfl⟩)
  exact ⟨_, k1, k2, Rho.add_same _ _ _⟩

theorem ptr_new {ρ' : Rho} {b : Nat} {l : Loc} (e : ρ' b = some l) (hb : l.base = 0) : VRel M ρ' (.ptr b 0) (.pointer (some ⟨l.blk, 0, none⟩)) := by
  simp only [VRel]
  exact ⟨l, e, by simp [hb]⟩

theorem sim_alloc (hh : HRel P gl B M ρ h w) {o : Oper} {t : TypeId} (ho : o.op = .alloc t) {z : List V} (e : zeroOf P t = some z) {v : V} {h' : Heap} (he : op_alloc z s h = some (v, h')) :
    Good P gl B M ρ h w v h' ((execOp a.eval o).run P w) := by
  obtain ⟨i, zv, h1, h2, h3, h4, h5⟩ := zeroOf_spec e
  cases he
  obtain ⟨ρ', k1, k2, k3⟩ := new_row hh (h4 M ρ) h5 t 1
  exact ⟨ρ', _, _, k1, k2, ptr_new k3 rfl, .inl (by simp [execOp, ho, Instr.alloc, zeroValue, typeInfo, h1, h2, newVar, newRow])⟩

theorem szOf_spec {t : TypeId} {n : Nat} (e : szOf P t = some n) : ∃ i, P.info? t = some i ∧ i.size = n := by
  unfold szOf at e
  cases q : P.info? t with
  | none => simp [q] at e
  | some i => simp [q] at e; exact ⟨i, rfl, e⟩

theorem sim_box (hh : HRel P gl B M ρ h w) (hs : SRel M ρ N s a.tmps) {o : Oper} {t : TypeId} {x : Operand} (ho : o.op = .box t x) {n : Nat} {x' : Opd} (e2 : opd gl x = some x')
    {v : V} {h' : Heap} (he : op_box n x' s h = some (v, h')) :
    Good P gl B M ρ h w v h' ((execOp a.eval o).run P w) := by
  have hx := opd_rel hh hs e2
  unfold op_box at he
  split at he
  · rename_i l hl
    obtain ⟨c1, c2⟩ := cellsO_rel hx hl
    cases q : Nat.beq l.length n
    · simp [q] at he
    · simp [q] at he
      obtain ⟨rfl, rfl⟩ := he
      obtain ⟨ρ', k1, k2, k3⟩ := new_row hh c1 c2 t 1
      exact ⟨ρ', _, _, k1, k2, ptr_new k3 rfl, .inl (by simp [execOp, ho, Instr.box, newVar, newRow])⟩
  · cases he

-- ------------------------------------------------------------------ cells over cells

def overC (off : Nat) (xs ys : List Value) : List Value := xs.take off ++ ys ++ xs.drop (off + ys.length)

theorem overC_length {off : Nat} {xs ys : List Value} (h : off + ys.length ≤ xs.length) : (overC off xs ys).length = xs.length := by
  simp [overC]; omega

theorem over_rel : ∀ {off : Nat} {l vs r : List V} {xs ys : List Value}, over off l vs = some r → VRels M ρ l xs → VRels M ρ vs ys → vs.length = ys.length →
    VRels M ρ r (overC off xs ys) ∧ r.length = l.length ∧ (∀ y ∈ ys, y.oneCell' = true) ∧ (ys ≠ [] → off + ys.length ≤ l.length)
  | off, l, [], r, xs, ys, he, hl, hv, hn => by
    simp [over] at he
    subst he
    have : ys = [] := by cases ys <;> simp_all
    subst this
    simp [overC, hl]
  | off, [], x :: vs, r, xs, ys, he, _, _, _ => by cases off <;> simp [over] at he
  | 0, y :: l, x :: vs, r, xs, ys, he, hl, hv, hn => by
    simp only [over] at he
    cases q : oneCell x
    · simp [q] at he
    · simp only [q, cond_true] at he
      split at he
      · rename_i r' hr'
        cases he
        obtain ⟨x1, xs', rfl, k1, k2⟩ := VRels.cons_iff.1 hl
        obtain ⟨y1, ys', rfl, k3, k4⟩ := VRels.cons_iff.1 hv
        obtain ⟨m1, m2, m3, m4⟩ := over_rel hr' k2 k4 (by simpa using hn)
        refine ⟨?_, by simp [m2], ?_, ?_⟩
        · have : overC 0 (x1 :: xs') (y1 :: ys') = y1 :: overC 0 xs' ys' := by simp [overC]
          rw [this]
          exact VRels.cons_iff.2 ⟨_, _, rfl, k3, m1⟩
        · intro z hz
          rcases List.mem_cons.1 hz with rfl | hz
          · exact oneCell_rel k3 q
          · exact m3 z hz
        · intro _
          by_cases hy : ys' = []
          · subst hy; simp
          · have := m4 hy
            simp at this ⊢
            omega
      · cases he
  | off + 1, y :: l, x :: vs, r, xs, ys, he, hl, hv, hn => by
    simp only [over] at he
    split at he
    · rename_i r' hr'
      cases he
      obtain ⟨x1, xs', rfl, k1, k2⟩ := VRels.cons_iff.1 hl
      obtain ⟨m1, m2, m3, m4⟩ := over_rel hr' k2 hv hn
      refine ⟨?_, by simp [m2], m3, ?_⟩
      · have : overC (off + 1) (x1 :: xs') ys = x1 :: overC off xs' ys := by
          simp [overC, Nat.add_right_comm]
        rw [this]
        exact VRels.cons_iff.2 ⟨_, _, rfl, k1, m1⟩
      · intro hy
        have := m4 hy
        simp
        omega
    · cases he

theorem foldl_set (off : Nat) : ∀ (vs : List Value) (k : Nat) (cs : Array Value), off + k + vs.length ≤ cs.size →
    ((vs.zipIdx k).foldl (fun cs (x : Value × Nat) => cs.setIfInBounds (off + x.2) x.1) cs).toList = cs.toList.take (off + k) ++ vs ++ cs.toList.drop (off + k + vs.length)
  | [], k, cs, _ => by simp
  | v :: vs, k, cs, hk => by
    simp only [List.zipIdx_cons, List.foldl_cons]
    simp only [List.length_cons] at hk
    rw [foldl_set off vs (k + 1) _ (by simp; omega)]
    have hlt : off + k < cs.toList.length := by simp; omega
    simp only [Array.toList_setIfInBounds]
    rw [List.take_set, List.drop_set]
    rw [if_pos (by omega)]
    have h1 : (cs.toList.take (off + (k + 1))).set (off + k) v = cs.toList.take (off + k) ++ [v] := by
      rw [show off + (k + 1) = off + k + 1 by omega, List.take_succ_eq_append_getElem hlt, List.set_append_right _ _ (by simp; omega)]
      have e : off + k - min (off + k) cs.size = 0 := by simp at hlt; omega
      simp [e]
    rw [h1]
    simp [List.append_assoc, show off + (k + 1) + vs.length = off + k + (vs.length + 1) by omega]

/-- The model's 'fill', step by step. -/
theorem fill_rel {place : Nat → Option (Nat × Nat)} {ev : Opd → V} {cev : Operand → Value} (hev : ∀ (x : Operand) (y : Opd), opd gl x = some y → VRel M ρ (ev y) (cev x)) :
    ∀ {ps : List (Nat × Operand)} {qs : List (Nat × Nat × Opd)} {l r : List V} {xs : Array Value}, placed gl place ps = some qs →
      fill l (qs.map fun p => (p.1, p.2.1, ev p.2.2)) = some r → VRels M ρ l xs.toList → l.length = xs.size →
      ∃ ys : Array Value, Instr.fill place xs (ps.map fun p => (p.1, cev p.2)) = some ys ∧ VRels M ρ r ys.toList ∧ r.length = ys.size ∧ ys.size = xs.size
  | [], qs, l, r, xs, hp, he, hl, hn => by
    simp [placed] at hp
    subst hp
    simp [fill] at he
    subst he
    exact ⟨xs, rfl, hl, hn, rfl⟩
  | (i, x) :: ps, qs, l, r, xs, hp, he, hl, hn => by
    simp only [placed] at hp
    split at hp
    · rename_i o sz y b h1 h2 h3
      cases hp
      simp only [List.map_cons, fill] at he
      split at he
      · rename_i c hc
        cases q : (Nat.beq c.length sz && Nat.blt 0 sz)
        · simp [q] at he
        · simp only [q, cond_true] at he
          have hq : c.length = sz ∧ 0 < sz := by simpa [beq_dec, blt_dec] using q
          split at he
          · rename_i l' hl'
            obtain ⟨c1, c2⟩ := cellsO_rel (hev x y h2) hc
            obtain ⟨m1, m2, m3, m4⟩ := over_rel hl' hl c1 (by simpa using c2)
            have hfit : o + (cev x).cells.size ≤ xs.size := by
              have h0 : (cev x).cells.toList ≠ [] := by
                intro h0
                have : c.length = 0 := by rw [c2, ← Array.length_toList, h0]; rfl
                omega
              have := m4 h0
              simp at this
              omega
            have hfold := foldl_set o (cev x).cells.toList 0 xs (by simpa using hfit)
            simp only [Nat.add_zero] at hfold
            have hsz : (((cev x).cells.toList.zipIdx 0).foldl (fun cs (x : Value × Nat) => cs.setIfInBounds (o + x.2) x.1) xs).size = xs.size := by
              rw [← Array.length_toList, hfold]; simp; omega
            obtain ⟨ys, k1, k2, k3, k4⟩ := fill_rel hev (ps := ps) (qs := b) (l := l') (r := r)
              (xs := ((cev x).cells.toList.zipIdx 0).foldl (fun cs (x : Value × Nat) => cs.setIfInBounds (o + x.2) x.1) xs) h3 he
              (by rw [hfold]; exact m1)
              (by rw [m2, hn]; exact hsz.symm)
            refine ⟨ys, ?_, k2, k3, ?_⟩
            · simp only [List.map_cons, Instr.fill, h1]
              rw [if_neg (by simp; omega)]
              rw [← k1]
              congr 1
              rw [← Array.foldl_toList, Array.toList_zipIdx]
            · rw [k4]; exact hsz
          · cases he
      · cases he
    · cases hp
end
end Go.VE
