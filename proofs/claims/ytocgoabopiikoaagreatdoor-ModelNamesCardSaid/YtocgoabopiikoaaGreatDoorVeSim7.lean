/- A part of a proof that a small evaluator of the translated code agrees with the model (part Sim7). No statement of the program stands here. -/
import Derived.Test.YtocgoabopiikoaaGreatDoorVeSim6
set_option linter.all false
namespace Go.VE
section
variable {P : Program} {gl : Nat → Option (List V)} {N B : Nat} {M : Mem} {ρ : Rho} {h : Heap} {w : World} {s : Slots} {a : Act}

theorem run_places (fs : List Field) (w : World) (hall : fs.all (fun f => (szOf P f.type).isSome) = true) :
    (fs.mapM fun f => (do pure (f.offset, ← sizeOf f.type) : Sem (Nat × Nat))).run P w = .ok (fs.map fun f => (f.offset, (szOf P f.type).getD 0)) w := by
  induction fs with
  | nil => simp
  | cons f fs ih =>
    simp only [List.all_cons, Bool.and_eq_true] at hall
    obtain ⟨n, hn⟩ := Option.isSome_iff_exists.1 hall.1
    obtain ⟨i, hi, hi'⟩ := szOf_spec hn
    have h1 : (sizeOf f.type).run P w = .ok n w := by simp [sizeOf, typeInfo, hi, hi']
    simp only [List.mapM_cons, Sem.run_bind, h1, Result.andThen_ok, Sem.run_pure, ih hall.2, List.map_cons, hn, Option.getD_some]

theorem map_parts (ps : Array (Nat × Operand)) (f : Operand → Value) : (ps.map fun (i, x) => (i, f x)).toList = ps.toList.map fun p => (p.1, f p.2) := by simp

theorem sim_build_struct (hh : HRel P gl B M ρ h w) (hs : SRel M ρ N s a.tmps) {o : Oper} {t : TypeId} {ps : Array (Nat × Operand)} (ho : o.op = .build t ps) {fs : Array Field} (ht : P.underlying t = some (.struct fs))
    {z : List V} (hz : zeroOf P t = some z) (hall : fs.toList.all (fun f => (szOf P f.type).isSome) = true) {qs : List (Nat × Nat × Opd)}
    (hp : placed gl (fun i => (fs[i]?).bind fun f => (szOf P f.type).map fun s => (f.offset, s)) ps.toList = some qs) {v : V} {h' : Heap} (he : op_build z qs s h = some (v, h')) :
    Good P gl B M ρ h w v h' ((execOp a.eval o).run P w) := by
  obtain ⟨i, zv, h1, h2, h3, h4, h5⟩ := zeroOf_spec hz
  unfold op_build at he
  cases q : fill z (qs.map fun p => (p.1, p.2.1, p.2.2.ev s)) with
  | none => simp [q] at he
  | some cs =>
    simp only [q, Option.map_some, Option.some.injEq, Prod.mk.injEq] at he
    obtain ⟨rfl, rfl⟩ := he
    obtain ⟨ys, k1, k2, k3, k4⟩ := fill_rel (M := M) (ρ := ρ) (ev := fun y => y.ev s) (cev := a.eval) (fun x y e => opd_rel hh hs e) hp q (h4 M ρ) h5
    have hpl := run_places (P := P) fs.toList w hall
    refine Good.same hh (x := .agg ys) ?_ ?_
    · simp only [VRel]
      exact ⟨ys.toList, by simp, by simpa using k3, k2⟩
    · have hfun : (fun (i : Nat) => (fs[i]?).bind fun (f : Field) => (szOf P f.type).map fun s => (f.offset, s)) = (fun (i : Nat) => (fs.map fun (f : Field) => (f.offset, (szOf P f.type).getD 0))[i]?) := by
        funext i
        rw [Array.getElem?_map]
        cases hf : fs[i]? with
        | none => rfl
        | some f =>
          have : f ∈ fs.toList := by
            have := Array.mem_of_getElem? hf
            exact Array.mem_toList_iff.2 this
          obtain ⟨n, hn⟩ := Option.isSome_iff_exists.1 (List.all_eq_true.1 hall f this)
          simp [hn]
      rw [hfun] at k1
      simp only [execOp, ho, Instr.build, Sem.run_bind, zeroValue, typeInfo, run_program, Result.andThen_ok, h1, Sem.run_pure, h2, run_underlying ht]
      rw [Array.mapM_eq_mapM_toList]
      simp only [Sem.run_map, hpl, Result.andThen_ok, map_parts]
      have e1 : (List.map (fun (f : Field) => (f.offset, (szOf P f.type).getD 0)) fs.toList).toArray = fs.map fun (f : Field) => (f.offset, (szOf P f.type).getD 0) := by
        apply Array.ext'; simp
      rw [e1, k1]
      simp

theorem sim_build_array (hh : HRel P gl B M ρ h w) (hs : SRel M ρ N s a.tmps) {o : Oper} {t e : TypeId} {n : Nat} {ps : Array (Nat × Operand)} (ho : o.op = .build t ps) (ht : P.underlying t = some (.array n e))
    {z : List V} (hz : zeroOf P t = some z) {sz : Nat} (hsz : szOf P e = some sz) {qs : List (Nat × Nat × Opd)}
    (hp : placed gl (fun i => some (i * sz, sz)) ps.toList = some qs) {v : V} {h' : Heap} (he : op_build z qs s h = some (v, h')) :
    Good P gl B M ρ h w v h' ((execOp a.eval o).run P w) := by
  obtain ⟨i, zv, h1, h2, h3, h4, h5⟩ := zeroOf_spec hz
  obtain ⟨i2, hi2, hi2'⟩ := szOf_spec hsz
  unfold op_build at he
  cases q : fill z (qs.map fun p => (p.1, p.2.1, p.2.2.ev s)) with
  | none => simp [q] at he
  | some cs =>
    simp only [q, Option.map_some, Option.some.injEq, Prod.mk.injEq] at he
    obtain ⟨rfl, rfl⟩ := he
    obtain ⟨ys, k1, k2, k3, k4⟩ := fill_rel (M := M) (ρ := ρ) (ev := fun y => y.ev s) (cev := a.eval) (fun x y e => opd_rel hh hs e) hp q (h4 M ρ) h5
    refine Good.same hh (x := .agg ys) ?_ ?_
    · simp only [VRel]
      exact ⟨ys.toList, by simp, by simpa using k3, k2⟩
    · simp only [execOp, ho, Instr.build, Sem.run_bind, zeroValue, typeInfo, run_program, Result.andThen_ok, h1, Sem.run_pure, h2, run_underlying ht, sizeOf, hi2, hi2', map_parts, k1]

theorem rep_length : ∀ (n : Nat) (z : List V), (rep n z).length = n * z.length
  | 0, z => by simp [rep]
  | n + 1, z => by simp [rep, rep_length n z, Nat.add_mul, Nat.add_comm]

theorem range_mod (zs : List Value) (hz : 0 < zs.length) : ∀ n, (List.range (n * zs.length)).map (fun i => zs.toArray[i % zs.toArray.size]!) = (List.replicate n zs).flatten
  | 0 => by simp
  | n + 1 => by
    rw [List.replicate_succ', List.flatten_append, ← range_mod zs hz n]
    rw [Nat.add_mul, Nat.one_mul, List.range_add, List.map_append]
    congr 1
    simp only [List.map_map, List.flatten_cons, List.flatten_nil, List.append_nil]
    apply List.ext_getElem
    · simp
    · intro j h1 h2
      simp at h1
      simp [Nat.mod_eq_of_lt h1, Nat.mul_add_mod', h1]

theorem rep_rel {z : List V} {zs : List Value} (hz : VRels M ρ z zs) (hl : z.length = zs.length) : ∀ n, VRels M ρ (rep n z) (List.replicate n zs).flatten
  | 0 => by simp [rep, VRels.nil]
  | n + 1 => by
    simp only [rep, List.replicate_succ, List.flatten_cons]
    exact VRels.append hz hl (rep_rel hz hl n)

theorem made_rel {z : List V} {zv : Array Value} (hz : VRels M ρ z zv.toList) (hl : z.length = zv.size) (h0 : z.length ≠ 0) (n : Nat) :
    VRels M ρ (rep n z) ((Array.range (n * zv.size)).map (zv[· % zv.size]!)).toList ∧ (rep n z).length = ((Array.range (n * zv.size)).map (zv[· % zv.size]!)).size := by
  have e : ((Array.range (n * zv.size)).map (zv[· % zv.size]!)).toList = (List.replicate n zv.toList).flatten := by
    rw [← range_mod zv.toList (by simp; omega) n]
    simp [Array.toList_range]
  rw [e]
  refine ⟨rep_rel hz (by simpa using hl) n, ?_⟩
  rw [rep_length, hl]
  simp

theorem sl_new {ρ' : Rho} {b : Nat} {l : Loc} (e : ρ' b = some l) (hb : l.base = 0) (hx : l.ex = 0) {len cap sz : Nat} (hc : len ≤ cap) : VRel M ρ' (.sl b 0 len cap sz) (.slice (some ⟨l.blk, 0, none⟩) len cap) := by
  simp only [VRel]
  exact ⟨l, ⟨l.blk, 0, none⟩, cap, e, rfl, .inl ⟨hx, rfl⟩, .inr (by simp [hb]), hc⟩

theorem sim_bsl (hh : HRel P gl B M ρ h w) (hs : SRel M ρ N s a.tmps) {o : Oper} {t e : TypeId} {n : Nat} {ps : Array (Nat × Operand)} (ho : o.op = .buildSlice t n ps) (ht : P.underlying t = some (.slice e))
    {z : List V} (hz : zeroOf P e = some z) (hn : ¬ n * z.length > 2 ^ 24) {qs : List (Nat × Nat × Opd)}
    (hp : placed gl (fun i => some (i * z.length, z.length)) ps.toList = some qs) {v : V} {h' : Heap} (he : op_bsl n z.length (rep n z) qs s h = some (v, h')) (h0 : z.length ≠ 0) :
    Good P gl B M ρ h w v h' ((execOp a.eval o).run P w) := by
  obtain ⟨i, zv, h1, h2, h3, h4, h5⟩ := zeroOf_spec hz
  unfold op_bsl at he
  cases q : fill (rep n z) (qs.map fun p => (p.1, p.2.1, p.2.2.ev s)) with
  | none => simp [q] at he
  | some cs =>
    simp only [q, Option.map_some, Option.some.injEq, Prod.mk.injEq] at he
    obtain ⟨rfl, rfl⟩ := he
    obtain ⟨m1, m2⟩ := made_rel (h4 M ρ) h5 h0 n
    obtain ⟨ys, k1, k2, k3, k4⟩ := fill_rel (M := M) (ρ := ρ) (ev := fun y => y.ev s) (cev := a.eval) (fun x y e => opd_rel hh hs e) hp q m1 m2
    obtain ⟨ρ', r1, r2, r3⟩ := new_row hh k2 k3 e z.length
    refine ⟨ρ', _, _, r1, r2, sl_new r3 rfl rfl (Nat.le_refl n), .inl ?_⟩
    have hsz : i.size = zv.cells.size := by omega
    have hn' : ¬ n * i.size > 2 ^ 24 := by rw [← h3]; exact hn
    simp only [execOp, ho, Instr.buildSlice, Sem.run_bind, zeroValue, typeInfo, run_program, Result.andThen_ok, h1, Sem.run_pure, h2, run_underlying ht, sizeOf, map_parts, Sem.run_ite, hn', if_false]
    rw [hsz] at *
    by_cases hn0 : n * zv.cells.size = 0
    · have hnz : n = 0 := by
        rcases Nat.mul_eq_zero.1 hn0 with q | q
        · exact q
        · omega
      subst hnz
      simp only [Nat.zero_mul, if_true, Sem.run_pure, Result.andThen_ok] at k1 ⊢
      have e0 : Array.map (fun x => (#[] : Array Value)[x % (#[] : Array Value).size]!) (Array.range 0) = Array.map (fun x => zv.cells[x % zv.cells.size]!) (Array.range 0) := by simp [Array.range_zero']
      rw [e0]
      rw [← h3, h5] at *
      simp only [k1, newRow, Sem.run_bind, run_newObj, Result.andThen_ok, Sem.run_pure]
      rfl
    · rw [← h3, h5] at *
      simp only [hn0, if_false, Sem.run_pure, Result.andThen_ok, k1, newRow, Sem.run_bind, run_newObj]
      rfl
end
end Go.VE
