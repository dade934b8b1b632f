/- A part of a proof that a small evaluator of the translated code agrees with the model (part Sim9). No statement of the program stands here. -/
import Derived.Test.YtocgoabopiikoaaGreatDoorVeSim8
set_option linter.all false
namespace Go.VE
section
variable {P : Program} {gl : Nat → Option (List V)} {N B : Nat} {M : Mem} {ρ : Rho} {h : Heap} {w : World} {s : Slots} {a : Act}

theorem asNat_spec {v : V} {n : Nat} (e : asNat v = some n) : ∃ k, v = .int k (n : Int) := by
  unfold asNat at e
  split at e
  · cases e; exact ⟨_, rfl⟩
  · cases e

theorem asNat_rel {v : V} {x : Value} {n : Nat} (e : asNat v = some n) (hv : VRel M ρ v x) : ∃ k, x = .int k (n : Int) := by
  obtain ⟨k, rfl⟩ := asNat_spec e
  exact ⟨k, by simpa [VRel] using hv⟩

/-- A part of an aggregate. -/
theorem part_rel {t : TypeId} {n : Option Nat} (e : aggOf P t = some n) {cs : List V} {v : V} (hp : part n cs = some v) {row : Array Value} {off : Nat} (hr : VRels M ρ cs (row.toList.drop off)) :
    ∃ x, (Go.part t row off).run P w = .ok x w ∧ VRel M ρ v x := by
  obtain ⟨d, i, h1, h2, h3⟩ := aggOf_spec e
  rcases h3 with ⟨rfl, hagg⟩ | ⟨rfl, hagg⟩
  · simp only [part] at hp
    split at hp
    · rename_i l hl
      cases hp
      obtain ⟨k1, k2, k3⟩ := VRels.takeN hr hl
      refine ⟨.agg (row.extract off (off + i.size)), ?_, ?_⟩
      · simp [Go.part, isAgg_run h1, hagg, sizeOf, typeInfo, h2]
      · have e : row.extract off (off + i.size) = ((row.toList.drop off).take i.size).toArray := by
          apply Array.ext'
          simp [Array.toList_extract]
        rw [e]
        simp only [VRel]
        exact ⟨_, rfl, by rw [k2, k3], k1⟩
    · cases hp
  · simp only [part] at hp
    split at hp
    · rename_i x l
      cases hp
      obtain ⟨y, ys, e2, k1, k2⟩ := VRels.cons_iff.1 hr
      refine ⟨y, ?_, k1⟩
      have h0 : row[off]? = some y := by
        have := congrArg (fun l : List Value => l[0]?) e2
        simpa [List.getElem?_drop] using this
      simp [Go.part, isAgg_run h1, hagg, h0]
    · cases hp

theorem sim_fld (hh : HRel P gl B M ρ h w) (hs : SRel M ρ N s a.tmps) {o : Oper} {t : TypeId} {x : Operand} {f : Nat} (ho : o.op = .field t x f) {fs : Array Field} (ht : P.underlying t = some (.struct fs)) {fl : Field} (hf : fs[f]? = some fl)
    {n : Option Nat} (hn : aggOf P fl.type = some n) {x' : Opd} (e1 : opd gl x = some x') {v : V} {h' : Heap} (he : op_fld fl.offset n x' s h = some (v, h')) : Good P gl B M ρ h w v h' ((execOp a.eval o).run P w) := by
  have hx := opd_rel hh hs e1
  unfold op_fld at he
  split at he
  · rename_i cs ex
    rw [ex] at hx
    obtain ⟨xs, hxs, l1, r1⟩ := VRel.agg_iff.1 hx
    cases q : part n (cs.drop fl.offset) with
    | none => simp [q] at he
    | some u =>
      simp only [q, Option.map_some, Option.some.injEq, Prod.mk.injEq] at he
      obtain ⟨rfl, rfl⟩ := he
      obtain ⟨y, k1, k2⟩ := part_rel (w := w) hn q (row := xs.toArray) (off := fl.offset) (by simpa using VRels.drop fl.offset r1)
      exact Good.same hh k2 (by simp only [execOp, ho, Instr.field, Sem.run_bind, run_underlying ht, Result.andThen_ok, hf, hxs, asAgg, Sem.run_pure, k1])
  · cases he

theorem sim_ix (hh : HRel P gl B M ρ h w) (hs : SRel M ρ N s a.tmps) {o : Oper} {t e : TypeId} {x i : Operand} (ho : o.op = .index t x i) {len : Nat} (ht : P.underlying t = some (.array len e)) {sz : Nat} (hsz : szOf P e = some sz)
    {n : Option Nat} (hn : aggOf P e = some n) {x' i' : Opd} (e1 : opd gl x = some x') (e2 : opd gl i = some i') {v : V} {h' : Heap} (he : op_ix len sz n x' i' s h = some (v, h')) : Good P gl B M ρ h w v h' ((execOp a.eval o).run P w) := by
  have hx := opd_rel hh hs e1
  have hi := opd_rel hh hs e2
  obtain ⟨ii, hii, hii'⟩ := szOf_spec hsz
  unfold op_ix at he
  split at he
  · rename_i j cs ej ex
    rw [ex] at hx
    obtain ⟨xs, hxs, l1, r1⟩ := VRel.agg_iff.1 hx
    obtain ⟨k, hk⟩ := asNat_rel ej hi
    cases q : Nat.blt j len
    · simp [q] at he
    · simp only [q, cond_true] at he
      have hlt : j < len := by rw [blt_dec] at q; simpa using q
      cases q2 : part n (cs.drop (j * sz)) with
      | none => simp [q2] at he
      | some u =>
        simp only [q2, Option.map_some, Option.some.injEq, Prod.mk.injEq] at he
        obtain ⟨rfl, rfl⟩ := he
        obtain ⟨y, k1, k2⟩ := part_rel (w := w) hn q2 (row := xs.toArray) (off := j * sz) (by simpa using VRels.drop (j * sz) r1)
        have hc : (0 : Int) ≤ (j : Int) ∧ (j : Int) < (len : Int) := by omega
        refine Good.same hh k2 ?_
        simp only [execOp, ho, Instr.index, Sem.run_bind, hk, asIntOf, Sem.run_pure, Result.andThen_ok, run_underlying ht, hxs, Sem.run_ite, hc, and_self, if_true, sizeOf, typeInfo, run_program, hii, hii', Int.toNat_natCast, k1]
  · cases he

theorem sim_ixs (hh : HRel P gl B M ρ h w) (hs : SRel M ρ N s a.tmps) {o : Oper} {t : TypeId} {x i : Operand} (ho : o.op = .index t x i) (ht : P.underlying t = some .string)
    {x' i' : Opd} (e1 : opd gl x = some x') (e2 : opd gl i = some i') {v : V} {h' : Heap} (he : op_ixs x' i' s h = some (v, h')) : Good P gl B M ρ h w v h' ((execOp a.eval o).run P w) := by
  have hx := opd_rel hh hs e1
  have hi := opd_rel hh hs e2
  unfold op_ixs at he
  split at he
  · rename_i j l ej ex
    rw [ex] at hx
    simp only [VRel] at hx
    obtain ⟨k, hk⟩ := asNat_rel ej hi
    cases q : l[j]? with
    | none => simp [q] at he
    | some u =>
      simp only [q, Option.map_some, Option.some.injEq, Prod.mk.injEq] at he
      obtain ⟨rfl, rfl⟩ := he
      have hlt := (List.getElem?_eq_some_iff.1 q).1
      have hb : (⟨l.toArray⟩ : ByteArray)[j]? = some u := by
        have hs : j < (⟨l.toArray⟩ : ByteArray).size := by rw [size_mk]; exact hlt
        rw [getElem?_pos _ j hs]
        have : (⟨l.toArray⟩ : ByteArray)[j] = l[j] := by
          show l.toArray[j] = l[j]
          simp
        rw [this]
        rw [List.getElem?_eq_getElem hlt] at q
        exact q
      refine Good.same hh (x := .int .u8 u.toNat) (by simp [VRel]) ?_
      have hc : (0 : Int) ≤ (j : Int) := by omega
      simp only [execOp, ho, Instr.index, Sem.run_bind, hk, asIntOf, Sem.run_pure, Result.andThen_ok, run_underlying ht, hx, hc, if_true, Int.toNat_natCast, hb]
  · cases he

theorem sim_ext (hh : HRel P gl B M ρ h w) (hs : SRel M ρ N s a.tmps) {o : Oper} {x : Operand} {i : Nat} (ho : o.op = .extract x i) {x' : Opd} (e1 : opd gl x = some x') {v : V} {h' : Heap} (he : op_ext i x' s h = some (v, h')) :
    Good P gl B M ρ h w v h' ((execOp a.eval o).run P w) := by
  have hx := opd_rel hh hs e1
  unfold op_ext at he
  split at he
  · rename_i cs ex
    rw [ex] at hx
    simp only [VRel] at hx
    obtain ⟨xs, hxs, l1, r1⟩ := hx
    cases q : cs[i]? with
    | none => simp [q] at he
    | some u =>
      simp only [q, Option.map_some, Option.some.injEq, Prod.mk.injEq] at he
      obtain ⟨rfl, rfl⟩ := he
      obtain ⟨y, k1, k2⟩ := VRels.get i r1 q
      exact Good.same hh k2 (by simp [execOp, ho, Instr.extract, hxs, k1])
  · cases he

theorem sim_ia (hh : HRel P gl B M ρ h w) (hs : SRel M ρ N s a.tmps) {o : Oper} {t e : TypeId} {x i : Operand} (ho : o.op = .indexAddr t x i) (ht : P.underlying t = some (.slice e)) {sz : Nat} (hsz : szOf P e = some sz)
    {x' i' : Opd} (e1 : opd gl x = some x') (e2 : opd gl i = some i') {v : V} {h' : Heap} (he : op_ia sz x' i' s h = some (v, h')) (h0 : sz ≠ 0) : Good P gl B M ρ h w v h' ((execOp a.eval o).run P w) := by
  have hx := opd_rel hh hs e1
  have hi := opd_rel hh hs e2
  obtain ⟨ii, hii, hii'⟩ := szOf_spec hsz
  have hrun : ∀ (ad : Addr) (len cap j : Nat) (k : IntKind), a.eval x = .slice (some ad) len cap → a.eval i = .int k (j : Int) → j < len → (execOp a.eval o).run P w = .ok (.value (.pointer (some (ad.add (j * sz))))) w := by
    intro ad len cap j k hq hk hlt
    have hc : (0 : Int) ≤ (j : Int) ∧ (j : Int) < (len : Int) := by omega
    simp only [execOp, ho, Instr.indexAt, Sem.run_bind, hk, asIntOf, Sem.run_pure, Result.andThen_ok, run_underlying ht, hq, Sem.run_ite, hc, and_self, if_true, sizeOf, typeInfo, run_program, hii, hii', Int.toNat_natCast]
  unfold op_ia at he
  split at he
  · rename_i j b off len cap sz' ej ex
    rw [ex] at hx
    simp only [VRel] at hx
    obtain ⟨l, ad, cap', k1, k2, k3, k4, k5⟩ := hx
    obtain ⟨k, hk⟩ := asNat_rel ej hi
    cases q : Nat.blt j len
    · simp [q] at he
    · simp only [q, cond_true, Option.some.injEq, Prod.mk.injEq] at he
      obtain ⟨rfl, rfl⟩ := he
      have hlt : j < len := by rw [blt_dec] at q; simpa using q
      have had : ad = ⟨l.blk, l.base + off, none⟩ := by
        rcases k4 with k4 | k4
        · have := capR_le k3
          omega
        · exact k4
      subst had
      refine Good.same hh ?_ (hrun _ len cap' j k k2 hk hlt)
      simp only [VRel]
      exact ⟨l, k1, by rw [addr_add, Nat.add_assoc]⟩
  · rename_i j cs len cap ej ex
    rw [ex] at hx
    simp only [VRel] at hx
    obtain ⟨ad, cap', k2, k3, k4, k5⟩ := hx
    obtain ⟨k, hk⟩ := asNat_rel ej hi
    cases q : (Nat.blt j len && Nat.blt (j * sz) cs.length)
    · simp [q] at he
    · simp only [q, cond_true, Option.some.injEq, Prod.mk.injEq] at he
      obtain ⟨rfl, rfl⟩ := he
      have hlt : j < len ∧ j * sz < cs.length := by simpa [blt_dec] using q
      refine Good.same hh ?_ (hrun _ len cap' j k k2 hk hlt.1)
      rcases k5 with rfl | ⟨row, m1, m2, m3⟩
      · simp at hlt
      · obtain ⟨ab, ao, as⟩ := ad
        cases m2
        simp only [VRel]
        rw [addr_add]
        exact ⟨_, row, rfl, m1, rfl, by have := VRels.drop (j * sz) m3; simpa [List.drop_drop] using this⟩
  · cases he

theorem sim_iaa (hh : HRel P gl B M ρ h w) (hs : SRel M ρ N s a.tmps) {o : Oper} {t e : TypeId} {x i : Operand} (ho : o.op = .indexAddr t x i) {len : Nat} (ht : P.underlying t = some (.array len e)) {sz : Nat} (hsz : szOf P e = some sz)
    {x' i' : Opd} (e1 : opd gl x = some x') (e2 : opd gl i = some i') {v : V} {h' : Heap} (he : op_iaa len sz x' i' s h = some (v, h')) : Good P gl B M ρ h w v h' ((execOp a.eval o).run P w) := by
  have hx := opd_rel hh hs e1
  have hi := opd_rel hh hs e2
  obtain ⟨ii, hii, hii'⟩ := szOf_spec hsz
  have hrun : ∀ (ad : Addr) (j : Nat) (k : IntKind), a.eval x = .pointer (some ad) → a.eval i = .int k (j : Int) → j < len → (execOp a.eval o).run P w = .ok (.value (.pointer (some (ad.add (j * sz))))) w := by
    intro ad j k hq hk hlt
    have hc : (0 : Int) ≤ (j : Int) ∧ (j : Int) < (len : Int) := by omega
    simp only [execOp, ho, Instr.indexAt, Sem.run_bind, hk, asIntOf, Sem.run_pure, Result.andThen_ok, run_underlying ht, hq, sureAddr_run, Sem.run_ite, hc, and_self, if_true, sizeOf, typeInfo, run_program, hii, hii', Int.toNat_natCast]
  unfold op_iaa at he
  split at he
  · rename_i j b off ej ex
    rw [ex] at hx
    simp only [VRel] at hx
    obtain ⟨l, k1, k2⟩ := hx
    obtain ⟨k, hk⟩ := asNat_rel ej hi
    cases q : Nat.blt j len
    · simp [q] at he
    · simp only [q, cond_true, Option.some.injEq, Prod.mk.injEq] at he
      obtain ⟨rfl, rfl⟩ := he
      have hlt : j < len := by rw [blt_dec] at q; simpa using q
      refine Good.same hh ?_ (hrun _ j k k2 hk hlt)
      simp only [VRel]
      exact ⟨l, k1, by rw [addr_add, Nat.add_assoc]⟩
  · rename_i j cs ej ex
    rw [ex] at hx
    simp only [VRel] at hx
    obtain ⟨ad, row, k2, k3, k4, k5⟩ := hx
    obtain ⟨k, hk⟩ := asNat_rel ej hi
    cases q : Nat.blt j len
    · simp [q] at he
    · simp only [q, cond_true, Option.some.injEq, Prod.mk.injEq] at he
      obtain ⟨rfl, rfl⟩ := he
      have hlt : j < len := by rw [blt_dec] at q; simpa using q
      refine Good.same hh ?_ (hrun _ j k k2 hk hlt)
      obtain ⟨ab, ao, as⟩ := ad
      cases k4
      simp only [VRel]
      rw [addr_add]
      exact ⟨_, row, rfl, k3, rfl, by have := VRels.drop (j * sz) k5; simpa [List.drop_drop] using this⟩
  · cases he

theorem lenOf_rel {v : V} {x : Value} {n : Nat} (hv : VRel M ρ v x) (e : lenOf v = some n) : (∃ ad c, x = .slice ad n c) ∨ (∃ l : List UInt8, v = .str l ∧ x = .string ⟨l.toArray⟩ ∧ l.length = n) := by
  unfold lenOf at e
  split at e
  · cases e
    simp only [VRel] at hv
    obtain ⟨_, _, _, _, hv, _⟩ := hv
    exact .inl ⟨_, _, hv⟩
  · cases e
    simp only [VRel] at hv
    exact .inl ⟨_, _, hv⟩
  · cases e
    simp only [VRel] at hv
    obtain ⟨_, _, hv, _⟩ := hv
    exact .inl ⟨_, _, hv⟩
  · cases e
    simp only [VRel] at hv
    exact .inr ⟨_, rfl, hv, rfl⟩
  · cases e
end
end Go.VE
