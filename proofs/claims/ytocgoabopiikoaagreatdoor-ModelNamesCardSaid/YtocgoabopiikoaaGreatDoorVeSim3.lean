/- A part of a proof that a small evaluator of the translated code agrees with the model (part Sim3). No statement of the program stands here. -/
import Derived.Test.YtocgoabopiikoaaGreatDoorVeSim2
set_option linter.all false
namespace Go.VE
section
variable {P : Program} {gl : Nat → Option (List V)} {N B : Nat} {M : Mem} {ρ : Rho} {h : Heap} {w : World} {s : Slots} {a : Act}

theorem eqBytes_eq : ∀ (x y : List UInt8), eqBytes x y = (x == y)
  | [], [] => rfl
  | [], _ :: _ => rfl
  | _ :: _, [] => rfl
  | a :: x, b :: y => by
    simp only [eqBytes, beq_dec, eqBytes_eq x y]
    by_cases q : a = b
    · subst q; simp
    · have : ¬ a.toNat = b.toNat := fun e => q (UInt8.toNat_inj.1 e)
      simp [this, q]
theorem strLess_eq : ∀ (x y : List UInt8), strLess x y = Op.bytesLess x y
  | _, [] => by simp [strLess, Op.bytesLess]
  | [], _ :: _ => rfl
  | a :: x, b :: y => by
    simp only [strLess, Op.bytesLess, blt_dec, beq_dec, strLess_eq x y]
    have h1 : decide (a.toNat < b.toNat) = decide (a < b) := by simp [UInt8.lt_iff_toNat_lt]
    have h2 : decide (a.toNat = b.toNat) = (a == b) := by
      rw [Bool.eq_iff_iff]; simp [UInt8.toNat_inj]
    rw [h1, h2]
    cases decide (a < b) <;> cases (a == b) <;> simp

theorem toList_mk (l : List UInt8) : (⟨l.toArray⟩ : ByteArray).toList = l := by rw [ByteArray.toList_eq]
theorem size_mk (l : List UInt8) : (⟨l.toArray⟩ : ByteArray).size = l.length := by simp [ByteArray.size]
theorem append_mk (l r : List UInt8) : (⟨l.toArray⟩ : ByteArray) ++ ⟨r.toArray⟩ = ⟨(l ++ r).toArray⟩ := by
  apply ByteArray.ext
  simp [ByteArray.data_append]

theorem binStr_run {op : BinOp} {x y : List UInt8} {v : V} (e : binStr op x y = some v) {t : TypeId} (hop : op ≠ .shl ∧ op ≠ .shr) :
    ∃ X, (Go.binOp op t (.string ⟨x.toArray⟩) (.string ⟨y.toArray⟩)).run P w = .ok X w ∧ VRel M ρ v X := by
  have hb : Go.binOp op t (.string ⟨x.toArray⟩) (.string ⟨y.toArray⟩) = Op.stringOp op ⟨x.toArray⟩ ⟨y.toArray⟩ := by cases op <;> rfl
  rw [hb]
  cases op <;> simp only [binStr] at e
  case add =>
    cases q : Nat.blt 140737488355328 (x.length + y.length)
    · simp [q] at e
      subst e
      have : ¬ (((x.length + y.length : Nat) : Int) > IntKind.i64.max) := by
        rw [blt_dec] at q
        have : ¬ 140737488355328 < x.length + y.length := by simpa using q
        have hm : IntKind.i64.max = 9223372036854775807 := rfl
        omega
      exact ⟨_, by simp only [Op.stringOp, size_mk, this, if_false, append_mk]; rfl, by simp [VRel]⟩
    · simp [q] at e
  case eql => cases e; exact ⟨_, by simp only [Op.stringOp, toList_mk]; rfl, by simp [VRel, eqBytes_eq]⟩
  case neq => cases e; exact ⟨_, by simp only [Op.stringOp, toList_mk]; rfl, by simp [VRel, eqBytes_eq]⟩
  case lss => cases e; exact ⟨_, by simp only [Op.stringOp, toList_mk]; rfl, by simp [VRel, strLess_eq]⟩
  case leq => cases e; exact ⟨_, by simp only [Op.stringOp, toList_mk]; rfl, by simp [VRel, strLess_eq, eqBytes_eq]⟩
  case gtr => cases e; exact ⟨_, by simp only [Op.stringOp, toList_mk]; rfl, by simp [VRel, strLess_eq, eqBytes_eq]⟩
  case geq => cases e; exact ⟨_, by simp only [Op.stringOp, toList_mk]; rfl, by simp [VRel, strLess_eq]⟩
  all_goals cases e

theorem eqGuard_int {op : BinOp} {t : TypeId} {x y : Operand} {A C : Value} (h1 : (A ≠ .nilIface ∨ C ≠ .nilIface)) (h2 : (∀ c, A ≠ .agg c) ∨ (∀ c, C ≠ .agg c)) : (eqGuard op t x y A C).run P w = .ok () w := by
  unfold eqGuard
  cases op <;> simp only [Sem.run_bind, Sem.run_pure, Result.andThen_ok] <;> first
    | rfl
    | (simp only [Bool.not_true, Bool.false_eq_true, if_false, Sem.run_ite]
       split
       · rcases h1 with h1 | h1 <;> simp_all
       · rcases h2 with h2 | h2 <;> simp_all
       · rfl)

theorem sim_bin (hh : HRel P gl B M ρ h w) (hs : SRel M ρ N s a.tmps) {o : Oper} {op : BinOp} {t u : TypeId} {x y : Operand} (ho : o.op = .binOp op t x y u) {x' y' : Opd}
    (e1 : opd gl x = some x') (e2 : opd gl y = some y') {v : V} {h' : Heap} (he : op_bin op x' y' s h = some (v, h')) :
    Good P gl B M ρ h w v h' ((execOp a.eval o).run P w) := by
  have hx := opd_rel hh hs e1
  have hy := opd_rel hh hs e2
  unfold op_bin at he
  cases q : binOp op (x'.ev s) (y'.ev s) with
  | none => simp [q] at he
  | some r =>
    simp [q] at he
    obtain ⟨rfl, rfl⟩ := he
    unfold binOp at q
    split at q
    · rename_i k c k' d ex ey
      rw [ex] at hx
      rw [ey] at hy
      simp only [VRel] at hx hy
      have hg := fun (op : BinOp) => eqGuard_int (P := P) (w := w) (op := op) (t := t) (x := x) (y := y) (A := .int k c) (C := .int k' d) (.inl (by simp)) (.inl (by simp))
      have hfin : (∃ X, (Go.binOp op t (.int k c) (.int k' d)).run P w = .ok X w ∧ VRel M ρ r X) → Good P gl B M ρ h w r h ((execOp a.eval o).run P w) := by
        rintro ⟨X, k1, k2⟩
        exact Good.same hh k2 (by simp [execOp, ho, hx, hy, hg, k1])
      apply hfin
      split at q
      · exact shiftInt_run q (.inl rfl)
      · exact shiftInt_run q (.inr rfl)
      · cases qk : kEq k k'
        · simp [qk] at q
        · simp only [qk, cond_true] at q
          rw [kEq_iff] at qk
          subst qk
          exact binInt_run q
    · rename_i c d ex ey
      rw [ex] at hx
      rw [ey] at hy
      simp only [VRel] at hx hy
      have hg := eqGuard_int (P := P) (w := w) (op := op) (t := t) (x := x) (y := y) (A := .string ⟨c.toArray⟩) (C := .string ⟨d.toArray⟩) (.inl (by simp)) (.inl (by simp))
      obtain ⟨X, k1, k2⟩ := binStr_run (P := P) (w := w) (M := M) (ρ := ρ) q (t := t) (by constructor <;> (rintro rfl; simp [binStr] at q))
      exact Good.same hh k2 (by simp [execOp, ho, hx, hy, hg, k1])
    · cases q

theorem sim_un (hh : HRel P gl B M ρ h w) (hs : SRel M ρ N s a.tmps) {o : Oper} {op : UnOp} {t : TypeId} {x : Operand} (ho : o.op = .unOp op t x) {x' : Opd}
    (e1 : opd gl x = some x') {v : V} {h' : Heap} (he : op_un op x' s h = some (v, h')) :
    Good P gl B M ρ h w v h' ((execOp a.eval o).run P w) := by
  have hx := opd_rel hh hs e1
  unfold op_un at he
  cases q : unOp op (x'.ev s) with
  | none => simp [q] at he
  | some r =>
    simp [q] at he
    obtain ⟨rfl, rfl⟩ := he
    unfold unOp at q
    split at q
    · rename_i k n ex
      rw [ex] at hx
      cases q
      simp only [VRel] at hx
      exact Good.same hh (x := .int k (k.wrap (0 - n))) (by simp [VRel, wr_eq]) (by simp [execOp, ho, hx, Op.unary, Op.intArith])
    · rename_i k n ex
      rw [ex] at hx
      simp only [VRel] at hx
      cases q2 : bitOp .xor k (if k.signed then -1 else k.max) n with
      | none => simp [q2] at q
      | some m =>
        simp only [q2, Option.map_some, Option.some.injEq] at q
        subst q
        have := bitOp_run (P := P) (w := w) q2
        exact Good.same hh (x := .int k m) (by simp [VRel]) (by simp only [execOp, ho, hx, Op.unary, Sem.run_bind, this]; rfl)
    · rename_i b ex
      rw [ex] at hx
      cases q
      simp only [VRel] at hx
      exact Good.same hh (x := .bool !b) (by simp [VRel]) (by simp [execOp, ho, hx, Op.unary])
    · cases q

theorem sim_cnv (hh : HRel P gl B M ρ h w) (hs : SRel M ρ N s a.tmps) {o : Oper} {t u : TypeId} {x : Operand} (ho : o.op = .convert t u x) {k0 k : IntKind} (ht : P.underlying t = some (.int k0)) (hu : P.underlying u = some (.int k)) {x' : Opd}
    (e1 : opd gl x = some x') {v : V} {h' : Heap} (he : op_cnv k x' s h = some (v, h')) :
    Good P gl B M ρ h w v h' ((execOp a.eval o).run P w) := by
  have hx := opd_rel hh hs e1
  unfold op_cnv at he
  split at he
  · rename_i k1 n ex
    cases he
    rw [ex] at hx
    simp only [VRel] at hx
    exact Good.same hh (x := .int k (k.wrap n)) (by simp [VRel, wr_eq]) (by simp [execOp, ho, hx, convert, run_underlying ht, run_underlying hu, Conv.intToInt])
  · cases he

theorem sim_eqb (hh : HRel P gl B M ρ h w) (hs : SRel M ρ N s a.tmps) {o : Oper} {op : BinOp} {t u : TypeId} {x y : Operand} (ho : o.op = .binOp op t x y u) {neg : Bool} (hop : op = if neg then .neq else .eql)
    (ht : P.underlying t = some .bool) {x' y' : Opd} (e1 : opd gl x = some x') (e2 : opd gl y = some y') {v : V} {h' : Heap} (he : op_eqb neg x' y' s h = some (v, h')) :
    Good P gl B M ρ h w v h' ((execOp a.eval o).run P w) := by
  have hx := opd_rel hh hs e1
  have hy := opd_rel hh hs e2
  unfold op_eqb at he
  split at he
  · rename_i c d ex ey
    cases he
    rw [ex] at hx
    rw [ey] at hy
    simp only [VRel] at hx hy
    have hg := eqGuard_int (P := P) (w := w) (op := op) (t := t) (x := x) (y := y) (A := .bool c) (C := .bool d) (.inl (by simp)) (.inl (by simp))
    have hq := run_equalIn_bool' (P := P) w 9999 t c d ht
    refine Good.same hh (x := .bool (bif neg then !(c == d) else c == d)) (by simp [VRel]) ?_
    cases neg
    · simp only [Bool.false_eq_true, if_false] at hop
      subst hop
      simp [execOp, ho, hx, hy, hg, Go.binOp, Op.equal, Op.maxDepth, hq]
    · simp only [if_true] at hop
      subst hop
      simp [execOp, ho, hx, hy, hg, Go.binOp, Op.equal, Op.maxDepth, hq]
  · cases he
end
end Go.VE
