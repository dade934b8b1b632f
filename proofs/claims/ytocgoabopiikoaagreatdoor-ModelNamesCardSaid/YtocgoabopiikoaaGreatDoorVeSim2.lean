/- A part of a proof that a small evaluator of the translated code agrees with the model (part Sim2). No statement of the program stands here. -/
import Derived.Test.YtocgoabopiikoaaGreatDoorVeSim1
set_option linter.all false
namespace Go.VE

theorem kEq_iff (a b : IntKind) : kEq a b = true ↔ a = b := by cases a <;> cases b <;> simp [kEq]
theorem eqI_eq (a b : Int) : eqI a b = (a == b) := by
  rw [Bool.eq_iff_iff]
  cases a <;> cases b <;> simp [eqI, beq_dec] <;> omega
theorem ltI_eq (a b : Int) : ltI a b = decide (a < b) := by
  rw [Bool.eq_iff_iff]
  cases a <;> cases b <;> simp [ltI, blt_dec] <;> omega
theorem not_lt_dec (a b : Int) : (!decide (b < a)) = decide (a ≤ b) := by
  by_cases q : b < a
  · have : ¬ a ≤ b := by omega
    simp [q, this]
  · have : a ≤ b := by omega
    simp [q, this]
theorem md_eq (k : IntKind) : (md k : Int) = 2 ^ k.bits := by cases k <;> rfl
theorem md_nat (k : IntKind) : md k = 2 ^ k.bits := by cases k <;> rfl
theorem low_eq (k : IntKind) (n : Int) : (low k n : Int) = n % 2 ^ k.bits := by
  cases k <;> cases n <;> simp only [low, md, IntKind.bits, Int.ofNat_eq_natCast, Int.negSucc_eq] <;> omega
theorem wr_eq (k : IntKind) (n : Int) : wr k n = k.wrap n := by
  have h := low_eq k n
  have hm := md_eq k
  unfold wr IntKind.wrap
  rw [← h]
  cases k <;> simp only [hf, IntKind.bits, IntKind.signed, md, Bool.false_and, Bool.true_and, Bool.false_eq_true, if_false, blt_dec, cond_eq_ite, decide_eq_true_eq, ge_iff_le] at *
  all_goals first
    | rfl
    | (split <;> split <;> first | rfl | (simp only [Int.ofNat_eq_natCast, Int.negSucc_eq] at *; omega))
theorem low_bv (k : IntKind) (n : Int) : low k n = (BitVec.ofInt k.bits n).toNat := by
  have h := low_eq k n
  rw [BitVec.toNat_ofInt]
  have e : ((2 ^ k.bits : Nat) : Int) = 2 ^ k.bits := by cases k <;> rfl
  rw [e]
  omega
theorem low_lt (k : IntKind) (n : Int) : low k n < md k := by
  have h := low_eq k n
  have h1 := md_eq k
  have h2 : n % (2 : Int) ^ k.bits < 2 ^ k.bits := Int.emod_lt_of_pos _ (by cases k <;> decide)
  omega

section
variable {P : Program} {gl : Nat → Option (List V)} {N B : Nat} {M : Mem} {ρ : Rho} {h : Heap} {w : World} {s : Slots} {a : Act}

theorem bitOp_run {op : BinOp} {k : IntKind} {x y r : Int} (e : bitOp op k x y = some r) : (Op.intBits op k x y).run P w = .ok (.int k r) w := by
  cases op <;> simp only [bitOp, Option.some.injEq] at e <;> first
    | cases e; done
    | (subst e
       simp only [Op.intBits, Sem.run_pure, wr_eq, low_bv, BitVec.toNat_and, BitVec.toNat_or, BitVec.toNat_xor, BitVec.toNat_not, md_nat]
       rfl)

theorem bits_run {op : BinOp} {k : IntKind} {x y : Int} {v : V} {t : TypeId} (hb : Go.binOp op t (.int k x) (.int k y) = Op.intBits op k x y) (e : (bitOp op k x y).map (.int k) = some v) :
    ∃ X, (Go.binOp op t (.int k x) (.int k y)).run P w = .ok X w ∧ VRel M ρ v X := by
  cases q : bitOp op k x y with
  | none => simp [q] at e
  | some r =>
    simp only [q, Option.map_some, Option.some.injEq] at e
    subst e
    exact ⟨.int k r, by rw [hb]; exact bitOp_run q, by simp [VRel]⟩

theorem binInt_run {op : BinOp} {k : IntKind} {x y : Int} {v : V} (e : binInt op k x y = some v) {t : TypeId} :
    ∃ X, (Go.binOp op t (.int k x) (.int k y)).run P w = .ok X w ∧ VRel M ρ v X := by
  cases op <;> simp only [binInt] at e
  case add => cases e; exact ⟨_, by simp [Go.binOp, Op.intArith]; rfl, by simp [VRel, wr_eq]⟩
  case sub => cases e; exact ⟨_, by simp [Go.binOp, Op.intArith]; rfl, by simp [VRel, wr_eq]⟩
  case mul => cases e; exact ⟨_, by simp [Go.binOp, Op.intArith]; rfl, by simp [VRel, wr_eq]⟩
  case quo =>
    cases q : eqI y 0
    · simp [q] at e
      subst e
      have : ¬ y = 0 := by rw [eqI_eq] at q; simpa using q
      exact ⟨_, by simp [Go.binOp, Op.intDiv, this]; rfl, by simp [VRel, wr_eq]⟩
    · simp [q] at e
  case rem =>
    cases q : eqI y 0
    · simp [q] at e
      subst e
      have : ¬ y = 0 := by rw [eqI_eq] at q; simpa using q
      exact ⟨_, by simp [Go.binOp, Op.intDiv, this]; rfl, by simp [VRel]⟩
    · simp [q] at e
  case eql => cases e; exact ⟨_, by simp [Go.binOp, Op.intCmp]; rfl, by simp [VRel, eqI_eq]⟩
  case neq => cases e; exact ⟨_, by simp [Go.binOp, Op.intCmp]; rfl, by simp [VRel, eqI_eq, bne]⟩
  case lss => cases e; exact ⟨_, by simp [Go.binOp, Op.intCmp]; rfl, by simp [VRel, ltI_eq]⟩
  case leq => cases e; exact ⟨_, by simp [Go.binOp, Op.intCmp]; rfl, by simp [VRel, ltI_eq, not_lt_dec]⟩
  case gtr => cases e; exact ⟨_, by simp [Go.binOp, Op.intCmp]; rfl, by simp [VRel, ltI_eq]⟩
  case geq => cases e; exact ⟨_, by simp [Go.binOp, Op.intCmp]; rfl, by simp [VRel, ltI_eq, not_lt_dec]⟩
  case shl => cases e
  case shr => cases e
  case and => exact bits_run (by simp [Go.binOp]) e
  case or => exact bits_run (by simp [Go.binOp]) e
  case xor => exact bits_run (by simp [Go.binOp]) e
  case andNot => exact bits_run (by simp [Go.binOp]) e

theorem shiftInt_run {op : BinOp} {k k' : IntKind} {x y : Int} {v : V} (e : shiftInt op k x y = some v) (hop : op = .shl ∨ op = .shr) {t : TypeId} :
    ∃ X, (Go.binOp op t (.int k x) (.int k' y)).run P w = .ok X w ∧ VRel M ρ v X := by
  cases y with
  | negSucc n => simp [shiftInt] at e
  | ofNat n =>
    have hn : ¬ ((Int.ofNat n) < 0) := by simp
    rcases hop with rfl | rfl
    · simp only [shiftInt, Option.some.injEq] at e
      subst e
      refine ⟨.int k (k.wrap (x * 2 ^ min (Int.ofNat n).toNat k.bits)), by simp only [Go.binOp, Op.shift, hn, if_false, Sem.run_pure], ?_⟩
      simp only [VRel, wr_eq]
      congr 2
    · simp only [shiftInt, Option.some.injEq] at e
      subst e
      refine ⟨.int k (x.fdiv (2 ^ min (Int.ofNat n).toNat k.bits)), by simp only [Go.binOp, Op.shift, hn, if_false, Sem.run_pure], ?_⟩
      simp only [VRel]
      congr 1
      have hp : (0 : Int) < 2 ^ Nat.min n k.bits := Int.pow_pos (by decide)
      have e2 : (2 : Int) ^ Nat.min n k.bits = ((2 ^ Nat.min n k.bits : Nat) : Int) := by simp
      rw [Int.fdiv_eq_ediv_of_nonneg _ (by exact Int.le_of_lt hp)]
      show x / 2 ^ Nat.min n k.bits = _
      cases x with
      | ofNat a => rw [e2]; simp [Int.ofNat_eq_natCast]
      | negSucc a =>
        rw [Int.negSucc_ediv _ hp, e2]
        simp only [Int.negSucc_eq]
        congr 1
end
end Go.VE
