/- A part of a proof that a small evaluator of the translated code agrees with the model (part Sim4). No statement of the program stands here. -/
import Derived.Test.YtocgoabopiikoaaGreatDoorVeSim3
set_option linter.all false
namespace Go.VE
def nilVal : Nat → Value
  | 0 => .pointer none
  | 1 => .slice none 0 0
  | 2 => .map none
  | 3 => .nilFunc
  | _ => .nilIface
def nonNil : Nat → Value → Prop
  | 0, x => ∃ a, x = .pointer (some a)
  | 1, x => ∃ a n c, x = .slice (some a) n c
  | 2, x => ∃ r, x = .map (some r)
  | 3, x => ∃ f p q, x = .func f p q
  | _, x => ∃ t v, x = .iface t v
def kindD : TypeDesc → Option Nat
  | .pointer _ => some 0
  | .slice _ => some 1
  | .map _ _ => some 2
  | .func _ _ _ => some 3
  | .interface _ => some 4
  | _ => none

section
variable {P : Program} {gl : Nat → Option (List V)} {N B : Nat} {M : Mem} {ρ : Rho} {h : Heap} {w : World} {s : Slots} {a : Act}

theorem isNil_true {k : Nat} {v : V} {x : Value} (e : isNil k v = some true) (hv : VRel M ρ v x) : x = nilVal k := by
  unfold isNil at e
  split at e <;> first
    | (simp only [VRel] at hv; exact hv)
    | simp at e
theorem isNil_false {k : Nat} {v : V} {x : Value} (e : isNil k v = some false) (hv : VRel M ρ v x) : nonNil k x := by
  unfold isNil at e
  split at e <;> first
    | (simp at e; done)
    | (simp only [VRel] at hv
       first
        | (obtain ⟨_, _, hv⟩ := hv; exact ⟨_, hv⟩)
        | (obtain ⟨_, _, hv, _⟩ := hv; exact ⟨_, hv⟩)
        | (obtain ⟨_, _, _, _, hv, _⟩ := hv; exact ⟨_, _, _, hv⟩)
        | (obtain ⟨_, _, hv, _⟩ := hv; exact ⟨_, _, _, hv⟩)
        | (obtain ⟨_, hv, _⟩ := hv; exact ⟨_, _, _, hv⟩)
        | (obtain ⟨_, _, hv⟩ := hv; exact ⟨_, _, _, hv⟩)
        | (obtain ⟨_, hv, _⟩ := hv; exact ⟨_, _, hv⟩))

theorem equalIn_nil_nil (n : Nat) {t : TypeId} {d : TypeDesc} {k : Nat} (ht : P.underlying t = some d) (hk : kindD d = some k) :
    (Op.equalIn (n + 1) t (nilVal k) (nilVal k)).run P w = .ok true w := by
  cases d <;> simp only [kindD, Option.some.injEq] at hk <;> first
    | (cases hk; done)
    | (subst hk; simp [Op.equalIn, run_underlying ht, nilVal])
theorem equal_nil_nil {t : TypeId} {d : TypeDesc} {k : Nat} (ht : P.underlying t = some d) (hk : kindD d = some k) :
    (Op.equal t (nilVal k) (nilVal k)).run P w = .ok true w := equalIn_nil_nil 9999 ht hk
theorem equalIn_nil_non (n : Nat) {t : TypeId} {d : TypeDesc} {k : Nat} (ht : P.underlying t = some d) (hk : kindD d = some k) {x : Value} (hx : nonNil k x) :
    (Op.equalIn (n + 1) t (nilVal k) x).run P w = .ok false w ∧ (Op.equalIn (n + 1) t x (nilVal k)).run P w = .ok false w := by
  cases d <;> simp only [kindD, Option.some.injEq] at hk <;> first
    | (cases hk; done)
    | (subst hk
       first
        | (obtain ⟨_, rfl⟩ := hx; constructor <;> simp [Op.equalIn, run_underlying ht, nilVal]; done)
        | (obtain ⟨_, _, _, rfl⟩ := hx; constructor <;> simp [Op.equalIn, run_underlying ht, nilVal]; done)
        | (obtain ⟨_, _, rfl⟩ := hx; constructor <;> simp [Op.equalIn, run_underlying ht, nilVal]; done))
theorem equal_nil_non {t : TypeId} {d : TypeDesc} {k : Nat} (ht : P.underlying t = some d) (hk : kindD d = some k) {x : Value} (hx : nonNil k x) :
    (Op.equal t (nilVal k) x).run P w = .ok false w ∧ (Op.equal t x (nilVal k)).run P w = .ok false w := equalIn_nil_non 9999 ht hk hx

theorem eqNil_run {t : TypeId} {d : TypeDesc} {k : Nat} (ht : P.underlying t = some d) (hk : kindD d = some k) {u v : V} {x y : Value} (hu : VRel M ρ u x) (hv : VRel M ρ v y) {r : Bool} (e : eqNil k u v = some r) :
    (Op.equal t x y).run P w = .ok r w ∧ ((∀ c, x ≠ .agg c) ∧ (x = .nilIface ∧ y = .nilIface → k = 4)) := by
  have notagg : ∀ {x : Value}, (x = nilVal k ∨ nonNil k x) → ∀ c, x ≠ .agg c := by
    intro x hx c hc
    subst hc
    rcases hx with hx | hx
    · unfold nilVal at hx; split at hx <;> cases hx
    · unfold nonNil at hx
      split at hx
      · obtain ⟨_, q⟩ := hx; cases q
      · obtain ⟨_, _, _, q⟩ := hx; cases q
      · obtain ⟨_, q⟩ := hx; cases q
      · obtain ⟨_, _, _, q⟩ := hx; cases q
      · obtain ⟨_, _, q⟩ := hx; cases q
  have nili : ∀ {x : Value}, (x = nilVal k ∨ nonNil k x) → x = .nilIface → k = 4 := by
    intro x hx hc
    subst hc
    have hk' : k ≤ 4 := by
      cases d <;> simp only [kindD, Option.some.injEq] at hk <;> first | (cases hk; done) | omega
    have hk5 : k = 0 ∨ k = 1 ∨ k = 2 ∨ k = 3 ∨ k = 4 := by omega
    rcases hk5 with rfl | rfl | rfl | rfl | rfl <;> first | rfl | (exfalso; simp [nilVal, nonNil] at hx)
  unfold eqNil at e
  split at e
  · rename_i n h1 h2
    cases e
    have hx := isNil_true h1 hu
    subst hx
    cases r with
    | true =>
      have hy := isNil_true h2 hv
      subst hy
      exact ⟨equal_nil_nil ht hk, notagg (.inl rfl), fun q => nili (.inl rfl) q.1⟩
    | false => exact ⟨(equal_nil_non ht hk (isNil_false h2 hv)).1, notagg (.inl rfl), fun q => nili (.inl rfl) q.1⟩
  · rename_i n h1 h2
    cases e
    have hy := isNil_true h2 hv
    subst hy
    cases r with
    | true =>
      have hx := isNil_true h1 hu
      subst hx
      exact ⟨equal_nil_nil ht hk, notagg (.inl rfl), fun q => nili (.inl rfl) q.1⟩
    | false =>
      have hx := isNil_false h1 hu
      exact ⟨(equal_nil_non ht hk hx).2, notagg (.inr hx), fun q => nili (.inr hx) q.1⟩
  · cases e

theorem isC_iff {x : Operand} : isC x = true ↔ (x matches .const _) = true := by cases x <;> simp [isC]

theorem eqGuard_nil {op : BinOp} {t : TypeId} {x y : Operand} {A C : Value} (h1 : A = .nilIface ∧ C = .nilIface → (isC x || isC y) = true) (h2 : ∀ c, A ≠ .agg c) : (eqGuard op t x y A C).run P w = .ok () w := by
  unfold eqGuard
  cases op <;> simp only [Sem.run_bind, Sem.run_pure, Result.andThen_ok] <;> first
    | rfl
    | (simp only [Bool.not_true, Bool.false_eq_true, if_false, Sem.run_ite]
       split
       · have := h1 ⟨rfl, rfl⟩
         cases x <;> cases y <;> simp_all [isC]
       · simp_all
       · rfl)

theorem binOp_eq_run {t : TypeId} {x y : Value} {r neg : Bool} (hr : (Op.equal t x y).run P w = .ok r w) (hx : (∀ k n, x ≠ .int k n) ∧ (∀ b, x ≠ .string b) ∧ (∀ k n, x ≠ .float k n) ∧ (∀ k n m, x ≠ .complex k n m)) :
    (Go.binOp (if neg then .neq else .eql) t x y).run P w = .ok (.bool (bif neg then !r else r)) w := by
  obtain ⟨h1, h2, h3, h4⟩ := hx
  cases neg
  · simp only [Bool.false_eq_true, if_false, cond_false]
    unfold Go.binOp
    split <;> simp_all
  · simp only [if_true, cond_true]
    unfold Go.binOp
    split <;> simp_all

theorem nil_not {k : Nat} {x : Value} (hx : x = nilVal k ∨ nonNil k x) : (∀ k n, x ≠ .int k n) ∧ (∀ b, x ≠ .string b) ∧ (∀ k n, x ≠ .float k n) ∧ (∀ k n m, x ≠ .complex k n m) := by
  rcases hx with rfl | hx
  · unfold nilVal; split <;> simp
  · unfold nonNil at hx
    split at hx
    · obtain ⟨_, rfl⟩ := hx; simp
    · obtain ⟨_, _, _, rfl⟩ := hx; simp
    · obtain ⟨_, rfl⟩ := hx; simp
    · obtain ⟨_, _, _, rfl⟩ := hx; simp
    · obtain ⟨_, _, rfl⟩ := hx; simp

theorem sim_eqn (hh : HRel P gl B M ρ h w) (hs : SRel M ρ N s a.tmps) {o : Oper} {t u : TypeId} {x y : Operand} {neg : Bool} (ho : o.op = .binOp (if neg then .neq else .eql) t x y u)
    {d : TypeDesc} {k : Nat} (ht : P.underlying t = some d) (hk : kindD d = some k) (hc : k = 4 → (isC x || isC y) = true) {x' y' : Opd} (e1 : opd gl x = some x') (e2 : opd gl y = some y')
    {v : V} {h' : Heap} (he : op_eqn neg k x' y' s h = some (v, h')) :
    Good P gl B M ρ h w v h' ((execOp a.eval o).run P w) := by
  have hx := opd_rel hh hs e1
  have hy := opd_rel hh hs e2
  unfold op_eqn at he
  split at he
  · rename_i r hr
    cases he
    obtain ⟨k1, k2, k3⟩ := eqNil_run (w := w) ht hk hx hy hr
    have hform : a.eval x = nilVal k ∨ nonNil k (a.eval x) := by
      cases q : isNil k (x'.ev s) with
      | none => simp [eqNil, q] at hr
      | some n =>
        cases n
        · exact .inr (isNil_false q hx)
        · exact .inl (isNil_true q hx)
    have hg := eqGuard_nil (P := P) (w := w) (op := if neg then .neq else .eql) (t := t) (x := x) (y := y) (A := a.eval x) (C := a.eval y) (fun q => hc (k3 q)) k2
    have hb := binOp_eq_run (neg := neg) k1 (nil_not hform)
    exact Good.same hh (x := .bool (bif neg then !r else r)) (by simp [VRel]) (by simp [execOp, ho, hg, hb])
  · cases he
end
end Go.VE
