/- A part of a proof that a small evaluator of the translated code agrees with the model (part Sim10). No statement of the program stands here. -/
import Derived.Test.YtocgoabopiikoaaGreatDoorVeSim9
import Derived.Laws.Build
set_option linter.all false
namespace Go.VE
section
variable {P : Program} {gl : Nat → Option (List V)} {N B : Nat} {M : Mem} {ρ : Rho} {h : Heap} {w : World} {s : Slots} {a : Act}

theorem builtin_run {o : Oper} {c : Call} {b : Builtin} (ho : o.op = .call c) (hc : c.callee = .builtin b) :
    ∃ consts, execOp a.eval o = Go.builtin b c.argTypes o.type consts (c.args.map a.eval) := by
  refine ⟨c.args.map (fun | .const _ => true | _ => false), ?_⟩
  simp only [execOp, ho, resolve, hc, pure_bind, invoke]
  rfl

theorem args1 {args : Array Operand} {x : Operand} (h : args.toList = [x]) : args.map a.eval = #[a.eval x] := by
  apply Array.ext'
  simp [h]
theorem args2 {args : Array Operand} {x y : Operand} (h : args.toList = [x, y]) : args.map a.eval = #[a.eval x, a.eval y] := by
  apply Array.ext'
  simp [h]
theorem arr1 {α : Type} {xs : Array α} {x : α} (h : xs.toList = [x]) : xs = #[x] := by apply Array.ext'; simpa using h
theorem arr2 {α : Type} {xs : Array α} {x y : α} (h : xs.toList = [x, y]) : xs = #[x, y] := by apply Array.ext'; simpa using h

theorem sim_len (hh : HRel P gl B M ρ h w) (hs : SRel M ρ N s a.tmps) {o : Oper} {c : Call} (ho : o.op = .call c) (hc : c.callee = .builtin .len) {x : Operand} (hx : c.args.toList = [x]) {t : TypeId} (hty : c.argTypes.toList = [t])
    {e : TypeId} (ht : P.underlying t = some (.slice e)) {x' : Opd} (e1 : opd gl x = some x') {v : V} {h' : Heap} (he : op_len x' s h = some (v, h')) :
    Good P gl B M ρ h w v h' ((execOp a.eval o).run P w) := by
  have hv := opd_rel hh hs e1
  obtain ⟨consts, hrun⟩ := builtin_run (a := a) ho hc
  rw [hrun, args1 hx, arr1 hty]
  unfold op_len at he
  split at he
  · cases he
  · rename_i hns
    cases q : lenOf (x'.ev s) with
    | none => simp [q] at he
    | some n =>
      simp only [q, Option.some.injEq, Prod.mk.injEq] at he
      obtain ⟨rfl, rfl⟩ := he
      refine Good.same hh (x := .int .i64 n) (by simp [VRel]) ?_
      rcases lenOf_rel hv q with ⟨ad, cap, hx'⟩ | ⟨l, hl, hx', hn⟩
      · simp [Go.builtin, Builtin.len_, run_underlying ht, hx', goInt]
      · exact absurd hl (hns l)

theorem sim_lens (hh : HRel P gl B M ρ h w) (hs : SRel M ρ N s a.tmps) {o : Oper} {c : Call} (ho : o.op = .call c) (hc : c.callee = .builtin .len) {x : Operand} (hx : c.args.toList = [x]) {t : TypeId} (hty : c.argTypes.toList = [t])
    (ht : P.underlying t = some .string) {x' : Opd} (e1 : opd gl x = some x') {v : V} {h' : Heap} (he : op_lens x' s h = some (v, h')) :
    Good P gl B M ρ h w v h' ((execOp a.eval o).run P w) := by
  have hv := opd_rel hh hs e1
  obtain ⟨consts, hrun⟩ := builtin_run (a := a) ho hc
  rw [hrun, args1 hx, arr1 hty]
  unfold op_lens at he
  split at he
  · rename_i l hl
    cases he
    rw [hl] at hv
    simp only [VRel] at hv
    refine Good.same hh (x := .int .i64 l.length) (by simp [VRel]) ?_
    simp [Go.builtin, Builtin.len_, run_underlying ht, hv, goInt, size_mk]
  · cases he

theorem sim_lenc (hh : HRel P gl B M ρ h w) {o : Oper} {c : Call} (ho : o.op = .call c) (hc : c.callee = .builtin .len) {x : Operand} (hx : c.args.toList = [x]) {t : TypeId} (hty : c.argTypes.toList = [t]) {n : Nat}
    (ht : (∃ e, P.underlying t = some (.array n e)) ∨ ∃ u e, P.underlying t = some (.pointer u) ∧ P.underlying u = some (.array n e)) {v : V} {h' : Heap} (he : op_lenc n s h = some (v, h')) :
    Good P gl B M ρ h w v h' ((execOp a.eval o).run P w) := by
  obtain ⟨consts, hrun⟩ := builtin_run (a := a) ho hc
  rw [hrun, args1 hx, arr1 hty]
  cases he
  refine Good.same hh (x := .int .i64 n) (by simp [VRel]) ?_
  rcases ht with ⟨e, ht⟩ | ⟨u, e, ht, hu⟩
  · simp [Go.builtin, Builtin.len_, run_underlying ht, goInt]
  · simp [Go.builtin, Builtin.len_, run_underlying ht, run_underlying hu, goInt]

theorem min2_rel {u v r : V} {x y : Value} (hu : VRel M ρ u x) (hv : VRel M ρ v y) (e : min2 u v = some r) : ∃ z, (Builtin.min2 x y).run P w = .ok z w ∧ VRel M ρ r z := by
  unfold min2 at e
  split at e
  · cases e
    simp only [VRel] at hu hv
    subst hu hv
    rename_i k c k' d
    refine ⟨.int k (if d < c then d else c), by simp [Builtin.min2], ?_⟩
    simp only [VRel, ltI_eq, cond_eq_ite, decide_eq_true_eq]
  · cases e
theorem max2_rel {u v r : V} {x y : Value} (hu : VRel M ρ u x) (hv : VRel M ρ v y) (e : max2 u v = some r) : ∃ z, (Builtin.max2 x y).run P w = .ok z w ∧ VRel M ρ r z := by
  unfold max2 at e
  split at e
  · cases e
    simp only [VRel] at hu hv
    subst hu hv
    rename_i k c k' d
    refine ⟨.int k (if d > c then d else c), by simp [Builtin.max2], ?_⟩
    simp only [VRel, ltI_eq, cond_eq_ite, decide_eq_true_eq, gt_iff_lt]
  · cases e

theorem fold2_rel {f : V → V → Option V} {g : Value → Value → Sem Value} (hfg : ∀ {u v r x y}, VRel M ρ u x → VRel M ρ v y → f u v = some r → ∃ z, (g x y).run P w = .ok z w ∧ VRel M ρ r z) :
    ∀ {vs : List V} {u r : V} {xs : List Value} {x : Value}, VRel M ρ u x → VRels M ρ vs xs → vs.length = xs.length → fold2 f u vs = some r → ∃ z, (xs.foldlM g x).run P w = .ok z w ∧ VRel M ρ r z
  | [], u, r, xs, x, hu, hv, hl, e => by
    have : xs = [] := List.eq_nil_of_length_eq_zero (by simpa using hl.symm)
    subst this
    simp [fold2] at e
    subst e
    exact ⟨x, by simp, hu⟩
  | v :: vs, u, r, xs, x, hu, hv, hl, e => by
    obtain ⟨y, ys, rfl, k1, k2⟩ := VRels.cons_iff.1 hv
    simp only [fold2] at e
    split at e
    · rename_i z hz
      obtain ⟨z', m1, m2⟩ := hfg hu k1 hz
      obtain ⟨q, n1, n2⟩ := fold2_rel hfg m2 k2 (by simpa using hl) e
      exact ⟨q, by simp [m1, n1], n2⟩
    · cases e

theorem sim_mini (hh : HRel P gl B M ρ h w) (hs : SRel M ρ N s a.tmps) {o : Oper} {c : Call} (ho : o.op = .call c) (hc : c.callee = .builtin .min) {xs : List Opd} (e1 : opds gl c.args.toList = some xs) {v : V} {h' : Heap} (he : op_mini xs s h = some (v, h')) :
    Good P gl B M ρ h w v h' ((execOp a.eval o).run P w) := by
  obtain ⟨consts, hrun⟩ := builtin_run (a := a) ho hc
  obtain ⟨k1, k2⟩ := opds_rel hh hs e1
  rw [hrun]
  unfold op_mini at he
  split at he
  · rename_i u l hl
    cases q : fold2 min2 u l with
    | none => simp [q] at he
    | some r =>
      simp only [q, Option.map_some, Option.some.injEq, Prod.mk.injEq] at he
      obtain ⟨rfl, rfl⟩ := he
      rw [hl] at k1 k2
      obtain ⟨y, ys, hy, m1, m2⟩ := VRels.cons_iff.1 k1
      have hlen : l.length = ys.length := by
        have := congrArg List.length hy
        simp at this k2
        omega
      obtain ⟨z, n1, n2⟩ := fold2_rel (g := Builtin.min2) (fun h1 h2 h3 => min2_rel (P := P) (w := w) h1 h2 h3) m1 m2 hlen q
      refine Good.same hh n2 ?_
      simp [Go.builtin, Builtin.min_, hy, n1]
  · cases he

theorem sim_maxi (hh : HRel P gl B M ρ h w) (hs : SRel M ρ N s a.tmps) {o : Oper} {c : Call} (ho : o.op = .call c) (hc : c.callee = .builtin .max) {xs : List Opd} (e1 : opds gl c.args.toList = some xs) {v : V} {h' : Heap} (he : op_maxi xs s h = some (v, h')) :
    Good P gl B M ρ h w v h' ((execOp a.eval o).run P w) := by
  obtain ⟨consts, hrun⟩ := builtin_run (a := a) ho hc
  obtain ⟨k1, k2⟩ := opds_rel hh hs e1
  rw [hrun]
  unfold op_maxi at he
  split at he
  · rename_i u l hl
    cases q : fold2 max2 u l with
    | none => simp [q] at he
    | some r =>
      simp only [q, Option.map_some, Option.some.injEq, Prod.mk.injEq] at he
      obtain ⟨rfl, rfl⟩ := he
      rw [hl] at k1 k2
      obtain ⟨y, ys, hy, m1, m2⟩ := VRels.cons_iff.1 k1
      have hlen : l.length = ys.length := by
        have := congrArg List.length hy
        simp at this k2
        omega
      obtain ⟨z, n1, n2⟩ := fold2_rel (g := Builtin.max2) (fun h1 h2 h3 => max2_rel (P := P) (w := w) h1 h2 h3) m1 m2 hlen q
      refine Good.same hh n2 ?_
      simp [Go.builtin, Builtin.max_, hy, n1]
  · cases he

theorem sim_mkif (hh : HRel P gl B M ρ h w) (hs : SRel M ρ N s a.tmps) {o : Oper} {t : TypeId} {x : Operand} (ho : o.op = .makeInterface t x) {d : TypeDesc} (ht : P.underlying t = some d) (hd : ∀ m, d ≠ .interface m) {x' : Opd} (e1 : opd gl x = some x')
    {v : V} {h' : Heap} (he : op_mkif t x' s h = some (v, h')) : Good P gl B M ρ h w v h' ((execOp a.eval o).run P w) := by
  have hx := opd_rel hh hs e1
  cases he
  refine Good.same hh (x := .iface t (a.eval x)) (by simp only [VRel]; exact ⟨_, rfl, hx⟩) ?_
  have := run_makeInterface (P := P) w t (a.eval x) (by unfold Program.concrete; rw [ht]; cases d <;> simp_all)
  simp only [execOp, ho, Sem.run_bind, this, Result.andThen_ok, Sem.run_pure]

-- ------------------------------------------------------------------ slicing

theorem bound_rel {x : Option V} {X : Option Value} (hx : match x, X with | none, none => True | some u, some y => VRel M ρ u y | _, _ => False) {d m n : Nat} (e : bound x d m = some n) (code : BoundsCode) {m' : Nat} (hm : m ≤ m') :
    match X with
    | none => n = d
    | some y => (Instr.sliceBound y m' code).run P w = .ok n w ∧ n ≤ m := by
  unfold bound at e
  split at e
  · cases e
    cases X with
    | none => rfl
    | some y => simp at hx
  · rename_i u
    cases X with
    | none => simp at hx
    | some y =>
      simp only at hx
      split at e
      · rename_i k hk
        cases q : Nat.ble k m
        · simp [q] at e
        · simp only [q, cond_true, Option.some.injEq] at e
          subst e
          obtain ⟨kk, rfl⟩ := asNat_rel hk hx
          have hle : k ≤ m := by rw [ble_dec] at q; simpa using q
          refine ⟨?_, hle⟩
          have hc : (0 : Int) ≤ (k : Int) ∧ (k : Int) ≤ (m' : Int) := by omega
          simp only [Instr.sliceBound, asIntOf, Sem.run_bind, Sem.run_pure, Result.andThen_ok, Sem.run_ite, hc, and_self, if_true, Int.toNat_natCast]
      · cases e

def ORel (M : Mem) (ρ : Rho) (x : Option V) (X : Option Value) : Prop :=
  match x, X with
  | none, none => True
  | some u, some y => VRel M ρ u y
  | _, _ => False

theorem opdo_rel (hh : HRel P gl B M ρ h w) (hs : SRel M ρ N s a.tmps) {x : Option Operand} {o : Option Opd} (e : opdo gl x = some o) : ORel M ρ (evo s o) (x.map a.eval) := by
  cases x with
  | none =>
    simp only [opdo, Option.some.injEq] at e
    subst e
    simp [evo, ORel]
  | some x =>
    simp only [opdo] at e
    cases q : opd gl x with
    | none => simp [q] at e
    | some u =>
      simp only [q, Option.map_some, Option.some.injEq] at e
      subst e
      exact opd_rel hh hs q

/-- The three bounds, in a row whose capacity may be greater than we know. -/
theorem bounds_rel {lo hi mx : Option V} {L H X : Option Value} (hl : ORel M ρ lo L) (hhi : ORel M ρ hi H) (hm : ORel M ρ mx X) (hx : X = none ∨ H ≠ none) {isSlice : Bool} {len cap cap' m hh l : Nat} (hcap : cap ≤ cap')
    (e1 : bound mx cap cap = some m) (e2 : bound hi len m = some hh) (e3 : bound lo 0 hh = some l) :
    ∃ m', (Instr.sliceBounds isSlice len cap' L H X).run P w = .ok (l, hh, m') w ∧ (X = none → m' = cap' ∧ m = cap) ∧ (X ≠ none → m' = m) ∧ m ≤ cap ∧ (L = none → l = 0) ∧ (H = none → hh = len) ∧ (L ≠ none → l ≤ hh) ∧ (H ≠ none → hh ≤ m) := by
  have b1 := fun code => bound_rel (P := P) (w := w) (m' := cap') hm e1 code hcap
  cases X with
  | none =>
    simp only at b1
    have hmc := b1 .index
    subst hmc
    have b2 := fun code => bound_rel (P := P) (w := w) (m' := cap') hhi e2 code hcap
    have b3 := fun code => bound_rel (P := P) (w := w) (m' := hh) hl e3 code (Nat.le_refl _)
    refine ⟨cap', ?_, fun _ => ⟨rfl, rfl⟩, by simp, Nat.le_refl _, ?_, ?_, ?_, ?_⟩
    · cases H with
      | none =>
        have hq := b2 .index
        simp only at hq
        subst hq
        cases L with
        | none =>
          have hq3 := b3 .index
          simp only at hq3
          subst hq3
          simp [Instr.sliceBounds]
        | some y => simp [Instr.sliceBounds, (b3 _).1]
      | some z =>
        cases L with
        | none =>
          have hq3 := b3 .index
          simp only at hq3
          subst hq3
          simp [Instr.sliceBounds, (b2 _).1]
        | some y => simp [Instr.sliceBounds, (b2 _).1, (b3 _).1]
    · rintro rfl; exact b3 .index
    · rintro rfl; exact b2 .index
    · intro hq; cases L with
      | none => exact absurd rfl hq
      | some y => exact (b3 .index).2
    · intro hq; cases H with
      | none => exact absurd rfl hq
      | some y => exact (b2 .index).2
  | some xm =>
    simp only at b1
    have b2 := fun code => bound_rel (P := P) (w := w) (m' := m) hhi e2 code (Nat.le_refl _)
    have b3 := fun code => bound_rel (P := P) (w := w) (m' := hh) hl e3 code (Nat.le_refl _)
    cases H with
    | none => simp at hx
    | some z =>
      refine ⟨m, ?_, by simp, fun _ => rfl, (b1 .index).2, ?_, by simp, ?_, ?_⟩
      · cases L with
        | none =>
          have hq3 := b3 .index
          simp only at hq3
          subst hq3
          simp [Instr.sliceBounds, (b1 _).1, (b2 _).1]
        | some y => simp [Instr.sliceBounds, (b1 _).1, (b2 _).1, (b3 _).1]
      · rintro rfl; exact b3 .index
      · intro hq; cases L with
        | none => exact absurd rfl hq
        | some y => exact (b3 .index).2
      · intro _; exact (b2 .index).2
end
end Go.VE
