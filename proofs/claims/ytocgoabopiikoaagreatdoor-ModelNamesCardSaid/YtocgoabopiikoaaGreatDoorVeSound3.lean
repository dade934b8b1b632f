/- A part of a proof that a small evaluator of the translated code agrees with the model (part Sound3). No statement of the program stands here. -/
import Derived.Test.YtocgoabopiikoaaGreatDoorVeSound2
import Derived.Test.YtocgoabopiikoaaGreatDoorVeIns2
set_option linter.all false
namespace Go.VE
section
variable {P : Program} {gl : Nat → Option (List V)} {pu : Nat → Nat} {N B : Nat} {M : Mem} {ρ : Rho} {h : Heap} {w : World} {s : Slots} {a : Act} {vp : Nat → Option VFn}

structure TabOK (P : Program) (gl : Nat → Option (List V)) (pu : Nat → Nat) (vp : Nat → Option VFn) : Prop where
  fn : ∀ f vf, vp f = some vf → ∃ fn, P.funcs[f]? = some fn ∧ compFn P gl pu vf.mode fn = some vf
  prim : ∀ f vf sz bytes, vp f = some vf → vf.prim = some (sz, bytes) → ∃ t e it ti z, InsW P f t e it ti z ∧ ti.size = sz ∧ ti.bytes = bytes
  mixed : P.follows .mixedOrders = true

/-- A function's body, and what it becomes. -/
theorem TabOK.body (ht : TabOK P gl pu vp) {f : Nat} {vf : VFn} (e : vp f = some vf) (hp : vf.prim = none) : ∃ fn c, P.funcs[f]? = some fn ∧ fn.name ≠ "runtime.NumGoroutine" ∧ fn.body = some c ∧ comp P gl pu fn.ntmps c = some vf.body ∧ compRes P fn.results.toList = some vf.res := by
  obtain ⟨fn, h1, h2⟩ := ht.fn f vf e
  unfold compFn at h2
  split at h2
  · cases h2
  · rename_i hname
    split at h2
    · split at h2
      · split at h2
        · split at h2
          · obtain ⟨i, _, e2⟩ := map_some h2
            subst e2
            cases hp
          · cases h2
        · cases h2
      · cases h2
    · split at h2
      · rename_i c hc
        split at h2
        · rename_i b r hb hr
          have e2 := Option.some.inj h2
          refine ⟨fn, c, h1, hname, hc, ?_, ?_⟩
          · rw [← e2]; exact hb
          · rw [← e2]; exact hr
        · cases h2
      · cases h2

theorem TabOK.bodied (ht : TabOK P gl pu vp) {f : Nat} {vf : VFn} (e : vp f = some vf) : ∃ fn, P.funcs[f]? = some fn ∧ fn.name ≠ "runtime.NumGoroutine" ∧ fn.body.isSome = true := by
  obtain ⟨fn, h1, h2⟩ := ht.fn f vf e
  refine ⟨fn, h1, ?_⟩
  unfold compFn at h2
  split at h2
  · cases h2
  · rename_i hname
    refine ⟨hname, ?_⟩
    split at h2
    · split at h2
      · split at h2
        · split at h2
          · assumption
          · cases h2
        · cases h2
      · cases h2
    · split at h2
      · rename_i c hc
        rw [hc]
        rfl
      · cases h2

def CallOK (P : Program) (gl : Nat → Option (List V)) (B : Nat) (vp : Nat → Option VFn) (n : Nat) : Prop :=
  ∀ {M : Mem} {ρ : Rho} {h h' : Heap} {w : World} {f : Nat} {args : List V} {v : V} {xs : List Value}, HRel P gl B M ρ h w → VRels M ρ args xs → args.length = xs.length →
    callF vp n f args h = some (v, h') → Calls P f xs.toArray w (fun e w' => ∃ x, e = .returned x ∧ Post P gl B M ρ h w v h' x w')

theorem enter_run {f : FuncId} {fn : Func} (hf : P.funcs[f]? = some fn) (hn : fn.name ≠ "runtime.NumGoroutine") (hb : fn.body.isSome = true) (args : Array Value) (w : World) :
    (callFunc f args).run P w = .ok (.enter f args) w := by
  have h1 : (fn.name == "runtime.NumGoroutine") = false := by simpa using hn
  have h2 : fn.body.isNone = false := by cases hq : fn.body <;> simp_all
  have h3 : ¬ (fn.body = none) := by intro q; rw [q] at hb; cases hb
  simp [callFunc, hf, hn, h3]

set_option maxHeartbeats 1000000 in
theorem isCall_inv {o : Oper} {vo : VOp} (hc : compOp P gl pu o = some vo) (hcall : isCall vo = true) : ∃ c, o.op = .call c ∧ compCall P gl pu c = some vo := by
  unfold compOp at hc
  split at hc
  case h_30 c ho => exact ⟨c, ho, hc⟩
  all_goals
    exfalso
    repeat' split at hc
    all_goals first
      | (cases hc; cases hcall; done)
      | (obtain ⟨_, _, e⟩ := map_some hc; subst e; cases hcall; done)
      | (obtain ⟨_, _, e⟩ := negOf_spec hc; subst e; cases hcall; done)
      | (cases hc; done)

theorem mem_builtin_not {c : Call} {b : Builtin} {as : List Opd} (hb : c.callee = .builtin b) (e2 : opds gl c.args.toList = some as) {vo : VOp} (hc : compCall P gl pu c = some vo) : isCall vo = false := by
  unfold compCall at hc
  rw [hb, e2] at hc
  simp only at hc
  repeat' split at hc
  all_goals first
    | (cases hc; rfl)
    | (obtain ⟨_, _, e⟩ := map_some hc; subst e; rfl)
    | (cases hc; done)

/-- a call of a function by its name, or of a value -/
theorem call_inv {o : Oper} {vo : VOp} (hc : compOp P gl pu o = some vo) (hcall : isCall vo = true) :
    ∃ c, o.op = .call c ∧ ((∃ f as fn, (vo = .call f as ∨ vo = .callp f as ∨ vo = .callo f as) ∧ c.callee = .value (.func f) ∧ opds gl c.args.toList = some as ∧ P.funcs[f]? = some fn ∧ fn.body.isSome = true ∧ fn.name ≠ "runtime.NumGoroutine") ∨
      ∃ g x as, vo = .callv x as ∧ c.callee = .value g ∧ opd gl g = some x ∧ opds gl c.args.toList = some as) := by
  obtain ⟨c, ho, hc'⟩ := isCall_inv hc hcall
  refine ⟨c, ho, ?_⟩
  cases hcal : c.callee with
  | builtin b =>
    cases e2 : opds gl c.args.toList with
    | none => unfold compCall at hc'; rw [hcal, e2] at hc'; cases hc'
    | some as => rw [mem_builtin_not hcal e2 hc'] at hcall; cases hcall
  | invoke r m => unfold compCall at hc'; rw [hcal] at hc'; cases hc'
  | value g =>
    unfold compCall at hc'
    rw [hcal] at hc'
    cases e2 : opds gl c.args.toList with
    | none => rw [e2] at hc'; cases hc'
    | some as =>
      rw [e2] at hc'
      simp only at hc'
      split at hc'
      · rename_i f
        split at hc'
        · rename_i fn hfn
          split at hc'
          · rename_i hb
            split at hc'
            · cases hc'
            · rename_i hname
              left
              refine ⟨f, as, fn, ?_, rfl, rfl, hfn, hb, hname⟩
              have e := Option.some.inj hc'
              unfold callAs at e
              split at e
              · exact .inl e.symm
              · exact .inr (.inl e.symm)
              · exact .inr (.inr e.symm)
          · repeat' split at hc'
            all_goals first | (cases hc'; cases hcall; done) | (cases hc'; done)
        · cases hc'
      · obtain ⟨x, h1, h2⟩ := map_some hc'
        exact .inr ⟨g, x, as, h2.symm, rfl, h1, rfl⟩

theorem okd_some {x : Option VOp} {vo : VOp} (e : okd x = vo) (hb : vo ≠ .bad) : x = some vo ∧ okOp vo = true := by
  unfold okd at e
  split at e
  · rename_i o
    split at e
    · rename_i hk
      subst e
      exact ⟨rfl, hk⟩
    · exact absurd e.symm hb
  · exact absurd e.symm hb

theorem value_call_run {o : Oper} {c : Call} {g : Operand} (ho : o.op = .call c) (hc : c.callee = .value g) {f : FuncId} {caps : Array Value} (hv : a.eval g = .func (.func f) #[] caps) {fn : Func} (hf : P.funcs[f]? = some fn)
    (hn : fn.name ≠ "runtime.NumGoroutine") (hb : fn.body.isSome = true) : (execOp a.eval o).run P w = .ok (.enter f (c.args.map a.eval ++ caps)) w := by
  have := enter_run hf hn hb (c.args.map a.eval ++ caps) w
  simp only [execOp, ho, resolve, hc, hv, Deferred.ofValue, pure_bind, invoke, Array.empty_append]
  exact this

/-- An operation, calls among them: what it leads to. -/
theorem step_sound (ht : TabOK P gl pu vp) {n : Nat} (ih : CallOK P gl B vp n) (ih' : CallOK P gl B vp (n - 1)) (hh : HRel P gl B M ρ h w) (hs : SRel M ρ N s a.tmps) {o : Oper} {vo : VOp} (hc : okd (compOp P gl pu o) = vo)
    {v : V} {h' : Heap} (he : stepOp vp (n + 1) vo s h = some (v, h')) {K : Act → World → Prop} {Q : Exit → Act → World → Prop} (hK : ∀ x w', Post P gl B M ρ h w v h' x w' → K (a.put o.dst x) w') : o.wp P a w K Q := by
  have hbad : vo ≠ .bad := by
    intro q
    subst q
    simp [stepOp, opE] at he
  obtain ⟨hc1, hok⟩ := okd_some hc hbad
  cases hcall : isCall vo with
  | false =>
    have he' : opE vo s h = some (v, h') := by
      cases vo <;> first | (cases hcall; done) | simpa [stepOp] using he
    obtain ⟨ρ', w', x, g1, g2, g3, g4⟩ := op_sim hh hs hc1 hcall hok he'
    have hp := hK x w' ⟨M, ρ', g1, g2, g3⟩
    unfold Oper.wp
    rcases g4 with g4 | ⟨g4, rfl⟩
    · rw [g4]; exact hp
    · rw [g4]; exact hp
  | true =>
    obtain ⟨c, ho, ⟨f, as, fn, hvo, hcal, hargs, hfn, hbody, hname⟩ | ⟨g, x, as, hvo, hcal, hg, hargs⟩⟩ := call_inv hc1 hcall
    · have hcallF : callF vp n f (evs s as) h = some (v, h') := by
        rcases hvo with rfl | rfl | rfl
        · exact he
        all_goals
          simp only [stepOp] at he
          split at he
          · split at he
            · rw [Bool.cond_eq_ite] at he
              split at he
              · exact he
              · cases he
            · cases he
          · cases he
      obtain ⟨r1, r2⟩ := opds_rel hh hs hargs
      have hrun := value_call_run (a := a) (w := w) (P := P) ho hcal (caps := #[]) rfl hfn hname hbody
      unfold Oper.wp
      rw [hrun]
      have := ih hh r1 (by simpa using r2) hcallF
      simp only [Oper.upon]
      have e : c.args.map a.eval ++ #[] = (c.args.toList.map a.eval).toArray := by apply Array.ext'; simp
      rw [e]
      refine Calls.mono this ?_
      rintro e w' ⟨x, rfl, hp⟩
      exact hK x w' hp
    · subst hvo
      simp only [stepOp] at he
      have hx := opd_rel hh hs hg
      obtain ⟨r1, r2⟩ := opds_rel hh hs hargs
      cases n with
      | zero => simp [callV] at he
      | succ n =>
        simp only [callV] at he
        split at he
        · rename_i f caps hxe
          rw [hxe] at hx
          simp only [VRel] at hx
          obtain ⟨ys, e1, e2, e3⟩ := hx
          have hvf : ∃ vf, vp f = some vf := by
            cases n with
            | zero => simp [callF] at he
            | succ n =>
              simp only [callF] at he
              split at he
              · cases he
              · rename_i vf hvf; exact ⟨vf, hvf⟩
          obtain ⟨vf, hvf⟩ := hvf
          obtain ⟨fn, q1, q2, q3⟩ := ht.bodied hvf
          have hrun := value_call_run (a := a) (w := w) (P := P) ho hcal e1 q1 q2 q3
          unfold Oper.wp
          rw [hrun]
          have := ih' hh (VRels.append r1 (by simpa using r2) e3) (by simp [r2, e2]) he
          simp only [Oper.upon]
          have e : c.args.map a.eval ++ ys.toArray = (c.args.toList.map a.eval ++ ys).toArray := by apply Array.ext'; simp
          rw [e]
          refine Calls.mono this ?_
          rintro e w' ⟨x, rfl, hp⟩
          exact hK x w' hp
        · rename_i b hxe
          exfalso
          rw [hxe] at hx
          simp only [VRel] at hx
          obtain ⟨l, e1, _⟩ := hx
          rw [Bool.cond_eq_ite] at he
          split at he
          · cases he
          · have hb := hh.blk b l e1
            split at he
            · rename_i hg
              rw [hg] at hb
              simp [BRel] at hb
            · cases he
        · cases he
end
end Go.VE
