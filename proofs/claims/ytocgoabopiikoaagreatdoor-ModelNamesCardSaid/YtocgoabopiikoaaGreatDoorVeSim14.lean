/- A part of a proof that a small evaluator of the translated code agrees with the model (part Sim14). No statement of the program stands here. -/
import Derived.Test.YtocgoabopiikoaaGreatDoorVeSim13
import Derived.Laws.Externs
set_option linter.all false
namespace Go.VE
section
variable {P : Program} {gl : Nat → Option (List V)} {N B : Nat} {M : Mem} {ρ : Rho} {h : Heap} {w : World} {s : Slots} {a : Act}

theorem look_none {α : Type} {l : List (String × α)} {n : String} (h : (l.lookup n).isNone = true) : l.lookup n = none := by simpa using h

theorem find_add {fn : Func} (hn : fn.name = "math/bits.Add64") : Extern.find fn = some add64Entry := by
  have h1 : Extern.allGenericRows.lookup "math/bits.Add64" = none := by kernel_rfl
  have h2 : Extern.allTypedRows.lookup "math/bits.Add64" = none := by kernel_rfl
  have h3 : Extern.allRows.lookup "math/bits.Add64" = some add64Entry := by kernel_rfl
  unfold Extern.find
  simp only [hn, h1, h2, h3]
  rfl

theorem next_none {fn : Func} {n : String} (hn : fn.name = n) (ho : fn.origin = "") (h1 : (Extern.allNextRows.lookup n).isNone = true) : Extern.findNext fn = none := by
  have h2 : Extern.allNextRows.lookup "" = none := by kernel_rfl
  unfold Extern.findNext
  simp only [hn, ho, look_none h1, h2]
  rfl
theorem find_sub {fn : Func} (hn : fn.name = "math/bits.Sub64") : ∃ e, Extern.find fn = some e ∧ ∀ (x y : Nat) (c : Nat), c ≤ 1 → ∀ (P : Program) (w : World), (e #[.int .u64 x, .int .u64 y, .int .u64 c]).run P w =
    .ok (Extern.MathBitsCarry.pair ((x + Extern.MathBitsCarry.m64 - y - c) % Extern.MathBitsCarry.m64) (if x < y + c then 1 else 0)) w := by
  have h1 : Extern.allGenericRows.lookup "math/bits.Sub64" = none := by kernel_rfl
  have h2 : Extern.allTypedRows.lookup "math/bits.Sub64" = none := by kernel_rfl
  have h3 : Extern.allRows.lookup "math/bits.Sub64" = some (fun args => do
    let (x, y, b) ← Extern.MathBitsCarry.three "Sub64" args
    pure (Extern.MathBitsCarry.pair ((x + Extern.MathBitsCarry.m64 - y - b) % Extern.MathBitsCarry.m64) (if x < y + b then 1 else 0))) := by kernel_rfl
  refine ⟨_, by unfold Extern.find; simp only [hn, h1, h2, h3]; rfl, ?_⟩
  intro x y c hc P w
  have : c = 0 ∨ c = 1 := by omega
  rcases this with rfl | rfl <;> rfl

theorem add_run (x y : Nat) (c : Nat) (hc : c ≤ 1) (P : Program) (w : World) : (add64Entry #[.int .u64 x, .int .u64 y, .int .u64 c]).run P w =
    .ok (Extern.MathBitsCarry.pair ((x + y + c) % Extern.MathBitsCarry.m64) ((x + y + c) / Extern.MathBitsCarry.m64)) w := by
  have : c = 0 ∨ c = 1 := by omega
  rcases this with rfl | rfl <;> rfl

theorem sim_carry (hh : HRel P gl B M ρ h w) (hs : SRel M ρ N s a.tmps) {o : Oper} {c : Call} (ho : o.op = .call c) {f : FuncId} (hcal : c.callee = .value (.func f)) {fn : Func} (hf : P.funcs[f]? = some fn) (hb : fn.body.isSome = false) (hor : fn.origin = "")
    {sub : Bool} (hn : fn.name = if sub then "math/bits.Sub64" else "math/bits.Add64") {x y z : Opd} (e1 : opds gl c.args.toList = some [x, y, z]) {v : V} {h' : Heap} (he : op_carry sub x y z s h = some (v, h')) :
    Good P gl B M ρ h w v h' ((execOp a.eval o).run P w) := by
  obtain ⟨r1, r2⟩ := opds_rel hh hs e1
  unfold op_carry at he
  split at he
  · rename_i X Y C hx hy hz
    simp only [Bool.cond_eq_ite, ble_dec, decide_eq_true_eq] at he
    split at he
    · rename_i hle
      cases he
      have hargs : c.args.map a.eval = #[.int .u64 (X : Int), .int .u64 (Y : Int), .int .u64 (C : Int)] := by
        simp only [evs, List.map_cons, List.map_nil, hx, hy, hz] at r1
        obtain ⟨x1, l1, q1, q2, q3⟩ := VRels.cons_iff.1 r1
        obtain ⟨x2, l2, q4, q5, q6⟩ := VRels.cons_iff.1 q3
        obtain ⟨x3, l3, q7, q8, q9⟩ := VRels.cons_iff.1 q6
        simp only [VRel] at q2 q5 q8
        have hl3 : l3 = [] := by
          have := congrArg List.length q1
          rw [q4, q7] at this
          simp [evs] at r2 this
          exact List.eq_nil_of_length_eq_zero (by omega)
        apply Array.ext'
        rw [Array.toList_map, q1, q4, q7, hl3, q2, q5, q8]
        rfl
      have hnb : fn.body.isNone = true := by cases hq : fn.body <;> simp_all
      have hname : (fn.name == "runtime.NumGoroutine") = false := by
        rw [hn]; cases sub <;> rfl
      have hcall : ∀ (e : Array Value → Sem Value) (r : Value), Extern.find fn = some e → Extern.findNext fn = none → (e #[.int .u64 (X : Int), .int .u64 (Y : Int), .int .u64 (C : Int)]).run P w = .ok r w →
          (execOp a.eval o).run P w = .ok (.value r) w := by
        intro e r g1 g2 g3
        have := run_callFunc_extern (P := P) hf hname hnb g2 g1 (c.args.map a.eval) w
        rw [hargs, g3] at this
        simp only [execOp, ho, resolve, hcal, Act.eval, Deferred.ofValue, pure_bind, invoke, Array.empty_append, Array.append_empty]
        rw [hargs]
        exact this
      have hpair : ∀ A D : Nat, VRel M ρ (.tup [.int .u64 (.ofNat A), .int .u64 (.ofNat D)]) (Extern.MathBitsCarry.pair A D) := by
        intro A D
        simp only [VRel]
        exact ⟨[_, _], rfl, rfl, VRels.cons_iff.2 ⟨_, _, rfl, by simp [VRel], VRels.cons_iff.2 ⟨_, _, rfl, by simp [VRel], .nil⟩⟩⟩
      cases sub with
      | true =>
        obtain ⟨e, g1, g2⟩ := find_sub (fn := fn) hn
        refine Good.same hh ?_ (hcall e _ g1 (next_none hn hor (by kernel_rfl)) (g2 X Y C hle P w))
        have := hpair ((X + Extern.MathBitsCarry.m64 - Y - C) % Extern.MathBitsCarry.m64) (if X < Y + C then 1 else 0)
        unfold carryV
        simp only [cond_true, Bool.cond_eq_ite, blt_dec, decide_eq_true_eq]
        by_cases hlt : X < Y + C
        · simpa [hlt, Extern.MathBitsCarry.m64] using this
        · simpa [hlt, Extern.MathBitsCarry.m64] using this
      | false =>
        refine Good.same hh ?_ (hcall _ _ (find_add (by simpa using hn)) (next_none (n := "math/bits.Add64") (by simpa using hn) hor (by kernel_rfl)) (add_run X Y C hle P w))
        have := hpair ((X + Y + C) % Extern.MathBitsCarry.m64) ((X + Y + C) / Extern.MathBitsCarry.m64)
        simpa [carryV, Extern.MathBitsCarry.m64] using this
    · cases he
  · cases he

theorem sim_app0 (hh : HRel P gl B M ρ h w) (hs : SRel M ρ N s a.tmps) {o : Oper} {c : Call} (ho : o.op = .call c) (hc : c.callee = .builtin .append) {x y : Operand} (hx : c.args.toList = [x, y]) {t u e : TypeId} (hty : c.argTypes.toList = [t, u])
    (ht : P.underlying t = some (.slice e)) {k : IntKind} (hu : P.underlying u = some (.int k)) {i : TypeInfo} (hi : P.info? e = some i) {zl : List V} (hz : zeroOf P e = some zl) (h0 : zl.length ≠ 0) (hb0 : i.bytes ≠ 0)
    {x' y' : Opd} (e1 : opd gl x = some x') (e2 : opd gl y = some y') {v : V} {h' : Heap} (he : op_app0 i.bytes zl x' y' s h = some (v, h')) :
    Good P gl B M ρ h w v h' ((execOp a.eval o).run P w) := by
  have hX := opd_rel hh hs e1
  have hY := opd_rel hh hs e2
  obtain ⟨i', zv, q1, q2, q3, q4, q5⟩ := zeroOf_spec hz
  rw [hi] at q1
  cases q1
  obtain ⟨consts, hrun⟩ := builtin_run (a := a) ho hc
  rw [hrun, args2 hx, arr2 hty]
  unfold op_app0 at he
  split at he
  · rename_i n hn
    simp only [Bool.cond_eq_ite, ble_dec, decide_eq_true_eq] at he
    split at he
    · rename_i hle
      obtain ⟨k', hk'⟩ := asNat_rel hn hY
      have hn63 : n ≤ 9223372036854775807 := by
        have := Nat.le_mul_of_pos_right n (Nat.pos_of_ne_zero hb0)
        omega
      have hzs : zv.cells.size = i.size := by omega
      obtain ⟨m1, m2⟩ := made_rel (M := M) (ρ := ρ) (q4 M ρ) (by omega) h0 n
      rw [q3] at he
      obtain ⟨ρ', w', z, k1, k2, k3, k4⟩ := append_sim (ty := o.type) (u := u) hh ht hi q2 hzs (by omega) hb0 hX (X := a.eval y) (ys := (Builtin.zeroCells zv.cells n).toList) (n := n) (cs := rep n zl)
        (.inr ⟨⟨k, hu⟩, ⟨k', hk'⟩, hle, hn63, hzs, by omega, q2, rfl⟩) (by simpa [Builtin.zeroCells] using m1) (by rw [rep_length, q3]) he
      exact ⟨ρ', w', z, k1, k2, k3, .inl (by simp [Go.builtin, k4])⟩
    · cases he
  · cases he

theorem sim_clr (hh : HRel P gl B M ρ h w) (hs : SRel M ρ N s a.tmps) {o : Oper} {c : Call} (ho : o.op = .call c) (hc : c.callee = .builtin .clear) {x : Operand} (hx : c.args.toList = [x]) {t e : TypeId} (hty : c.argTypes.toList = [t])
    (ht : P.underlying t = some (.slice e)) {zl : List V} (hz : zeroOf P e = some zl) (h0 : zl.length ≠ 0) {x' : Opd} (e1 : opd gl x = some x') {v : V} {h' : Heap} (he : op_clr x' zl s h = some (v, h')) :
    Good P gl B M ρ h w v h' ((execOp a.eval o).run P w) := by
  have hX := opd_rel hh hs e1
  obtain ⟨i', zv, q1, q2, q3, q4, q5⟩ := zeroOf_spec hz
  obtain ⟨consts, hrun⟩ := builtin_run (a := a) ho hc
  rw [hrun, args1 hx, arr1 hty]
  unfold op_clr at he
  have fin : ∀ {r : Result Value} {w' : World}, (Builtin.clear_ #[t] o.type #[a.eval x]).run P w = .ok (.tuple #[]) w' → (Go.builtin .clear #[t] o.type consts #[a.eval x]).run P w = .ok (.value (.tuple #[])) w' := by
    intro r w' q
    simp [Go.builtin, q]
  split at he
  · rename_i hv
    cases he
    rw [hv] at hX
    simp only [VRel] at hX
    refine Good.same hh undef_rel ?_
    refine fin (r := .ok undef w) ?_
    rw [hX]
    simp [Builtin.clear_, run_underlying ht]
  · rename_i b off len cap sz hv
    rw [hv] at hX
    simp only [VRel] at hX
    obtain ⟨l, ad, cap', k1, k2, k3, k4, k5⟩ := hX
    cases hst : store h b off (rep len zl) with
    | none => rw [hst] at he; cases he
    | some h1 =>
      rw [hst] at he
      simp only [Option.bind_some, Bool.cond_eq_ite] at he
      split at he
      · cases he
        obtain ⟨m1, m2⟩ := made_rel (M := M) (ρ := ρ) (q4 M ρ) (by omega) h0 len
        have hcc := capR_le k3
        by_cases hl0 : len = 0
        · subst hl0
          simp only [rep, store] at hst
          cases hst
          refine Good.same hh undef_rel ?_
          refine fin (r := .ok undef w) ?_
          rw [k2]
          simp [Builtin.clear_, run_underlying ht]
        · have had : ad = ⟨l.blk, l.base + off, none⟩ := by
            rcases k4 with q | q
            · omega
            · exact q
          obtain ⟨w', s1, s2, s3⟩ := store_rel hh k1 m1 (by simpa using m2) hst
          refine ⟨ρ, w', _, s2, s3, undef_rel, .inl (fin (r := .ok undef w) ?_)⟩
          rw [k2, had]
          obtain ⟨len', rfl⟩ : ∃ q, len = q + 1 := ⟨len - 1, by omega⟩
          have s1' : (storeCells ⟨l.blk, l.base + off, none⟩ (Builtin.zeroCells zv.cells (len' + 1)).toList).run P w = .ok () w' := s1
          have hzv : (zeroValue e).run P w = .ok zv w := by simp [zeroValue, typeInfo, q1, q2]
          have hu : (underlying t).run P w = .ok (.slice e) w := run_underlying ht w
          simp only [Builtin.clear_, List.getElem?_toArray, Sem.run_bind]
          simp [hu, run_underlying ht]
          simp [hzv, s1']
      · cases he
  · cases he
end
end Go.VE
