/- A part of a proof that a small evaluator of the translated code agrees with the model (part SimD). No statement of the program stands here. -/
import Derived.Test.YtjmlmaidimaloaaGreatDoorVeSimC
import Derived.Lib.Builder
import Derived.Lib.UnsafeStr
import Derived.Lib.Bytealg
import Derived.Lib.MakeNoZero
import Derived.Lib.IfaceEq
import Derived.Lib.IfaceNeq
import Derived.Laws.BytesString
import Derived.Laws.Cells
import Derived.Lib.ConvBytes
set_option linter.all false
section
namespace Go.VE
section
variable {P : Program} {gl : Nat → Option (List V)} {pu : Nat → Nat} {N B : Nat} {M : Mem} {ρ : Rho} {h : Heap} {w : World} {s : Slots} {a : Act}
theorem pur_inv {p : PureOp} {xs : List Opd} {v : V} {h' : Heap} (he : op_pur p xs s h = some (v, h')) : pureV p (evs s xs) = some v ∧ h' = h := by
 unfold op_pur at he
 cases q : pureV p (evs s xs) with
 | none => rw [q] at he; cases he
 | some u => rw [q] at he; cases he; exact ⟨rfl, rfl⟩
theorem extract_mk (l : List UInt8) (i j : Nat) : (⟨l.toArray⟩ : ByteArray).extract i j = ⟨((l.drop i).take (j - i)).toArray⟩ := by
 apply ByteArray.ext
 simp [ByteArray.data_extract]
theorem sim_slcs (hh : HRel P gl B M ρ h w) (hs : SRel M ρ N s a.tmps) {o : Oper} {t : TypeId} {x : Operand} {lo hi : Option Operand} (ho : o.op = .slice t x lo hi none) (ht : P.underlying t = some .string)
  {x' : Opd} {lo' hi' : Option Opd} (e1 : opd gl x = some x') (e2 : opdo gl lo = some lo') (e3 : opdo gl hi = some hi') {v : V} {h' : Heap}
  (he : op_pur (.slcs lo'.isSome hi'.isSome) [x', lo'.getD x', hi'.getD x'] s h = some (v, h')) : Good P gl B M ρ h w v h' ((execOp a.eval o).run P w) := by
 have hx := opd_rel hh hs e1
 have hl := opdo_rel hh hs e2
 have hhi := opdo_rel hh hs e3
 obtain ⟨hp, rfl⟩ := pur_inv he
 clear he
 have he := hp
 simp only [evs, List.map_cons, List.map_nil, pureV] at he
 split at he
 ·rename_i l u1 u2 hxs
  simp only [List.cons.injEq, and_true] at hxs
  obtain ⟨hxl, rfl, rfl⟩ := hxs
  rw [hxl] at hx
  simp only [VRel] at hx
  have c1 : (bif lo'.isSome then some ((lo'.getD x').ev s) else none) = evo s lo' := by cases lo' <;> rfl
  have c2 : (bif hi'.isSome then some ((hi'.getD x').ev s) else none) = evo s hi' := by cases hi' <;> rfl
  rw [c1, c2] at he
  split at he
  ·cases he
  ·rename_i h2 q2
   split at he
   ·cases he
   ·rename_i l2 q3
    cases he
    obtain ⟨m', k1, _⟩ := bounds_rel (P := P) (w := w) (isSlice := false) hl hhi (mx := none) (X := none) trivial (.inl rfl) (Nat.le_refl l.length) rfl q2 q3
    refine Good.same hh (x := .string ⟨((l.drop l2).take (h2 - l2)).toArray⟩) (by simp [VRel]) ?_
    have hsz : (⟨l.toArray⟩ : ByteArray).size = l.length := size_mk l
    simp only [execOp, ho, hx, Option.map_none, Instr.sliceAt, Instr.slice, Sem.run_bind, run_underlying ht, Result.andThen_ok, Option.isSome_none, Bool.false_eq_true, if_false, Sem.run_pure, hsz, k1, extract_mk]
 ·cases he
theorem sim_capb (hh : HRel P gl B M ρ h w) (hs : SRel M ρ N s a.tmps) {o : Oper} {c : Call} (ho : o.op = .call c) (hc : c.callee = .builtin .cap) {x : Operand} (hx : c.args.toList = [x]) {t e : TypeId} (hty : c.argTypes.toList = [t])
  (ht : P.underlying t = some (.slice e)) {x' : Opd} (e1 : opd gl x = some x') {v : V} {h' : Heap} (he : op_pur .cap [x'] s h = some (v, h')) :
  Good P gl B M ρ h w v h' ((execOp a.eval o).run P w) := by
 have hv := opd_rel hh hs e1
 obtain ⟨consts, hrun⟩ := builtin_run (a := a) ho hc
 rw [hrun, args1 hx, arr1 hty]
 obtain ⟨hp, rfl⟩ := pur_inv he
 clear he
 have he := hp
 simp only [evs, List.map_cons, List.map_nil, pureV] at he
 split at he
 ·rename_i hxs
  simp only [List.cons.injEq, and_true] at hxs
  rw [hxs] at hv
  simp only [VRel] at hv
  cases he
  exact Good.same hh (x := .int .i64 0) (by simp [VRel]) (by simp [Go.builtin, Builtin.cap_, run_underlying ht, hv, goInt])
 ·rename_i cs len cap hxs
  simp only [List.cons.injEq, and_true] at hxs
  rw [hxs] at hv
  simp only [VRel] at hv
  obtain ⟨ad, cap', k1, k2, _⟩ := hv
  have := k2 cap rfl
  subst this
  cases he
  exact Good.same hh (x := .int .i64 cap') (by simp [VRel]) (by simp [Go.builtin, Builtin.cap_, run_underlying ht, k1, goInt])
 ·cases he
theorem sim_usd (hh : HRel P gl B M ρ h w) (hs : SRel M ρ N s a.tmps) {o : Oper} {c : Call} (ho : o.op = .call c) (hc : c.callee = .builtin .unsafeSliceData) {x : Operand} (hx : c.args.toList = [x])
  {x' : Opd} (e1 : opd gl x = some x') {v : V} {h' : Heap} (he : op_pur .usd [x'] s h = some (v, h')) :
  Good P gl B M ρ h w v h' ((execOp a.eval o).run P w) := by
 have hv := opd_rel hh hs e1
 obtain ⟨consts, hrun⟩ := builtin_run (a := a) ho hc
 rw [hrun, args1 hx]
 obtain ⟨hp, rfl⟩ := pur_inv he
 clear he
 have he := hp
 simp only [evs, List.map_cons, List.map_nil, pureV] at he
 split at he
 ·rename_i hxs
  simp only [List.cons.injEq, and_true] at hxs
  rw [hxs] at hv
  simp only [VRel] at hv
  cases he
  refine Good.same hh (x := .pointer none) (by simp [VRel]) ?_
  simp only [Go.builtin, hv, Sem.run_bind, Go.Lib.run_unsafeSliceData_nil, Result.andThen_ok, Sem.run_pure]
 ·rename_i b off len cap sz hxs
  simp only [List.cons.injEq, and_true] at hxs
  rw [hxs] at hv
  simp only [VRel] at hv
  obtain ⟨l, ad, cap', k1, k2, k3, k4, k5⟩ := hv
  rw [Bool.cond_eq_ite, beq_dec] at he
  by_cases hcap : cap = 0
  ·simp [hcap] at he
  ·simp only [hcap, decide_false, Bool.false_eq_true, if_false, Option.some.injEq] at he
   subst he
   have hle := capR_le k3
   have hc' : cap' ≠ 0 := by omega
   have had : ad = ⟨l.blk, l.base + off, none⟩ := by
    rcases k4 with z | z
    ·exact absurd z hc'
    ·exact z
   refine Good.same hh (x := .pointer (some ad)) (by simp only [VRel]; exact ⟨l, k1, by rw [had]⟩) ?_
   simp only [Go.builtin, k2, Sem.run_bind, Go.Lib.run_unsafeSliceData_row _ _ _ _ _ _ hc', Result.andThen_ok, Sem.run_pure]
 ·cases he
theorem eqP_run {t e : TypeId} {n : Nat} (ht : P.underlying t = some (.pointer e)) (hn : szOf P e = some (n + 1)) {u v : V} {x y : Value} (hu : VRel M ρ u x) (hv : VRel M ρ v y) {r : Bool} (he : eqP u v = some r) :
  (Op.equal t x y).run P w = .ok r w ∧ (∃ p, x = .pointer p) := by
 obtain ⟨i, hi, hsz⟩ := szOf_spec hn
 have q0 := fun (r : Bool) (hq : eqNil 0 u v = some r) => (eqNil_run (w := w) ht rfl hu hv hq).1
 unfold eqP at he
 split at he
 ·rename_i b o b' o'
  rw [Bool.cond_eq_ite, beq_dec] at he
  by_cases hb : b = b'
  ·subst hb
   simp only [decide_true, if_true, Option.some.injEq] at he
   subst he
   simp only [VRel] at hu hv
   obtain ⟨l, k1, rfl⟩ := hu
   obtain ⟨l', k1', rfl⟩ := hv
   rw [k1] at k1'
   cases k1'
   refine ⟨?_, _, rfl⟩
   have : ((⟨l.blk, l.base + o, none⟩ : Addr) == ⟨l.blk, l.base + o', none⟩) = Nat.beq o o' := by
    rw [beq_dec, Bool.eq_iff_iff]
    simp
   have hd : ∀ d : Nat, (Op.equalIn (d + 1) t (.pointer (some ⟨l.blk, l.base + o, none⟩)) (.pointer (some ⟨l.blk, l.base + o', none⟩))).run P w = .ok (Nat.beq o o') w := fun d => by
    simp [Op.equalIn, run_underlying ht, sizeOf, typeInfo, hi, hsz, sameAddr, this, beq_dec]
   simp [Op.equal, Op.maxDepth, hd 9999]
  ·simp [hb] at he
 ·cases he
  refine ⟨q0 _ rfl, ?_⟩
  simp only [VRel] at hu
  exact ⟨_, hu⟩
 ·cases he
  refine ⟨q0 _ rfl, ?_⟩
  simp only [VRel] at hu
  exact ⟨_, hu⟩
 ·cases he
  refine ⟨q0 _ rfl, ?_⟩
  simp only [VRel] at hu
  exact ⟨_, hu⟩
 ·cases he
  refine ⟨q0 _ rfl, ?_⟩
  simp only [VRel] at hu
  obtain ⟨_, _, hu⟩ := hu
  exact ⟨_, hu⟩
 ·cases he
  refine ⟨q0 _ rfl, ?_⟩
  simp only [VRel] at hu
  obtain ⟨_, _, hu, _⟩ := hu
  exact ⟨_, hu⟩
 ·cases he
theorem eqGuard_ok {op : BinOp} {t : TypeId} {x y : Operand} {A C : Value} (h1 : A ≠ .nilIface ∨ C ≠ .nilIface) (h2 : ∀ c, A ≠ .agg c) : (eqGuard op t x y A C).run P w = .ok () w :=
 eqGuard_nil (fun q => by rcases h1 with h | h; exact absurd q.1 h; exact absurd q.2 h) h2
theorem sim_eqp (hh : HRel P gl B M ρ h w) (hs : SRel M ρ N s a.tmps) {o : Oper} {t u e : TypeId} {x y : Operand} {neg : Bool} (ho : o.op = .binOp (if neg then .neq else .eql) t x y u)
  (ht : P.underlying t = some (.pointer e)) {n : Nat} (hn : szOf P e = some (n + 1)) {x' y' : Opd} (e1 : opd gl x = some x') (e2 : opd gl y = some y')
  {v : V} {h' : Heap} (he : op_pur (.eqp neg) [x', y'] s h = some (v, h')) :
  Good P gl B M ρ h w v h' ((execOp a.eval o).run P w) := by
 have hx := opd_rel hh hs e1
 have hy := opd_rel hh hs e2
 obtain ⟨hp, rfl⟩ := pur_inv he
 clear he
 have he := hp
 simp only [evs, List.map_cons, List.map_nil, pureV] at he
 obtain ⟨r, hr, rfl⟩ := Option.map_eq_some_iff.1 he
 obtain ⟨k1, p, k2⟩ := eqP_run (w := w) ht hn hx hy hr
 have hg := eqGuard_ok (P := P) (w := w) (op := if neg then .neq else .eql) (t := t) (x := x) (y := y) (A := a.eval x) (C := a.eval y) (.inl (by rw [k2]; simp)) (by rw [k2]; simp)
 have hb := binOp_eq_run (neg := neg) k1 (by rw [k2]; simp)
 exact Good.same hh (x := .bool (bif neg then !r else r)) (by simp [VRel]) (by simp [execOp, ho, hg, hb])
theorem memT_mem {t : Nat} : ∀ {ts : List Nat}, memT t ts = true → t ∈ ts
 | [], e => by cases e
 | x :: r, e => by
  simp only [memT, Bool.cond_eq_ite, beq_dec] at e
  by_cases hx : x = t
  ·simp [hx]
  ·simp [hx] at e
   exact List.mem_cons_of_mem _ (memT_mem e)
theorem eqI4_run {t : TypeId} {ms : Array (String × TypeId)} (ht : P.underlying t = some (.interface ms)) {u v : V} {x y : Value} (hu : VRel M ρ u x) (hv : VRel M ρ v y) {r : Bool} (he : eqI4 (intTypes P) u v = some r) :
  (Op.equal t x y).run P w = .ok r w ∧ (x ≠ .nilIface ∨ y ≠ .nilIface) ∧ (x = .nilIface ∨ ∃ t z, x = .iface t z) := by
 have q0 := fun (r : Bool) (hq : eqNil 4 u v = some r) => (eqNil_run (w := w) ht rfl hu hv hq).1
 unfold eqI4 at he
 split at he
 ·cases he
  refine ⟨q0 _ rfl, ?_⟩
  simp only [VRel] at hu hv
  obtain ⟨z, rfl, _⟩ := hv
  exact ⟨.inr (by simp), .inl hu⟩
 ·cases he
  refine ⟨q0 _ rfl, ?_⟩
  simp only [VRel] at hu hv
  obtain ⟨z, rfl, _⟩ := hu
  exact ⟨.inl (by simp), .inr ⟨_, _, rfl⟩⟩
 ·rename_i t1 x1 t2 y1
  simp only [VRel] at hu hv
  obtain ⟨z, rfl, hz⟩ := hu
  obtain ⟨z2, rfl, hz2⟩ := hv
  refine ⟨?_, .inl (by simp), .inr ⟨_, _, rfl⟩⟩
  rw [Bool.cond_eq_ite, beq_dec] at he
  by_cases htt : t1 = t2
  ·subst htt
   simp only [decide_true, if_true] at he
   split at he
   ·rename_i k n
    split at he
    ·rename_i k' n'
     rw [Bool.cond_eq_ite] at he
     split at he
     ·rename_i hq
      simp only [Bool.and_eq_true] at hq
      obtain ⟨hk, hm⟩ := hq
      rw [kEq_iff] at hk
      subst hk
      cases he
      have hmem := List.mem_filter.1 (memT_mem hm)
      obtain ⟨_, hf⟩ := hmem
      simp only [VRel] at hz hz2
      subst hz
      subst hz2
      cases hun : P.underlying t1 with
      | none => simp [hun] at hf
      | some d =>
       cases d with
       | int q =>
        simp only [hun] at hf
        cases hi : P.info? t1 with
        | none => simp [hi] at hf
        | some i =>
         have hcc : i.comparable = true := by simpa [hi] using hf
         have hd : ∀ d : Nat, (Op.equalIn (d + 2) t (.iface t1 (.int k n)) (.iface t1 (.int k n'))).run P w = .ok (n == n') w := fun d => by
          simp [Op.equalIn, run_underlying ht, run_underlying hun, typeInfo, hi, hcc]
         simp [Op.equal, Op.maxDepth, hd 9998, eqI_eq]
       | _ => simp [hun] at hf
     ·cases he
    ·cases he
   ·cases he
  ·simp only [htt, decide_false, Bool.false_eq_true, if_false, Option.some.injEq] at he
   subst he
   have hd : ∀ d : Nat, (Op.equalIn (d + 1) t (.iface t1 z) (.iface t2 z2)).run P w = .ok false w := fun d => by
    simp [Op.equalIn, run_underlying ht, htt]
   simp [Op.equal, Op.maxDepth, hd 9999]
 ·cases he
theorem sim_eqi (hh : HRel P gl B M ρ h w) (hs : SRel M ρ N s a.tmps) {o : Oper} {t u : TypeId} {ms : Array (String × TypeId)} {x y : Operand} {neg : Bool} (ho : o.op = .binOp (if neg then .neq else .eql) t x y u)
  (ht : P.underlying t = some (.interface ms)) {x' y' : Opd} (e1 : opd gl x = some x') (e2 : opd gl y = some y')
  {v : V} {h' : Heap} (he : op_pur (.eqi neg (intTypes P)) [x', y'] s h = some (v, h')) :
  Good P gl B M ρ h w v h' ((execOp a.eval o).run P w) := by
 have hx := opd_rel hh hs e1
 have hy := opd_rel hh hs e2
 obtain ⟨hp, rfl⟩ := pur_inv he
 clear he
 simp only [evs, List.map_cons, List.map_nil, pureV] at hp
 obtain ⟨r, hr, rfl⟩ := Option.map_eq_some_iff.1 hp
 obtain ⟨k1, k2, k3⟩ := eqI4_run (w := w) ht hx hy hr
 have hn : ∀ c, a.eval x ≠ .agg c := by
  intro c q
  rcases k3 with k3 | ⟨_, _, k3⟩ <;> rw [k3] at q <;> cases q
 have hg := eqGuard_ok (P := P) (w := w) (op := if neg then .neq else .eql) (t := t) (x := x) (y := y) (A := a.eval x) (C := a.eval y) k2 hn
 have hb := binOp_eq_run (neg := neg) k1 (by rcases k3 with k3 | ⟨_, _, k3⟩ <;> rw [k3] <;> simp)
 exact Good.same hh (x := .bool (bif neg then !r else r)) (by simp [VRel]) (by simp [execOp, ho, hg, hb])
theorem extern_call {o : Oper} {c : Call} (ho : o.op = .call c) {f : FuncId} (hcal : c.callee = .value (.func f)) {fn : Func} (hf : P.funcs[f]? = some fn) (hb : fn.body.isSome = false) {nm : String} (hn : fn.name = nm) (hnm : (nm == "runtime.NumGoroutine") = false)
  {e : Array Value → Sem Value} (g1 : Extern.find fn = some e) (g2 : Extern.findNext fn = none) {r : Value} {w' : World} (g3 : (e (c.args.map a.eval)).run P w = .ok r w') : (execOp a.eval o).run P w = .ok (.value r) w' := by
 have hnb : fn.body.isNone = true := by cases hq : fn.body <;> simp_all
 have := run_callFunc_extern (P := P) hf (by rw [hn]; exact hnm) hnb g2 g1 (c.args.map a.eval) w
 rw [g3] at this
 simp only [execOp, ho, resolve, hcal, Act.eval, Deferred.ofValue, pure_bind, invoke, Array.empty_append, Array.append_empty]
 exact this
theorem find_row {fn : Func} {nm : String} (hn : fn.name = nm) {e : Array Value → Sem Value} (h1 : (Extern.allGenericRows.lookup nm).isNone = true) (h2 : (Extern.allTypedRows.lookup nm).isNone = true) (h3 : Extern.allRows.lookup nm = some e) : Extern.find fn = some e := by
 unfold Extern.find
 simp only [hn, look_none h1, look_none h2, h3]
 rfl
theorem args_of {c : Call} (hh : HRel P gl B M ρ h w) (hs : SRel M ρ N s a.tmps) {xs : List Opd} (e1 : opds gl c.args.toList = some xs) : VRels M ρ (evs s xs) (c.args.map a.eval).toList ∧ (evs s xs).length = (c.args.map a.eval).toList.length := by
 obtain ⟨r1, r2⟩ := opds_rel hh hs e1
 rw [Array.toList_map]
 exact ⟨r1, by simpa using r2⟩
theorem args_one {c : Call} {v : V} {vs : List V} (r : VRels M ρ vs (c.args.map a.eval).toList ∧ vs.length = (c.args.map a.eval).toList.length) (hv : vs = [v]) : ∃ x, c.args.map a.eval = #[x] ∧ VRel M ρ v x := by
 obtain ⟨r1, r2⟩ := r
 subst hv
 obtain ⟨x, ys, e1, e2, _⟩ := VRels.cons_iff.1 r1
 refine ⟨x, ?_, e2⟩
 apply Array.ext'
 rw [e1] at r2 ⊢
 have : ys = [] := List.eq_nil_of_length_eq_zero (by simpa using r2.symm)
 rw [this]
theorem args_two {c : Call} {v u : V} {vs : List V} (r : VRels M ρ vs (c.args.map a.eval).toList ∧ vs.length = (c.args.map a.eval).toList.length) (hv : vs = [v, u]) : ∃ x y, c.args.map a.eval = #[x, y] ∧ VRel M ρ v x ∧ VRel M ρ u y := by
 obtain ⟨r1, r2⟩ := r
 subst hv
 obtain ⟨x, ys, e1, e2, r3⟩ := VRels.cons_iff.1 r1
 obtain ⟨y, zs, rfl, e3, _⟩ := VRels.cons_iff.1 r3
 refine ⟨x, y, ?_, e2, e3⟩
 apply Array.ext'
 rw [e1] at r2 ⊢
 have : zs = [] := List.eq_nil_of_length_eq_zero (by simpa using r2.symm)
 rw [this]
theorem sim_same (hh : HRel P gl B M ρ h w) (hs : SRel M ρ N s a.tmps) {o : Oper} {c : Call} (ho : o.op = .call c) {f : FuncId} (hcal : c.callee = .value (.func f)) {fn : Func} (hf : P.funcs[f]? = some fn) (hb : fn.body.isSome = false) (hor : fn.origin = "")
  (hn : fn.name = "internal/abi.NoEscape") {xs : List Opd} (e1 : opds gl c.args.toList = some xs) {v : V} {h' : Heap} (he : op_pur .same xs s h = some (v, h')) :
  Good P gl B M ρ h w v h' ((execOp a.eval o).run P w) := by
 obtain ⟨hp, rfl⟩ := pur_inv he
 clear he
 have hr := args_of hh hs e1
 simp only [pureV] at hp
 split at hp
 ·rename_i x hx
  cases hp
  obtain ⟨X, k1, k2⟩ := args_one hr hx
  refine Good.same hh k2 (extern_call ho hcal hf hb hn (by decide) (find_row (e := Extern.AbiNoEscape.same) hn (by kernel_rfl) (by kernel_rfl) (by kernel_rfl)) (next_none hn hor (by kernel_rfl)) ?_)
  rw [k1]
  exact Go.Lib.run_noEscape w X
 ·cases hp
theorem u8_eq {b : UInt8} {c : Nat} (hc : c < 256) : (b == c.toUInt8) = Nat.beq b.toNat c := by
 rw [beq_dec, Bool.eq_iff_iff]
 simp only [beq_iff_eq, decide_eq_true_eq]
 constructor
 ·intro h
  rw [h]
  simp
  omega
 ·intro h
  subst h
  simp
theorem ixFrom_eq {c : Nat} (hc : c < 256) : ∀ (l : List UInt8) (i : Nat), (match ixFrom c l i with | some k => (Int.ofNat k : Int) | none => -1) = if Go.Lib.indexByte l c.toUInt8 = -1 then -1 else i + Go.Lib.indexByte l c.toUInt8
 | [], i => by simp [ixFrom, Go.Lib.indexByte]
 | b :: r, i => by
  have ih := ixFrom_eq hc r (i + 1)
  simp only [ixFrom, Go.Lib.indexByte, u8_eq hc, Bool.cond_eq_ite]
  by_cases hb : Nat.beq b.toNat c = true
  ·simp [hb]
  ·simp only [hb, Bool.false_eq_true, if_false]
   rw [ih]
   by_cases hq : Go.Lib.indexByte r c.toUInt8 = -1
   ·simp [hq]
   ·have := Go.Lib.indexByte_ge r c.toUInt8
    simp only [hq, if_false, beq_iff_eq]
    rw [if_neg (by omega)]
    push_cast
    omega
theorem cntOf_eq {c : Nat} (hc : c < 256) : ∀ (l : List UInt8) (n : Nat), cntOf c l n = n + Go.Lib.countByte l c.toUInt8
 | [], n => by simp [cntOf, Go.Lib.countByte]
 | b :: r, n => by
  have e1 : Go.Lib.countByte (b :: r) c.toUInt8 = Go.Lib.countByte r c.toUInt8 + if b == c.toUInt8 then 1 else 0 := by simp [Go.Lib.countByte, List.count_cons]
  rw [e1, u8_eq hc]
  simp only [cntOf, Bool.cond_eq_ite]
  by_cases hb : Nat.beq b.toNat c = true
  ·simp only [hb, if_true]; rw [cntOf_eq hc r]; omega
  ·simp only [hb, Bool.false_eq_true, if_false]; rw [cntOf_eq hc r]; omega
theorem sim_ixb (hh : HRel P gl B M ρ h w) (hs : SRel M ρ N s a.tmps) {o : Oper} {c : Call} (ho : o.op = .call c) {f : FuncId} (hcal : c.callee = .value (.func f)) {fn : Func} (hf : P.funcs[f]? = some fn) (hb : fn.body.isSome = false) (hor : fn.origin = "")
  (hn : fn.name = "internal/bytealg.IndexByteString") {xs : List Opd} (e1 : opds gl c.args.toList = some xs) {v : V} {h' : Heap} (he : op_pur .ixb xs s h = some (v, h')) :
  Good P gl B M ρ h w v h' ((execOp a.eval o).run P w) := by
 obtain ⟨hp, rfl⟩ := pur_inv he
 clear he
 have hr := args_of hh hs e1
 simp only [pureV] at hp
 split at hp
 ·rename_i l k hx
  obtain ⟨X, Y, k1, k2, k3⟩ := args_two hr hx
  simp only [VRel] at k2 k3
  subst k2
  subst k3
  rw [Bool.cond_eq_ite, blt_dec] at hp
  by_cases hk : k < 256
  ·simp only [hk, decide_true, if_true] at hp
   refine Good.same hh (x := .int .i64 (Go.Lib.indexByte l k.toUInt8)) ?_ (extern_call ho hcal hf hb hn (by decide) (find_row (e := Extern.BytealgIndexByte.indexByte) hn (by kernel_rfl) (by kernel_rfl) (by kernel_rfl)) (next_none hn hor (by kernel_rfl)) ?_)
   ·have := ixFrom_eq hk l 0
    have hz : (if Go.Lib.indexByte l k.toUInt8 = -1 then (-1 : Int) else ((0 : Nat) : Int) + Go.Lib.indexByte l k.toUInt8) = Go.Lib.indexByte l k.toUInt8 := by
     split
     ·rename_i h; exact h.symm
     ·simp
    rw [hz] at this
    split at hp
    ·rename_i i hi
     cases hp
     rw [hi] at this
     simp only [VRel]
     rw [← this]
    ·rename_i hi
     cases hp
     rw [hi] at this
     simp only [VRel]
     rw [← this]
   ·rw [k1]
    exact Go.Lib.run_indexByteString _ _ w
  ·simp [hk] at hp
 ·cases hp
theorem sim_cnt (hh : HRel P gl B M ρ h w) (hs : SRel M ρ N s a.tmps) {o : Oper} {c : Call} (ho : o.op = .call c) {f : FuncId} (hcal : c.callee = .value (.func f)) {fn : Func} (hf : P.funcs[f]? = some fn) (hb : fn.body.isSome = false) (hor : fn.origin = "")
  (hn : fn.name = "internal/bytealg.CountString") {xs : List Opd} (e1 : opds gl c.args.toList = some xs) {v : V} {h' : Heap} (he : op_pur .cnt xs s h = some (v, h')) :
  Good P gl B M ρ h w v h' ((execOp a.eval o).run P w) := by
 obtain ⟨hp, rfl⟩ := pur_inv he
 clear he
 have hr := args_of hh hs e1
 simp only [pureV] at hp
 split at hp
 ·rename_i l k hx
  obtain ⟨X, Y, k1, k2, k3⟩ := args_two hr hx
  simp only [VRel] at k2 k3
  subst k2
  subst k3
  rw [Bool.cond_eq_ite, blt_dec] at hp
  by_cases hk : k < 256
  ·simp only [hk, decide_true, if_true, Option.some.injEq] at hp
   subst hp
   refine Good.same hh (x := .int .i64 (Go.Lib.countByte l k.toUInt8)) ?_ (extern_call ho hcal hf hb hn (by decide) (find_row (e := Extern.BytealgCount.count) hn (by kernel_rfl) (by kernel_rfl) (by kernel_rfl)) (next_none hn hor (by kernel_rfl)) ?_)
   ·simp [VRel, cntOf_eq hk]
   ·rw [k1]
    exact Go.Lib.run_countString _ _ w
  ·simp [hk] at hp
 ·cases hp
theorem rowOf_lenOf {sz : Nat} {v : V} {cs : List V} (e : rowOf h sz v = some cs) : ∃ n, lenOf v = some n := by
 unfold rowOf at e
 split at e
 ·exact ⟨_, rfl⟩
 ·exact ⟨_, rfl⟩
 ·exact ⟨_, rfl⟩
 ·cases e
theorem bytesS_rel : ∀ {cs : List V} {l : List UInt8} {row : List Value}, bytesS cs = some l → VRels M ρ cs row → ∃ rest, row = (l.map fun b => Value.int .u8 b.toNat) ++ rest ∧ l.length = cs.length
 | [], l, row, e, _ => by cases e; exact ⟨row, rfl, rfl⟩
 | x :: r, l, row, e, hv => by
  obtain ⟨y, ys, rfl, h1, h2⟩ := VRels.cons_iff.1 hv
  simp only [bytesS] at e
  split at e
  ·rename_i k i
   split at e
   ·rename_i m
    rw [Bool.cond_eq_ite] at e
    split at e
    ·rename_i hq
     simp only [Bool.and_eq_true] at hq
     obtain ⟨hk, hm⟩ := hq
     rw [kEq_iff] at hk
     subst hk
     have hm : m < 256 := by rw [blt_dec] at hm; simpa using hm
     split at e
     ·rename_i t ht
      cases e
      obtain ⟨rest, k1, k2⟩ := bytesS_rel ht h2
      simp only [VRel] at h1
      subst h1
      have hu : (UInt8.ofNat m).toNat = m := by simp; omega
      refine ⟨rest, ?_, by simp [k2]⟩
      rw [k1, List.map_cons, List.cons_append, hu]
      rfl
     ·cases e
    ·cases e
   ·cases e
  ·cases e
theorem push_all : ∀ (l : List UInt8) (acc : ByteArray), (l.map fun b => (b.toNat : Int)).foldl (fun r n => r.push (UInt8.ofNat n.toNat)) acc = ⟨acc.data ++ l.toArray⟩
 | [], acc => by simp
 | b :: l, acc => by
  simp only [List.map_cons, List.foldl_cons]
  rw [push_all l]
  congr 1
  simp [ByteArray.push]
theorem sim_b2s (hh : HRel P gl B M ρ h w) (hs : SRel M ρ N s a.tmps) {o : Oper} {t u e : TypeId} {x : Operand} (ho : o.op = .convert t u x) (ht : P.underlying t = some (.slice e)) (hu : P.underlying u = some .string) (hel : P.underlying e = some (.int .u8)) {x' : Opd}
  (e1 : opd gl x = some x') {v : V} {h' : Heap} (he : op_eff .b2s [x'] s h = some (v, h')) :
  Good P gl B M ρ h w v h' ((execOp a.eval o).run P w) := by
 have hx := opd_rel hh hs e1
 simp only [op_eff, evs, List.map_cons, List.map_nil, effV] at he
 split at he
 ·rename_i cs hcs
  obtain ⟨l, hl, e3⟩ := Option.map_eq_some_iff.1 he
  cases e3
  obtain ⟨n, hn⟩ := rowOf_lenOf hcs
  have hlen := rowOf_len hcs hn
  obtain ⟨ba, cap, row, k1, k2, k3, k4, k5⟩ := rowOf_rel hh hx hcs hn hlen
  obtain ⟨rest, k6, k7⟩ := bytesS_rel hl k2
  have hrest : rest = [] := by
   apply List.eq_nil_of_length_eq_zero
   have := congrArg List.length k6
   simp at this
   omega
  subst hrest
  rw [List.append_nil] at k6
  refine Good.same hh (x := .string ⟨l.toArray⟩) (by simp [VRel]) ?_
  have hrun : (Conv.bytesToString (.slice ba n cap)).run P w = .ok (.string ⟨l.toArray⟩) w := by
   cases ba with
   | none =>
    have hn0 := k4 rfl
    have : l = [] := List.eq_nil_of_length_eq_zero (by omega)
    subst this
    rfl
   | some ad =>
    have hcells := run_loadCells_list (P := P) (w := w) ad row (fun j v hj => k5 ad rfl j v hj)
    have hnl : row.length = n := by simpa using k3
    rw [hnl] at hcells
    have := run_bytesToString (P := P) w ad n cap (l.map fun b => (b.toNat : Int)) (by rw [hcells, k6, List.map_map]; rfl)
    rw [this, push_all]
    simp
  simp only [execOp, ho, Sem.run_bind, convert, run_underlying ht, run_underlying hu, Result.andThen_ok, k1]
  simp [run_underlying hel, hrun]
 ·cases he
theorem shape_of {w : World} {k : Nat} {cur : Array Value} {e : TypeId} {fr : Nat × Nat} (hk : w.heap[k]? = some (.cells cur e fr)) : w.shape? k = some (e, cur.size) := by
 simp [World.shape?, hk]
theorem sim_up (hh : HRel P gl B M ρ h w) (hs : SRel M ρ N s a.tmps) {o : Oper} {t u e : TypeId} {x : Operand} (ho : o.op = .convert t u x) (ht : P.underlying t = some (.pointer e)) (hu : P.underlying u = some .unsafePointer) {n : Nat} (hn : szOf P e = some (n + 1)) {x' : Opd}
  (e1 : opd gl x = some x') {v : V} {h' : Heap} (he : op_eff .up [x'] s h = some (v, h')) :
  Good P gl B M ρ h w v h' ((execOp a.eval o).run P w) := by
 have hx := opd_rel hh hs e1
 obtain ⟨i, hi, hsz⟩ := szOf_spec hn
 simp only [op_eff, evs, List.map_cons, List.map_nil, effV] at he
 split at he
 ·rename_i hxs
  simp only [List.cons.injEq, and_true] at hxs
  rw [hxs] at hx
  simp only [VRel] at hx
  cases he
  refine Good.same hh (x := .pointer none) (by simp [VRel]) ?_
  simp [execOp, ho, hx, convert, run_underlying ht, run_underlying hu, Conv.unsafePointer]
 ·rename_i b off hxs
  simp only [List.cons.injEq, and_true] at hxs
  rw [hxs] at hx
  simp only [VRel] at hx
  obtain ⟨l, k1, k2⟩ := hx
  split at he
  ·rename_i c oo hg
   rw [Bool.cond_eq_ite, blt_dec] at he
   by_cases hlt : off < c.length
   ·simp only [hlt, decide_true, if_true, Option.some.injEq, Prod.mk.injEq] at he
    obtain ⟨rfl, rfl⟩ := he
    have hb := hh.blk b l k1
    rw [hg] at hb
    obtain ⟨cur, ce, fr, c1, c2, c3, c4, c5, c6⟩ := BRel.cells_iff.1 hb
    refine Good.same hh (x := .pointer (some ⟨l.blk, l.base + off, none⟩)) (by simp only [VRel]; exact ⟨l, k1, rfl⟩) ?_
    have := Go.Lib.run_to_unsafe (P := P) w ⟨l.blk, l.base + off, none⟩ ht hu hi (by omega) (shape_of c1) (by show l.base + off < cur.size; omega)
    simp only [execOp, ho, k2, Sem.run_bind, this, Result.andThen_ok, Sem.run_pure]
   ·simp [hlt] at he
  ·cases he
 ·cases he
theorem sim_down (hh : HRel P gl B M ρ h w) (hs : SRel M ρ N s a.tmps) {o : Oper} {t u e : TypeId} {x : Operand} (ho : o.op = .convert t u x) (ht : P.underlying t = some .unsafePointer) (hu : P.underlying u = some (.pointer e)) {n : Nat} (hn : szOf P e = some n)
  (hl : liesAt P P.depth e (n / P.cellsOf e) 0 e 1 = true) {x' : Opd}
  (e1 : opd gl x = some x') {v : V} {h' : Heap} (he : op_eff (.down e n) [x'] s h = some (v, h')) :
  Good P gl B M ρ h w v h' ((execOp a.eval o).run P w) := by
 have hx := opd_rel hh hs e1
 obtain ⟨i, hi, hsz⟩ := szOf_spec hn
 simp only [op_eff, evs, List.map_cons, List.map_nil, effV] at he
 split at he
 ·rename_i hxs
  simp only [List.cons.injEq, and_true] at hxs
  rw [hxs] at hx
  simp only [VRel] at hx
  cases he
  refine Good.same hh (x := .pointer none) (by simp [VRel]) ?_
  simp [execOp, ho, hx, convert, run_underlying ht, run_underlying hu, Conv.unsafePointer]
 ·rename_i b off hxs
  simp only [List.cons.injEq, and_true] at hxs
  rw [hxs] at hx
  simp only [VRel] at hx
  obtain ⟨l, k1, k2⟩ := hx
  split at he
  ·rename_i c oo hg
   split at he
   ·rename_i t'
    rw [Bool.cond_eq_ite] at he
    split at he
    ·rename_i hq
     simp only [beq_dec, Bool.and_eq_true, decide_eq_true_eq] at hq
     obtain ⟨⟨rfl, rfl⟩, hcn⟩ := hq
     simp only [Option.some.injEq, Prod.mk.injEq] at he
     obtain ⟨rfl, rfl⟩ := he
     have hb := hh.blk b l k1
     rw [hg] at hb
     obtain ⟨cur, ce, fr, c1, c2, c3, c4, c5, c6⟩ := BRel.cells_iff.1 hb
     obtain ⟨rfl, hbase⟩ := c6.2 _ rfl
     have hex := c6.1 rfl
     have hcur : cur.size = n := by rw [c5, hex, hbase]; omega
     refine Good.same hh (x := .pointer (some ⟨l.blk, l.base + 0, none⟩)) (by simp only [VRel]; exact ⟨l, k1, rfl⟩) ?_
     have := Go.Lib.run_from_unsafe (P := P) w ⟨l.blk, l.base + 0, none⟩ ht hu hi (shape_of c1) (by
      show liesAt P P.depth ce (cur.size / P.cellsOf ce) (l.base + 0) ce 1 = true
      rw [hcur, hbase]
      exact hl)
     simp only [execOp, ho, k2, Sem.run_bind, this, Result.andThen_ok, Sem.run_pure]
    ·cases he
   ·cases he
  ·cases he
 ·cases he
theorem freeze_obj {w : World} {g n : Nat} {cur : Array Value} {e : TypeId} {fr : Nat × Nat} (hk : w.heap[g]? = some (.cells cur e fr)) (hn : n ≠ 0) :
  (w.freeze ⟨g, 0, none⟩ n).os = w.os ∧ (w.freeze ⟨g, 0, none⟩ n).tape = w.tape ∧ (w.freeze ⟨g, 0, none⟩ n).output = w.output ∧ (w.freeze ⟨g, 0, none⟩ n).heap.size = w.heap.size ∧ ∀ k, k ≠ g → (w.freeze ⟨g, 0, none⟩ n).heap[k]? = w.heap[k]? := by
 unfold World.freeze
 rw [if_neg hn]
 refine ⟨rfl, rfl, rfl, by simp, fun k hkg => ?_⟩
 simp only
 rw [Array.getElem?_modify]
 rw [if_neg (fun q => hkg q.symm)]
theorem sim_ustr (hh : HRel P gl B M ρ h w) (hs : SRel M ρ N s a.tmps) {o : Oper} {c : Call} (ho : o.op = .call c) (hc : c.callee = .builtin .unsafeString) {x y : Operand} (hx : c.args.toList = [x, y]) {t u e : TypeId} (hty : c.argTypes.toList = [t, u])
  (ht : P.underlying t = some (.pointer e)) (hce : P.cellsOf e = 1) {x' y' : Opd} (e1 : opd gl x = some x') (e2 : opd gl y = some y') {v : V} {h' : Heap} (he : op_eff (.ustr e) [x', y'] s h = some (v, h')) :
  Good P gl B M ρ h w v h' ((execOp a.eval o).run P w) := by
 have hp := opd_rel hh hs e1
 have hq := opd_rel hh hs e2
 obtain ⟨consts, hrun⟩ := builtin_run (a := a) ho hc
 rw [hrun, args2 hx, arr2 hty]
 simp only [op_eff, evs, List.map_cons, List.map_nil, effV] at he
 split at he
 ·rename_i p n hxs
  simp only [List.cons.injEq, and_true] at hxs
  obtain ⟨hp', hn'⟩ := hxs
  rw [hn'] at hq
  simp only [VRel] at hq
  split at he
  ·have hres : ∃ q, a.eval x = .pointer q ∧ v = .str [] ∧ h' = h := by
    split at he
    ·cases he
     rw [hp'] at hp
     simp only [VRel] at hp
     obtain ⟨l, _, k⟩ := hp
     exact ⟨_, k, rfl, rfl⟩
    ·cases he
     rw [hp'] at hp
     simp only [VRel] at hp
     exact ⟨_, hp, rfl, rfl⟩
    ·cases he
   obtain ⟨q, k1, rfl, rfl⟩ := hres
   refine Good.same hh (x := .string .empty) (by simp [VRel]; rfl) ?_
   have := Go.Lib.run_unsafeString_none (P := P) w t u o.type q
   simp only [Go.builtin, k1, hq, Sem.run_bind]
   erw [this]
   rfl
  ·rename_i n
   split at he
   ·rename_i b off
    rw [hp'] at hp
    simp only [VRel] at hp
    obtain ⟨l, k1, k2⟩ := hp
    split at he
    ·rename_i cc oo hg
     split at he
     ·rename_i u' hu'
      rw [Bool.cond_eq_ite] at he
      split at he
      ·rename_i hqq
       simp only [beq_dec, blt_dec, Bool.and_eq_true, decide_eq_true_eq, Bool.not_eq_true', decide_eq_false_iff_not] at hqq
       obtain ⟨⟨⟨rfl, rfl⟩, hlo⟩, hn63⟩ := hqq
       split at he
       ·rename_i cs hcs
        obtain ⟨ls, hls, e3⟩ := Option.map_eq_some_iff.1 he
        cases e3
        have hb := hh.blk b l k1
        rw [hg] at hb
        obtain ⟨cur, ce, fr, c1, c2, c3, c4, c5, c6⟩ := BRel.cells_iff.1 hb
        obtain ⟨rfl, hbase⟩ := c6.2 _ hu'
        obtain ⟨t1, t2⟩ := takeN_eq _ _ _ hcs
        have hv2 := (VRels.takeN c4 hcs).1
        obtain ⟨rest, r1, r2⟩ := bytesS_rel hls hv2
        have hll : ls.length = n + 1 := by omega
        have hcl : n + 1 ≤ cc.length := by
         have := congrArg List.length t1
         rw [List.length_take] at this
         omega
        have hsz : n + 1 ≤ cur.size := by rw [c5, ← c3]; omega
        have hlne : ls ≠ [] := by intro q; rw [q] at hll; simp at hll
        have hcell : ∀ j x, ls[j]? = some x → w.cell? ((⟨l.blk, 0, none⟩ : Addr).add j) = some (.int .u8 x.toNat) := by
         intro j xb hj
         have hjl : j < ls.length := (List.getElem?_eq_some_iff.1 hj).1
         have e5 : ((⟨l.blk, 0, none⟩ : Addr).add j) = ⟨l.blk, j, none⟩ := by rw [addr_add]; simp
         rw [e5, cell_of_obj c1]
         have e6 : ((cur.toList.drop l.base).take (n + 1))[j]? = some (Value.int .u8 xb.toNat) := by
          rw [r1, List.getElem?_append_left (by simpa using hjl)]
          simp [hj]
         rw [hbase, List.drop_zero, List.getElem?_take] at e6
         rw [if_pos (by omega)] at e6
         simpa using e6
        obtain ⟨f1, f2, f3, f4, f5⟩ := freeze_obj (w := w) (g := l.blk) (n := ls.length) c1 (by omega)
        have hlive : live h b := by simp [live, hg]
        obtain ⟨m1, m2⟩ := hh.upd k1 hlive (by omega) .dead (w.freeze ⟨l.blk, 0, none⟩ ls.length) f1 f2 f3 f4 f5 (by simp [BRel])
        refine ⟨ρ, _, .string ⟨ls.toArray⟩, m1, m2, by simp [VRel], .inl ?_⟩
        have hrun2 := Go.Lib.run_unsafeString_row (P := P) w t u o.type ce ht hce l.blk cur.size (shape_of c1) ls hlne (by omega) (by omega) hcell
        have hnn : a.eval y = .int .i64 (ls.length : Int) := by rw [hq, hll]; rfl
        have hpp : a.eval x = .pointer (some ⟨l.blk, 0, none⟩) := by rw [k2, hbase]
        simp only [Go.builtin, hpp, hnn, Sem.run_bind, hrun2, Result.andThen_ok, Sem.run_pure]
       ·cases he
      ·cases he
     ·cases he
    ·cases he
   ·cases he
 ·cases he
theorem rep_top : ∀ (n : Nat) (xs : List Value), n ≤ xs.length → VRels M ρ (rep n [.top]) xs
 | 0, _, _ => .nil
 | n + 1, [], h => by simp at h
 | n + 1, x :: xs, h => by
  show VRels M ρ (.top :: rep n [.top]) (x :: xs)
  exact VRels.cons_iff.2 ⟨x, xs, rfl, by simp [VRel], rep_top n xs (by simpa using h)⟩
theorem rep_top_length : ∀ n : Nat, (rep n [V.top]).length = n
 | 0 => rfl
 | n + 1 => by
  show (V.top :: rep n [.top]).length = n + 1
  rw [List.length_cons, rep_top_length n]
theorem sim_mnz (hh : HRel P gl B M ρ h w) (hs : SRel M ρ N s a.tmps) {o : Oper} {c : Call} (ho : o.op = .call c) {f : FuncId} (hcal : c.callee = .value (.func f)) {fn : Func} (hf : P.funcs[f]? = some fn) (hb : fn.body.isSome = false) (hor : fn.origin = "")
  (hn : fn.name = "internal/bytealg.MakeNoZero") {t e : TypeId} (hrt : fn.resultTypes.toList = [t]) (ht : P.underlying t = some (.slice e)) {x : Opd} (e1 : opds gl c.args.toList = some [x]) {v : V} {h' : Heap} (he : op_mnz e x s h = some (v, h')) :
  Good P gl B M ρ h w v h' ((execOp a.eval o).run P w) := by
 have hr := args_of hh hs e1
 unfold op_mnz at he
 split at he
 ·rename_i n hx
  rw [Bool.cond_eq_ite] at he
  split at he
  ·rename_i hq
   simp only [ble_dec, blt_dec, Bool.and_eq_true, decide_eq_true_eq] at hq
   obtain ⟨hq1, hq2⟩ := hq
   cases he
   obtain ⟨X, k1, k2⟩ := args_one hr (v := .int .i64 (.ofNat n)) (by simp [evs, hx])
   simp only [VRel] at k2
   subst k2
   obtain ⟨cs, g1, g2, _⟩ := Go.Lib.run_makeNoZero (P := P) (w := w) fn.params t e ht n (by omega)
   have hfind : Extern.find fn = some (Extern.BytealgMakeNoZero.makeNoZero fn.params #[t]) := by
    have hrt' := arr1 hrt
    have h1 : (Extern.allGenericRows.lookup "internal/bytealg.MakeNoZero").isNone = true := by kernel_rfl
    have h2 : Extern.allTypedRows.lookup "internal/bytealg.MakeNoZero" = some Extern.BytealgMakeNoZero.makeNoZero := by kernel_rfl
    unfold Extern.find
    simp only [hn, look_none h1, h2, hrt']
    rfl
   have hrunx := extern_call (a := a) (P := P) (w := w) ho hcal hf hb hn (by decide) hfind (next_none hn hor (by kernel_rfl)) (r := .slice (some ⟨w.heap.size, 0, none⟩) n cs.size) (w' := w.drew.drew.alloc (.cells cs e)) (by
    rw [k1]
    exact g1)
   have hd := hh.drew.drew
   obtain ⟨m1, m2⟩ := hd.new (.cells (rep n [.top]) (.ot e)) (.cells cs e) ⟨w.heap.size, 0, n, 1, cs.size - n⟩ rfl (BRel.cells_iff.2 ⟨cs, e, (0, 0), rfl, fun i _ _ q => by simp at q, rep_top_length n, by
    simpa using rep_top n cs.toList (by simpa using g2), by simp; omega, tagR_ot rfl⟩)
   refine ⟨_, _, _, m1, (Evo.refl M ρ h w).drew.drew.trans m2, ?_, .inl hrunx⟩
   simp only [VRel]
   refine ⟨⟨w.heap.size, 0, n, 1, cs.size - n⟩, ⟨w.heap.size, 0, none⟩, cs.size, Rho.add_same _ _ _, rfl, ?_, Or.inr (by simp), Nat.le_refl _⟩
   unfold capR
   dsimp only
   by_cases q : cs.size - n = 0
   ·exact .inl ⟨q, by omega⟩
   ·exact .inr (.inr ⟨q, by simp, rfl, by omega⟩)
  ·cases he
 ·cases he
end
end Go.VE
end
section
namespace Go.VE
section
variable {P : Program} {gl : Nat → Option (List V)} {pu : Nat → Nat} {N B : Nat} {M : Mem} {ρ : Rho} {h : Heap} {w : World} {s : Slots} {a : Act}
def Mem.add (M : Mem) (k : Nat) (cs : List Value) : Mem := fun j => if j = k then some cs else M j
theorem HRel.row (hh : HRel P gl B M ρ h w) {w' : World} {cs : List Value} {e : TypeId} {fr : Nat × Nat} (hold : ∀ k, k < w.heap.size → w'.heap[k]? = w.heap[k]?) (hnew : w'.heap[w.heap.size]? = some (.cells cs.toArray e fr))
  (hsz : w'.heap.size = w.heap.size + 1) (h1 : w'.os = w.os) (h2 : w'.tape = w.tape) (h3 : w'.output = w.output) :
  HRel P gl B (Mem.add M w.heap.size cs) ρ h w' ∧ Evo M ρ h w (Mem.add M w.heap.size cs) ρ h w' := by
 have hle : Mle M (Mem.add M w.heap.size cs) := by
  intro k c q
  have := hh.memLt q
  unfold Mem.add
  rw [if_neg (by omega)]
  exact q
 refine ⟨⟨hh.bound, fun b l e1 => ?_, hh.inj, fun k c q => ?_, fun b l e1 v => ?_, hh.base, hh.fresh, by have := hh.room; omega, hh.lonx, fun g c q => ?_⟩, ⟨Rle.refl _, hle, rfl, Nat.le_refl _, h1, h2, h3, by omega, fun b l e1 v hlo => .inr ⟨b, l, e1, v, hlo, rfl⟩, fun k hk _ => hold k hk, fun _ _ _ _ => rfl, fun b l e1 e2 => (by rw [e2] at e1; cases e1), fun k c q => ?_⟩⟩
 ·by_cases hlv : live h b
  ·rw [hold _ (hh.blkLt e1 hlv)]
   exact BRel.mono hle (Rle.refl _) (hh.blk b l e1)
  ·simp [live] at hlv
   simp [hlv, BRel]
 ·unfold Mem.add at q
  split at q
  ·rename_i hk
   cases q
   subst hk
   exact ⟨e, fr, hnew⟩
  ·obtain ⟨e', fr', hk⟩ := hh.mem k c q
   exact ⟨e', fr', by rw [hold _ (hh.memLt q)]; exact hk⟩
 ·unfold Mem.add
  have := hh.blkLt e1 v
  rw [if_neg (by omega)]
  exact hh.sep b l e1 v
 ·obtain ⟨row, r1, r2⟩ := hh.glob g c q
  exact ⟨row, hle _ _ r1, VRels.mono hle (Rle.refl _) _ r2⟩
 ·unfold Mem.add at q
  split at q
  ·rename_i hk
   exact .inr (by omega)
  ·exact .inl q
theorem bytes_rels : ∀ (l : List UInt8) (rest : List Value), VRels M ρ (l.map fun b => V.int .u8 (.ofNat b.toNat)) ((l.map fun b => Value.int .u8 b.toNat) ++ rest)
 | [], _ => .nil
 | b :: l, rest => by
  simp only [List.map_cons, List.cons_append]
  exact VRels.cons_iff.2 ⟨_, _, rfl, by simp [VRel], bytes_rels l rest⟩
theorem sim_s2b (hh : HRel P gl B M ρ h w) (hs : SRel M ρ N s a.tmps) {o : Oper} {t u e : TypeId} {x : Operand} (ho : o.op = .convert t u x) (ht : P.underlying t = some .string) (hu : P.underlying u = some (.slice e)) (hel : P.underlying e = some (.int .u8)) {x' : Opd}
  (e1 : opd gl x = some x') {v : V} {h' : Heap} (he : op_pur .s2b [x'] s h = some (v, h')) :
  GoodM P gl B M ρ h w v h' ((execOp a.eval o).run P w) := by
 have hx := opd_rel hh hs e1
 obtain ⟨hp, rfl⟩ := pur_inv he
 simp only [evs, List.map_cons, List.map_nil, pureV] at hp
 split at hp
 ·rename_i l hl
  cases hp
  simp only [List.cons.injEq, and_true] at hl
  rw [hl] at hx
  simp only [VRel] at hx
  have hrun := Go.Lib.run_convert_string_bytes (P := P) w t u e ⟨l.toArray⟩ ht hu hel
  have hcap := grownCap_ge w l.length 0 e
  have hcs : (Go.Lib.bytesCells w e ⟨l.toArray⟩) = ((l.map fun b => Value.int .u8 b.toNat) ++ List.replicate (grownCap w l.length 0 e - l.length) (Value.int .u8 0)).toArray := by
   simp [Go.Lib.bytesCells, ByteArray.size]
  obtain ⟨m1, m2⟩ := hh.row (w' := Go.Lib.bytesWorld w e ⟨l.toArray⟩) (cs := (l.map fun b => Value.int .u8 b.toNat) ++ List.replicate (grownCap w l.length 0 e - l.length) (Value.int .u8 0))
   (fun k hk => Go.Lib.bytesWorld_at_old w e _ k hk) (by rw [Go.Lib.bytesWorld_at_new, hcs]) (Go.Lib.bytesWorld_size w e _) rfl rfl rfl
  refine ⟨_, _, _, ?_, m1, m2, ?_, .inl ?_⟩
  ·exact .slice (some ⟨w.heap.size, 0, none⟩) l.length (grownCap w l.length 0 e)
  ·simp only [VRel]
   refine ⟨⟨w.heap.size, 0, none⟩, _, rfl, fun c q => (by cases q), hcap, .inr ⟨_, by simp only [Mem.add, if_true]; rfl, rfl, ?_⟩⟩
   exact bytes_rels l _
  ·simp only [execOp, ho, Sem.run_bind, hx]
   rw [hrun]
   rfl
 ·cases hp
end
end Go.VE
end

