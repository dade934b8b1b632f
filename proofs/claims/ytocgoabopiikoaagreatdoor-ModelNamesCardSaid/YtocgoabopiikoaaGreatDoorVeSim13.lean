/- A part of a proof that a small evaluator of the translated code agrees with the model (part Sim13). No statement of the program stands here. -/
import Derived.Test.YtocgoabopiikoaaGreatDoorVeSim12
set_option linter.all false
namespace Go.VE
section
variable {P : Program} {gl : Nat → Option (List V)} {N B : Nat} {M : Mem} {ρ : Rho} {h : Heap} {w : World} {s : Slots} {a : Act}

theorem sim_app (hh : HRel P gl B M ρ h w) (hs : SRel M ρ N s a.tmps) {o : Oper} {c : Call} (ho : o.op = .call c) (hc : c.callee = .builtin .append) {x y : Operand} (hx : c.args.toList = [x, y]) {t u e : TypeId} (hty : c.argTypes.toList = [t, u])
    (ht : P.underlying t = some (.slice e)) {e' : TypeId} (hu : P.underlying u = some (.slice e')) {i : TypeInfo} (hi : P.info? e = some i) {zl : List V} (hz : zeroOf P e = some zl) (h0 : zl.length ≠ 0) (hb0 : i.bytes ≠ 0)
    {x' y' : Opd} (e1 : opd gl x = some x') (e2 : opd gl y = some y') {v : V} {h' : Heap} (he : op_app i.size i.bytes x' y' s h = some (v, h')) :
    Good P gl B M ρ h w v h' ((execOp a.eval o).run P w) := by
  have hX := opd_rel hh hs e1
  have hY := opd_rel hh hs e2
  obtain ⟨i', zv, q1, q2, q3, q4, q5⟩ := zeroOf_spec hz
  rw [hi] at q1
  cases q1
  obtain ⟨consts, hrun⟩ := builtin_run (a := a) ho hc
  rw [hrun, args2 hx, arr2 hty]
  unfold op_app at he
  split at he
  · rename_i n cs hn hcs
    obtain ⟨ys, n1, n2⟩ := slice_cells (sz := i.size) hh hY hcs hn
    obtain ⟨ρ', w', z, k1, k2, k3, k4⟩ := append_sim (ty := o.type) hh ht hi q2 (by omega) (by omega) hb0 hX (.inl ⟨.inr ⟨_, hu⟩, n1⟩) n2 (rowOf_len hcs hn) he
    exact ⟨ρ', w', z, k1, k2, k3, .inl (by simp [Go.builtin, k4])⟩
  · cases he

theorem sim_apps (hh : HRel P gl B M ρ h w) (hs : SRel M ρ N s a.tmps) {o : Oper} {c : Call} (ho : o.op = .call c) (hc : c.callee = .builtin .append) {x y : Operand} (hx : c.args.toList = [x, y]) {t u e : TypeId} (hty : c.argTypes.toList = [t, u])
    (ht : P.underlying t = some (.slice e)) (hu : P.underlying u = some .string) {i : TypeInfo} (hi : P.info? e = some i) {zl : List V} (hz : zeroOf P e = some zl) (h0 : zl.length = 1) (hb0 : i.bytes ≠ 0)
    {x' y' : Opd} (e1 : opd gl x = some x') (e2 : opd gl y = some y') {v : V} {h' : Heap} (he : op_apps i.bytes x' y' s h = some (v, h')) :
    Good P gl B M ρ h w v h' ((execOp a.eval o).run P w) := by
  have hX := opd_rel hh hs e1
  have hY := opd_rel hh hs e2
  obtain ⟨i', zv, q1, q2, q3, q4, q5⟩ := zeroOf_spec hz
  rw [hi] at q1
  cases q1
  obtain ⟨consts, hrun⟩ := builtin_run (a := a) ho hc
  rw [hrun, args2 hx, arr2 hty]
  unfold op_apps at he
  split at he
  · rename_i l hl
    have hsz : i.size = 1 := by omega
    rw [hl] at hY
    simp only [VRel] at hY
    have hn := str_cells (P := P) (w := w) l
    obtain ⟨ρ', w', z, k1, k2, k3, k4⟩ := append_sim (ty := o.type) (u := u) hh ht hi q2 (by omega) (by omega) hb0 hX (X := a.eval y) (ys := l.map fun b => Value.int .u8 b.toNat) (n := l.length) (cs := l.map fun b => V.int .u8 b.toNat) (.inl ⟨.inl hu, by rw [hsz, hY]; exact hn⟩) (bytes_rel l) (by simp [hsz]) (by rw [hsz]; exact he)
    exact ⟨ρ', w', z, k1, k2, k3, .inl (by simp [Go.builtin, k4])⟩
  · cases he

theorem sim_slca (hh : HRel P gl B M ρ h w) (hs : SRel M ρ N s a.tmps) {o : Oper} {t e : TypeId} {x : Operand} {lo hi mx : Option Operand} (ho : o.op = .slice t x lo hi mx) {n : Nat} (ht : P.underlying t = some (.array n e)) {sz : Nat} (hsz : szOf P e = some sz)
    {x' : Opd} {lo' hi' mx' : Option Opd} (e1 : opd gl x = some x') (e2 : opdo gl lo = some lo') (e3 : opdo gl hi = some hi') (e4 : opdo gl mx = some mx') (hmx : mx = none ∨ hi ≠ none)
    {v : V} {h' : Heap} (he : op_slca n sz x' lo' hi' mx' s h = some (v, h')) : Good P gl B M ρ h w v h' ((execOp a.eval o).run P w) := by
  have hx := opd_rel hh hs e1
  have hl := opdo_rel hh hs e2
  have hhi := opdo_rel hh hs e3
  have hm := opdo_rel hh hs e4
  obtain ⟨i, hi1, rfl⟩ := szOf_spec hsz
  have hX : mx.map a.eval = none ∨ hi.map a.eval ≠ none := by
    rcases hmx with rfl | q
    · exact .inl rfl
    · right; intro q2; apply q; cases hi <;> simp_all
  unfold op_slca at he
  split at he
  · cases he
  · rename_i m q1
    split at he
    · cases he
    · rename_i h2 q2
      split at he
      · cases he
      · rename_i l q3
        obtain ⟨m', k1, k2, k3, k4, k5, k6, k7, k8⟩ := bounds_rel (P := P) (w := w) (isSlice := false) hl hhi hm hX (Nat.le_refl n) q1 q2 q3
        have hmm : m' = m := by
          by_cases z : mx.map a.eval = none
          · rw [(k2 z).1, (k2 z).2]
          · exact k3 z
        subst hmm
        have hlh : l ≤ h2 := by
          by_cases z : lo.map a.eval = none
          · rw [k5 z]; omega
          · exact k7 z
        have hhm : h2 ≤ m' := by
          by_cases z : hi.map a.eval = none
          · rw [k6 z]
            rcases hX with z2 | z2
            · rw [(k2 z2).2]; exact Nat.le_refl _
            · exact absurd z z2
          · exact k8 z
        have hrun : ∀ ad : Addr, a.eval x = .pointer (some ad) → (execOp a.eval o).run P w = .ok (.value (.slice (some (if m' = l then ad else ad.add (l * i.size))) (h2 - l) (m' - l))) w := by
          intro ad hq
          simp only [execOp, ho, Instr.sliceAt, Sem.run_bind, run_underlying ht, Result.andThen_ok, hq, sureAddr_run, k1, sizeOf, typeInfo, run_program, hi1, Sem.run_pure]
        split at he
        · rename_i b off ex
          rw [ex] at hx
          simp only [VRel] at hx
          obtain ⟨loc, r1, r2⟩ := hx
          split at he
          · rename_i c oo hg
            have hb := hh.blk b loc r1
            rw [hg] at hb
            obtain ⟨cur, e', fr, c1, c2, c3, c4, c5, c6⟩ := BRel.cells_iff.1 hb
            rw [beq_dec] at he
            cases z3 : (oo && decide (off + m' * i.size = c.length))
            · simp only [z3, cond_false] at he
              rw [ble_dec] at he
              by_cases z4 : off + n * i.size ≤ c.length
              · simp only [z4, decide_true, cond_true, Option.some.injEq, Prod.mk.injEq] at he
                obtain ⟨rfl, rfl⟩ := he
                refine Good.same hh ?_ (hrun _ r2)
                simp only [VRel]
                refine ⟨loc, _, m' - l, r1, rfl, ?_, ?_, by omega⟩
                · have e5 : off + l * i.size + (m' - l) * i.size = off + m' * i.size := by
                    rw [Nat.add_assoc, ← Nat.add_mul, Nat.add_sub_cancel' (by omega)]
                  unfold capR
                  rw [e5]
                  by_cases z4 : loc.ex = 0
                  · exact .inl ⟨z4, rfl⟩
                  · right; left
                    refine ⟨z4, ?_, rfl⟩
                    intro z5
                    cases oo with
                    | false => exact z4 (c6 rfl)
                    | true => simp [c3, z5] at z3
                · by_cases z2 : m' = l
                  · exact .inl (by omega)
                  · right
                    rw [if_neg z2, addr_add, Nat.add_assoc]
              · simp [z4] at he
            · simp [z3] at he
          · cases he
        · rename_i cs ex
          rw [ex] at hx
          simp only [VRel] at hx
          obtain ⟨ad, row, r1, r2, r3, r4⟩ := hx
          cases q4 : takeN ((h2 - l) * i.size) (cs.drop (l * i.size)) with
          | none => simp [q4] at he
          | some cs' =>
            simp only [q4, Option.map_some, Option.some.injEq, Prod.mk.injEq] at he
            obtain ⟨rfl, rfl⟩ := he
            refine Good.same hh ?_ (hrun _ r1)
            simp only [VRel]
            refine ⟨_, m' - l, rfl, fun c hc => by cases hc; rfl, by omega, ?_⟩
            by_cases z : cs' = []
            · exact .inl z
            · right
              obtain ⟨t1, t2⟩ := takeN_eq _ _ _ q4
              have hpos : 0 < (h2 - l) * i.size := by
                rw [← t2]
                exact List.length_pos_iff.2 z
              have hne : m' ≠ l := by
                intro z2
                have : h2 - l = 0 := by omega
                rw [this] at hpos
                simp at hpos
              rw [if_neg hne]
              obtain ⟨ab, ao, as⟩ := ad
              cases r3
              rw [addr_add]
              refine ⟨row, r2, rfl, ?_⟩
              have hd := VRels.drop (l * i.size) r4
              obtain ⟨u1, u2, u3⟩ := VRels.takeN hd q4
              have := VRels.more ((row.drop ao).drop (l * i.size) |>.drop ((h2 - l) * i.size)) u1
              rw [List.take_append_drop] at this
              simpa [List.drop_drop] using this
        · cases he

theorem sim_mks (hh : HRel P gl B M ρ h w) (hs : SRel M ρ N s a.tmps) {o : Oper} {t e : TypeId} {x y : Operand} (ho : o.op = .makeSlice t x y) (ht : P.underlying t = some (.slice e)) {i : TypeInfo} (hi : P.info? e = some i) {z : List V} (hz : zeroOf P e = some z) (h0 : z.length ≠ 0)
    {x' y' : Opd} (e1 : opd gl x = some x') (e2 : opd gl y = some y') {v : V} {h' : Heap} (he : op_mks i.bytes z x' y' s h = some (v, h')) : Good P gl B M ρ h w v h' ((execOp a.eval o).run P w) := by
  have hx := opd_rel hh hs e1
  have hy := opd_rel hh hs e2
  obtain ⟨i', zv, q1, q2, q3, q4, q5⟩ := zeroOf_spec hz
  rw [hi] at q1
  cases q1
  unfold op_mks at he
  split at he
  · rename_i l c el ec
    cases q : (Nat.ble l c && Nat.ble (c * i.bytes) 140737488355328 && Nat.ble c 9223372036854775807)
    · simp [q] at he
    · simp only [q, cond_true, Option.some.injEq, Prod.mk.injEq] at he
      obtain ⟨rfl, rfl⟩ := he
      have hq : (l ≤ c ∧ c * i.bytes ≤ 140737488355328) ∧ c ≤ 9223372036854775807 := by simpa [ble_dec] using q
      obtain ⟨k, hk⟩ := asNat_rel el hx
      obtain ⟨k', hk'⟩ := asNat_rel ec hy
      have hbm : (i.bytes : Int) * (c : Int) ≤ 281474976710656 := by
        have h1 : i.bytes * c ≤ 140737488355328 := by rw [Nat.mul_comm]; exact hq.1.2
        have h2 : ((i.bytes * c : Nat) : Int) ≤ 281474976710656 := by omega
        rwa [Int.natCast_mul] at h2
      have hr := run_make (P := P) w t e i zv ht hi q2 k k' (l : Int) (c : Int) (by omega) (by omega) hbm (by omega)
      simp only [Int.toNat_natCast] at hr
      obtain ⟨m1, m2⟩ := made_rel (q4 M ρ) q5 h0 c
      have hsz : i.size = zv.cells.size := by omega
      obtain ⟨ρ', r1, r2, r3⟩ := new_row hh m1 m2 e z.length
      refine ⟨ρ', _, _, r1, r2, sl_new r3 rfl rfl hq.1.1, .inl ?_⟩
      rw [hsz] at hr
      simp only [execOp, ho, Sem.run_bind, hk, hk', hr, Result.andThen_ok, Sem.run_pure]
      rfl
  · cases he

theorem first_cells (hh : HRel P gl B M ρ h w) {v : V} {x : Value} (hv : VRel M ρ v x) {sz n k : Nat} {cs cs' : List V} (hc : rowOf h sz v = some cs) (hn : lenOf v = some n) (hk : k ≤ n) (ht : takeN (k * sz) cs = some cs') :
    ∃ ys, ys.length = k * sz ∧ (Builtin.firstCells sz k x).run P w = .ok ys.toArray w ∧ VRels M ρ cs' ys := by
  obtain ⟨ba, cap, row, rfl, k1, k2, k3, k4⟩ := rowOf_rel hh hv hc hn (rowOf_len hc hn)
  obtain ⟨t1, t2, t3⟩ := VRels.takeN k1 ht
  refine ⟨row.take (k * sz), t3, ?_, t1⟩
  cases ba with
  | none =>
    have h0 := k3 rfl
    subst h0
    have : row = [] := List.eq_nil_of_length_eq_zero (by simpa using k2)
    subst this
    simp [Builtin.firstCells]
  | some ad =>
    exact run_firstCells_some (P := P) w sz k ad n cap _ t3 (fun j u hj => by
      rw [List.getElem?_take] at hj
      split at hj
      · exact k4 ad rfl j u hj
      · cases hj)

/-- copy: the cells are at hand. -/
theorem copy_fin (hh : HRel P gl B M ρ h w) {o : Oper} {c : Call} {consts : Array Bool} {x y : Operand} {t e : TypeId} (hty0 : c.argTypes[0]? = some t)
    (ht : P.underlying t = some (.slice e)) {i : TypeInfo} (hi : P.info? e = some i) {xv : V} (hX : VRel M ρ xv (a.eval x)) {nd ns : Nat} (hnd : lenOf xv = some nd) {cs : List V} {ys : List Value}
    (s1 : ys.length = Nat.min ns nd * i.size) (s2 : (Builtin.lenOf (a.eval y)).run P w = .ok ns w) (s3 : (Builtin.firstCells i.size (Nat.min ns nd) (a.eval y)).run P w = .ok ys.toArray w) (s4 : VRels M ρ cs ys) (s5 : cs.length = ys.length)
    {v : V} {h' : Heap} (he : copyTo h i.size xv (Nat.min ns nd) cs = some (v, h')) :
    Good P gl B M ρ h w v h' ((Go.builtin .copy c.argTypes o.type consts #[a.eval x, a.eval y]).run P w) := by
  have fin : ∀ (base : Option Addr) (cap : Nat) (w' : World), a.eval x = .slice base nd cap → (match base with | none => w' = w | some ad => (storeCells ad ys).run P w = .ok () w') →
      (Go.builtin .copy c.argTypes o.type consts #[a.eval x, a.eval y]).run P w = .ok (.value (.int .i64 (Nat.min ns nd : Nat))) w' := by
    intro base cap w' hb hst
    cases base with
    | none =>
      simp only at hst
      subst hst
      simp [Go.builtin, Builtin.copy_, hty0, run_underlying ht, hb, s2, s3, sizeOf, typeInfo, hi, goInt]
    | some ad =>
      simp only at hst
      simp [Go.builtin, Builtin.copy_, hty0, run_underlying ht, hb, s2, s3, sizeOf, typeInfo, hi, goInt, hst]
  unfold copyTo at he
  split at he
  · rename_i b off len cap sz'
    simp only [lenOf, Option.some.injEq] at hnd
    subst hnd
    by_cases hsz' : i.size = sz'
    · subst hsz'
      rw [beq_dec] at he
      simp only [decide_true, cond_true] at he
      cases q : store h b off cs with
      | none => simp [q] at he
      | some h1 =>
        simp only [q, Option.some.injEq, Prod.mk.injEq] at he
        obtain ⟨rfl, rfl⟩ := he
        simp only [VRel] at hX
        obtain ⟨l, ad, cap', r1, r2, r3, r4, r5⟩ := hX
        by_cases hy0 : ys = []
        · subst hy0
          have : cs = [] := List.eq_nil_of_length_eq_zero (by simpa using s5)
          subst this
          simp only [store, Option.some.injEq] at q
          subst q
          exact ⟨ρ, w, _, hh, Evo.refl _ _ _ _, by simp [VRel], .inl (fin _ _ w r2 (by simp [storeCells]))⟩
        · have had : ad = ⟨l.blk, l.base + off, none⟩ := by
            rcases r4 with z | z
            · exfalso
              apply hy0
              have := capR_le r3
              have h0 : Nat.min ns len = 0 := by
                have : Nat.min ns len ≤ len := Nat.min_le_right ns len
                omega
              rw [h0] at s1
              exact List.eq_nil_of_length_eq_zero (by simpa using s1)
            · exact z
          subst had
          obtain ⟨w', t1, t2, t3⟩ := store_rel hh r1 s4 s5 q
          exact ⟨ρ, w', _, t2, t3, by simp [VRel], .inl (fin _ _ w' r2 t1)⟩
    · simp [beq_dec, hsz'] at he
  · simp only [lenOf, Option.some.injEq] at hnd
    subst hnd
    cases he
    simp only [VRel] at hX
    have := fin none 0 w hX rfl
    have h0 : Nat.min ns 0 = 0 := Nat.min_zero ns
    rw [h0] at this
    exact Good.same hh (x := .int .i64 0) (by simp [VRel]) (by simpa using this)
  · cases he

theorem sim_cpy (hh : HRel P gl B M ρ h w) (hs : SRel M ρ N s a.tmps) {o : Oper} {c : Call} (ho : o.op = .call c) (hc : c.callee = .builtin .copy) {x y : Operand} (hx : c.args.toList = [x, y]) {t e : TypeId} {tr : List TypeId} (hty : c.argTypes.toList = t :: tr)
    (ht : P.underlying t = some (.slice e)) {sz : Nat} (hsz : szOf P e = some sz) {x' y' : Opd} (e1 : opd gl x = some x') (e2 : opd gl y = some y') {v : V} {h' : Heap} (he : op_cpy sz x' y' s h = some (v, h')) :
    Good P gl B M ρ h w v h' ((execOp a.eval o).run P w) := by
  have hX := opd_rel hh hs e1
  have hY := opd_rel hh hs e2
  obtain ⟨i, hi, rfl⟩ := szOf_spec hsz
  obtain ⟨consts, hrun⟩ := builtin_run (a := a) ho hc
  rw [hrun, args2 hx]
  have hty0 : c.argTypes[0]? = some t := by
    have := congrArg (fun l : List TypeId => l[0]?) hty
    simpa using this
  unfold op_cpy copyV at he
  split at he
  · rename_i nd ns hnd hns
    split at he
    · cases he
    · rename_i cs hcs
      unfold srcCells at hcs
      cases q : rowOf h i.size (y'.ev s) with
      | none => simp [q] at hcs
      | some row =>
        simp only [q] at hcs
        obtain ⟨ys, f1, f2, f3⟩ := first_cells hh hY q hns (Nat.min_le_left _ _) hcs
        refine copy_fin hh hty0 ht hi hX hnd f1 ?_ f2 f3 (by rw [f1]; exact (takeN_eq _ _ _ hcs).2) he
        rcases lenOf_rel hY hns with ⟨ad, cc, hq⟩ | ⟨l, hl, _, _⟩
        · rw [hq]; simp [Builtin.lenOf]
        · rw [hl] at q; simp [rowOf] at q
  · cases he

theorem sim_cpys (hh : HRel P gl B M ρ h w) (hs : SRel M ρ N s a.tmps) {o : Oper} {c : Call} (ho : o.op = .call c) (hc : c.callee = .builtin .copy) {x y : Operand} (hx : c.args.toList = [x, y]) {t e : TypeId} {tr : List TypeId} (hty : c.argTypes.toList = t :: tr)
    (ht : P.underlying t = some (.slice e)) (hsz : szOf P e = some 1) {x' y' : Opd} (e1 : opd gl x = some x') (e2 : opd gl y = some y') {v : V} {h' : Heap} (he : op_cpys x' y' s h = some (v, h')) :
    Good P gl B M ρ h w v h' ((execOp a.eval o).run P w) := by
  have hX := opd_rel hh hs e1
  have hY := opd_rel hh hs e2
  obtain ⟨i, hi, hi1⟩ := szOf_spec hsz
  obtain ⟨consts, hrun⟩ := builtin_run (a := a) ho hc
  rw [hrun, args2 hx]
  have hty0 : c.argTypes[0]? = some t := by
    have := congrArg (fun l : List TypeId => l[0]?) hty
    simpa using this
  unfold op_cpys at he
  split at he
  · rename_i l hl
    rw [hl] at hY
    simp only [VRel] at hY
    unfold copyS at he
    split at he
    · rename_i nd hnd
      split at he
      · cases he
      · rename_i cs hcs
        obtain ⟨t1, t2, t3⟩ := VRels.takeN (bytes_rel (M := M) (ρ := ρ) l) hcs
        refine copy_fin hh hty0 ht hi hX hnd (ns := l.length) (by rw [hi1, Nat.mul_one]; exact t3) (by rw [hY]; simp [Builtin.lenOf, size_mk]) ?_ t1 (by rw [t2, t3]) (by rw [hi1]; exact he)
        rw [hY]
        simp only [Builtin.firstCells, Sem.run_pure]
        congr 1
        apply Array.ext'
        have : ((⟨l.toArray⟩ : ByteArray).extract 0 (Nat.min l.length nd)).data.toList = l.take (Nat.min l.length nd) := by
          simp [ByteArray.data_extract]
        simp [this]
    · cases he
  · cases he
end
end Go.VE
