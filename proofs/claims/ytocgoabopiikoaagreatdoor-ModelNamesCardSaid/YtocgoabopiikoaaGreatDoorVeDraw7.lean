/- A part of a proof that a small evaluator of the translated code agrees with the model (part Draw7). No statement of the program stands here. -/
import Derived.Test.YtocgoabopiikoaaGreatDoorVeDraw6
set_option linter.all false
namespace Go.VE
section
variable {P : Program} {gl : Nat → Option (List V)} {pu : Nat → Nat} {N B : Nat} {vp : Nat → Option VFn} {n : Nat} {ops : Array Oper} {ys : List VOper} {chk : List (Nat × Nat)} {S : Nat → Slots} {H : Nat → Heap} {M0 : Mem} {ρ0 : Rho} {w0 : World}
  {E : Nat → Prop} {M : Mem} {ρ : Rho} {C D : Nat → Nat} {a : Act} {w : World} {i : Nat} {y : VOper}

theorem wr_kind (nx : Next ops ys E i y) {b : Nat} (hw : Wr ys S H i b) : (kindOf y.op = 1 ∨ kindOf y.op = 6) ∨ (kindOf y.op = 3 ∧ ∃ m j x, y.op = .st m (.t j) x ∧ m ≠ 0) ∨ kindOf y.op = 5 := by
  obtain ⟨z, hz, _, ⟨h1, _⟩ | ⟨m, j, x, off, h1, _, h2⟩ | ⟨h1, _⟩⟩ := hw <;> rw [nx.at_] at hz <;> cases hz
  · exact .inl h1
  · exact .inr (.inl ⟨by rw [h1]; rfl, m, j, x, h1, h2⟩)
  · exact .inr (.inr h1)

/-- One operation, whenever it may come. -/
theorem one_op (ht : TabOK P gl pu vp) (ih : ∀ m, m < n → CallOK P gl B vp m) (fx : Fix P gl B vp n ops ys chk S H M0 ρ0 w0) (nx : Next ops ys E i y) (is : InvS ys S H N E M ρ D a.tmps) (iv : InvH P gl B ys S H M0 ρ0 w0 E M ρ C w)
    {o : Oper} (ho : ops[i]? = some o) (hoa : OpAs P gl pu N ops o y) {Q : Exit → Act → World → Prop} {K : Act → World → Prop}
    (hK : ∀ (a' : Act) (w' : World) (M' : Mem) (ρ' : Rho) (C' D' : Nat → Nat), a'.defers = a.defers → InvS ys S H N (fun k => E k ∨ k = i) M' ρ' D' a'.tmps → InvH P gl B ys S H M0 ρ0 w0 (fun k => E k ∨ k = i) M' ρ' C' w' → K a' w') :
    wpOp P ops Q i K a w := by
  have hi := nx.ilt
  have hwf := fx.run.wfs (Nat.le_of_lt hi)
  have hdst : ∀ d, y.dst = some d → d < N := fun d hd => hoa.dlt d (by rw [← hoa.dst]; exact hd)
  have hlonx : (H i).lo ≤ (H i).nx := by
    have h1 := fx.run.lo (Nat.le_of_lt hi)
    have h2 := fx.run.nx (k := 0) (j := i) (by omega) (Nat.le_of_lt hi)
    have := fx.rel.lonx
    omega
  unfold wpOp
  simp only [ho]
  have hgr : ∀ t, gEval y.g (S i) = some t → Region.wanted o (yielded ops a.tmps) = t := by
    intro t ht
    refine guard_rel (M := M) (ρ := ρ) hoa is.size (fun d wt hy => ?_) ht
    have hr : d ∈ y.reads := by simp [VOper.reads, hy]
    obtain ⟨k1, k2⟩ := slot_now fx nx is hr
    rw [k2]
    exact VRel.mono (Mle.refl _) (below_le _ _) _ (is.slot d)
  rcases fx.run.step i y nx.at_ with ⟨hg, m, v, hm, hst, hS⟩ | ⟨hg, hH, hS⟩
  · rw [hgr true hg]
    simp only [if_true]
    left
    obtain ⟨s2, hs2, hsr⟩ := view_slots fx nx is
    cases m with
    | zero => simp [stepOp] at hst
    | succ m =>
      -- the walk over a view
      have walk : ∀ (hv hv' : Heap), hv.nx = (H i).nx → hv.lo ≤ hv.nx → (∀ b, hv.get b = .dead ∨ (View y.op (S i) b ∧ hv.get b = (H i).get b)) → stepOp vp (m + 1) y.op (S i) hv = some (v, hv') →
          (∀ x w' M' ρ', HRel P gl B M' ρ' hv' w' → Evo M (ρ.below (H i).nx) hv w M' ρ' hv' w' → VRel M' ρ' v x → K (a.put o.dst x) w') → o.wp P a w K Q := by
        intro hv hv' e1 e2 e3 e4 hk
        have hrel := view_rel fx nx iv e1 e2 e3
        refine step_sound ht (ih m (by omega)) (ih (m - 1) (by omega)) hrel hsr hoa.op (by rw [stepOp_congr hs2]; exact e4) ?_
        rintro x w' ⟨M', ρ', g1, g2, g3⟩
        exact hk x w' M' ρ' g1 g2 g3
      -- what changes nothing
      have quiet : ∀ (hv : Heap), hv.nx = (H i).nx → hv.lo = (H i).nx → (∀ b, hv.get b = .dead ∨ (View y.op (S i) b ∧ hv.get b = (H i).get b)) → stepOp vp (m + 1) y.op (S i) hv = some (v, hv) → H (i + 1) = H i → (∀ b, ¬ Wr ys S H i b) → o.wp P a w K Q := by
        intro hv e1 e2 e3 e4 e5 e6
        refine walk hv hv e1 (by omega) e3 e4 ?_
        intro x w' M' ρ' g1 g2 g3
        have hback : Rle ρ' (ρ.below (H (i + 1)).nx) := by
          intro b l e
          obtain ⟨h1, h2⟩ := view_back e1 g1 g2 e
          rw [e5]
          exact Rho.below_some.2 ⟨by omega, h2 (by omega)⟩
        have hold : ∀ k, k < w.heap.size → w'.heap[k]? = w.heap[k]? := by
          intro k hk
          refine g2.frame k hk (fun b l e _ hb => ?_)
          have := (Rho.below_some.1 e).1
          omega
        rw [← hoa.dst]
        refine hK _ w' M' ρ _ _ (put_defers _ _ _) (invS_next fx nx is g2.mem (Rle.refl _) hS (VRel.mono (Mle.refl _) hback _ g3) hdst)
          (invH_quiet iv e6 g2.mem g1.mem g2.mnew g2.os g2.tape g2.output g2.size hold ?_)
        intro b m' j x' off z hz hop hgz hp
        rw [nx.at_] at hz
        cases hz
        have hr : j ∈ rdOp y.op := by rw [hop]; simp [rdOp, opdR]
        have := hsr.rel j
        rw [hs2 j hr, hp] at this
        simp only [VRel] at this
        obtain ⟨l, q, _⟩ := this
        exact ⟨l, (Rho.below_some.1 q).2⟩
      have h5 := kind_le y.op
      by_cases hq : kindOf y.op = 0 ∨ kindOf y.op = 2 ∨ kindOf y.op = 4
      · obtain ⟨e1, hv, e2, e3, e4, e5⟩ := quiet_view hwf hq hst
        refine quiet hv e2 e3 e4 e5 e1 (fun b hw => ?_)
        rcases wr_kind nx hw with r | ⟨r, _⟩ | r <;> omega
      by_cases h1 : kindOf y.op = 1
      · obtain ⟨X, e1, e2⟩ := new_view h1 hst
        refine walk (bare (H i).nx) _ rfl (Nat.le_refl _) (fun b => .inl (bare_get _ _)) e2 ?_
        intro x w' M' ρ' g1 g2 g3
        have hnx1 : (H (i + 1)).nx = (H i).nx + 1 := by rw [e1]; rfl
        obtain ⟨ρ2, C2, k1, k2, k3⟩ := invH_new fx nx iv (.inl h1) hg (hv := bare (H i).nx) (hv' := (bare (H i).nx).new X) rfl rfl (by rw [hnx1]; rfl) (fun b hb => by
          rw [e1, Heap.get_new, Heap.get_new]
          show (if b = (H i).nx then X else _) = _
          split
          · rfl
          · rw [bare_get, hwf b hb]) g1 g2
        rw [← hoa.dst]
        exact hK _ w' M' ρ2 _ _ (put_defers _ _ _) (invS_next fx nx is g2.mem k1 hS (VRel.mono (Mle.refl _) k2 _ g3) hdst) k3
      by_cases h6 : kindOf y.op = 6
      · obtain ⟨_, e2⟩ := own_view h6 hst
        refine walk { H i with lo := (H i).nx } { H (i + 1) with lo := (H i).nx } rfl (Nat.le_refl _) (fun b => .inr ⟨.inr (.inr (.inr (.inr h6))), rfl⟩) e2 ?_
        intro x w' M' ρ' g1 g2 g3
        obtain ⟨ρ2, C2, k1, k2, k3⟩ := invH_new fx nx iv (.inr h6) hg (hv := { H i with lo := (H i).nx }) (hv' := { H (i + 1) with lo := (H i).nx }) rfl rfl rfl (fun b hb => rfl) g1 g2
        rw [← hoa.dst]
        exact hK _ w' M' ρ2 _ _ (put_defers _ _ _) (invS_next fx nx is g2.mem k1 hS (VRel.mono (Mle.refl _) k2 _ g3) hdst) k3
      by_cases h3 : kindOf y.op = 3
      · obtain ⟨m', j, x0, hop⟩ := kind3_is h3
        have hst' := hst
        rw [hop] at hst'
        obtain ⟨b0, off, e1, ⟨e0, e2, e3⟩ | ⟨e0, e2, ⟨c, oo, e3⟩, Y, e4, e5, e6⟩⟩ := store_view hst'
        · refine quiet (bare (H i).nx) rfl rfl (fun b => .inl (bare_get _ _)) (by rw [hop]; exact e3) e2 (fun b hw => ?_)
          rcases wr_kind nx hw with r | ⟨_, m2, j2, x2, r1, r2⟩ | r
          · omega
          · rw [hop] at r1; cases r1; exact r2 e0
          · omega
        · have hr : j ∈ rdOp y.op := by rw [hop]; simp [rdOp, opdR]
          have hrel := hsr.rel j
          rw [hs2 j hr, e1] at hrel
          simp only [VRel] at hrel
          obtain ⟨l0, q0, _⟩ := hrel
          have q0 := (Rho.below_some.1 q0).2
          have hone : ∀ b, (oneBlk (H i).nx (H i).lo b0 ((H i).get b0)).get b = .dead ∨ (View y.op (S i) b ∧ (oneBlk (H i).nx (H i).lo b0 ((H i).get b0)).get b = (H i).get b) := by
            intro b
            rw [oneBlk_get]
            split
            · rename_i hb
              subst hb
              exact .inr ⟨.inr (.inl ⟨m', j, x0, off, hop, e1⟩), rfl⟩
            · exact .inl rfl
          refine walk (oneBlk (H i).nx (H i).lo b0 ((H i).get b0)) _ rfl hlonx hone (by rw [hop]; exact e6 _ (by rw [oneBlk_get, if_pos rfl]) rfl) ?_
          intro x w' M' ρ' g1 g2 g3
          obtain ⟨C2, k1, k2⟩ := invH_store fx nx iv hop hg e1 e2 e3 e5 e4 e0 q0 g1 g2
          rw [← hoa.dst]
          exact hK _ w' M' ρ _ _ (put_defers _ _ _) (invS_next fx nx is g2.mem (Rle.refl _) hS (VRel.mono (Mle.refl _) k1 _ g3) hdst) k2
      · have hk5 : kindOf y.op = 5 := by omega
        refine walk (H i) _ rfl hlonx (fun b => .inr ⟨.inr (.inr (.inr (.inl hk5))), rfl⟩) hst ?_
        intro x w' M' ρ' g1 g2 g3
        obtain ⟨ρ2, C2, k1, k2, k3⟩ := invH_eff fx nx iv hk5 hg g1 g2
        rw [← hoa.dst]
        exact hK _ w' M' ρ2 _ _ (put_defers _ _ _) (invS_next fx nx is g2.mem k1 hS (VRel.mono (Mle.refl _) k2 _ g3) hdst) k3
  · rw [hgr false hg]
    simp only [Bool.false_eq_true, if_false]
    rw [← hoa.dst]
    refine hK _ w M ρ _ _ (put_defers _ _ _) (invS_next fx nx is (Mle.refl _) (Rle.refl _) hS undef_rel hdst)
      (invH_quiet iv ?_ (Mle.refl _) iv.mem (fun _ _ q => .inl q) rfl rfl rfl (Nat.le_refl _) (fun _ _ => rfl) ?_)
    · rintro b ⟨z, hz, hgz, _⟩
      rw [nx.at_] at hz
      cases hz
      rw [hg] at hgz
      cases hgz
    · intro b m' j x' off z hz hop hgz hp
      rw [nx.at_] at hz
      cases hz
      rw [hg] at hgz
      cases hgz
end
end Go.VE
