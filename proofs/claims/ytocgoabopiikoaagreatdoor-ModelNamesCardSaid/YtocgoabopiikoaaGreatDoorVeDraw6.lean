/- A part of a proof that a small evaluator of the translated code agrees with the model (part Draw6). No statement of the program stands here. -/
import Derived.Test.YtocgoabopiikoaaGreatDoorVeDraw5
set_option linter.all false
namespace Go.VE
section
variable {P : Program} {gl : Nat → Option (List V)} {pu : Nat → Nat} {N B : Nat} {vp : Nat → Option VFn} {n : Nat} {ops : Array Oper} {ys : List VOper} {chk : List (Nat × Nat)} {S : Nat → Slots} {H : Nat → Heap} {M0 : Mem} {ρ0 : Rho} {w0 : World}
  {E : Nat → Prop} {M : Mem} {ρ : Rho} {C D : Nat → Nat} {a : Act} {w : World} {i : Nat} {y : VOper}

/-- the view of a store -/
def oneBlk (m lo b : Nat) (x : Blk) : Heap := { bare m with lo := lo }.set b x
theorem oneBlk_get (m lo b : Nat) (x : Blk) (c : Nat) : (oneBlk m lo b x).get c = if c = b then x else .dead := by
  unfold oneBlk
  rw [Heap.get_set]
  split
  · rfl
  · exact bare_get m c

theorem invH_store (fx : Fix P gl B vp n ops ys chk S H M0 ρ0 w0) (nx : Next ops ys E i y) (iv : InvH P gl B ys S H M0 ρ0 w0 E M ρ C w) {m j : Nat} {x0 : Opd} (hop : y.op = .st m (.t j) x0) (hg : gEval y.g (S i) = some true)
    {b0 off : Nat} (hp : (S i).at j = .ptr b0 off) (hlo : (H i).lo ≤ b0) {c : List V} {o : Bool} (hcell : (H i).get b0 = .cells c o) {Y : Blk} (hY : Y ≠ .dead) (hH : H (i + 1) = (H i).set b0 Y) (hne : m ≠ 0)
    {l0 : Loc} (e0 : ρ b0 = some l0) {M' : Mem} {ρ' : Rho} {w' : World} (g1 : HRel P gl B M' ρ' ((oneBlk (H i).nx (H i).lo b0 ((H i).get b0)).set b0 Y) w')
    (g2 : Evo M (ρ.below (H i).nx) (oneBlk (H i).nx (H i).lo b0 ((H i).get b0)) w M' ρ' ((oneBlk (H i).nx (H i).lo b0 ((H i).get b0)).set b0 Y) w') :
    ∃ C2, Rle ρ' (ρ.below (H (i + 1)).nx) ∧ InvH P gl B ys S H M0 ρ0 w0 (fun k => E k ∨ k = i) M' ρ C2 w' := by
  have hnx : (H (i + 1)).nx = (H i).nx := by rw [hH]; rfl
  have hi := nx.ilt
  have hb0 : b0 < (H i).nx := by
    rcases Nat.lt_or_ge b0 (H i).nx with q | q
    · exact q
    · have := fx.run.wfs (Nat.le_of_lt hi) b0 q
      rw [hcell] at this
      cases this
  have hview : View y.op (S i) b0 := .inr (.inl ⟨m, j, x0, off, hop, hp⟩)
  obtain ⟨hC0, hcur0⟩ := blk_now fx nx iv hview e0 hb0
  have hlive0 : (H (C b0)).get b0 ≠ .dead := by rw [← hcur0, hcell]; simp
  have hk3 : kindOf y.op = 3 := by rw [hop]; rfl
  have hwr : ∀ b, Wr ys S H i b → b = b0 := by
    rintro b ⟨z, hz, _, ⟨h1, _⟩ | ⟨m', j', x', off', h1, h2, _⟩ | ⟨h1, _⟩⟩
    · rw [nx.at_] at hz; cases hz; rw [hk3] at h1; rcases h1 with h1 | h1 <;> cases h1
    · rw [nx.at_] at hz; cases hz; rw [hop] at h1; cases h1; rw [hp] at h2; cases h2; rfl
    · rw [nx.at_] at hz; cases hz; rw [hk3] at h1; cases h1
  have hiw : Wr ys S H i b0 := ⟨y, nx.at_, hg, .inr (.inl ⟨m, j, x0, off, hop, hp, hne⟩)⟩
  have hback : ∀ b l, ρ' b = some l → b < (H i).nx ∧ (b < (H i).nx → ρ b = some l) := fun b l e => view_back (hv := oneBlk (H i).nx (H i).lo b0 ((H i).get b0)) rfl g1 g2 e
  have hρ' : Rle ρ' (ρ.below (H (i + 1)).nx) := by
    intro b l e
    obtain ⟨h1, h2⟩ := hback b l e
    exact Rho.below_some.2 ⟨by omega, h2 h1⟩
  have hρl : ρ' b0 = some l0 := g2.rho b0 l0 (Rho.below_some.2 ⟨hb0, e0⟩)
  have hM := g2.mem
  have hold : ∀ k, k < w.heap.size → k ≠ l0.blk → w'.heap[k]? = w.heap[k]? := by
    intro k hk hkl
    refine g2.frame k hk (fun b l e hl hlo' q => ?_)
    have hbb : b = b0 := by
      unfold live at hl
      rw [oneBlk_get] at hl
      by_cases hq : b = b0
      · exact hq
      · rw [if_neg hq] at hl; exact absurd rfl hl
    subst hbb
    have := (Rho.below_some.1 e).2
    rw [e0] at this
    cases this
    exact hkl q.symm
  have gnew : ((oneBlk (H i).nx (H i).lo b0 ((H i).get b0)).set b0 Y).get b0 = Y := by
    rw [Heap.get_set]
    exact if_pos rfl
  have hget : (H (i + 1)).get b0 = Y := by rw [hH, Heap.get_set, if_pos rfl]
  let C2 : Nat → Nat := fun b => if b = b0 then i + 1 else C b
  have c2n : C2 b0 = i + 1 := by simp [C2]
  have c2o : ∀ b, b ≠ b0 → C2 b = C b := fun b hb => by simp [C2, hb]
  have cl : ∀ b, (H (C2 b)).get b ≠ .dead → (H (C b)).get b ≠ .dead := by
    intro b hl
    by_cases hb : b = b0
    · subst hb; exact hlive0
    · rw [c2o b hb] at hl; exact hl
  refine ⟨C2, hρ', ?_⟩
  refine ⟨fun b l e => ?_, fun b l e => ?_, fun b l e => ?_, fun b l e k hk hw => ?_, fun b l e => ?_, fun b b' l l' e e' hl hl' heq => iv.inj b b' l l' e e' (cl b hl) (cl b' hl') heq, g1.mem, fun b l e hl => ?_, fun b l e hl => iv.base b l e (cl b hl), Nat.le_trans iv.room g2.size, g1.glob, fun b l e => ?_, fun k b m' j' x off' z hk hz ho hgz hpz => ?_,
    iv.rho, iv.mle.trans hM, fun k cs e => ?_, g2.os.trans iv.os, g2.tape.trans iv.tape, g2.output.trans iv.output, Nat.le_trans iv.wsize g2.size, fun b l e hl hlo' => iv.wr b l e (cl b hl) hlo', fun k hk hno => ?_, fun b l e hlo' => ?_, iv.new⟩
  · by_cases hb : b = b0
    · subst hb; rw [c2n]; exact hi
    · rw [c2o b hb]; exact iv.le b l e
  · by_cases hb : b = b0
    · subst hb; rw [c2n, hnx]; exact hb0
    · rw [c2o b hb]; exact iv.lt b l e
  · by_cases hb : b = b0
    · subst hb; rw [c2n]; exact .inr ⟨i, rfl, .inr rfl, hiw⟩
    · rw [c2o b hb]
      rcases iv.last b l e with h | ⟨k, h1, h2, h3⟩
      · exact .inl h
      · exact .inr ⟨k, h1, .inl h2, h3⟩
  · by_cases hb : b = b0
    · subst hb
      rw [c2n]
      rcases hk with hk | hk
      · have := iv.all b l e k hk hw
        omega
      · omega
    · rw [c2o b hb]
      rcases hk with hk | hk
      · exact iv.all b l e k hk hw
      · subst hk; exact absurd (hwr b hw) hb
  · by_cases hb : b = b0
    · subst hb
      rw [e0] at e
      cases e
      rw [c2n, hget]
      have := g1.blk _ _ hρl
      rw [gnew] at this
      exact BRel.mono (Mle.refl _) hρ' this
    · rw [c2o b hb]
      by_cases hd : (H (C b)).get b = .dead
      · rw [hd]; simp [BRel]
      · have hbk := iv.blk b l e
        have hne' : l.blk ≠ l0.blk := fun q => hb (iv.inj b b0 l l0 e e0 hd hlive0 q)
        rw [hold _ (BRel.lt hbk hd) hne']
        exact BRel.mono hM (Rle.refl _) hbk
  · have hl' := cl b hl
    have hb := BRel.lt (iv.blk b l e) hl'
    cases hq : M' l.blk with
    | none => rfl
    | some cs =>
      rcases g2.mnew _ _ hq with q | q
      · rw [iv.sep b l e hl'] at q; cases q
      · omega
  · rcases iv.own b l e with h | ⟨k, h1, h2⟩
    · exact .inl h
    · exact .inr ⟨k, .inl h1, h2⟩
  · rcases hk with hk | hk
    · exact iv.w3 k b m' j' x off' z hk hz ho hgz hpz
    · subst hk
      rw [nx.at_] at hz
      cases hz
      rw [hop] at ho
      cases ho
      rw [hp] at hpz
      cases hpz
      exact ⟨l0, e0⟩
  · rcases g2.mnew _ _ e with q | q
    · exact iv.mnew _ _ q
    · exact .inr (Nat.le_trans iv.wsize q)
  · have hkl : k ≠ l0.blk := by
      intro q
      rcases iv.wr b0 l0 e0 hlive0 (by rw [← fx.run.lo (Nat.le_of_lt hi)]; exact hlo) with r | ⟨b1, l1, r1, r2, r3, r4⟩
      · omega
      · exact hno b1 l1 r1 r2 r3 (r4.trans q.symm)
    rw [hold k (Nat.lt_of_lt_of_le hk iv.wsize) hkl]
    exact iv.frame k hk hno
  · have hb : b ≠ b0 := fun q => by
      have := fx.run.lo (Nat.le_of_lt hi)
      omega
    rw [c2o b hb]
    exact iv.low b l e hlo'

theorem invH_eff (fx : Fix P gl B vp n ops ys chk S H M0 ρ0 w0) (nx : Next ops ys E i y) (iv : InvH P gl B ys S H M0 ρ0 w0 E M ρ C w) (hk5 : kindOf y.op = 5) (hg : gEval y.g (S i) = some true)
    {M' : Mem} {ρ' : Rho} {w' : World} (g1 : HRel P gl B M' ρ' (H (i + 1)) w') (g2 : Evo M (ρ.below (H i).nx) (H i) w M' ρ' (H (i + 1)) w') :
    ∃ ρ2 C2, Rle ρ ρ2 ∧ Rle ρ' (ρ2.below (H (i + 1)).nx) ∧ InvH P gl B ys S H M0 ρ0 w0 (fun k => E k ∨ k = i) M' ρ2 C2 w' := by
  have hi := nx.ilt
  have h0 := fx.run.nx (k := 0) (j := i) (by omega) (by omega)
  have h1i := fx.run.nx (k := i) (j := i + 1) (by omega) (by omega)
  have late : ∀ k, E k → i < k → ∃ z, ys[k]? = some z ∧ (kindOf z.op = 0 ∨ kindOf z.op = 1) := by
    intro k hk hik
    have hkl := nx.lt k hk
    have hz : ys[k]? = some ys[k] := by simp [hkl]
    refine ⟨_, hz, ?_⟩
    rcases (later fx nx hk hz hik).kind with hp | ⟨n', a', m', b', x', o1, _⟩
    · rw [hk5] at hp
      have hq := kind_le ys[k].op
      generalize kindOf ys[k].op = q at hp hq ⊢
      rcases q with _ | _ | _ | _ | _ | _ | _ | q
      · exact .inl rfl
      · exact .inr rfl
      · cases hp
      · cases hp
      · cases hp
      · cases hp
      · cases hp
      · omega
    · rw [o1] at hk5; cases hk5
  have hgap : ∀ b l, ρ b = some l → b < (H (i + 1)).nx → b < (H i).nx := by
    intro b l e hb
    rcases Nat.lt_or_ge b (H i).nx with q | q
    · exact q
    · rw [fresh_none fx nx iv q hb] at e; cases e
  have hback : ∀ b l, ρ' b = some l → b < (H (i + 1)).nx ∧ (b < (H i).nx → ρ b = some l) := fun b l e => view_back rfl g1 g2 e
  have hlo := fx.run.lo (Nat.le_of_lt hi)
  have hlonx : (H i).lo ≤ (H i).nx := by
    have := fx.rel.lonx
    omega
  have hnow : ∀ b l, ρ b = some l → b < (H i).nx → (H i).get b = (H (C b)).get b := fun b l e hb => (blk_now fx nx iv (.inr (.inr (.inr (.inl hk5)))) e hb).2
  have hwr : ∀ b, b < (H (i + 1)).nx → Wr ys S H i b := fun b hb => ⟨y, nx.at_, hg, .inr (.inr ⟨hk5, hb⟩)⟩
  have hwr' : ∀ b, Wr ys S H i b → b < (H (i + 1)).nx := by
    rintro b ⟨z, hz, _, ⟨h1, _, h2⟩ | ⟨m, j, x, off, h1, _⟩ | ⟨_, h2⟩⟩
    · exact h2
    · rw [nx.at_] at hz; cases hz; rw [h1] at hk5; cases hk5
    · exact h2
  have hM := g2.mem
  let ρ2 : Rho := fun b => if b < (H (i + 1)).nx then ρ' b else ρ b
  let C2 : Nat → Nat := fun b => if b < (H (i + 1)).nx then i + 1 else C b
  have r2n : ∀ b, b < (H (i + 1)).nx → ρ2 b = ρ' b := fun b hb => by simp [ρ2, hb]
  have r2o : ∀ b, ¬ b < (H (i + 1)).nx → ρ2 b = ρ b := fun b hb => by simp only [ρ2]; rw [if_neg hb]
  have c2n : ∀ b, b < (H (i + 1)).nx → C2 b = i + 1 := fun b hb => by simp [C2, hb]
  have c2o : ∀ b, ¬ b < (H (i + 1)).nx → C2 b = C b := fun b hb => by simp only [C2]; rw [if_neg hb]
  have hρ : Rle ρ ρ2 := by
    intro b l e
    by_cases hb : b < (H (i + 1)).nx
    · rw [r2n b hb]; exact g2.rho b l (Rho.below_some.2 ⟨hgap b l e hb, e⟩)
    · rw [r2o b hb]; exact e
  have hρ' : Rle ρ' (ρ2.below (H (i + 1)).nx) := by
    intro b l e
    have hb := (hback b l e).1
    exact Rho.below_some.2 ⟨hb, by rw [r2n b hb]; exact e⟩
  have hold : ∀ b l, ρ b = some l → ¬ b < (H (i + 1)).nx → (H (C b)).get b ≠ .dead → w'.heap[l.blk]? = w.heap[l.blk]? := by
    intro b l e hb hd
    refine g2.frame _ (BRel.lt (iv.blk b l e) hd) (fun b1 l1 e1 hl1 _ q => ?_)
    obtain ⟨k1, k2⟩ := Rho.below_some.1 e1
    have := iv.inj b1 b l1 l k2 e (by rw [← hnow b1 l1 k2 k1]; exact hl1) hd q
    omega
  have apart : ∀ b b' l l', b < (H (i + 1)).nx → ¬ b' < (H (i + 1)).nx → ρ' b = some l → ρ b' = some l' → (H (i + 1)).get b ≠ .dead → (H (C b')).get b' ≠ .dead → l.blk ≠ l'.blk := by
    intro b b' l l' hb hb' e e' hl hl' q
    have hsz := BRel.lt (iv.blk b' l' e') hl'
    rcases Nat.lt_or_ge b (H i).lo with hbl | hbl
    · have hbn : b < (H i).nx := by omega
      have e2 := (hback b l e).2 hbn
      have hg2 := g2.low b l (Rho.below_some.2 ⟨hbn, e2⟩) hbl
      rw [hg2, hnow b l e2 hbn] at hl
      have := iv.inj b b' l l' e2 e' hl hl' q
      omega
    · rcases g2.wr b l e hl hbl with r | ⟨b1, l1, f1, f2, f3, f4⟩
      · omega
      · obtain ⟨k1, k2⟩ := Rho.below_some.1 f1
        have := iv.inj b1 b' l1 l' k2 e' (by rw [← hnow b1 l1 k2 k1]; exact f2) hl' (f4.trans q)
        omega
  refine ⟨ρ2, C2, hρ, hρ', ?_⟩
  refine ⟨fun b l e => ?_, fun b l e => ?_, fun b l e => ?_, fun b l e k hk hw => ?_, fun b l e => ?_, fun b b' l l' e e' hl hl' heq => ?_, g1.mem, fun b l e hl => ?_, fun b l e hl => ?_, g1.room, g1.glob, fun b l e => ?_, fun k b m j x off z hk hz ho hgz hp => ?_,
    iv.rho.trans hρ, iv.mle.trans hM, fun k cs e => ?_, g2.os.trans iv.os, g2.tape.trans iv.tape, g2.output.trans iv.output, Nat.le_trans iv.wsize g2.size, fun b l e hl hlo' => ?_, fun k hk hno => ?_, fun b l e hlo' => ?_, fun b l e e0 => ?_⟩
  · by_cases hb : b < (H (i + 1)).nx
    · rw [c2n b hb]; exact hi
    · rw [r2o b hb] at e; rw [c2o b hb]; exact iv.le b l e
  · by_cases hb : b < (H (i + 1)).nx
    · rw [c2n b hb]; exact hb
    · rw [r2o b hb] at e; rw [c2o b hb]; exact iv.lt b l e
  · by_cases hb : b < (H (i + 1)).nx
    · rw [c2n b hb]; exact .inr ⟨i, rfl, .inr rfl, hwr b hb⟩
    · rw [r2o b hb] at e; rw [c2o b hb]
      rcases iv.last b l e with h | ⟨k, h1, h2, h3⟩
      · exact .inl h
      · exact .inr ⟨k, h1, .inl h2, h3⟩
  · by_cases hb : b < (H (i + 1)).nx
    · rw [c2n b hb]
      rcases hk with hk | hk
      · rcases Nat.lt_trichotomy k i with q | q | q
        · omega
        · omega
        · exfalso
          obtain ⟨z, hz, hz0⟩ := late k hk q
          have hlt := fx.run.nx (k := i + 1) (j := k) (by omega) (Nat.le_of_lt (nx.lt k hk))
          obtain ⟨z', hz', _, ⟨h1, h2, _⟩ | ⟨m, j, x, off, h1, _⟩ | ⟨h1, _⟩⟩ := hw <;> rw [hz] at hz' <;> cases hz'
          · omega
          · rw [h1] at hz0; rcases hz0 with hz0 | hz0 <;> cases hz0
          · omega
      · omega
    · rw [r2o b hb] at e
      rw [c2o b hb]
      rcases hk with hk | hk
      · exact iv.all b l e k hk hw
      · subst hk; exact absurd (hwr' b hw) hb
  · by_cases hb : b < (H (i + 1)).nx
    · rw [c2n b hb]
      exact BRel.mono (Mle.refl _) hρ' (g1.blk b l (by rw [← r2n b hb]; exact e))
    · rw [r2o b hb] at e
      rw [c2o b hb]
      by_cases hd : (H (C b)).get b = .dead
      · rw [hd]; simp [BRel]
      · rw [hold b l e hb hd]
        exact BRel.mono hM (below_mono hρ (Nat.le_refl _)) (iv.blk b l e)
  · by_cases hb : b < (H (i + 1)).nx <;> by_cases hb' : b' < (H (i + 1)).nx
    · rw [c2n b hb] at hl
      rw [c2n b' hb'] at hl'
      exact g1.inj b b' l l' (by rw [← r2n b hb]; exact e) (by rw [← r2n b' hb']; exact e') hl hl' heq
    · rw [c2n b hb] at hl
      rw [c2o b' hb'] at hl'
      exact absurd heq (apart b b' l l' hb hb' (by rw [← r2n b hb]; exact e) (by rw [← r2o b' hb']; exact e') hl hl')
    · rw [c2o b hb] at hl
      rw [c2n b' hb'] at hl'
      exact absurd heq.symm (apart b' b l' l hb' hb (by rw [← r2n b' hb']; exact e') (by rw [← r2o b hb]; exact e) hl' hl)
    · rw [c2o b hb] at hl
      rw [c2o b' hb'] at hl'
      exact iv.inj b b' l l' (by rw [← r2o b hb]; exact e) (by rw [← r2o b' hb']; exact e') hl hl' heq
  · by_cases hb : b < (H (i + 1)).nx
    · rw [c2n b hb] at hl
      exact g1.sep b l (by rw [← r2n b hb]; exact e) hl
    · rw [c2o b hb] at hl
      rw [r2o b hb] at e
      have hsz := BRel.lt (iv.blk b l e) hl
      cases hq : M' l.blk with
      | none => rfl
      | some cs =>
        rcases g2.mnew _ _ hq with q | q
        · rw [iv.sep b l e hl] at q; cases q
        · omega
  · by_cases hb : b < (H (i + 1)).nx
    · rw [c2n b hb] at hl
      exact g1.base b l (by rw [← r2n b hb]; exact e) hl
    · rw [c2o b hb] at hl
      rw [r2o b hb] at e
      exact iv.base b l e hl
  · by_cases hb : b < (H (i + 1)).nx
    · rw [r2n b hb] at e
      rcases Nat.lt_or_ge b (H i).nx with q | q
      · rcases iv.own b l ((hback b l e).2 q) with h | ⟨k, h1, h2⟩
        · exact .inl h
        · exact .inr ⟨k, .inl h1, h2⟩
      · exact .inr ⟨i, .inr rfl, q, hb⟩
    · rw [r2o b hb] at e
      rcases iv.own b l e with h | ⟨k, h1, h2⟩
      · exact .inl h
      · exact .inr ⟨k, .inl h1, h2⟩
  · rcases hk with hk | hk
    · obtain ⟨l, q⟩ := iv.w3 k b m j x off z hk hz ho hgz hp
      exact ⟨l, hρ b l q⟩
    · subst hk
      rw [nx.at_] at hz
      cases hz
      rw [ho] at hk5
      cases hk5
  · rcases g2.mnew _ _ e with q | q
    · exact iv.mnew _ _ q
    · exact .inr (Nat.le_trans iv.wsize q)
  · by_cases hb : b < (H (i + 1)).nx
    · rw [c2n b hb] at hl
      rw [r2n b hb] at e
      rcases g2.wr b l e hl (by rw [hlo]; exact hlo') with q | ⟨b1, l1, f1, f2, f3, f4⟩
      · exact .inl (Nat.le_trans iv.wsize q)
      · obtain ⟨k1, k2⟩ := Rho.below_some.1 f1
        rcases iv.wr b1 l1 k2 (by rw [← hnow b1 l1 k2 k1]; exact f2) (by rw [← hlo]; exact f3) with r | ⟨b2, l2, r1, r2, r3, r4⟩
        · exact .inl (by omega)
        · exact .inr ⟨b2, l2, r1, r2, r3, r4.trans f4⟩
    · rw [c2o b hb] at hl
      rw [r2o b hb] at e
      exact iv.wr b l e hl hlo'
  · rw [g2.frame k (Nat.lt_of_lt_of_le hk iv.wsize) (fun b l e hl hlo' q => ?_)]
    · exact iv.frame k hk hno
    · obtain ⟨k1, k2⟩ := Rho.below_some.1 e
      rcases iv.wr b l k2 (by rw [← hnow b l k2 k1]; exact hl) (by rw [← hlo]; exact hlo') with r | ⟨b1, l1, r1, r2, r3, r4⟩
      · omega
      · exact hno b1 l1 r1 r2 r3 (r4.trans q)
  · have e1 := iv.rho b l e
    have hbi : b < (H i).nx := by omega
    rw [c2n b (by omega), g2.low b l (Rho.below_some.2 ⟨hbi, e1⟩) (by rw [hlo]; exact hlo'), hnow b l e1 hbi]
    exact iv.low b l e hlo'
  · by_cases hb : b < (H (i + 1)).nx
    · rw [r2n b hb] at e
      rcases Nat.lt_or_ge b (H i).nx with q | q
      · exact iv.new b l ((hback b l e).2 q) e0
      · omega
    · rw [r2o b hb] at e
      exact iv.new b l e e0
end
end Go.VE
