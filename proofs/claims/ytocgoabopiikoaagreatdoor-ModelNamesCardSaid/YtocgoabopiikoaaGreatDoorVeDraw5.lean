/- A part of a proof that a small evaluator of the translated code agrees with the model (part Draw5). No statement of the program stands here. -/
import Derived.Test.YtocgoabopiikoaaGreatDoorVeDraw4
set_option linter.all false
namespace Go.VE
section
variable {P : Program} {gl : Nat → Option (List V)} {pu : Nat → Nat} {N B : Nat} {vp : Nat → Option VFn} {n : Nat} {ops : Array Oper} {ys : List VOper} {chk : List (Nat × Nat)} {S : Nat → Slots} {H : Nat → Heap} {M0 : Mem} {ρ0 : Rho} {w0 : World}
  {E : Nat → Prop} {M : Mem} {ρ : Rho} {C D : Nat → Nat} {a : Act} {w : World} {i : Nat} {y : VOper}

theorem put_size (a : Act) (d : Option Nat) (x : Value) : (a.put d x).tmps.size = a.tmps.size := by
  cases d with
  | none => rfl
  | some d => simp [Act.put]

theorem invS_next (fx : Fix P gl B vp n ops ys chk S H M0 ρ0 w0) (nx : Next ops ys E i y) (iv : InvS ys S H N E M ρ D a.tmps) {M' : Mem} {ρ' : Rho} (hM : Mle M M') (hρ : Rle ρ ρ') {v : V} {x : Value}
    (hS : S (i + 1) = slotsPut (S i) y.dst v) (hv : VRel M' (ρ'.below (H (i + 1)).nx) v x) (hd : ∀ d, y.dst = some d → d < N) :
    InvS ys S H N (fun k => E k ∨ k = i) M' ρ' (fun t => if y.dst = some t then i + 1 else D t) (a.put y.dst x).tmps := by
  refine ⟨by rw [put_size]; exact iv.size, fun t => ?_, fun t => ?_, fun t k z hk hz hdz => ?_, fun t => ?_⟩
  · skip
    split
    · exact nx.ilt
    · exact iv.le t
  · skip
    split
    · rename_i h
      exact .inr ⟨i, y, rfl, .inr rfl, nx.at_, h⟩
    · rcases iv.last t with h | ⟨k, z, h1, h2, h3, h4⟩
      · exact .inl h
      · exact .inr ⟨k, z, h1, .inl h2, h3, h4⟩
  · skip
    split
    · rename_i h
      rcases hk with hk | hk
      · rcases Nat.lt_trichotomy k i with q | q | q
        · omega
        · omega
        · exact absurd hdz ((later fx nx hk hz q).apart.same t h)
      · omega
    · rename_i h
      rcases hk with hk | hk
      · exact iv.all t k z hk hz hdz
      · subst hk
        rw [nx.at_] at hz
        cases hz
        exact absurd hdz h
  · skip
    split
    · rename_i h
      rw [hS, h, slotsPut_same]
      have hlt : t < a.tmps.size := Nat.lt_of_lt_of_le (hd t h) iv.size
      have : (a.put (some t) x).tmps.getD t undef = x := by simp [Act.put, hlt]
      rw [this]
      exact hv
    · rename_i h
      have : (a.put y.dst x).tmps.getD t undef = a.tmps.getD t undef := by
        cases hy : y.dst with
        | none => rfl
        | some d =>
          have hne : d ≠ t := fun q => h (by rw [hy, q])
          simp [Act.put, Array.getElem?_setIfInBounds_ne hne]
      rw [this]
      exact VRel.mono hM (below_mono hρ (Nat.le_refl _)) _ (iv.slot t)

theorem BRel.lt {M : Mem} {ρ : Rho} {l : Loc} {x : Blk} {w : World} (h : BRel P gl M ρ l x w.heap[l.blk]?) (hx : x ≠ .dead) : l.blk < w.heap.size := by
  rcases Nat.lt_or_ge l.blk w.heap.size with q | q
  · exact q
  · rw [Array.getElem?_eq_none q] at h
    cases x <;> simp_all [BRel]

theorem invH_quiet (iv : InvH P gl B ys S H M0 ρ0 w0 E M ρ C w) (hnw : ∀ b, ¬ Wr ys S H i b) {M' : Mem} {w' : World} (hM : Mle M M') (hmem : ∀ k cs, M' k = some cs → ∃ e fr, w'.heap[k]? = some (.cells cs.toArray e fr))
    (hnew : ∀ k cs, M' k = some cs → M k = some cs ∨ w.heap.size ≤ k) (hos : w'.os = w.os) (htape : w'.tape = w.tape) (hout : w'.output = w.output) (hsz : w.heap.size ≤ w'.heap.size) (hold : ∀ k, k < w.heap.size → w'.heap[k]? = w.heap[k]?)
    (h3 : ∀ b m j x off y, ys[i]? = some y → y.op = .st m (.t j) x → gEval y.g (S i) = some true → (S i).at j = .ptr b off → ∃ l, ρ b = some l) :
    InvH P gl B ys S H M0 ρ0 w0 (fun k => E k ∨ k = i) M' ρ C w' := by
  refine ⟨iv.le, iv.lt, fun b l e => ?_, fun b l e k hk hw => ?_, fun b l e => ?_, iv.inj, hmem, fun b l e hl => ?_, iv.base, Nat.le_trans iv.room hsz, fun g cs e => ?_, fun b l e => ?_, fun k b m j x off y hk => ?_, iv.rho, iv.mle.trans hM, fun k cs e => ?_,
    hos.trans iv.os, htape.trans iv.tape, hout.trans iv.output, Nat.le_trans iv.wsize hsz, iv.wr, fun k hk hno => ?_, iv.low, iv.new⟩
  · rcases iv.last b l e with h | ⟨k, h1, h2, h3⟩
    · exact .inl h
    · exact .inr ⟨k, h1, .inl h2, h3⟩
  · rcases hk with hk | hk
    · exact iv.all b l e k hk hw
    · subst hk
      exact absurd hw (hnw b)
  · by_cases hd : (H (C b)).get b = .dead
    · rw [hd]; simp [BRel]
    · have hb := iv.blk b l e
      rw [hold _ (BRel.lt hb hd)]
      exact BRel.mono hM (Rle.refl _) hb
  · have hb := BRel.lt (iv.blk b l e) hl
    cases hq : M' l.blk with
    | none => rfl
    | some cs =>
      rcases hnew _ _ hq with q | q
      · rw [iv.sep b l e hl] at q; cases q
      · omega
  · obtain ⟨row, h1, h2⟩ := iv.glob g cs e
    exact ⟨row, hM _ _ h1, VRels.mono hM (Rle.refl _) _ h2⟩
  · rcases iv.own b l e with h | ⟨k, h1, h2⟩
    · exact .inl h
    · exact .inr ⟨k, .inl h1, h2⟩
  · rcases hk with hk | hk
    · exact iv.w3 k b m j x off y hk
    · subst hk
      exact h3 b m j x off y
  · rcases hnew _ _ e with q | q
    · exact iv.mnew _ _ q
    · exact .inr (Nat.le_trans iv.wsize q)
  · rw [hold k (Nat.lt_of_lt_of_le hk iv.wsize)]
    exact iv.frame k hk hno

/-- what a view's heap comes to, in the view's own words -/
theorem view_back {hv hv' : Heap} {w' : World} {M' : Mem} {ρ' : Rho} {m : Nat} (hnx : hv.nx = m) (g1 : HRel P gl B M' ρ' hv' w') (g2 : Evo M (ρ.below m) hv w M' ρ' hv' w') {b : Nat} {l : Loc} (e : ρ' b = some l) : b < hv'.nx ∧ (b < m → ρ b = some l) := by
  refine ⟨g1.bound b l e, fun hb => ?_⟩
  cases h : ρ.below m b with
  | none => have := g2.new b l e h; omega
  | some l' =>
    have := g2.rho b l' h
    rw [e] at this
    cases this
    exact (Rho.below_some.1 h).2

theorem fresh_none (fx : Fix P gl B vp n ops ys chk S H M0 ρ0 w0) (nx : Next ops ys E i y) (iv : InvH P gl B ys S H M0 ρ0 w0 E M ρ C w) {b : Nat} (h1 : (H i).nx ≤ b) (h2 : b < (H (i + 1)).nx) : ρ b = none := by
  cases e : ρ b with
  | none => rfl
  | some l =>
    exfalso
    have hi := nx.ilt
    have h0 := fx.run.nx (k := 0) (j := i) (by omega) (by omega)
    rcases iv.own b l e with q | ⟨k, q1, q2, q3⟩
    · omega
    · have hk := nx.lt k q1
      rcases Nat.lt_trichotomy k i with r | r | r
      · have := fx.run.nx (k := k + 1) (j := i) (by omega) (by omega); omega
      · subst r; exact nx.not q1
      · have := fx.run.nx (k := i + 1) (j := k) (by omega) (by omega); omega

theorem invH_new (fx : Fix P gl B vp n ops ys chk S H M0 ρ0 w0) (nx : Next ops ys E i y) (iv : InvH P gl B ys S H M0 ρ0 w0 E M ρ C w) (hk1 : kindOf y.op = 1 ∨ kindOf y.op = 6) (hg : gEval y.g (S i) = some true) {hv hv' : Heap} (v1 : hv.nx = (H i).nx) (v2 : hv.lo = (H i).nx) (v3 : hv'.nx = (H (i + 1)).nx) (v4 : ∀ b, (H i).nx ≤ b → hv'.get b = (H (i + 1)).get b)
    {M' : Mem} {ρ' : Rho} {w' : World} (g1 : HRel P gl B M' ρ' hv' w') (g2 : Evo M (ρ.below (H i).nx) hv w M' ρ' hv' w') :
    ∃ ρ2 C2, Rle ρ ρ2 ∧ Rle ρ' (ρ2.below (H (i + 1)).nx) ∧ InvH P gl B ys S H M0 ρ0 w0 (fun k => E k ∨ k = i) M' ρ2 C2 w' := by
  have hfn : ∀ b, (H i).nx ≤ b → b < (H (i + 1)).nx → ρ b = none := fun b h1 h2 => fresh_none fx nx iv h1 h2
  have hwr : ∀ b, Wr ys S H i b → (H i).nx ≤ b ∧ b < (H (i + 1)).nx := by
    rintro b ⟨z, hz, _, ⟨_, h1, h2⟩ | ⟨m, j, x, off, h1, _⟩ | ⟨h1, _⟩⟩
    · exact ⟨h1, h2⟩
    · rw [nx.at_] at hz; cases hz; rw [h1] at hk1; rcases hk1 with q | q <;> cases q
    · rw [nx.at_] at hz; cases hz; rw [h1] at hk1; rcases hk1 with q | q <;> cases q
  have hiw : ∀ b, (H i).nx ≤ b → b < (H (i + 1)).nx → Wr ys S H i b := fun b h1 h2 => ⟨y, nx.at_, hg, .inl ⟨hk1, h1, h2⟩⟩
  have hold : ∀ k, k < w.heap.size → w'.heap[k]? = w.heap[k]? := fun k hk => g2.frame k hk (fun b l e _ hb => by
    have := (Rho.below_some.1 e).1
    omega)
  have hXl : ∀ b l, (H i).nx ≤ b → ρ' b = some l → (H (i + 1)).get b ≠ .dead → w.heap.size ≤ l.blk := by
    intro b l hb e hX
    have hlv : live hv' b := by
      unfold live
      rw [v4 b hb]
      exact hX
    rcases g2.wr _ l e hlv (by omega) with q | ⟨b0, l0, f1, _, f3, _⟩
    · exact q
    · have := (Rho.below_some.1 f1).1
      omega
  have hle : ∀ b l, ρ' b = some l → b < (H (i + 1)).nx ∧ (b < (H i).nx → ρ b = some l) := fun b l e => by
    have := view_back v1 g1 g2 e
    rw [v3] at this
    exact this
  have hM := g2.mem
  have h0 := fx.run.nx (k := 0) (j := i) (by omega) (Nat.le_of_lt nx.ilt)
  let ρ2 : Rho := fun b => if (H i).nx ≤ b ∧ b < (H (i + 1)).nx then ρ' b else ρ b
  let C2 : Nat → Nat := fun b => if (H i).nx ≤ b ∧ b < (H (i + 1)).nx then i + 1 else C b
  have r2n : ∀ b, ((H i).nx ≤ b ∧ b < (H (i + 1)).nx) → ρ2 b = ρ' b := fun b hb => by simp [ρ2, hb]
  have r2o : ∀ b, ¬ ((H i).nx ≤ b ∧ b < (H (i + 1)).nx) → ρ2 b = ρ b := fun b hb => by simp only [ρ2]; rw [if_neg hb]
  have c2n : ∀ b, ((H i).nx ≤ b ∧ b < (H (i + 1)).nx) → C2 b = i + 1 := fun b hb => by simp [C2, hb]
  have c2o : ∀ b, ¬ ((H i).nx ≤ b ∧ b < (H (i + 1)).nx) → C2 b = C b := fun b hb => by simp only [C2]; rw [if_neg hb]
  have hρ : Rle ρ ρ2 := by
    intro b l e
    have hb : ¬ ((H i).nx ≤ b ∧ b < (H (i + 1)).nx) := fun q => by rw [hfn b q.1 q.2] at e; cases e
    rw [r2o b hb]; exact e
  have hρ' : Rle ρ' (ρ2.below (H (i + 1)).nx) := by
    intro b l e
    obtain ⟨h1, h2⟩ := hle b l e
    refine Rho.below_some.2 ⟨h1, ?_⟩
    by_cases hb : (H i).nx ≤ b ∧ b < (H (i + 1)).nx
    · rw [r2n b hb]; exact e
    · rw [r2o b hb]; exact h2 (by omega)
  refine ⟨ρ2, C2, hρ, hρ', ?_⟩
  -- by cases: the new block, or an old one
  have sepO : ∀ b l, ρ b = some l → (H (C b)).get b ≠ .dead → M' l.blk = none := by
    intro b l e hl
    have hb := BRel.lt (iv.blk b l e) hl
    cases hq : M' l.blk with
    | none => rfl
    | some cs =>
      rcases g2.mnew _ _ hq with q | q
      · rw [iv.sep b l e hl] at q; cases q
      · omega
  refine ⟨fun b l e => ?_, fun b l e => ?_, fun b l e => ?_, fun b l e k hk hw => ?_, fun b l e => ?_, fun b b' l l' e e' hl hl' heq => ?_, g1.mem, fun b l e hl => ?_, fun b l e hl => ?_, Nat.le_trans iv.room g2.size, g1.glob, fun b l e => ?_, fun k b m j x off z hk hz ho hgz hp => ?_,
    iv.rho.trans hρ, iv.mle.trans hM, fun k cs e => ?_, g2.os.trans iv.os, g2.tape.trans iv.tape, g2.output.trans iv.output, Nat.le_trans iv.wsize g2.size, fun b l e hl hlo => ?_, fun k hk hno => ?_, fun b l e hlo => ?_, fun b l e e0 => ?_⟩
  · by_cases hb : (H i).nx ≤ b ∧ b < (H (i + 1)).nx
    · rw [c2n b hb]; exact nx.ilt
    · rw [r2o b hb] at e; rw [c2o b hb]; exact iv.le b l e
  · by_cases hb : (H i).nx ≤ b ∧ b < (H (i + 1)).nx
    · rw [c2n b hb]; exact hb.2
    · rw [r2o b hb] at e; rw [c2o b hb]; exact iv.lt b l e
  · by_cases hb : (H i).nx ≤ b ∧ b < (H (i + 1)).nx
    · rw [c2n b hb]; exact .inr ⟨i, rfl, .inr rfl, hiw b hb.1 hb.2⟩
    · rw [r2o b hb] at e; rw [c2o b hb]
      rcases iv.last b l e with h | ⟨k, h1, h2, h3⟩
      · exact .inl h
      · exact .inr ⟨k, h1, .inl h2, h3⟩
  · by_cases hb : (H i).nx ≤ b ∧ b < (H (i + 1)).nx
    · rw [c2n b hb]
      rcases hk with hk | hk
      · rcases Nat.lt_trichotomy k i with q | q | q
        · omega
        · omega
        · exfalso
          have hkl := nx.lt k hk
          have hlt := fx.run.nx (k := i + 1) (j := k) (by omega) (by omega)
          obtain ⟨z, hz, hkz⟩ := hw.kind (by omega)
          have hp := (later fx nx hk hz q).kind
          rcases hkz with ⟨v2, m2, i2, x2, off2, e2, e3⟩ | v2
          · obtain ⟨z', hz', hg', _⟩ := hw
            rw [hz] at hz'
            cases hz'
            obtain ⟨l2, q2⟩ := iv.w3 k _ m2 i2 x2 off2 z hk hz e2 hg' e3
            rw [hfn b hb.1 hb.2] at q2
            cases q2
          · rcases hp with hp | ⟨n', a', m', b', x', o1, _⟩
            · rw [v2] at hp; rcases hk1 with hk1 | hk1 <;> rw [hk1] at hp <;> cases hp
            · rw [o1] at hk1; rcases hk1 with hk1 | hk1 <;> cases hk1
      · omega
    · rw [r2o b hb] at e
      rw [c2o b hb]
      rcases hk with hk | hk
      · exact iv.all b l e k hk hw
      · subst hk; exact absurd (hwr b hw) hb
  · by_cases hb : (H i).nx ≤ b ∧ b < (H (i + 1)).nx
    · rw [c2n b hb]
      have := g1.blk _ l (by rw [← r2n b hb]; exact e)
      rw [v4 b hb.1] at this
      exact BRel.mono (Mle.refl _) hρ' this
    · rw [r2o b hb] at e
      rw [c2o b hb]
      by_cases hd : (H (C b)).get b = .dead
      · rw [hd]; simp [BRel]
      · have hbk := iv.blk b l e
        rw [hold _ (BRel.lt hbk hd)]
        exact BRel.mono hM (below_mono hρ (Nat.le_refl _)) hbk
  · by_cases hb : (H i).nx ≤ b ∧ b < (H (i + 1)).nx <;> by_cases hb' : (H i).nx ≤ b' ∧ b' < (H (i + 1)).nx
    · rw [c2n b hb] at hl
      rw [c2n b' hb'] at hl'
      rw [r2n b hb] at e
      rw [r2n b' hb'] at e'
      exact g1.inj b b' l l' e e' (by unfold live; rw [v4 b hb.1]; exact hl) (by unfold live; rw [v4 b' hb'.1]; exact hl') heq
    · rw [c2n b hb] at hl
      rw [r2n b hb] at e
      rw [r2o b' hb'] at e'
      rw [c2o b' hb'] at hl'
      have := hXl b l hb.1 e hl
      have := BRel.lt (iv.blk b' l' e') hl'
      omega
    · rw [c2n b' hb'] at hl'
      rw [r2n b' hb'] at e'
      rw [r2o b hb] at e
      rw [c2o b hb] at hl
      have := hXl b' l' hb'.1 e' hl'
      have := BRel.lt (iv.blk b l e) hl
      omega
    · rw [r2o b hb] at e
      rw [r2o b' hb'] at e'
      rw [c2o b hb] at hl
      rw [c2o b' hb'] at hl'
      exact iv.inj b b' l l' e e' hl hl' heq
  · by_cases hb : (H i).nx ≤ b ∧ b < (H (i + 1)).nx
    · rw [c2n b hb] at hl
      rw [r2n b hb] at e
      exact g1.sep _ l e (by unfold live; rw [v4 b hb.1]; exact hl)
    · rw [r2o b hb] at e
      rw [c2o b hb] at hl
      exact sepO b l e hl
  · by_cases hb : (H i).nx ≤ b ∧ b < (H (i + 1)).nx
    · rw [c2n b hb] at hl
      rw [r2n b hb] at e
      exact g1.base _ l e (by unfold live; rw [v4 b hb.1]; exact hl)
    · rw [r2o b hb] at e
      rw [c2o b hb] at hl
      exact iv.base b l e hl
  · by_cases hb : (H i).nx ≤ b ∧ b < (H (i + 1)).nx
    · exact .inr ⟨i, .inr rfl, hb.1, hb.2⟩
    · rw [r2o b hb] at e
      rcases iv.own b l e with h | ⟨k, h1, h2⟩
      · exact .inl h
      · exact .inr ⟨k, .inl h1, h2⟩
  · rcases hk with hk | hk
    · obtain ⟨l, q⟩ := iv.w3 k b m j x off z hk hz ho hgz hp
      exact ⟨l, hρ b l q⟩
    · subst hk
      rw [nx.at_] at hz
      cases hz
      rw [ho] at hk1
      rcases hk1 with hk1 | hk1 <;> cases hk1
  · rcases g2.mnew _ _ e with q | q
    · exact iv.mnew _ _ q
    · exact .inr (Nat.le_trans iv.wsize q)
  · by_cases hb : (H i).nx ≤ b ∧ b < (H (i + 1)).nx
    · rw [c2n b hb] at hl
      rw [r2n b hb] at e
      exact .inl (Nat.le_trans iv.wsize (hXl b l hb.1 e hl))
    · rw [r2o b hb] at e
      rw [c2o b hb] at hl
      exact iv.wr b l e hl hlo
  · rw [hold k (Nat.lt_of_lt_of_le hk iv.wsize)]
    exact iv.frame k hk hno
  · have hb : ¬ ((H i).nx ≤ b ∧ b < (H (i + 1)).nx) := fun q => by
      have := iv.rho b l e
      rw [hfn b q.1 q.2] at this
      cases this
    rw [c2o b hb]
    exact iv.low b l e hlo
  · by_cases hb : (H i).nx ≤ b ∧ b < (H (i + 1)).nx
    · omega
    · rw [r2o b hb] at e
      exact iv.new b l e e0
end
end Go.VE
