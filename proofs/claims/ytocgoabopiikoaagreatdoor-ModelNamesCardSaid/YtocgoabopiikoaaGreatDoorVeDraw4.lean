/- A part of a proof that a small evaluator of the translated code agrees with the model (part Draw4). No statement of the program stands here. -/
import Derived.Test.YtocgoabopiikoaaGreatDoorVeDraw3
set_option linter.all false
namespace Go.VE

/-- what stands fixed while a drawn region runs: the run in the text's order, the check, and where it began -/
structure Fix (P : Program) (gl : Nat → Option (List V)) (B : Nat) (vp : Nat → Option VFn) (n : Nat) (ops : Array Oper) (ys : List VOper) (chk : List (Nat × Nat)) (S : Nat → Slots) (H : Nat → Heap) (M0 : Mem) (ρ0 : Rho) (w0 : World) : Prop where
  run : Run vp n ys chk S H
  pair : ∀ (i j : Nat) x y, i < j → ys[i]? = some x → ys[j]? = some y → Dep ops i j ∨ Pair chk ys i j x y
  rel : HRel P gl B M0 ρ0 (H 0) w0

structure InvS (ys : List VOper) (S : Nat → Slots) (H : Nat → Heap) (N : Nat) (E : Nat → Prop) (M : Mem) (ρ : Rho) (D : Nat → Nat) (tm : Array Value) : Prop where
  size : N ≤ tm.size
  le : ∀ t, D t ≤ ys.length
  last : ∀ t, D t = 0 ∨ ∃ k y, D t = k + 1 ∧ E k ∧ ys[k]? = some y ∧ y.dst = some t
  all : ∀ t k y, E k → ys[k]? = some y → y.dst = some t → k < D t
  slot : ∀ t, VRel M (ρ.below (H (D t)).nx) ((S (D t)).at t) (tm.getD t undef)

structure InvH (P : Program) (gl : Nat → Option (List V)) (B : Nat) (ys : List VOper) (S : Nat → Slots) (H : Nat → Heap) (M0 : Mem) (ρ0 : Rho) (w0 : World) (E : Nat → Prop) (M : Mem) (ρ : Rho) (C : Nat → Nat) (w : World) : Prop where
  le : ∀ b l, ρ b = some l → C b ≤ ys.length
  lt : ∀ b l, ρ b = some l → b < (H (C b)).nx
  last : ∀ b l, ρ b = some l → C b = 0 ∨ ∃ k, C b = k + 1 ∧ E k ∧ Wr ys S H k b
  all : ∀ b l, ρ b = some l → ∀ k, E k → Wr ys S H k b → k < C b
  blk : ∀ b l, ρ b = some l → BRel P gl M (ρ.below (H (C b)).nx) l ((H (C b)).get b) w.heap[l.blk]?
  inj : ∀ b b' l l', ρ b = some l → ρ b' = some l' → (H (C b)).get b ≠ .dead → (H (C b')).get b' ≠ .dead → l.blk = l'.blk → b = b'
  mem : ∀ k cs, M k = some cs → ∃ e fr, w.heap[k]? = some (.cells cs.toArray e fr)
  sep : ∀ b l, ρ b = some l → (H (C b)).get b ≠ .dead → M l.blk = none
  base : ∀ b l, ρ b = some l → (H (C b)).get b ≠ .dead → B ≤ l.blk
  room : B ≤ w.heap.size
  glob : ∀ g cs, gl g = some cs → ∃ row, M g = some row ∧ VRels M (fun _ => none) cs row
  own : ∀ b l, ρ b = some l → b < (H 0).nx ∨ ∃ k, E k ∧ (H k).nx ≤ b ∧ b < (H (k + 1)).nx
  w3 : ∀ k b m i x off y, E k → ys[k]? = some y → y.op = .st m (.t i) x → gEval y.g (S k) = some true → (S k).at i = .ptr b off → ∃ l, ρ b = some l
  rho : Rle ρ0 ρ
  mle : Mle M0 M
  mnew : ∀ k cs, M k = some cs → M0 k = some cs ∨ w0.heap.size ≤ k
  os : w.os = w0.os
  tape : w.tape = w0.tape
  output : w.output = w0.output
  wsize : w0.heap.size ≤ w.heap.size
  wr : ∀ b l, ρ b = some l → (H (C b)).get b ≠ .dead → (H 0).lo ≤ b → (w0.heap.size ≤ l.blk ∨ ∃ b0 l0, ρ0 b0 = some l0 ∧ live (H 0) b0 ∧ (H 0).lo ≤ b0 ∧ l0.blk = l.blk)
  frame : ∀ k, k < w0.heap.size → (∀ b l, ρ0 b = some l → live (H 0) b → (H 0).lo ≤ b → l.blk ≠ k) → w.heap[k]? = w0.heap[k]?
  low : ∀ b l, ρ0 b = some l → b < (H 0).lo → (H (C b)).get b = (H 0).get b
  new : ∀ b l, ρ b = some l → ρ0 b = none → (H 0).nx ≤ b

/-- operation i may come next -/
structure Next (ops : Array Oper) (ys : List VOper) (E : Nat → Prop) (i : Nat) (y : VOper) : Prop where
  at_ : ys[i]? = some y
  not : ¬ E i
  lt : ∀ k, E k → k < ys.length
  closed : Closed ops E
  closed' : Closed ops (fun k => E k ∨ k = i)

theorem kind_le (o : VOp) : kindOf o ≤ 6 := by
  cases o <;> simp only [kindOf] <;> (try omega)
  case slc sz x lo hi mx => cases mx <;> simp [kMx]
  case ld n a => cases a with
    | t i => simp [kLd]
    | k u => cases u <;> simp [kLd]
  case st n a x => cases a <;> simp [kSt]

section
variable {P : Program} {gl : Nat → Option (List V)} {pu : Nat → Nat} {N B : Nat} {vp : Nat → Option VFn} {n : Nat} {ops : Array Oper} {ys : List VOper} {chk : List (Nat × Nat)} {S : Nat → Slots} {H : Nat → Heap} {M0 : Mem} {ρ0 : Rho} {w0 : World}
  {E : Nat → Prop} {M : Mem} {ρ : Rho} {C D : Nat → Nat} {tm : Array Value} {w : World} {i : Nat} {y : VOper}

theorem Next.ilt (nx : Next ops ys E i y) : i < ys.length := (List.getElem?_eq_some_iff.1 nx.at_).1

theorem later (fx : Fix P gl B vp n ops ys chk S H M0 ρ0 w0) (nx : Next ops ys E i y) {k : Nat} {z : VOper} (hk : E k) (hz : ys[k]? = some z) (hik : i < k) : Pair chk ys i k y z := by
  rcases fx.pair i k y z hik nx.at_ hz with q | q
  · exact absurd (q E nx.closed hk) nx.not
  · exact q

theorem earlier (fx : Fix P gl B vp n ops ys chk S H M0 ρ0 w0) (nx : Next ops ys E i y) {k : Nat} {z : VOper} (hk : ¬ E k) (hz : ys[k]? = some z) (hki : k < i) : Pair chk ys k i z y := by
  rcases fx.pair k i z y hki hz nx.at_ with q | q
  · rcases q _ nx.closed' (.inr rfl) with q | q
    · exact absurd q hk
    · omega
  · exact q

theorem stable1 (r : Run vp n ys chk S H) {k b : Nat} (hk : k < ys.length) (hb : b < (H k).nx) (hw : ¬ Wr ys S H k b) : (H (k + 1)).get b = (H k).get b := by
  have hy : ys[k]? = some ys[k] := by simp [hk]
  rcases r.step k _ hy with ⟨hg, m, v, _, h2, _⟩ | ⟨_, h2, _⟩
  · have h5 := kind_le ys[k].op
    by_cases hq : kindOf ys[k].op = 0 ∨ kindOf ys[k].op = 2 ∨ kindOf ys[k].op = 4
    · rw [(quiet_view (r.wfs (by omega)) hq h2).1]
    by_cases h1 : kindOf ys[k].op = 1
    · obtain ⟨X, e, _⟩ := new_view h1 h2
      rw [e, Heap.get_new, if_neg (by omega)]
    by_cases h6 : kindOf ys[k].op = 6
    · exact (own_view h6 h2).1 b hb
    by_cases h3 : kindOf ys[k].op = 3
    · obtain ⟨m', i, x, e⟩ := kind3_is h3
      rw [e] at h2
      obtain ⟨b0, off, e1, ⟨_, e2, _⟩ | ⟨e0, _, _, y, e2, _, _⟩⟩ := store_view h2
      · rw [e2]
      · by_cases hbb : b = b0
        · subst hbb
          exact absurd ⟨_, hy, hg, .inr (.inl ⟨m', i, x, off, e, e1, e0⟩)⟩ hw
        · rw [e2, Heap.get_set, if_neg hbb]
    · have hk5 : kindOf ys[k].op = 5 := by omega
      exact absurd ⟨_, hy, hg, .inr (.inr ⟨hk5, Nat.lt_of_lt_of_le hb (r.heap hk).nx⟩)⟩ hw
  · rw [h2]

theorem stable (r : Run vp n ys chk S H) {c b : Nat} : ∀ {i : Nat}, c ≤ i → i ≤ ys.length → b < (H c).nx → (∀ k, c ≤ k → k < i → ¬ Wr ys S H k b) → (H i).get b = (H c).get b
  | 0, hci, _, _, _ => by
    have : c = 0 := by omega
    subst this
    rfl
  | i + 1, hci, hi, hb, hno => by
    by_cases e : c = i + 1
    · subst e; rfl
    · rw [stable1 r (k := i) (by omega) (Nat.lt_of_lt_of_le hb (r.nx (k := c) (j := i) (by omega) (by omega))) (hno i (by omega) (by omega))]
      exact stable r (i := i) (by omega) (by omega) hb (fun k h1 h2 => hno k h1 (by omega))

theorem chk_apart : ∀ {chk : List (Nat × Nat)} {s : Slots} {a b : Nat}, chkOk chk s = true → (a, b) ∈ chk → apartV (s.at a) (s.at b) = true
  | [], _, _, _, _, h => by simp at h
  | p :: r, s, a, b, hc, h => by
    simp only [chkOk, Bool.cond_eq_ite] at hc
    split at hc
    · rename_i hp
      rcases List.mem_cons.1 h with e | e
      · subst e; exact hp
      · exact chk_apart hc e
    · cases hc

theorem Wr.kind {k b : Nat} (hw : Wr ys S H k b) (hb : b < (H k).nx) : ∃ z, ys[k]? = some z ∧ ((kindOf z.op = 3 ∧ ∃ m i x off, z.op = .st m (.t i) x ∧ (S k).at i = .ptr b off) ∨ kindOf z.op = 5) := by
  obtain ⟨z, h1, _, ⟨_, h3, _⟩ | ⟨m, i, x, off, h3, h4, _⟩ | ⟨h3, _⟩⟩ := hw
  · omega
  · exact ⟨z, h1, .inl ⟨by rw [h3]; rfl, m, i, x, off, h3, h4⟩⟩
  · exact ⟨z, h1, .inr h3⟩

theorem View.kind {o : VOp} {s : Slots} {b : Nat} (hv : View o s b) : (kindOf o = 2 ∧ ∃ n i off, o = .ld n (.t i) ∧ s.at i = .ptr b off) ∨ kindOf o = 3 ∨ kindOf o = 4 ∨ kindOf o = 5 ∨ kindOf o = 6 := by
  rcases hv with ⟨n, i, off, rfl, h⟩ | ⟨n, i, x, off, rfl, h⟩ | h | h | h
  · exact .inl ⟨rfl, n, i, off, rfl, h⟩
  · exact .inr (.inl rfl)
  · exact .inr (.inr (.inl h))
  · exact .inr (.inr (.inr (.inl h)))
  · exact .inr (.inr (.inr (.inr h)))

/-- the slots that operation i reads hold what they hold in the text's order -/
theorem slot_now (fx : Fix P gl B vp n ops ys chk S H M0 ρ0 w0) (nx : Next ops ys E i y) (iv : InvS ys S H N E M ρ D tm) {t : Nat} (ht : t ∈ y.reads) : D t ≤ i ∧ (S i).at t = (S (D t)).at t := by
  have hle : D t ≤ i := by
    rcases iv.last t with h | ⟨k, z, h1, h2, h3, h4⟩
    · omega
    · rcases Nat.lt_or_ge k i with q | q
      · omega
      · have hne : k ≠ i := fun e => nx.not (e ▸ h2)
        exact absurd ht ((later fx nx h2 h3 (by omega)).apart.yx t h4)
  refine ⟨hle, fx.run.slots hle (Nat.le_of_lt nx.ilt) (fun k z h1 h2 h3 h4 => ?_)⟩
  by_cases hk : E k
  · have := iv.all t k z hk h3 h4
    omega
  · exact (earlier fx nx hk h3 h2).apart.xy t h4 ht

/-- the blocks that operation i looks at are as they are in the text's order -/
theorem blk_now (fx : Fix P gl B vp n ops ys chk S H M0 ρ0 w0) (nx : Next ops ys E i y) (iv : InvH P gl B ys S H M0 ρ0 w0 E M ρ C w) {b : Nat} {l : Loc} (hv : View y.op (S i) b) (e : ρ b = some l) (hb : b < (H i).nx) :
    C b ≤ i ∧ (H i).get b = (H (C b)).get b := by
  have hi := nx.ilt
  have hle : C b ≤ i := by
    rcases iv.last b l e with h | ⟨k, h1, h2, h3⟩
    · omega
    · rcases Nat.lt_or_ge k i with q | q
      · omega
      · exfalso
        have hne : k ≠ i := fun q => nx.not (q ▸ h2)
        have hkl := nx.lt k h2
        obtain ⟨z, hz, hkz⟩ := h3.kind (Nat.lt_of_lt_of_le hb (fx.run.nx (k := i) (j := k) (by omega) (by omega)))
        have hp := (later fx nx h2 hz (by omega)).kind
        rcases hp with hp | ⟨n', a, m, b', x', o1, o2, o3, o4, o5⟩
        · rcases hv.kind with ⟨v1, _⟩ | v1 | v1 | v1 | v1 <;> rcases hkz with ⟨v2, _⟩ | v2 <;> rw [v1, v2] at hp <;> cases hp
        · rcases hkz with ⟨v2, m2, i2, x2, off2, e2, e3⟩ | v2
          · rw [o2] at e2
            cases e2
            rcases hv with ⟨n3, i3, off3, e4, e5⟩ | ⟨n3, i3, x3, off3, e4, e5⟩ | v1 | v1 | v1
            · rw [o1] at e4
              cases e4
              have hc := chk_apart fx.run.chk o3
              rw [fx.run.slots (k := i) (t := a) (Nat.le_of_lt hi) (Nat.le_refl _) (fun q z h1 _ h3 => o4 q z h1 h3),
                fx.run.slots (k := k) (t := b') (Nat.le_of_lt hkl) (Nat.le_refl _) (fun q z h1 _ h3 => o5 q z h1 h3), e5, e3] at hc
              simp [apartV, beq_dec] at hc
            · rw [o1] at e4; cases e4
            · rw [o1] at v1; cases v1
            · rw [o1] at v1; cases v1
            · rw [o1] at v1; cases v1
          · rw [o2] at v2; cases v2
  refine ⟨hle, stable fx.run hle (Nat.le_of_lt hi) (iv.lt b l e) (fun k h1 h2 hw => ?_)⟩
  by_cases hk : E k
  · have := iv.all b l e k hk hw
    omega
  · obtain ⟨z, hz, hkz⟩ := hw.kind (Nat.lt_of_lt_of_le (iv.lt b l e) (fx.run.nx h1 (by omega)))
    have hp := (earlier fx nx hk hz h2).kind
    rcases hp with hp | ⟨n', a, m, b', x', o1, o2, o3, o4, o5⟩
    · rcases hv.kind with ⟨v1, _⟩ | v1 | v1 | v1 | v1 <;> rcases hkz with ⟨v2, _⟩ | v2 <;> rw [v1, v2] at hp <;> cases hp
    · rcases hkz with ⟨v2, _⟩ | v2 <;> rw [o1] at v2 <;> cases v2

/-- the blocks that are looked at, as a heap -/
theorem view_rel (fx : Fix P gl B vp n ops ys chk S H M0 ρ0 w0) (nx : Next ops ys E i y) (iv : InvH P gl B ys S H M0 ρ0 w0 E M ρ C w) {hv : Heap} (hnx : hv.nx = (H i).nx) (hlo : hv.lo ≤ hv.nx)
    (hview : ∀ b, hv.get b = .dead ∨ (View y.op (S i) b ∧ hv.get b = (H i).get b)) : HRel P gl B M (ρ.below (H i).nx) hv w := by
  have key : ∀ b l, ρ.below (H i).nx b = some l → live hv b → ρ b = some l ∧ C b ≤ i ∧ hv.get b = (H (C b)).get b := by
    intro b l e hl
    obtain ⟨h1, h2⟩ := Rho.below_some.1 e
    rcases hview b with q | ⟨q1, q2⟩
    · exact absurd q hl
    · obtain ⟨k1, k2⟩ := blk_now fx nx iv q1 h2 h1
      exact ⟨h2, k1, q2.trans k2⟩
  refine ⟨fun b l e => by rw [hnx]; exact (Rho.below_some.1 e).1, ?_, ?_, iv.mem, ?_, ?_, ?_, iv.room, hlo, iv.glob⟩
  · intro b l e
    by_cases hl : live hv b
    · obtain ⟨k1, k2, k3⟩ := key b l e hl
      rw [k3]
      exact BRel.mono (Mle.refl _) (below_mono (Rle.refl _) (fx.run.nx k2 (Nat.le_of_lt nx.ilt))) (iv.blk b l k1)
    · have hd : hv.get b = .dead := by simpa [live] using hl
      rw [hd]
      simp [BRel]
  · intro b b' l l' e e' hl hl' heq
    obtain ⟨k1, _, k3⟩ := key b l e hl
    obtain ⟨k1', _, k3'⟩ := key b' l' e' hl'
    exact iv.inj b b' l l' k1 k1' (by rw [← k3]; exact hl) (by rw [← k3']; exact hl') heq
  · intro b l e hl
    obtain ⟨k1, _, k3⟩ := key b l e hl
    exact iv.sep b l k1 (by rw [← k3]; exact hl)
  · intro b l e hl
    obtain ⟨k1, _, k3⟩ := key b l e hl
    exact iv.base b l k1 (by rw [← k3]; exact hl)
  · intro b hb
    rcases hview b with q | ⟨_, q2⟩
    · exact q
    · rw [q2]
      exact fx.run.wfs (Nat.le_of_lt nx.ilt) b (by omega)

/-- the slots that are looked at -/
theorem view_slots (fx : Fix P gl B vp n ops ys chk S H M0 ρ0 w0) (nx : Next ops ys E i y) (iv : InvS ys S H N E M ρ D tm) : ∃ s2, (∀ t ∈ rdOp y.op, s2.at t = (S i).at t) ∧ SRel M (ρ.below (H i).nx) N s2 tm := by
  obtain ⟨s2, h1, h2, h3⟩ := mask_slots (S i) (rdOp y.op) tm.size
  refine ⟨s2, h1, iv.size, fun t => ?_⟩
  by_cases ht : t ∈ rdOp y.op
  · have hr : t ∈ y.reads := by
      unfold VOper.reads
      split
      · exact List.mem_cons_of_mem _ ht
      · exact ht
    obtain ⟨k1, k2⟩ := slot_now fx nx iv hr
    rw [h1 t ht, k2]
    exact VRel.mono (Mle.refl _) (below_mono (Rle.refl _) (fx.run.nx k1 (Nat.le_of_lt nx.ilt))) _ (iv.slot t)
  · by_cases hK : t < tm.size
    · rw [h2 t ht hK]
      simp [VRel]
    · rw [h3 t ht (by omega)]
      have : tm.getD t undef = undef := by simp [Array.getElem?_eq_none (by omega : tm.size ≤ t)]
      rw [this]
      exact undef_rel
end
end Go.VE
