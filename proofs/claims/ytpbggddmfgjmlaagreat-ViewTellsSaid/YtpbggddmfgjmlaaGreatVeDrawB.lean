/- A part of a proof that a small evaluator of the translated code agrees with the model (part DrawB). No statement of the program stands here. -/
import Derived.Test.YtpbggddmfgjmlaaGreatVeDrawA
import Derived.StillTail
set_option linter.all false
section
namespace Go.VE
structure Fix (P : Program) (gl : Nat → Option (List V)) (B : Nat) (vp : Nat → Option VFn) (n : Nat) (ops : Array Oper) (ys : List VOper) (chk : List (Nat × Nat)) (S : Nat → Slots) (H : Nat → Heap) (M0 : Mem) (ρ0 : Rho) (w0 : World) : Prop where
 run : Run vp n ys chk S H
 pair : ∀ (i j : Nat) x y, i < j → ys[i]? = some x → ys[j]? = some y → Dep ops i j ∨ Pair chk ys i j x y
 rel : HRel P gl B M0 ρ0 (H 0) w0
structure InvS (ys : List VOper) (S : Nat → Slots) (H : Nat → Heap) (N : Nat) (E : Nat → Prop) (M : Mem) (ρ : Rho) (D : Nat → Nat) (tm : Array Value) : Prop where
 size : N ≤ tm.size
 le : ∀ t, D t ≤ ys.length
 last : ∀ t, D t = 0 ∨ ∃ k y, D t = k + 1 ∧ E k ∧ ys[k]? = some y ∧ y.dst = some t
 all : ∀ t k y, E k → ys[k]? = some y → y.dst = some t → k < D t
 slot : ∀ t, VRel M (ρ.below (H (D t)).nx) ((S (D t)).at t) (tm.getD t undef)
structure InvH (P : Program) (gl : Nat → Option (List V)) (B : Nat) (ys : List VOper) (S : Nat → Slots) (H : Nat → Heap) (M0 : Mem) (ρ0 : Rho) (w0 : World) (E : Nat → Prop) (M : Mem) (ρ : Rho) (C : Nat → Nat) (w : World) : Prop where
 le : ∀ b l, ρ b = some l → C b ≤ ys.length
 lt : ∀ b l, ρ b = some l → b < (H (C b)).nx
 last : ∀ b l, ρ b = some l → C b = 0 ∨ ∃ k, C b = k + 1 ∧ E k ∧ Wr ys S H k b
 all : ∀ b l, ρ b = some l → ∀ k, E k → Wr ys S H k b → k < C b
 blk : ∀ b l, ρ b = some l → BRel P gl M (ρ.below (H (C b)).nx) l ((H (C b)).get b) w.heap[l.blk]?
 inj : ∀ b b' l l', ρ b = some l → ρ b' = some l' → (H (C b)).get b ≠ .dead → (H (C b')).get b' ≠ .dead → l.blk = l'.blk → b = b'
 mem : ∀ k cs, M k = some cs → ∃ e fr, w.heap[k]? = some (.cells cs.toArray e fr)
 sep : ∀ b l, ρ b = some l → (H (C b)).get b ≠ .dead → M l.blk = none
 base : ∀ b l, ρ b = some l → (H (C b)).get b ≠ .dead → B ≤ l.blk
 room : B ≤ w.heap.size
 glob : ∀ g cs, gl g = some cs → ∃ row, M g = some row ∧ VRels M (fun _ => none) cs row
 own : ∀ b l, ρ b = some l → b < (H 0).nx ∨ ∃ k, E k ∧ (H k).nx ≤ b ∧ b < (H (k + 1)).nx
 w3 : ∀ k b m i x off y, E k → ys[k]? = some y → y.op = .st m (.t i) x → gEval y.g (S k) = some true → (S k).at i = .ptr b off → ∃ l, ρ b = some l
 rho : Rle ρ0 ρ
 mle : Mle M0 M
 mnew : ∀ k cs, M k = some cs → M0 k = some cs ∨ w0.heap.size ≤ k
 os : w.os = w0.os
 tape : w.tape = w0.tape
 output : w.output = w0.output
 wsize : w0.heap.size ≤ w.heap.size
 wr : ∀ b l, ρ b = some l → (H (C b)).get b ≠ .dead → (H 0).lo ≤ b → (w0.heap.size ≤ l.blk ∨ ∃ b0 l0, ρ0 b0 = some l0 ∧ live (H 0) b0 ∧ (H 0).lo ≤ b0 ∧ l0.blk = l.blk)
 frame : ∀ k, k < w0.heap.size → (∀ b l, ρ0 b = some l → live (H 0) b → (H 0).lo ≤ b → l.blk ≠ k) → w.heap[k]? = w0.heap[k]?
 low : ∀ b l, ρ0 b = some l → b < (H 0).lo → (H (C b)).get b = (H 0).get b
 new : ∀ b l, ρ b = some l → ρ0 b = none → (H 0).nx ≤ b
structure Next (ops : Array Oper) (ys : List VOper) (E : Nat → Prop) (i : Nat) (y : VOper) : Prop where
 at_ : ys[i]? = some y
 not : ¬ E i
 lt : ∀ k, E k → k < ys.length
 closed : Closed ops E
 closed' : Closed ops (fun k => E k ∨ k = i)
theorem kind_le (o : VOp) : kindOf o ≤ 6 := by
 cases o <;> simp only [kindOf] <;> (try omega)
 case slc sz x lo hi mx => cases mx <;> simp [kMx]
 case ld n a => cases a with
  | t i => simp [kLd]
  | k u => cases u <;> simp [kLd]
 case st n a x => cases a <;> simp [kSt]
section
variable {P : Program} {gl : Nat → Option (List V)} {pu : Nat → Nat} {N B : Nat} {vp : Nat → Option VFn} {n : Nat} {ops : Array Oper} {ys : List VOper} {chk : List (Nat × Nat)} {S : Nat → Slots} {H : Nat → Heap} {M0 : Mem} {ρ0 : Rho} {w0 : World}
 {E : Nat → Prop} {M : Mem} {ρ : Rho} {C D : Nat → Nat} {tm : Array Value} {w : World} {i : Nat} {y : VOper}
theorem Next.ilt (nx : Next ops ys E i y) : i < ys.length := (List.getElem?_eq_some_iff.1 nx.at_).1
theorem later (fx : Fix P gl B vp n ops ys chk S H M0 ρ0 w0) (nx : Next ops ys E i y) {k : Nat} {z : VOper} (hk : E k) (hz : ys[k]? = some z) (hik : i < k) : Pair chk ys i k y z := by
 rcases fx.pair i k y z hik nx.at_ hz with q | q
 ·exact absurd (q E nx.closed hk) nx.not
 ·exact q
theorem earlier (fx : Fix P gl B vp n ops ys chk S H M0 ρ0 w0) (nx : Next ops ys E i y) {k : Nat} {z : VOper} (hk : ¬ E k) (hz : ys[k]? = some z) (hki : k < i) : Pair chk ys k i z y := by
 rcases fx.pair k i z y hki hz nx.at_ with q | q
 ·rcases q _ nx.closed' (.inr rfl) with q | q
  ·exact absurd q hk
  ·omega
 ·exact q
theorem callc_keeps {m f t b : Nat} {as : List Opd} {s : Slots} {h h' : Heap} {v : V} (_hwf : VE.wf h) (he : stepOp vp m (.callc f as t) s h = some (v, h')) (hb : b < h.nx) (hn : ∀ off, s.at t ≠ .ptr b off) : h'.get b = h.get b := by
 cases m with
 | zero => simp [stepOp] at he
 | succ m =>
  simp only [stepOp] at he
  split at he
  case h_2 => cases he
  rename_i b0 off hx
  simp only [Bool.cond_eq_ite] at he
  split at he
  case isFalse => cases he
  rename_i hq
  simp only [ble_dec, blt_dec, Bool.and_eq_true, decide_eq_true_eq] at hq
  split at he
  case h_2 => cases he
  rename_i v1 h1 hr
  cases he
  have hne : b ≠ b0 := fun q => hn off (by rw [q]; exact hx)
  rw [backH_get]
  by_cases hm : b0 < b ∧ b < h.nx
  ·rw [if_pos hm]
  ·rw [if_neg hm, ((run_step vp m).2.2.2.2 _ _ _ _ _ hr).low (by rw [cutH_nx, cutH_lo]; omega) b (by rw [cutH_lo]; omega), cutH_get, if_neg hm]
theorem stable1 (r : Run vp n ys chk S H) {k b : Nat} (hk : k < ys.length) (hb : b < (H k).nx) (hw : ¬ Wr ys S H k b) : (H (k + 1)).get b = (H k).get b := by
 have hy : ys[k]? = some ys[k] := by simp [hk]
 rcases r.step k _ hy with ⟨hg, m, v, _, h2, _⟩ | ⟨_, h2, _⟩
 ·have h5 := kind_le ys[k].op
  by_cases hq : kindOf ys[k].op = 0 ∨ kindOf ys[k].op = 2 ∨ kindOf ys[k].op = 4
  ·rw [(quiet_view (r.wfs (by omega)) hq h2).1]
  by_cases h1 : kindOf ys[k].op = 1
  ·obtain ⟨X, e, _⟩ := new_view h1 h2
   rw [e, Heap.get_new, if_neg (by omega)]
  by_cases h6 : kindOf ys[k].op = 6
  ·exact (own_view h6 h2).1 b hb
  by_cases h3 : kindOf ys[k].op = 3
  ·obtain ⟨m', i, x, e⟩ := kind3_is h3
   rw [e] at h2
   obtain ⟨b0, off, e1, ⟨_, e2, _⟩ | ⟨e0, _, _, y, e2, _, _⟩⟩ := store_view h2
   ·rw [e2]
   ·by_cases hbb : b = b0
    ·subst hbb
     exact absurd ⟨_, hy, hg, .inr (.inl ⟨m', i, x, off, e, e1, e0⟩)⟩ hw
    ·rw [e2, Heap.get_set, if_neg hbb]
  ·have hk5 : kindOf ys[k].op = 5 := by omega
   by_cases hT : Tch ys[k].op (S k) (H k) b
   ·exact absurd ⟨_, hy, hg, .inr (.inr ⟨hk5, Nat.lt_of_lt_of_le hb (r.heap hk).nx, hT⟩)⟩ hw
   ·simp only [Tch] at hT
    have hT' : ∃ t, Nar ys[k].op t ∧ ¬ ((H k).nx ≤ b ∨ BlkOf ((S k).at t) b) := by
     apply Classical.byContradiction
     intro hno
     apply hT
     intro t e
     apply Classical.byContradiction
     intro h9
     exact hno ⟨t, e, h9⟩
    obtain ⟨t, ⟨sz, bytes, x, e⟩ | ⟨f, as, e⟩, h9⟩ := hT'
    case inr =>
     rw [e] at h2
     exact callc_keeps (r.wfs (by omega)) h2 hb (fun off q => h9 (.inr (.inr ⟨off, q⟩)))
    rw [e] at h2
    obtain ⟨h3', _⟩ := stepOp_opE h2 rfl
    obtain ⟨n', cs', F, _, _, e3, e4, _⟩ := app_step h3'
    rw [e3]
    exact F.out _ _ hb (fun q => h9 (.inr (.inl (e4 b q))))
 ·rw [h2]
theorem stable (r : Run vp n ys chk S H) {c b : Nat} : ∀ {i : Nat}, c ≤ i → i ≤ ys.length → b < (H c).nx → (∀ k, c ≤ k → k < i → ¬ Wr ys S H k b) → (H i).get b = (H c).get b
 | 0, hci, _, _, _ => by
  have : c = 0 := by omega
  subst this
  rfl
 | i + 1, hci, hi, hb, hno => by
  by_cases e : c = i + 1
  ·subst e; rfl
  ·rw [stable1 r (k := i) (by omega) (Nat.lt_of_lt_of_le hb (r.nx (k := c) (j := i) (by omega) (by omega))) (hno i (by omega) (by omega))]
   exact stable r (i := i) (by omega) (by omega) hb (fun k h1 h2 => hno k h1 (by omega))
theorem chk_apart : ∀ {chk : List (Nat × Nat)} {s : Slots} {a b : Nat}, chkOk chk s = true → (a, b) ∈ chk → apartV (s.at a) (s.at b) = true
 | [], _, _, _, _, h => by simp at h
 | p :: r, s, a, b, hc, h => by
  simp only [chkOk, Bool.cond_eq_ite] at hc
  split at hc
  ·rename_i hp
   rcases List.mem_cons.1 h with e | e
   ·subst e; exact hp
   ·exact chk_apart hc e
  ·cases hc
theorem Wr.kind {k b : Nat} (hw : Wr ys S H k b) (hb : b < (H k).nx) : ∃ z, ys[k]? = some z ∧ ((kindOf z.op = 3 ∧ ∃ m i x off, z.op = .st m (.t i) x ∧ (S k).at i = .ptr b off) ∨ (kindOf z.op = 5 ∧ Tch z.op (S k) (H k) b)) := by
 obtain ⟨z, h1, _, ⟨_, h3, _⟩ | ⟨m, i, x, off, h3, h4, _⟩ | ⟨h3, _, h5⟩⟩ := hw
 ·omega
 ·exact ⟨z, h1, .inl ⟨by rw [h3]; rfl, m, i, x, off, h3, h4⟩⟩
 ·exact ⟨z, h1, .inr ⟨h3, h5⟩⟩
theorem View.kind {o : VOp} {s : Slots} {b : Nat} (hv : View o s b) : (kindOf o = 2 ∧ ∃ n i off, o = .ld n (.t i) ∧ s.at i = .ptr b off) ∨ kindOf o = 3 ∨ kindOf o = 4 ∨ kindOf o = 5 ∨ kindOf o = 6 := by
 rcases hv with ⟨n, i, off, rfl, h⟩ | ⟨n, i, x, off, rfl, h⟩ | h | h | h
 ·exact .inl ⟨rfl, n, i, off, rfl, h⟩
 ·exact .inr (.inl rfl)
 ·exact .inr (.inr (.inl h))
 ·exact .inr (.inr (.inr (.inl h)))
 ·exact .inr (.inr (.inr (.inr h)))
theorem slot_now (fx : Fix P gl B vp n ops ys chk S H M0 ρ0 w0) (nx : Next ops ys E i y) (iv : InvS ys S H N E M ρ D tm) {t : Nat} (ht : t ∈ y.reads) : D t ≤ i ∧ (S i).at t = (S (D t)).at t := by
 have hle : D t ≤ i := by
  rcases iv.last t with h | ⟨k, z, h1, h2, h3, h4⟩
  ·omega
  ·rcases Nat.lt_or_ge k i with q | q
   ·omega
   ·have hne : k ≠ i := fun e => nx.not (e ▸ h2)
    exact absurd ht ((later fx nx h2 h3 (by omega)).apart.yx t h4)
 refine ⟨hle, fx.run.slots hle (Nat.le_of_lt nx.ilt) (fun k z h1 h2 h3 h4 => ?_)⟩
 by_cases hk : E k
 ·have := iv.all t k z hk h3 h4
  omega
 ·exact (earlier fx nx hk h3 h2).apart.xy t h4 ht
theorem blk_now (fx : Fix P gl B vp n ops ys chk S H M0 ρ0 w0) (nx : Next ops ys E i y) (iv : InvH P gl B ys S H M0 ρ0 w0 E M ρ C w) {b : Nat} {l : Loc} (hv : View y.op (S i) b) (e : ρ b = some l) (hb : b < (H i).nx) :
  C b ≤ i ∧ (H i).get b = (H (C b)).get b := by
 have hi := nx.ilt
 have hle : C b ≤ i := by
  rcases iv.last b l e with h | ⟨k, h1, h2, h3⟩
  ·omega
  ·rcases Nat.lt_or_ge k i with q | q
   ·omega
   ·exfalso
    have hne : k ≠ i := fun q => nx.not (q ▸ h2)
    have hkl := nx.lt k h2
    obtain ⟨z, hz, hkz⟩ := h3.kind (Nat.lt_of_lt_of_le hb (fx.run.nx (k := i) (j := k) (by omega) (by omega)))
    have hp := (later fx nx h2 hz (by omega)).kind
    rcases hp with hp | ⟨a, b', o1, o3, o4, o5⟩
    ·rcases hv.kind with ⟨v1, _⟩ | v1 | v1 | v1 | v1 <;> rcases hkz with ⟨v2, _⟩ | ⟨v2, _⟩ <;> rw [v1, v2] at hp <;> cases hp
    ·have hc := chk_apart fx.run.chk o3
     rw [fx.run.slots (k := i) (t := a) (Nat.le_of_lt hi) (Nat.le_refl _) (fun q z h1 _ h3 => o4 q z h1 h3),
      fx.run.slots (k := k) (t := b') (Nat.le_of_lt hkl) (Nat.le_refl _) (fun q z h1 _ h3 => o5 q z h1 h3)] at hc
     rcases ldst_spec o1 with ⟨n1, m1, z1, p1, p2⟩ | ⟨n1, p1, p2⟩ | ⟨n1, p1, p2⟩
     ·simp only at p1 p2
      rcases hkz with ⟨v2, m2, i2, x2, off2, e2, e3⟩ | ⟨v2, _⟩
      ·rw [p2] at e2
       cases e2
       rcases hv with ⟨n3, i3, off3, e4, e5⟩ | ⟨n3, i3, x3, off3, e4, e5⟩ | v1 | v1 | v1
       ·rw [p1] at e4
        cases e4
        rw [e5, e3] at hc
        simp [apartV, beq_dec] at hc
       ·rw [p1] at e4; cases e4
       ·rw [p1] at v1; cases v1
       ·rw [p1] at v1; cases v1
       ·rw [p1] at v1; cases v1
      ·rw [p2] at v2; cases v2
     ·simp only at p1 p2
      rcases hkz with ⟨v2, m2, i2, x2, off2, e2, e3⟩ | ⟨v2, v3⟩
      ·have := p2.kind; omega
      ·rcases v3 _ p2 with w1 | ⟨o', l', c', s', w1⟩ | ⟨o', w1⟩
       ·have := fx.run.nx (k := i) (j := k) (by omega) (by omega)
        omega
       all_goals
        rcases hv with ⟨n3, i3, off3, e4, e5⟩ | ⟨n3, i3, x3, off3, e4, e5⟩ | v1 | v1 | v1
        ·rw [p1] at e4
         cases e4
         rw [e5, w1] at hc
         simp [apartV, beq_dec] at hc
        ·rw [p1] at e4; cases e4
        ·rw [p1] at v1; cases v1
        ·rw [p1] at v1; cases v1
        ·rw [p1] at v1; cases v1
     ·simp only at p1 p2
      rcases hkz with ⟨v2, _⟩ | ⟨v2, _⟩ <;> rw [p2] at v2 <;> cases v2
 refine ⟨hle, stable fx.run hle (Nat.le_of_lt hi) (iv.lt b l e) (fun k h1 h2 hw => ?_)⟩
 by_cases hk : E k
 ·have := iv.all b l e k hk hw
  omega
 ·obtain ⟨z, hz, hkz⟩ := hw.kind (Nat.lt_of_lt_of_le (iv.lt b l e) (fx.run.nx h1 (by omega)))
  have hp := (earlier fx nx hk hz h2).kind
  have hbk : b < (H k).nx := Nat.lt_of_lt_of_le (iv.lt b l e) (fx.run.nx h1 (by omega))
  rcases hp with hp | ⟨a, b', o1, o3, o4, o5⟩
  ·rcases hv.kind with ⟨v1, _⟩ | v1 | v1 | v1 | v1 <;> rcases hkz with ⟨v2, _⟩ | ⟨v2, _⟩ <;> rw [v1, v2] at hp <;> cases hp
  ·have hc := chk_apart fx.run.chk o3
   rw [fx.run.slots (k := k) (t := a) (by omega) (Nat.le_refl _) (fun q z h1 _ h3 => o4 q z h1 h3),
    fx.run.slots (k := i) (t := b') (Nat.le_of_lt hi) (Nat.le_refl _) (fun q z h1 _ h3 => o5 q z h1 h3)] at hc
   rcases ldst_spec o1 with ⟨n1, m1, z1, p1, p2⟩ | ⟨n1, p1, p2⟩ | ⟨n1, p1, p2⟩
   ·simp only at p1
    rcases hkz with ⟨v2, _⟩ | ⟨v2, _⟩ <;> rw [p1] at v2 <;> cases v2
   ·simp only at p1
    rcases hkz with ⟨v2, _⟩ | ⟨v2, _⟩ <;> rw [p1] at v2 <;> cases v2
   ·simp only at p1 p2
    rcases hkz with ⟨v2, m2, i2, x2, off2, e2, e3⟩ | ⟨v2, v3⟩
    ·have := p1.kind; omega
    ·rcases v3 _ p1 with w1 | ⟨o', l', c', s', w1⟩ | ⟨o', w1⟩
     ·omega
     all_goals
      rcases hv with ⟨n3, i3, off3, e4, e5⟩ | ⟨n3, i3, x3, off3, e4, e5⟩ | v1 | v1 | v1
      ·rw [p2] at e4
       cases e4
       rw [e5, w1] at hc
       simp [apartV, beq_dec] at hc
      ·rw [p2] at e4; cases e4
      ·rw [p2] at v1; cases v1
      ·rw [p2] at v1; cases v1
      ·rw [p2] at v1; cases v1
theorem view_rel (fx : Fix P gl B vp n ops ys chk S H M0 ρ0 w0) (nx : Next ops ys E i y) (iv : InvH P gl B ys S H M0 ρ0 w0 E M ρ C w) {hv : Heap} (hnx : hv.nx = (H i).nx) (hlo : hv.lo ≤ hv.nx)
  (hview : ∀ b, hv.get b = .dead ∨ (View y.op (S i) b ∧ hv.get b = (H i).get b)) : HRel P gl B M (ρ.below (H i).nx) hv w := by
 have key : ∀ b l, ρ.below (H i).nx b = some l → live hv b → ρ b = some l ∧ C b ≤ i ∧ hv.get b = (H (C b)).get b := by
  intro b l e hl
  obtain ⟨h1, h2⟩ := Rho.below_some.1 e
  rcases hview b with q | ⟨q1, q2⟩
  ·exact absurd q hl
  ·obtain ⟨k1, k2⟩ := blk_now fx nx iv q1 h2 h1
   exact ⟨h2, k1, q2.trans k2⟩
 refine ⟨fun b l e => by rw [hnx]; exact (Rho.below_some.1 e).1, ?_, ?_, iv.mem, ?_, ?_, ?_, iv.room, hlo, iv.glob⟩
 ·intro b l e
  by_cases hl : live hv b
  ·obtain ⟨k1, k2, k3⟩ := key b l e hl
   rw [k3]
   exact BRel.mono (Mle.refl _) (below_mono (Rle.refl _) (fx.run.nx k2 (Nat.le_of_lt nx.ilt))) (iv.blk b l k1)
  ·have hd : hv.get b = .dead := by simpa [live] using hl
   rw [hd]
   simp [BRel]
 ·intro b b' l l' e e' hl hl' heq
  obtain ⟨k1, _, k3⟩ := key b l e hl
  obtain ⟨k1', _, k3'⟩ := key b' l' e' hl'
  exact iv.inj b b' l l' k1 k1' (by rw [← k3]; exact hl) (by rw [← k3']; exact hl') heq
 ·intro b l e hl
  obtain ⟨k1, _, k3⟩ := key b l e hl
  exact iv.sep b l k1 (by rw [← k3]; exact hl)
 ·intro b l e hl
  obtain ⟨k1, _, k3⟩ := key b l e hl
  exact iv.base b l k1 (by rw [← k3]; exact hl)
 ·intro b hb
  rcases hview b with q | ⟨_, q2⟩
  ·exact q
  ·rw [q2]
   exact fx.run.wfs (Nat.le_of_lt nx.ilt) b (by omega)
theorem view_slots (fx : Fix P gl B vp n ops ys chk S H M0 ρ0 w0) (nx : Next ops ys E i y) (iv : InvS ys S H N E M ρ D tm) : ∃ s2, (∀ t ∈ rdOp y.op, s2.at t = (S i).at t) ∧ SRel M (ρ.below (H i).nx) N s2 tm := by
 obtain ⟨s2, h1, h2, h3⟩ := mask_slots (S i) (rdOp y.op) tm.size
 refine ⟨s2, h1, iv.size, fun t => ?_⟩
 by_cases ht : t ∈ rdOp y.op
 ·have hr : t ∈ y.reads := by
   unfold VOper.reads
   split
   ·exact List.mem_cons_of_mem _ ht
   ·exact ht
  obtain ⟨k1, k2⟩ := slot_now fx nx iv hr
  rw [h1 t ht, k2]
  exact VRel.mono (Mle.refl _) (below_mono (Rle.refl _) (fx.run.nx k1 (Nat.le_of_lt nx.ilt))) _ (iv.slot t)
 ·by_cases hK : t < tm.size
  ·rw [h2 t ht hK]
   simp [VRel]
  ·rw [h3 t ht (by omega)]
   have : tm.getD t undef = undef := by simp [Array.getElem?_eq_none (by omega : tm.size ≤ t)]
   rw [this]
   exact undef_rel
end
end Go.VE
end
section
namespace Go.VE
section
variable {P : Program} {gl : Nat → Option (List V)} {pu : Nat → Nat} {N B : Nat} {vp : Nat → Option VFn} {n : Nat} {ops : Array Oper} {ys : List VOper} {chk : List (Nat × Nat)} {S : Nat → Slots} {H : Nat → Heap} {M0 : Mem} {ρ0 : Rho} {w0 : World}
 {E : Nat → Prop} {M : Mem} {ρ : Rho} {C D : Nat → Nat} {a : Act} {w : World} {i : Nat} {y : VOper}
theorem put_size (a : Act) (d : Option Nat) (x : Value) : (a.put d x).tmps.size = a.tmps.size := by
 cases d with
 | none => rfl
 | some d => simp [Act.put]
theorem invS_next (fx : Fix P gl B vp n ops ys chk S H M0 ρ0 w0) (nx : Next ops ys E i y) (iv : InvS ys S H N E M ρ D a.tmps) {M' : Mem} {ρ' : Rho} (hM : Mle M M') (hρ : Rle ρ ρ') {v : V} {x : Value}
  (hS : S (i + 1) = slotsPut (S i) y.dst v) (hv : VRel M' (ρ'.below (H (i + 1)).nx) v x) (hd : ∀ d, y.dst = some d → d < N) :
  InvS ys S H N (fun k => E k ∨ k = i) M' ρ' (fun t => if y.dst = some t then i + 1 else D t) (a.put y.dst x).tmps := by
 refine ⟨by rw [put_size]; exact iv.size, fun t => ?_, fun t => ?_, fun t k z hk hz hdz => ?_, fun t => ?_⟩
 ·skip
  split
  ·exact nx.ilt
  ·exact iv.le t
 ·skip
  split
  ·rename_i h
   exact .inr ⟨i, y, rfl, .inr rfl, nx.at_, h⟩
  ·rcases iv.last t with h | ⟨k, z, h1, h2, h3, h4⟩
   ·exact .inl h
   ·exact .inr ⟨k, z, h1, .inl h2, h3, h4⟩
 ·skip
  split
  ·rename_i h
   rcases hk with hk | hk
   ·rcases Nat.lt_trichotomy k i with q | q | q
    ·omega
    ·omega
    ·exact absurd hdz ((later fx nx hk hz q).apart.same t h)
   ·omega
  ·rename_i h
   rcases hk with hk | hk
   ·exact iv.all t k z hk hz hdz
   ·subst hk
    rw [nx.at_] at hz
    cases hz
    exact absurd hdz h
 ·skip
  split
  ·rename_i h
   rw [hS, h, slotsPut_same]
   have hlt : t < a.tmps.size := Nat.lt_of_lt_of_le (hd t h) iv.size
   have : (a.put (some t) x).tmps.getD t undef = x := by simp [Act.put, hlt]
   rw [this]
   exact hv
  ·rename_i h
   have : (a.put y.dst x).tmps.getD t undef = a.tmps.getD t undef := by
    cases hy : y.dst with
    | none => rfl
    | some d =>
     have hne : d ≠ t := fun q => h (by rw [hy, q])
     simp [Act.put, Array.getElem?_setIfInBounds_ne hne]
   rw [this]
   exact VRel.mono hM (below_mono hρ (Nat.le_refl _)) _ (iv.slot t)
theorem BRel.lt {M : Mem} {ρ : Rho} {l : Loc} {x : Blk} {w : World} (h : BRel P gl M ρ l x w.heap[l.blk]?) (hx : x ≠ .dead) : l.blk < w.heap.size := by
 rcases Nat.lt_or_ge l.blk w.heap.size with q | q
 ·exact q
 ·rw [Array.getElem?_eq_none q] at h
  cases x <;> simp_all [BRel]
theorem invH_quiet (iv : InvH P gl B ys S H M0 ρ0 w0 E M ρ C w) (hnw : ∀ b, ¬ Wr ys S H i b) {M' : Mem} {w' : World} (hM : Mle M M') (hmem : ∀ k cs, M' k = some cs → ∃ e fr, w'.heap[k]? = some (.cells cs.toArray e fr))
  (hnew : ∀ k cs, M' k = some cs → M k = some cs ∨ w.heap.size ≤ k) (hos : w'.os = w.os) (htape : w'.tape = w.tape) (hout : w'.output = w.output) (hsz : w.heap.size ≤ w'.heap.size) (hold : ∀ k, k < w.heap.size → w'.heap[k]? = w.heap[k]?)
  (h3 : ∀ b m j x off y, ys[i]? = some y → y.op = .st m (.t j) x → gEval y.g (S i) = some true → (S i).at j = .ptr b off → ∃ l, ρ b = some l) :
  InvH P gl B ys S H M0 ρ0 w0 (fun k => E k ∨ k = i) M' ρ C w' := by
 refine ⟨iv.le, iv.lt, fun b l e => ?_, fun b l e k hk hw => ?_, fun b l e => ?_, iv.inj, hmem, fun b l e hl => ?_, iv.base, Nat.le_trans iv.room hsz, fun g cs e => ?_, fun b l e => ?_, fun k b m j x off y hk => ?_, iv.rho, iv.mle.trans hM, fun k cs e => ?_,
  hos.trans iv.os, htape.trans iv.tape, hout.trans iv.output, Nat.le_trans iv.wsize hsz, iv.wr, fun k hk hno => ?_, iv.low, iv.new⟩
 ·rcases iv.last b l e with h | ⟨k, h1, h2, h3⟩
  ·exact .inl h
  ·exact .inr ⟨k, h1, .inl h2, h3⟩
 ·rcases hk with hk | hk
  ·exact iv.all b l e k hk hw
  ·subst hk
   exact absurd hw (hnw b)
 ·by_cases hd : (H (C b)).get b = .dead
  ·rw [hd]; simp [BRel]
  ·have hb := iv.blk b l e
   rw [hold _ (BRel.lt hb hd)]
   exact BRel.mono hM (Rle.refl _) hb
 ·have hb := BRel.lt (iv.blk b l e) hl
  cases hq : M' l.blk with
  | none => rfl
  | some cs =>
   rcases hnew _ _ hq with q | q
   ·rw [iv.sep b l e hl] at q; cases q
   ·omega
 ·obtain ⟨row, h1, h2⟩ := iv.glob g cs e
  exact ⟨row, hM _ _ h1, VRels.mono hM (Rle.refl _) _ h2⟩
 ·rcases iv.own b l e with h | ⟨k, h1, h2⟩
  ·exact .inl h
  ·exact .inr ⟨k, .inl h1, h2⟩
 ·rcases hk with hk | hk
  ·exact iv.w3 k b m j x off y hk
  ·subst hk
   exact h3 b m j x off y
 ·rcases hnew _ _ e with q | q
  ·exact iv.mnew _ _ q
  ·exact .inr (Nat.le_trans iv.wsize q)
 ·rw [hold k (Nat.lt_of_lt_of_le hk iv.wsize)]
  exact iv.frame k hk hno
theorem view_back {hv hv' : Heap} {w' : World} {M' : Mem} {ρ' : Rho} {m : Nat} (hnx : hv.nx = m) (g1 : HRel P gl B M' ρ' hv' w') (g2 : Evo M (ρ.below m) hv w M' ρ' hv' w') {b : Nat} {l : Loc} (e : ρ' b = some l) : b < hv'.nx ∧ (b < m → ρ b = some l) := by
 refine ⟨g1.bound b l e, fun hb => ?_⟩
 cases h : ρ.below m b with
 | none => have := g2.new b l e h; omega
 | some l' =>
  have := g2.rho b l' h
  rw [e] at this
  cases this
  exact (Rho.below_some.1 h).2
theorem fresh_none (fx : Fix P gl B vp n ops ys chk S H M0 ρ0 w0) (nx : Next ops ys E i y) (iv : InvH P gl B ys S H M0 ρ0 w0 E M ρ C w) {b : Nat} (h1 : (H i).nx ≤ b) (h2 : b < (H (i + 1)).nx) : ρ b = none := by
 cases e : ρ b with
 | none => rfl
 | some l =>
  exfalso
  have hi := nx.ilt
  have h0 := fx.run.nx (k := 0) (j := i) (by omega) (by omega)
  rcases iv.own b l e with q | ⟨k, q1, q2, q3⟩
  ·omega
  ·have hk := nx.lt k q1
   rcases Nat.lt_trichotomy k i with r | r | r
   ·have := fx.run.nx (k := k + 1) (j := i) (by omega) (by omega); omega
   ·subst r; exact nx.not q1
   ·have := fx.run.nx (k := i + 1) (j := k) (by omega) (by omega); omega
theorem invH_new (fx : Fix P gl B vp n ops ys chk S H M0 ρ0 w0) (nx : Next ops ys E i y) (iv : InvH P gl B ys S H M0 ρ0 w0 E M ρ C w) (hk1 : kindOf y.op = 1 ∨ kindOf y.op = 6) (hg : gEval y.g (S i) = some true) {hv hv' : Heap} (v1 : hv.nx = (H i).nx) (v2 : hv.lo = (H i).nx) (v3 : hv'.nx = (H (i + 1)).nx) (v4 : ∀ b, (H i).nx ≤ b → hv'.get b = (H (i + 1)).get b)
  {M' : Mem} {ρ' : Rho} {w' : World} (g1 : HRel P gl B M' ρ' hv' w') (g2 : Evo M (ρ.below (H i).nx) hv w M' ρ' hv' w') :
  ∃ ρ2 C2, Rle ρ ρ2 ∧ Rle ρ' (ρ2.below (H (i + 1)).nx) ∧ InvH P gl B ys S H M0 ρ0 w0 (fun k => E k ∨ k = i) M' ρ2 C2 w' := by
 have hfn : ∀ b, (H i).nx ≤ b → b < (H (i + 1)).nx → ρ b = none := fun b h1 h2 => fresh_none fx nx iv h1 h2
 have hwr : ∀ b, Wr ys S H i b → (H i).nx ≤ b ∧ b < (H (i + 1)).nx := by
  rintro b ⟨z, hz, _, ⟨_, h1, h2⟩ | ⟨m, j, x, off, h1, _⟩ | ⟨h1, _⟩⟩
  ·exact ⟨h1, h2⟩
  ·rw [nx.at_] at hz; cases hz; rw [h1] at hk1; rcases hk1 with q | q <;> cases q
  ·rw [nx.at_] at hz; cases hz; rw [h1] at hk1; rcases hk1 with q | q <;> cases q
 have hiw : ∀ b, (H i).nx ≤ b → b < (H (i + 1)).nx → Wr ys S H i b := fun b h1 h2 => ⟨y, nx.at_, hg, .inl ⟨hk1, h1, h2⟩⟩
 have hold : ∀ k, k < w.heap.size → w'.heap[k]? = w.heap[k]? := fun k hk => g2.frame k hk (fun b l e _ hb => by
  have := (Rho.below_some.1 e).1
  omega)
 have hXl : ∀ b l, (H i).nx ≤ b → ρ' b = some l → (H (i + 1)).get b ≠ .dead → w.heap.size ≤ l.blk := by
  intro b l hb e hX
  have hlv : live hv' b := by
   unfold live
   rw [v4 b hb]
   exact hX
  rcases g2.wr _ l e hlv (by omega) with q | ⟨b0, l0, f1, _, f3, _⟩
  ·exact q
  ·have := (Rho.below_some.1 f1).1
   omega
 have hle : ∀ b l, ρ' b = some l → b < (H (i + 1)).nx ∧ (b < (H i).nx → ρ b = some l) := fun b l e => by
  have := view_back v1 g1 g2 e
  rw [v3] at this
  exact this
 have hM := g2.mem
 have h0 := fx.run.nx (k := 0) (j := i) (by omega) (Nat.le_of_lt nx.ilt)
 let ρ2 : Rho := fun b => if (H i).nx ≤ b ∧ b < (H (i + 1)).nx then ρ' b else ρ b
 let C2 : Nat → Nat := fun b => if (H i).nx ≤ b ∧ b < (H (i + 1)).nx then i + 1 else C b
 have r2n : ∀ b, ((H i).nx ≤ b ∧ b < (H (i + 1)).nx) → ρ2 b = ρ' b := fun b hb => by simp [ρ2, hb]
 have r2o : ∀ b, ¬ ((H i).nx ≤ b ∧ b < (H (i + 1)).nx) → ρ2 b = ρ b := fun b hb => by simp only [ρ2]; rw [if_neg hb]
 have c2n : ∀ b, ((H i).nx ≤ b ∧ b < (H (i + 1)).nx) → C2 b = i + 1 := fun b hb => by simp [C2, hb]
 have c2o : ∀ b, ¬ ((H i).nx ≤ b ∧ b < (H (i + 1)).nx) → C2 b = C b := fun b hb => by simp only [C2]; rw [if_neg hb]
 have hρ : Rle ρ ρ2 := by
  intro b l e
  have hb : ¬ ((H i).nx ≤ b ∧ b < (H (i + 1)).nx) := fun q => by rw [hfn b q.1 q.2] at e; cases e
  rw [r2o b hb]; exact e
 have hρ' : Rle ρ' (ρ2.below (H (i + 1)).nx) := by
  intro b l e
  obtain ⟨h1, h2⟩ := hle b l e
  refine Rho.below_some.2 ⟨h1, ?_⟩
  by_cases hb : (H i).nx ≤ b ∧ b < (H (i + 1)).nx
  ·rw [r2n b hb]; exact e
  ·rw [r2o b hb]; exact h2 (by omega)
 refine ⟨ρ2, C2, hρ, hρ', ?_⟩
 have sepO : ∀ b l, ρ b = some l → (H (C b)).get b ≠ .dead → M' l.blk = none := by
  intro b l e hl
  have hb := BRel.lt (iv.blk b l e) hl
  cases hq : M' l.blk with
  | none => rfl
  | some cs =>
   rcases g2.mnew _ _ hq with q | q
   ·rw [iv.sep b l e hl] at q; cases q
   ·omega
 refine ⟨fun b l e => ?_, fun b l e => ?_, fun b l e => ?_, fun b l e k hk hw => ?_, fun b l e => ?_, fun b b' l l' e e' hl hl' heq => ?_, g1.mem, fun b l e hl => ?_, fun b l e hl => ?_, Nat.le_trans iv.room g2.size, g1.glob, fun b l e => ?_, fun k b m j x off z hk hz ho hgz hp => ?_,
  iv.rho.trans hρ, iv.mle.trans hM, fun k cs e => ?_, g2.os.trans iv.os, g2.tape.trans iv.tape, g2.output.trans iv.output, Nat.le_trans iv.wsize g2.size, fun b l e hl hlo => ?_, fun k hk hno => ?_, fun b l e hlo => ?_, fun b l e e0 => ?_⟩
 ·by_cases hb : (H i).nx ≤ b ∧ b < (H (i + 1)).nx
  ·rw [c2n b hb]; exact nx.ilt
  ·rw [r2o b hb] at e; rw [c2o b hb]; exact iv.le b l e
 ·by_cases hb : (H i).nx ≤ b ∧ b < (H (i + 1)).nx
  ·rw [c2n b hb]; exact hb.2
  ·rw [r2o b hb] at e; rw [c2o b hb]; exact iv.lt b l e
 ·by_cases hb : (H i).nx ≤ b ∧ b < (H (i + 1)).nx
  ·rw [c2n b hb]; exact .inr ⟨i, rfl, .inr rfl, hiw b hb.1 hb.2⟩
  ·rw [r2o b hb] at e; rw [c2o b hb]
   rcases iv.last b l e with h | ⟨k, h1, h2, h3⟩
   ·exact .inl h
   ·exact .inr ⟨k, h1, .inl h2, h3⟩
 ·by_cases hb : (H i).nx ≤ b ∧ b < (H (i + 1)).nx
  ·rw [c2n b hb]
   rcases hk with hk | hk
   ·rcases Nat.lt_trichotomy k i with q | q | q
    ·omega
    ·omega
    ·exfalso
     have hkl := nx.lt k hk
     have hlt := fx.run.nx (k := i + 1) (j := k) (by omega) (by omega)
     obtain ⟨z, hz, hkz⟩ := hw.kind (by omega)
     have hp := (later fx nx hk hz q).kind
     rcases hkz with ⟨v2, m2, i2, x2, off2, e2, e3⟩ | v2
     ·obtain ⟨z', hz', hg', _⟩ := hw
      rw [hz] at hz'
      cases hz'
      obtain ⟨l2, q2⟩ := iv.w3 k _ m2 i2 x2 off2 z hk hz e2 hg' e3
      rw [hfn b hb.1 hb.2] at q2
      cases q2
     ·rcases hp with hp | ⟨a', b', o1, _⟩
      ·rw [v2.1] at hp; rcases hk1 with hk1 | hk1 <;> rw [hk1] at hp <;> cases hp
      ·rcases ldst_spec o1 with ⟨n1, m1, z1, p1, p2⟩ | ⟨n1, p1, p2⟩ | ⟨n1, p1, p2⟩
       ·simp only at p1; rw [p1] at hk1; rcases hk1 with hk1 | hk1 <;> cases hk1
       ·simp only at p1; rw [p1] at hk1; rcases hk1 with hk1 | hk1 <;> cases hk1
       ·have := p1.kind; omega
   ·omega
  ·rw [r2o b hb] at e
   rw [c2o b hb]
   rcases hk with hk | hk
   ·exact iv.all b l e k hk hw
   ·subst hk; exact absurd (hwr b hw) hb
 ·by_cases hb : (H i).nx ≤ b ∧ b < (H (i + 1)).nx
  ·rw [c2n b hb]
   have := g1.blk _ l (by rw [← r2n b hb]; exact e)
   rw [v4 b hb.1] at this
   exact BRel.mono (Mle.refl _) hρ' this
  ·rw [r2o b hb] at e
   rw [c2o b hb]
   by_cases hd : (H (C b)).get b = .dead
   ·rw [hd]; simp [BRel]
   ·have hbk := iv.blk b l e
    rw [hold _ (BRel.lt hbk hd)]
    exact BRel.mono hM (below_mono hρ (Nat.le_refl _)) hbk
 ·by_cases hb : (H i).nx ≤ b ∧ b < (H (i + 1)).nx <;> by_cases hb' : (H i).nx ≤ b' ∧ b' < (H (i + 1)).nx
  ·rw [c2n b hb] at hl
   rw [c2n b' hb'] at hl'
   rw [r2n b hb] at e
   rw [r2n b' hb'] at e'
   exact g1.inj b b' l l' e e' (by unfold live; rw [v4 b hb.1]; exact hl) (by unfold live; rw [v4 b' hb'.1]; exact hl') heq
  ·rw [c2n b hb] at hl
   rw [r2n b hb] at e
   rw [r2o b' hb'] at e'
   rw [c2o b' hb'] at hl'
   have := hXl b l hb.1 e hl
   have := BRel.lt (iv.blk b' l' e') hl'
   omega
  ·rw [c2n b' hb'] at hl'
   rw [r2n b' hb'] at e'
   rw [r2o b hb] at e
   rw [c2o b hb] at hl
   have := hXl b' l' hb'.1 e' hl'
   have := BRel.lt (iv.blk b l e) hl
   omega
  ·rw [r2o b hb] at e
   rw [r2o b' hb'] at e'
   rw [c2o b hb] at hl
   rw [c2o b' hb'] at hl'
   exact iv.inj b b' l l' e e' hl hl' heq
 ·by_cases hb : (H i).nx ≤ b ∧ b < (H (i + 1)).nx
  ·rw [c2n b hb] at hl
   rw [r2n b hb] at e
   exact g1.sep _ l e (by unfold live; rw [v4 b hb.1]; exact hl)
  ·rw [r2o b hb] at e
   rw [c2o b hb] at hl
   exact sepO b l e hl
 ·by_cases hb : (H i).nx ≤ b ∧ b < (H (i + 1)).nx
  ·rw [c2n b hb] at hl
   rw [r2n b hb] at e
   exact g1.base _ l e (by unfold live; rw [v4 b hb.1]; exact hl)
  ·rw [r2o b hb] at e
   rw [c2o b hb] at hl
   exact iv.base b l e hl
 ·by_cases hb : (H i).nx ≤ b ∧ b < (H (i + 1)).nx
  ·exact .inr ⟨i, .inr rfl, hb.1, hb.2⟩
  ·rw [r2o b hb] at e
   rcases iv.own b l e with h | ⟨k, h1, h2⟩
   ·exact .inl h
   ·exact .inr ⟨k, .inl h1, h2⟩
 ·rcases hk with hk | hk
  ·obtain ⟨l, q⟩ := iv.w3 k b m j x off z hk hz ho hgz hp
   exact ⟨l, hρ b l q⟩
  ·subst hk
   rw [nx.at_] at hz
   cases hz
   rw [ho] at hk1
   rcases hk1 with hk1 | hk1 <;> cases hk1
 ·rcases g2.mnew _ _ e with q | q
  ·exact iv.mnew _ _ q
  ·exact .inr (Nat.le_trans iv.wsize q)
 ·by_cases hb : (H i).nx ≤ b ∧ b < (H (i + 1)).nx
  ·rw [c2n b hb] at hl
   rw [r2n b hb] at e
   exact .inl (Nat.le_trans iv.wsize (hXl b l hb.1 e hl))
  ·rw [r2o b hb] at e
   rw [c2o b hb] at hl
   exact iv.wr b l e hl hlo
 ·rw [hold k (Nat.lt_of_lt_of_le hk iv.wsize)]
  exact iv.frame k hk hno
 ·have hb : ¬ ((H i).nx ≤ b ∧ b < (H (i + 1)).nx) := fun q => by
   have := iv.rho b l e
   rw [hfn b q.1 q.2] at this
   cases this
  rw [c2o b hb]
  exact iv.low b l e hlo
 ·by_cases hb : (H i).nx ≤ b ∧ b < (H (i + 1)).nx
  ·omega
  ·rw [r2o b hb] at e
   exact iv.new b l e e0
end
end Go.VE
end
section
namespace Go.VE
section
variable {P : Program} {gl : Nat → Option (List V)} {pu : Nat → Nat} {N B : Nat} {vp : Nat → Option VFn} {n : Nat} {ops : Array Oper} {ys : List VOper} {chk : List (Nat × Nat)} {S : Nat → Slots} {H : Nat → Heap} {M0 : Mem} {ρ0 : Rho} {w0 : World}
 {E : Nat → Prop} {M : Mem} {ρ : Rho} {C D : Nat → Nat} {a : Act} {w : World} {i : Nat} {y : VOper}
def oneBlk (m lo b : Nat) (x : Blk) : Heap := { bare m with lo := lo }.set b x
theorem oneBlk_get (m lo b : Nat) (x : Blk) (c : Nat) : (oneBlk m lo b x).get c = if c = b then x else .dead := by
 unfold oneBlk
 rw [Heap.get_set]
 split
 ·rfl
 ·exact bare_get m c
theorem invH_store (fx : Fix P gl B vp n ops ys chk S H M0 ρ0 w0) (nx : Next ops ys E i y) (iv : InvH P gl B ys S H M0 ρ0 w0 E M ρ C w) {m j : Nat} {x0 : Opd} (hop : y.op = .st m (.t j) x0) (hg : gEval y.g (S i) = some true)
  {b0 off : Nat} (hp : (S i).at j = .ptr b0 off) (hlo : (H i).lo ≤ b0) {c : List V} {o : Tag} (hcell : (H i).get b0 = .cells c o) {Y : Blk} (hY : Y ≠ .dead) (hH : H (i + 1) = (H i).set b0 Y) (hne : m ≠ 0)
  {l0 : Loc} (e0 : ρ b0 = some l0) {M' : Mem} {ρ' : Rho} {w' : World} (g1 : HRel P gl B M' ρ' ((oneBlk (H i).nx (H i).lo b0 ((H i).get b0)).set b0 Y) w')
  (g2 : Evo M (ρ.below (H i).nx) (oneBlk (H i).nx (H i).lo b0 ((H i).get b0)) w M' ρ' ((oneBlk (H i).nx (H i).lo b0 ((H i).get b0)).set b0 Y) w') :
  ∃ C2, Rle ρ' (ρ.below (H (i + 1)).nx) ∧ InvH P gl B ys S H M0 ρ0 w0 (fun k => E k ∨ k = i) M' ρ C2 w' := by
 have hnx : (H (i + 1)).nx = (H i).nx := by rw [hH]; rfl
 have hi := nx.ilt
 have hb0 : b0 < (H i).nx := by
  rcases Nat.lt_or_ge b0 (H i).nx with q | q
  ·exact q
  ·have := fx.run.wfs (Nat.le_of_lt hi) b0 q
   rw [hcell] at this
   cases this
 have hview : View y.op (S i) b0 := .inr (.inl ⟨m, j, x0, off, hop, hp⟩)
 obtain ⟨hC0, hcur0⟩ := blk_now fx nx iv hview e0 hb0
 have hlive0 : (H (C b0)).get b0 ≠ .dead := by rw [← hcur0, hcell]; simp
 have hk3 : kindOf y.op = 3 := by rw [hop]; rfl
 have hwr : ∀ b, Wr ys S H i b → b = b0 := by
  rintro b ⟨z, hz, _, ⟨h1, _⟩ | ⟨m', j', x', off', h1, h2, _⟩ | ⟨h1, _⟩⟩
  ·rw [nx.at_] at hz; cases hz; rw [hk3] at h1; rcases h1 with h1 | h1 <;> cases h1
  ·rw [nx.at_] at hz; cases hz; rw [hop] at h1; cases h1; rw [hp] at h2; cases h2; rfl
  ·rw [nx.at_] at hz; cases hz; rw [hk3] at h1; cases h1
 have hiw : Wr ys S H i b0 := ⟨y, nx.at_, hg, .inr (.inl ⟨m, j, x0, off, hop, hp, hne⟩)⟩
 have hback : ∀ b l, ρ' b = some l → b < (H i).nx ∧ (b < (H i).nx → ρ b = some l) := fun b l e => view_back (hv := oneBlk (H i).nx (H i).lo b0 ((H i).get b0)) rfl g1 g2 e
 have hρ' : Rle ρ' (ρ.below (H (i + 1)).nx) := by
  intro b l e
  obtain ⟨h1, h2⟩ := hback b l e
  exact Rho.below_some.2 ⟨by omega, h2 h1⟩
 have hρl : ρ' b0 = some l0 := g2.rho b0 l0 (Rho.below_some.2 ⟨hb0, e0⟩)
 have hM := g2.mem
 have hold : ∀ k, k < w.heap.size → k ≠ l0.blk → w'.heap[k]? = w.heap[k]? := by
  intro k hk hkl
  refine g2.frame k hk (fun b l e hl hlo' q => ?_)
  have hbb : b = b0 := by
   unfold live at hl
   rw [oneBlk_get] at hl
   by_cases hq : b = b0
   ·exact hq
   ·rw [if_neg hq] at hl; exact absurd rfl hl
  subst hbb
  have := (Rho.below_some.1 e).2
  rw [e0] at this
  cases this
  exact hkl q.symm
 have gnew : ((oneBlk (H i).nx (H i).lo b0 ((H i).get b0)).set b0 Y).get b0 = Y := by
  rw [Heap.get_set]
  exact if_pos rfl
 have hget : (H (i + 1)).get b0 = Y := by rw [hH, Heap.get_set, if_pos rfl]
 let C2 : Nat → Nat := fun b => if b = b0 then i + 1 else C b
 have c2n : C2 b0 = i + 1 := by simp [C2]
 have c2o : ∀ b, b ≠ b0 → C2 b = C b := fun b hb => by simp [C2, hb]
 have cl : ∀ b, (H (C2 b)).get b ≠ .dead → (H (C b)).get b ≠ .dead := by
  intro b hl
  by_cases hb : b = b0
  ·subst hb; exact hlive0
  ·rw [c2o b hb] at hl; exact hl
 refine ⟨C2, hρ', ?_⟩
 refine ⟨fun b l e => ?_, fun b l e => ?_, fun b l e => ?_, fun b l e k hk hw => ?_, fun b l e => ?_, fun b b' l l' e e' hl hl' heq => iv.inj b b' l l' e e' (cl b hl) (cl b' hl') heq, g1.mem, fun b l e hl => ?_, fun b l e hl => iv.base b l e (cl b hl), Nat.le_trans iv.room g2.size, g1.glob, fun b l e => ?_, fun k b m' j' x off' z hk hz ho hgz hpz => ?_,
  iv.rho, iv.mle.trans hM, fun k cs e => ?_, g2.os.trans iv.os, g2.tape.trans iv.tape, g2.output.trans iv.output, Nat.le_trans iv.wsize g2.size, fun b l e hl hlo' => iv.wr b l e (cl b hl) hlo', fun k hk hno => ?_, fun b l e hlo' => ?_, iv.new⟩
 ·by_cases hb : b = b0
  ·subst hb; rw [c2n]; exact hi
  ·rw [c2o b hb]; exact iv.le b l e
 ·by_cases hb : b = b0
  ·subst hb; rw [c2n, hnx]; exact hb0
  ·rw [c2o b hb]; exact iv.lt b l e
 ·by_cases hb : b = b0
  ·subst hb; rw [c2n]; exact .inr ⟨i, rfl, .inr rfl, hiw⟩
  ·rw [c2o b hb]
   rcases iv.last b l e with h | ⟨k, h1, h2, h3⟩
   ·exact .inl h
   ·exact .inr ⟨k, h1, .inl h2, h3⟩
 ·by_cases hb : b = b0
  ·subst hb
   rw [c2n]
   rcases hk with hk | hk
   ·have := iv.all b l e k hk hw
    omega
   ·omega
  ·rw [c2o b hb]
   rcases hk with hk | hk
   ·exact iv.all b l e k hk hw
   ·subst hk; exact absurd (hwr b hw) hb
 ·by_cases hb : b = b0
  ·subst hb
   rw [e0] at e
   cases e
   rw [c2n, hget]
   have := g1.blk _ _ hρl
   rw [gnew] at this
   exact BRel.mono (Mle.refl _) hρ' this
  ·rw [c2o b hb]
   by_cases hd : (H (C b)).get b = .dead
   ·rw [hd]; simp [BRel]
   ·have hbk := iv.blk b l e
    have hne' : l.blk ≠ l0.blk := fun q => hb (iv.inj b b0 l l0 e e0 hd hlive0 q)
    rw [hold _ (BRel.lt hbk hd) hne']
    exact BRel.mono hM (Rle.refl _) hbk
 ·have hl' := cl b hl
  have hb := BRel.lt (iv.blk b l e) hl'
  cases hq : M' l.blk with
  | none => rfl
  | some cs =>
   rcases g2.mnew _ _ hq with q | q
   ·rw [iv.sep b l e hl'] at q; cases q
   ·omega
 ·rcases iv.own b l e with h | ⟨k, h1, h2⟩
  ·exact .inl h
  ·exact .inr ⟨k, .inl h1, h2⟩
 ·rcases hk with hk | hk
  ·exact iv.w3 k b m' j' x off' z hk hz ho hgz hpz
  ·subst hk
   rw [nx.at_] at hz
   cases hz
   rw [hop] at ho
   cases ho
   rw [hp] at hpz
   cases hpz
   exact ⟨l0, e0⟩
 ·rcases g2.mnew _ _ e with q | q
  ·exact iv.mnew _ _ q
  ·exact .inr (Nat.le_trans iv.wsize q)
 ·have hkl : k ≠ l0.blk := by
   intro q
   rcases iv.wr b0 l0 e0 hlive0 (by rw [← fx.run.lo (Nat.le_of_lt hi)]; exact hlo) with r | ⟨b1, l1, r1, r2, r3, r4⟩
   ·omega
   ·exact hno b1 l1 r1 r2 r3 (r4.trans q.symm)
  rw [hold k (Nat.lt_of_lt_of_le hk iv.wsize) hkl]
  exact iv.frame k hk hno
 ·have hb : b ≠ b0 := fun q => by
   have := fx.run.lo (Nat.le_of_lt hi)
   omega
  rw [c2o b hb]
  exact iv.low b l e hlo'
theorem invH_eff (fx : Fix P gl B vp n ops ys chk S H M0 ρ0 w0) (nx : Next ops ys E i y) (iv : InvH P gl B ys S H M0 ρ0 w0 E M ρ C w) (hk5 : kindOf y.op = 5) (hg : gEval y.g (S i) = some true)
  {hv hv' : Heap} (v1 : hv.nx = (H i).nx) (v2 : hv.lo = (H i).lo) (v3 : hv'.nx = (H (i + 1)).nx) (a1 : ∀ b, b < (H i).nx → Wr ys S H i b → hv.get b = (H i).get b) (a2 : ∀ b, b < (H i).nx → ¬ Wr ys S H i b → hv.get b = .dead)
  (a3 : ∀ b, b < (H (i + 1)).nx → Wr ys S H i b → hv'.get b = (H (i + 1)).get b) (a4 : ∀ b, (H i).nx ≤ b → b < (H (i + 1)).nx → Wr ys S H i b)
  {M' : Mem} {ρ' : Rho} {w' : World} (g1 : HRel P gl B M' ρ' hv' w') (g2 : Evo M (ρ.below (H i).nx) hv w M' ρ' hv' w') :
  ∃ ρ2 C2, Rle ρ ρ2 ∧ Rle ρ' (ρ2.below (H (i + 1)).nx) ∧ InvH P gl B ys S H M0 ρ0 w0 (fun k => E k ∨ k = i) M' ρ2 C2 w' := by
 have hi := nx.ilt
 have h0 := fx.run.nx (k := 0) (j := i) (by omega) (by omega)
 have h1i := fx.run.nx (k := i) (j := i + 1) (by omega) (by omega)
 have late : ∀ k, E k → i < k → ∃ z, ys[k]? = some z ∧ (kindOf z.op = 0 ∨ kindOf z.op = 1 ∨ kindOf z.op = 2) := by
  intro k hk hik
  have hkl := nx.lt k hk
  have hz : ys[k]? = some ys[k] := by simp [hkl]
  refine ⟨_, hz, ?_⟩
  rcases (later fx nx hk hz hik).kind with hp | ⟨a', b', o1, _⟩
  ·rw [hk5] at hp
   have hq := kind_le ys[k].op
   generalize kindOf ys[k].op = q at hp hq ⊢
   rcases q with _ | _ | _ | _ | _ | _ | _ | q
   ·exact .inl rfl
   ·exact .inr (.inl rfl)
   ·cases hp
   ·cases hp
   ·cases hp
   ·cases hp
   ·cases hp
   ·omega
  ·rcases ldst_spec o1 with ⟨n1, m1, z1, p1, p2⟩ | ⟨n1, p1, p2⟩ | ⟨n1, p1, p2⟩
   ·simp only at p1; rw [p1] at hk5; cases hk5
   ·simp only at p1; rw [p1] at hk5; cases hk5
   ·simp only at p2; rw [p2]; exact .inr (.inr rfl)
 let Nb : Nat → Prop := fun b => b < (H (i + 1)).nx ∧ Wr ys S H i b
 have hgap : ∀ b l, ρ b = some l → b < (H (i + 1)).nx → b < (H i).nx := by
  intro b l e hb
  rcases Nat.lt_or_ge b (H i).nx with q | q
  ·exact q
  ·rw [fresh_none fx nx iv q hb] at e; cases e
 have hback : ∀ b l, ρ' b = some l → b < (H (i + 1)).nx ∧ (b < (H i).nx → ρ b = some l) := fun b l e => by
  have := view_back v1 g1 g2 e
  rw [v3] at this
  exact this
 have hlo := fx.run.lo (Nat.le_of_lt hi)
 have hlonx : (H i).lo ≤ (H i).nx := by
  have := fx.rel.lonx
  omega
 have hnow : ∀ b l, ρ b = some l → b < (H i).nx → (H i).get b = (H (C b)).get b := fun b l e hb => (blk_now fx nx iv (.inr (.inr (.inr (.inl hk5)))) e hb).2
 have hwr : ∀ b, Nb b → Wr ys S H i b := fun b hb => hb.2
 have hwr' : ∀ b, Wr ys S H i b → Nb b := by
  intro b hw
  refine ⟨?_, hw⟩
  rcases hw with ⟨z, hz, _, ⟨h1, _, h2⟩ | ⟨m, j, x, off, h1, _⟩ | ⟨_, h2, _⟩⟩
  ·exact h2
  ·rw [nx.at_] at hz; cases hz; rw [h1] at hk5; cases hk5
  ·exact h2
 have liveV : ∀ b l, ρ b = some l → b < (H i).nx → live hv b → Nb b ∧ (H (C b)).get b ≠ .dead := by
  intro b l e hb hl
  by_cases hw : Wr ys S H i b
  ·refine ⟨hwr' b hw, ?_⟩
   rw [← hnow b l e hb, ← a1 b hb hw]
   exact hl
  ·exact absurd (a2 b hb hw) hl
 have hM := g2.mem
 let ρ2 : Rho := fun b => @ite _ (Nb b) (Classical.propDecidable _) (ρ' b) (ρ b)
 let C2 : Nat → Nat := fun b => @ite _ (Nb b) (Classical.propDecidable _) (i + 1) (C b)
 have r2n : ∀ b, Nb b → ρ2 b = ρ' b := fun b hb => by simp only [ρ2]; rw [if_pos hb]
 have r2o : ∀ b, ¬ Nb b → ρ2 b = ρ b := fun b hb => by simp only [ρ2]; rw [if_neg hb]
 have c2n : ∀ b, Nb b → C2 b = i + 1 := fun b hb => by simp only [C2]; rw [if_pos hb]
 have c2o : ∀ b, ¬ Nb b → C2 b = C b := fun b hb => by simp only [C2]; rw [if_neg hb]
 have hρ : Rle ρ ρ2 := by
  intro b l e
  by_cases hb : Nb b
  ·rw [r2n b hb]; exact g2.rho b l (Rho.below_some.2 ⟨hgap b l e hb.1, e⟩)
  ·rw [r2o b hb]; exact e
 have hρ' : Rle ρ' (ρ2.below (H (i + 1)).nx) := by
  intro b l e
  have hb := hback b l e
  refine Rho.below_some.2 ⟨hb.1, ?_⟩
  by_cases hN : Nb b
  ·rw [r2n b hN]; exact e
  ·rw [r2o b hN]
   rcases Nat.lt_or_ge b (H i).nx with q | q
   ·exact hb.2 q
   ·exact absurd ⟨hb.1, a4 b q hb.1⟩ hN
 have hold : ∀ b l, ρ b = some l → ¬ Nb b → (H (C b)).get b ≠ .dead → w'.heap[l.blk]? = w.heap[l.blk]? := by
  intro b l e hb hd
  refine g2.frame _ (BRel.lt (iv.blk b l e) hd) (fun b1 l1 e1 hl1 _ q => ?_)
  obtain ⟨k1, k2⟩ := Rho.below_some.1 e1
  obtain ⟨n1, n2⟩ := liveV b1 l1 k2 k1 hl1
  have := iv.inj b1 b l1 l k2 e n2 hd q
  subst this
  exact hb n1
 have apart : ∀ b b' l l', Nb b → ¬ Nb b' → ρ' b = some l → ρ b' = some l' → (H (i + 1)).get b ≠ .dead → (H (C b')).get b' ≠ .dead → l.blk ≠ l'.blk := by
  intro b b' l l' hb hb' e e' hl hl' q
  have hsz := BRel.lt (iv.blk b' l' e') hl'
  have hlv : live hv' b := by unfold live; rw [a3 b hb.1 hb.2]; exact hl
  rcases Nat.lt_or_ge b (H i).lo with hbl | hbl
  ·have hbn : b < (H i).nx := by omega
   have e2 := (hback b l e).2 hbn
   have hg2 := g2.low b l (Rho.below_some.2 ⟨hbn, e2⟩) (by rw [v2]; exact hbl)
   rw [← a3 b hb.1 hb.2, hg2, a1 b hbn hb.2, hnow b l e2 hbn] at hl
   have := iv.inj b b' l l' e2 e' hl hl' q
   subst this
   exact hb' hb
  ·rcases g2.wr b l e hlv (by rw [v2]; exact hbl) with r | ⟨b1, l1, f1, f2, f3, f4⟩
   ·omega
   ·obtain ⟨k1, k2⟩ := Rho.below_some.1 f1
    obtain ⟨n1, n2⟩ := liveV b1 l1 k2 k1 f2
    have := iv.inj b1 b' l1 l' k2 e' n2 hl' (f4.trans q)
    subst this
    exact hb' n1
 refine ⟨ρ2, C2, hρ, hρ', ?_⟩
 have lv' : ∀ b, Nb b → (H (i + 1)).get b ≠ .dead → live hv' b := fun b hb hl => by unfold live; rw [a3 b hb.1 hb.2]; exact hl
 refine ⟨fun b l e => ?_, fun b l e => ?_, fun b l e => ?_, fun b l e k hk hw => ?_, fun b l e => ?_, fun b b' l l' e e' hl hl' heq => ?_, g1.mem, fun b l e hl => ?_, fun b l e hl => ?_, g1.room, g1.glob, fun b l e => ?_, fun k b m j x off z hk hz ho hgz hp => ?_,
  iv.rho.trans hρ, iv.mle.trans hM, fun k cs e => ?_, g2.os.trans iv.os, g2.tape.trans iv.tape, g2.output.trans iv.output, Nat.le_trans iv.wsize g2.size, fun b l e hl hlo' => ?_, fun k hk hno => ?_, fun b l e hlo' => ?_, fun b l e e0 => ?_⟩
 ·by_cases hb : Nb b
  ·rw [c2n b hb]; exact hi
  ·rw [r2o b hb] at e; rw [c2o b hb]; exact iv.le b l e
 ·by_cases hb : Nb b
  ·rw [c2n b hb]; exact hb.1
  ·rw [r2o b hb] at e; rw [c2o b hb]; exact iv.lt b l e
 ·by_cases hb : Nb b
  ·rw [c2n b hb]; exact .inr ⟨i, rfl, .inr rfl, hwr b hb⟩
  ·rw [r2o b hb] at e; rw [c2o b hb]
   rcases iv.last b l e with h | ⟨k, h1, h2, h3⟩
   ·exact .inl h
   ·exact .inr ⟨k, h1, .inl h2, h3⟩
 ·by_cases hb : Nb b
  ·rw [c2n b hb]
   rcases hk with hk | hk
   ·rcases Nat.lt_trichotomy k i with q | q | q
    ·omega
    ·omega
    ·exfalso
     obtain ⟨z, hz, hz0⟩ := late k hk q
     have hlt := fx.run.nx (k := i + 1) (j := k) (by omega) (Nat.le_of_lt (nx.lt k hk))
     have hb1 := hb.1
     obtain ⟨z', hz', _, ⟨h1, h2, _⟩ | ⟨m, j, x, off, h1, _⟩ | ⟨h1, _⟩⟩ := hw <;> rw [hz] at hz' <;> cases hz'
     ·omega
     ·rw [h1] at hz0; rcases hz0 with hz0 | hz0 | hz0 <;> cases hz0
     ·omega
   ·omega
  ·rw [r2o b hb] at e
   rw [c2o b hb]
   rcases hk with hk | hk
   ·exact iv.all b l e k hk hw
   ·subst hk; exact absurd (hwr' b hw) hb
 ·by_cases hb : Nb b
  ·rw [c2n b hb, ← a3 b hb.1 hb.2]
   exact BRel.mono (Mle.refl _) hρ' (g1.blk b l (by rw [← r2n b hb]; exact e))
  ·rw [r2o b hb] at e
   rw [c2o b hb]
   by_cases hd : (H (C b)).get b = .dead
   ·rw [hd]; simp [BRel]
   ·rw [hold b l e hb hd]
    exact BRel.mono hM (below_mono hρ (Nat.le_refl _)) (iv.blk b l e)
 ·by_cases hb : Nb b <;> by_cases hb' : Nb b'
  ·rw [c2n b hb] at hl
   rw [c2n b' hb'] at hl'
   exact g1.inj b b' l l' (by rw [← r2n b hb]; exact e) (by rw [← r2n b' hb']; exact e') (lv' b hb hl) (lv' b' hb' hl') heq
  ·rw [c2n b hb] at hl
   rw [c2o b' hb'] at hl'
   exact absurd heq (apart b b' l l' hb hb' (by rw [← r2n b hb]; exact e) (by rw [← r2o b' hb']; exact e') hl hl')
  ·rw [c2o b hb] at hl
   rw [c2n b' hb'] at hl'
   exact absurd heq.symm (apart b' b l' l hb' hb (by rw [← r2n b' hb']; exact e') (by rw [← r2o b hb]; exact e) hl' hl)
  ·rw [c2o b hb] at hl
   rw [c2o b' hb'] at hl'
   exact iv.inj b b' l l' (by rw [← r2o b hb]; exact e) (by rw [← r2o b' hb']; exact e') hl hl' heq
 ·by_cases hb : Nb b
  ·rw [c2n b hb] at hl
   exact g1.sep b l (by rw [← r2n b hb]; exact e) (lv' b hb hl)
  ·rw [c2o b hb] at hl
   rw [r2o b hb] at e
   have hsz := BRel.lt (iv.blk b l e) hl
   cases hq : M' l.blk with
   | none => rfl
   | some cs =>
    rcases g2.mnew _ _ hq with q | q
    ·rw [iv.sep b l e hl] at q; cases q
    ·omega
 ·by_cases hb : Nb b
  ·rw [c2n b hb] at hl
   exact g1.base b l (by rw [← r2n b hb]; exact e) (lv' b hb hl)
  ·rw [c2o b hb] at hl
   rw [r2o b hb] at e
   exact iv.base b l e hl
 ·by_cases hb : Nb b
  ·rw [r2n b hb] at e
   rcases Nat.lt_or_ge b (H i).nx with q | q
   ·rcases iv.own b l ((hback b l e).2 q) with h | ⟨k, h1, h2⟩
    ·exact .inl h
    ·exact .inr ⟨k, .inl h1, h2⟩
   ·exact .inr ⟨i, .inr rfl, q, hb.1⟩
  ·rw [r2o b hb] at e
   rcases iv.own b l e with h | ⟨k, h1, h2⟩
   ·exact .inl h
   ·exact .inr ⟨k, .inl h1, h2⟩
 ·rcases hk with hk | hk
  ·obtain ⟨l, q⟩ := iv.w3 k b m j x off z hk hz ho hgz hp
   exact ⟨l, hρ b l q⟩
  ·subst hk
   rw [nx.at_] at hz
   cases hz
   rw [ho] at hk5
   cases hk5
 ·rcases g2.mnew _ _ e with q | q
  ·exact iv.mnew _ _ q
  ·exact .inr (Nat.le_trans iv.wsize q)
 ·by_cases hb : Nb b
  ·rw [c2n b hb] at hl
   rw [r2n b hb] at e
   rcases g2.wr b l e (lv' b hb hl) (by rw [v2, hlo]; exact hlo') with q | ⟨b1, l1, f1, f2, f3, f4⟩
   ·exact .inl (Nat.le_trans iv.wsize q)
   ·obtain ⟨k1, k2⟩ := Rho.below_some.1 f1
    rcases iv.wr b1 l1 k2 (liveV b1 l1 k2 k1 f2).2 (by rw [← hlo, ← v2]; exact f3) with r | ⟨b2, l2, r1, r2, r3, r4⟩
    ·exact .inl (by omega)
    ·exact .inr ⟨b2, l2, r1, r2, r3, r4.trans f4⟩
  ·rw [c2o b hb] at hl
   rw [r2o b hb] at e
   exact iv.wr b l e hl hlo'
 ·rw [g2.frame k (Nat.lt_of_lt_of_le hk iv.wsize) (fun b l e hl hlo' q => ?_)]
  ·exact iv.frame k hk hno
  ·obtain ⟨k1, k2⟩ := Rho.below_some.1 e
   rcases iv.wr b l k2 (liveV b l k2 k1 hl).2 (by rw [← hlo, ← v2]; exact hlo') with r | ⟨b1, l1, r1, r2, r3, r4⟩
   ·omega
   ·exact hno b1 l1 r1 r2 r3 (r4.trans q)
 ·have e1 := iv.rho b l e
  have hbi : b < (H i).nx := by omega
  by_cases hb : Nb b
  ·rw [c2n b hb, ← a3 b hb.1 hb.2, g2.low b l (Rho.below_some.2 ⟨hbi, e1⟩) (by rw [v2, hlo]; exact hlo'), a1 b hbi hb.2, hnow b l e1 hbi]
   exact iv.low b l e hlo'
  ·rw [c2o b hb]
   exact iv.low b l e hlo'
 ·by_cases hb : Nb b
  ·rw [r2n b hb] at e
   rcases Nat.lt_or_ge b (H i).nx with q | q
   ·exact iv.new b l ((hback b l e).2 q) e0
   ·omega
  ·rw [r2o b hb] at e
   exact iv.new b l e e0
theorem invH_effc (fx : Fix P gl B vp n ops ys chk S H M0 ρ0 w0) (nx : Next ops ys E i y) (iv : InvH P gl B ys S H M0 ρ0 w0 E M ρ C w) (hk5 : kindOf y.op = 5) (hg : gEval y.g (S i) = some true)
  {hv hv' : Heap} (v1 : hv.nx = (H i).nx) (v2 : (H i).lo ≤ hv.lo) (hLo : ∀ b, Wr ys S H i b → hv.lo ≤ b) (v3 : hv'.nx = (H (i + 1)).nx) (a1 : ∀ b, b < (H i).nx → Wr ys S H i b → hv.get b = (H i).get b) (a2 : ∀ b, b < (H i).nx → ¬ Wr ys S H i b → hv.get b = .dead ∨ b < hv.lo)
  (a3 : ∀ b, b < (H (i + 1)).nx → Wr ys S H i b → hv'.get b = (H (i + 1)).get b) (a4 : ∀ b, (H i).nx ≤ b → b < (H (i + 1)).nx → Wr ys S H i b)
  {M' : Mem} {ρ' : Rho} {w' : World} (g1 : HRel P gl B M' ρ' hv' w') (g2 : Evo M (ρ.below (H i).nx) hv w M' ρ' hv' w') :
  ∃ ρ2 C2, Rle ρ ρ2 ∧ Rle ρ' (ρ2.below (H (i + 1)).nx) ∧ InvH P gl B ys S H M0 ρ0 w0 (fun k => E k ∨ k = i) M' ρ2 C2 w' := by
 have hi := nx.ilt
 have h0 := fx.run.nx (k := 0) (j := i) (by omega) (by omega)
 have h1i := fx.run.nx (k := i) (j := i + 1) (by omega) (by omega)
 have late : ∀ k, E k → i < k → ∃ z, ys[k]? = some z ∧ (kindOf z.op = 0 ∨ kindOf z.op = 1 ∨ kindOf z.op = 2) := by
  intro k hk hik
  have hkl := nx.lt k hk
  have hz : ys[k]? = some ys[k] := by simp [hkl]
  refine ⟨_, hz, ?_⟩
  rcases (later fx nx hk hz hik).kind with hp | ⟨a', b', o1, _⟩
  ·rw [hk5] at hp
   have hq := kind_le ys[k].op
   generalize kindOf ys[k].op = q at hp hq ⊢
   rcases q with _ | _ | _ | _ | _ | _ | _ | q
   ·exact .inl rfl
   ·exact .inr (.inl rfl)
   ·cases hp
   ·cases hp
   ·cases hp
   ·cases hp
   ·cases hp
   ·omega
  ·rcases ldst_spec o1 with ⟨n1, m1, z1, p1, p2⟩ | ⟨n1, p1, p2⟩ | ⟨n1, p1, p2⟩
   ·simp only at p1; rw [p1] at hk5; cases hk5
   ·simp only at p1; rw [p1] at hk5; cases hk5
   ·simp only at p2; rw [p2]; exact .inr (.inr rfl)
 let Nb : Nat → Prop := fun b => b < (H (i + 1)).nx ∧ Wr ys S H i b
 have hgap : ∀ b l, ρ b = some l → b < (H (i + 1)).nx → b < (H i).nx := by
  intro b l e hb
  rcases Nat.lt_or_ge b (H i).nx with q | q
  ·exact q
  ·rw [fresh_none fx nx iv q hb] at e; cases e
 have hback : ∀ b l, ρ' b = some l → b < (H (i + 1)).nx ∧ (b < (H i).nx → ρ b = some l) := fun b l e => by
  have := view_back v1 g1 g2 e
  rw [v3] at this
  exact this
 have hlo := fx.run.lo (Nat.le_of_lt hi)
 have hlonx : (H i).lo ≤ (H i).nx := by
  have := fx.rel.lonx
  omega
 have hnow : ∀ b l, ρ b = some l → b < (H i).nx → (H i).get b = (H (C b)).get b := fun b l e hb => (blk_now fx nx iv (.inr (.inr (.inr (.inl hk5)))) e hb).2
 have hwr : ∀ b, Nb b → Wr ys S H i b := fun b hb => hb.2
 have hwr' : ∀ b, Wr ys S H i b → Nb b := by
  intro b hw
  refine ⟨?_, hw⟩
  rcases hw with ⟨z, hz, _, ⟨h1, _, h2⟩ | ⟨m, j, x, off, h1, _⟩ | ⟨_, h2, _⟩⟩
  ·exact h2
  ·rw [nx.at_] at hz; cases hz; rw [h1] at hk5; cases hk5
  ·exact h2
 have liveV : ∀ b l, ρ b = some l → b < (H i).nx → live hv b → hv.lo ≤ b → Nb b ∧ (H (C b)).get b ≠ .dead := by
  intro b l e hb hl hlob
  by_cases hw : Wr ys S H i b
  ·refine ⟨hwr' b hw, ?_⟩
   rw [← hnow b l e hb, ← a1 b hb hw]
   exact hl
  ·rcases a2 b hb hw with q | q
   ·exact absurd q hl
   ·omega
 have hM := g2.mem
 let ρ2 : Rho := fun b => @ite _ (Nb b) (Classical.propDecidable _) (ρ' b) (ρ b)
 let C2 : Nat → Nat := fun b => @ite _ (Nb b) (Classical.propDecidable _) (i + 1) (C b)
 have r2n : ∀ b, Nb b → ρ2 b = ρ' b := fun b hb => by simp only [ρ2]; rw [if_pos hb]
 have r2o : ∀ b, ¬ Nb b → ρ2 b = ρ b := fun b hb => by simp only [ρ2]; rw [if_neg hb]
 have c2n : ∀ b, Nb b → C2 b = i + 1 := fun b hb => by simp only [C2]; rw [if_pos hb]
 have c2o : ∀ b, ¬ Nb b → C2 b = C b := fun b hb => by simp only [C2]; rw [if_neg hb]
 have hρ : Rle ρ ρ2 := by
  intro b l e
  by_cases hb : Nb b
  ·rw [r2n b hb]; exact g2.rho b l (Rho.below_some.2 ⟨hgap b l e hb.1, e⟩)
  ·rw [r2o b hb]; exact e
 have hρ' : Rle ρ' (ρ2.below (H (i + 1)).nx) := by
  intro b l e
  have hb := hback b l e
  refine Rho.below_some.2 ⟨hb.1, ?_⟩
  by_cases hN : Nb b
  ·rw [r2n b hN]; exact e
  ·rw [r2o b hN]
   rcases Nat.lt_or_ge b (H i).nx with q | q
   ·exact hb.2 q
   ·exact absurd ⟨hb.1, a4 b q hb.1⟩ hN
 have hold : ∀ b l, ρ b = some l → ¬ Nb b → (H (C b)).get b ≠ .dead → w'.heap[l.blk]? = w.heap[l.blk]? := by
  intro b l e hb hd
  refine g2.frame _ (BRel.lt (iv.blk b l e) hd) (fun b1 l1 e1 hl1 hlo1 q => ?_)
  obtain ⟨k1, k2⟩ := Rho.below_some.1 e1
  obtain ⟨n1, n2⟩ := liveV b1 l1 k2 k1 hl1 hlo1
  have := iv.inj b1 b l1 l k2 e n2 hd q
  subst this
  exact hb n1
 have apart : ∀ b b' l l', Nb b → ¬ Nb b' → ρ' b = some l → ρ b' = some l' → (H (i + 1)).get b ≠ .dead → (H (C b')).get b' ≠ .dead → l.blk ≠ l'.blk := by
  intro b b' l l' hb hb' e e' hl hl' q
  have hsz := BRel.lt (iv.blk b' l' e') hl'
  have hlv : live hv' b := by unfold live; rw [a3 b hb.1 hb.2]; exact hl
  rcases g2.wr b l e hlv (hLo b hb.2) with r | ⟨b1, l1, f1, f2, f3, f4⟩
  ·omega
  ·obtain ⟨k1, k2⟩ := Rho.below_some.1 f1
   obtain ⟨n1, n2⟩ := liveV b1 l1 k2 k1 f2 f3
   have := iv.inj b1 b' l1 l' k2 e' n2 hl' (f4.trans q)
   subst this
   exact hb' n1
 refine ⟨ρ2, C2, hρ, hρ', ?_⟩
 have lv' : ∀ b, Nb b → (H (i + 1)).get b ≠ .dead → live hv' b := fun b hb hl => by unfold live; rw [a3 b hb.1 hb.2]; exact hl
 refine ⟨fun b l e => ?_, fun b l e => ?_, fun b l e => ?_, fun b l e k hk hw => ?_, fun b l e => ?_, fun b b' l l' e e' hl hl' heq => ?_, g1.mem, fun b l e hl => ?_, fun b l e hl => ?_, g1.room, g1.glob, fun b l e => ?_, fun k b m j x off z hk hz ho hgz hp => ?_,
  iv.rho.trans hρ, iv.mle.trans hM, fun k cs e => ?_, g2.os.trans iv.os, g2.tape.trans iv.tape, g2.output.trans iv.output, Nat.le_trans iv.wsize g2.size, fun b l e hl hlo' => ?_, fun k hk hno => ?_, fun b l e hlo' => ?_, fun b l e e0 => ?_⟩
 ·by_cases hb : Nb b
  ·rw [c2n b hb]; exact hi
  ·rw [r2o b hb] at e; rw [c2o b hb]; exact iv.le b l e
 ·by_cases hb : Nb b
  ·rw [c2n b hb]; exact hb.1
  ·rw [r2o b hb] at e; rw [c2o b hb]; exact iv.lt b l e
 ·by_cases hb : Nb b
  ·rw [c2n b hb]; exact .inr ⟨i, rfl, .inr rfl, hwr b hb⟩
  ·rw [r2o b hb] at e; rw [c2o b hb]
   rcases iv.last b l e with h | ⟨k, h1, h2, h3⟩
   ·exact .inl h
   ·exact .inr ⟨k, h1, .inl h2, h3⟩
 ·by_cases hb : Nb b
  ·rw [c2n b hb]
   rcases hk with hk | hk
   ·rcases Nat.lt_trichotomy k i with q | q | q
    ·omega
    ·omega
    ·exfalso
     obtain ⟨z, hz, hz0⟩ := late k hk q
     have hlt := fx.run.nx (k := i + 1) (j := k) (by omega) (Nat.le_of_lt (nx.lt k hk))
     have hb1 := hb.1
     obtain ⟨z', hz', _, ⟨h1, h2, _⟩ | ⟨m, j, x, off, h1, _⟩ | ⟨h1, _⟩⟩ := hw <;> rw [hz] at hz' <;> cases hz'
     ·omega
     ·rw [h1] at hz0; rcases hz0 with hz0 | hz0 | hz0 <;> cases hz0
     ·omega
   ·omega
  ·rw [r2o b hb] at e
   rw [c2o b hb]
   rcases hk with hk | hk
   ·exact iv.all b l e k hk hw
   ·subst hk; exact absurd (hwr' b hw) hb
 ·by_cases hb : Nb b
  ·rw [c2n b hb, ← a3 b hb.1 hb.2]
   exact BRel.mono (Mle.refl _) hρ' (g1.blk b l (by rw [← r2n b hb]; exact e))
  ·rw [r2o b hb] at e
   rw [c2o b hb]
   by_cases hd : (H (C b)).get b = .dead
   ·rw [hd]; simp [BRel]
   ·rw [hold b l e hb hd]
    exact BRel.mono hM (below_mono hρ (Nat.le_refl _)) (iv.blk b l e)
 ·by_cases hb : Nb b <;> by_cases hb' : Nb b'
  ·rw [c2n b hb] at hl
   rw [c2n b' hb'] at hl'
   exact g1.inj b b' l l' (by rw [← r2n b hb]; exact e) (by rw [← r2n b' hb']; exact e') (lv' b hb hl) (lv' b' hb' hl') heq
  ·rw [c2n b hb] at hl
   rw [c2o b' hb'] at hl'
   exact absurd heq (apart b b' l l' hb hb' (by rw [← r2n b hb]; exact e) (by rw [← r2o b' hb']; exact e') hl hl')
  ·rw [c2o b hb] at hl
   rw [c2n b' hb'] at hl'
   exact absurd heq.symm (apart b' b l' l hb' hb (by rw [← r2n b' hb']; exact e') (by rw [← r2o b hb]; exact e) hl' hl)
  ·rw [c2o b hb] at hl
   rw [c2o b' hb'] at hl'
   exact iv.inj b b' l l' (by rw [← r2o b hb]; exact e) (by rw [← r2o b' hb']; exact e') hl hl' heq
 ·by_cases hb : Nb b
  ·rw [c2n b hb] at hl
   exact g1.sep b l (by rw [← r2n b hb]; exact e) (lv' b hb hl)
  ·rw [c2o b hb] at hl
   rw [r2o b hb] at e
   have hsz := BRel.lt (iv.blk b l e) hl
   cases hq : M' l.blk with
   | none => rfl
   | some cs =>
    rcases g2.mnew _ _ hq with q | q
    ·rw [iv.sep b l e hl] at q; cases q
    ·omega
 ·by_cases hb : Nb b
  ·rw [c2n b hb] at hl
   exact g1.base b l (by rw [← r2n b hb]; exact e) (lv' b hb hl)
  ·rw [c2o b hb] at hl
   rw [r2o b hb] at e
   exact iv.base b l e hl
 ·by_cases hb : Nb b
  ·rw [r2n b hb] at e
   rcases Nat.lt_or_ge b (H i).nx with q | q
   ·rcases iv.own b l ((hback b l e).2 q) with h | ⟨k, h1, h2⟩
    ·exact .inl h
    ·exact .inr ⟨k, .inl h1, h2⟩
   ·exact .inr ⟨i, .inr rfl, q, hb.1⟩
  ·rw [r2o b hb] at e
   rcases iv.own b l e with h | ⟨k, h1, h2⟩
   ·exact .inl h
   ·exact .inr ⟨k, .inl h1, h2⟩
 ·rcases hk with hk | hk
  ·obtain ⟨l, q⟩ := iv.w3 k b m j x off z hk hz ho hgz hp
   exact ⟨l, hρ b l q⟩
  ·subst hk
   rw [nx.at_] at hz
   cases hz
   rw [ho] at hk5
   cases hk5
 ·rcases g2.mnew _ _ e with q | q
  ·exact iv.mnew _ _ q
  ·exact .inr (Nat.le_trans iv.wsize q)
 ·by_cases hb : Nb b
  ·rw [c2n b hb] at hl
   rw [r2n b hb] at e
   rcases g2.wr b l e (lv' b hb hl) (hLo b hb.2) with q | ⟨b1, l1, f1, f2, f3, f4⟩
   ·exact .inl (Nat.le_trans iv.wsize q)
   ·obtain ⟨k1, k2⟩ := Rho.below_some.1 f1
    rcases iv.wr b1 l1 k2 (liveV b1 l1 k2 k1 f2 f3).2 (by omega) with r | ⟨b2, l2, r1, r2, r3, r4⟩
    ·exact .inl (by omega)
    ·exact .inr ⟨b2, l2, r1, r2, r3, r4.trans f4⟩
  ·rw [c2o b hb] at hl
   rw [r2o b hb] at e
   exact iv.wr b l e hl hlo'
 ·rw [g2.frame k (Nat.lt_of_lt_of_le hk iv.wsize) (fun b l e hl hlo' q => ?_)]
  ·exact iv.frame k hk hno
  ·obtain ⟨k1, k2⟩ := Rho.below_some.1 e
   rcases iv.wr b l k2 (liveV b l k2 k1 hl hlo').2 (by omega) with r | ⟨b1, l1, r1, r2, r3, r4⟩
   ·omega
   ·exact hno b1 l1 r1 r2 r3 (r4.trans q)
 ·have e1 := iv.rho b l e
  have hbi : b < (H i).nx := by omega
  by_cases hb : Nb b
  ·have := hLo b hb.2
   omega
  ·rw [c2o b hb]
   exact iv.low b l e hlo'
 ·by_cases hb : Nb b
  ·rw [r2n b hb] at e
   rcases Nat.lt_or_ge b (H i).nx with q | q
   ·exact iv.new b l ((hback b l e).2 q) e0
   ·omega
  ·rw [r2o b hb] at e
   exact iv.new b l e e0
end
end Go.VE
end
section
namespace Go.VE
section
variable {P : Program} {gl : Nat → Option (List V)} {pu : Nat → Nat} {N B : Nat} {vp : Nat → Option VFn} {n : Nat} {ops : Array Oper} {ys : List VOper} {chk : List (Nat × Nat)} {S : Nat → Slots} {H : Nat → Heap} {M0 : Mem} {ρ0 : Rho} {w0 : World}
 {E : Nat → Prop} {M : Mem} {ρ : Rho} {C D : Nat → Nat} {a : Act} {w : World} {i : Nat} {y : VOper}
theorem wr_kind (nx : Next ops ys E i y) {b : Nat} (hw : Wr ys S H i b) : (kindOf y.op = 1 ∨ kindOf y.op = 6) ∨ (kindOf y.op = 3 ∧ ∃ m j x, y.op = .st m (.t j) x ∧ m ≠ 0) ∨ kindOf y.op = 5 := by
 obtain ⟨z, hz, _, ⟨h1, _⟩ | ⟨m, j, x, off, h1, _, h2⟩ | ⟨h1, _, _⟩⟩ := hw <;> rw [nx.at_] at hz <;> cases hz
 ·exact .inl h1
 ·exact .inr (.inl ⟨by rw [h1]; rfl, m, j, x, h1, h2⟩)
 ·exact .inr (.inr h1)
theorem one_op {pu0 : Nat → Nat} (ht : TabOK P gl pu0 vp) (ih : ∀ m, m < n → AllOK P gl B vp m) (fx : Fix P gl B vp n ops ys chk S H M0 ρ0 w0) (nx : Next ops ys E i y) (is : InvS ys S H N E M ρ D a.tmps) (iv : InvH P gl B ys S H M0 ρ0 w0 E M ρ C w)
  {r : Option Nat} {o : Oper} (ho : ops[i]? = some o) (hoa : OpAs P gl pu N ops o y) {Q : Exit → Act → World → Prop} {K : Act → World → Prop}
  (hK : ∀ (a' : Act) (w' : World) (M' : Mem) (ρ' : Rho) (C' D' : Nat → Nat), a'.defers = a.defers → InvS ys S H N (fun k => E k ∨ k = i) M' ρ' D' a'.tmps → InvH P gl B ys S H M0 ρ0 w0 (fun k => E k ∨ k = i) M' ρ' C' w' → K a' w') :
  wpOpIn (Fw r) 0 P ops Q i K a w := by
 have hi := nx.ilt
 have hwf := fx.run.wfs (Nat.le_of_lt hi)
 have hdst : ∀ d, y.dst = some d → d < N := fun d hd => hoa.dlt d (by rw [← hoa.dst]; exact hd)
 have hlonx : (H i).lo ≤ (H i).nx := by
  have h1 := fx.run.lo (Nat.le_of_lt hi)
  have h2 := fx.run.nx (k := 0) (j := i) (by omega) (Nat.le_of_lt hi)
  have := fx.rel.lonx
  omega
 unfold wpOpIn
 simp only [ho]
 have hgr : ∀ t, gEval y.g (S i) = some t → Region.wanted o (yielded ops a.tmps) = t := by
  intro t ht
  refine guard_rel (M := M) (ρ := ρ) hoa is.size (fun d wt hy => ?_) ht
  have hr : d ∈ y.reads := by simp [VOper.reads, hy]
  obtain ⟨k1, k2⟩ := slot_now fx nx is hr
  rw [k2]
  exact VRel.mono (Mle.refl _) (below_le _ _) _ (is.slot d)
 rcases fx.run.step i y nx.at_ with ⟨hg, m, v, hm, hst, hS⟩ | ⟨hg, hH, hS⟩
 ·rw [hgr true hg]
  simp only [if_true]
  obtain ⟨s2, hs2, hsr⟩ := view_slots fx nx is
  cases m with
  | zero => simp [stepOp] at hst
  | succ m =>
   have walk : ∀ (hv hv' : Heap), hv.nx = (H i).nx → hv.lo ≤ hv.nx → (∀ b, hv.get b = .dead ∨ (View y.op (S i) b ∧ hv.get b = (H i).get b)) → stepOp vp (m + 1) y.op (S i) hv = some (v, hv') →
     (∀ x w' M' ρ', HRel P gl B M' ρ' hv' w' → Evo M (ρ.below (H i).nx) hv w M' ρ' hv' w' → VRel M' ρ' v x → K (a.put o.dst x) w') → o.wpIn (Fw r) 0 P a w K Q := by
    intro hv hv' e1 e2 e3 e4 hk
    have hrel := view_rel fx nx iv e1 e2 e3
    refine step_sound ht (ih m (by omega)) (ih (m - 1) (by omega)) hrel hsr hoa.op (by rw [stepOp_congr hs2]; exact e4) ?_
    rintro x w' ⟨M', ρ', g1, g2, g3⟩
    exact hk x w' M' ρ' g1 g2 g3
   have quiet : ∀ (hv : Heap), hv.nx = (H i).nx → hv.lo = (H i).nx → (∀ b, hv.get b = .dead ∨ (View y.op (S i) b ∧ hv.get b = (H i).get b)) → stepOp vp (m + 1) y.op (S i) hv = some (v, hv) → H (i + 1) = H i → (∀ b, ¬ Wr ys S H i b) → o.wpIn (Fw r) 0 P a w K Q := by
    intro hv e1 e2 e3 e4 e5 e6
    refine walk hv hv e1 (by omega) e3 e4 ?_
    intro x w' M' ρ' g1 g2 g3
    have hback : Rle ρ' (ρ.below (H (i + 1)).nx) := by
     intro b l e
     obtain ⟨h1, h2⟩ := view_back e1 g1 g2 e
     rw [e5]
     exact Rho.below_some.2 ⟨by omega, h2 (by omega)⟩
    have hold : ∀ k, k < w.heap.size → w'.heap[k]? = w.heap[k]? := by
     intro k hk
     refine g2.frame k hk (fun b l e _ hb => ?_)
     have := (Rho.below_some.1 e).1
     omega
    rw [← hoa.dst]
    refine hK _ w' M' ρ _ _ (put_defers _ _ _) (invS_next fx nx is g2.mem (Rle.refl _) hS (VRel.mono (Mle.refl _) hback _ g3) hdst)
     (invH_quiet iv e6 g2.mem g1.mem g2.mnew g2.os g2.tape g2.output g2.size hold ?_)
    intro b m' j x' off z hz hop hgz hp
    rw [nx.at_] at hz
    cases hz
    have hr : j ∈ rdOp y.op := by rw [hop]; simp [rdOp, opdR]
    have := hsr.rel j
    rw [hs2 j hr, hp] at this
    simp only [VRel] at this
    obtain ⟨l, q, _⟩ := this
    exact ⟨l, (Rho.below_some.1 q).2⟩
   have h5 := kind_le y.op
   by_cases hq : kindOf y.op = 0 ∨ kindOf y.op = 2 ∨ kindOf y.op = 4
   ·obtain ⟨e1, hv, e2, e3, e4, e5⟩ := quiet_view hwf hq hst
    refine quiet hv e2 e3 e4 e5 e1 (fun b hw => ?_)
    rcases wr_kind nx hw with r | ⟨r, _⟩ | r <;> omega
   by_cases h1 : kindOf y.op = 1
   ·obtain ⟨X, e1, e2⟩ := new_view h1 hst
    refine walk (bare (H i).nx) _ rfl (Nat.le_refl _) (fun b => .inl (bare_get _ _)) e2 ?_
    intro x w' M' ρ' g1 g2 g3
    have hnx1 : (H (i + 1)).nx = (H i).nx + 1 := by rw [e1]; rfl
    obtain ⟨ρ2, C2, k1, k2, k3⟩ := invH_new fx nx iv (.inl h1) hg (hv := bare (H i).nx) (hv' := (bare (H i).nx).new X) rfl rfl (by rw [hnx1]; rfl) (fun b hb => by
     rw [e1, Heap.get_new, Heap.get_new]
     show (if b = (H i).nx then X else _) = _
     split
     ·rfl
     ·rw [bare_get, hwf b hb]) g1 g2
    rw [← hoa.dst]
    exact hK _ w' M' ρ2 _ _ (put_defers _ _ _) (invS_next fx nx is g2.mem k1 hS (VRel.mono (Mle.refl _) k2 _ g3) hdst) k3
   by_cases h6 : kindOf y.op = 6
   ·obtain ⟨_, e2⟩ := own_view h6 hst
    refine walk { H i with lo := (H i).nx } { H (i + 1) with lo := (H i).nx } rfl (Nat.le_refl _) (fun b => .inr ⟨.inr (.inr (.inr (.inr h6))), rfl⟩) e2 ?_
    intro x w' M' ρ' g1 g2 g3
    obtain ⟨ρ2, C2, k1, k2, k3⟩ := invH_new fx nx iv (.inr h6) hg (hv := { H i with lo := (H i).nx }) (hv' := { H (i + 1) with lo := (H i).nx }) rfl rfl rfl (fun b hb => rfl) g1 g2
    rw [← hoa.dst]
    exact hK _ w' M' ρ2 _ _ (put_defers _ _ _) (invS_next fx nx is g2.mem k1 hS (VRel.mono (Mle.refl _) k2 _ g3) hdst) k3
   by_cases h3 : kindOf y.op = 3
   ·obtain ⟨m', j, x0, hop⟩ := kind3_is h3
    have hst' := hst
    rw [hop] at hst'
    obtain ⟨b0, off, e1, ⟨e0, e2, e3⟩ | ⟨e0, e2, ⟨c, oo, e3⟩, Y, e4, e5, e6⟩⟩ := store_view hst'
    ·refine quiet (bare (H i).nx) rfl rfl (fun b => .inl (bare_get _ _)) (by rw [hop]; exact e3) e2 (fun b hw => ?_)
     rcases wr_kind nx hw with r | ⟨_, m2, j2, x2, r1, r2⟩ | r
     ·omega
     ·rw [hop] at r1; cases r1; exact r2 e0
     ·omega
    ·have hr : j ∈ rdOp y.op := by rw [hop]; simp [rdOp, opdR]
     have hrel := hsr.rel j
     rw [hs2 j hr, e1] at hrel
     simp only [VRel] at hrel
     obtain ⟨l0, q0, _⟩ := hrel
     have q0 := (Rho.below_some.1 q0).2
     have hone : ∀ b, (oneBlk (H i).nx (H i).lo b0 ((H i).get b0)).get b = .dead ∨ (View y.op (S i) b ∧ (oneBlk (H i).nx (H i).lo b0 ((H i).get b0)).get b = (H i).get b) := by
      intro b
      rw [oneBlk_get]
      split
      ·rename_i hb
       subst hb
       exact .inr ⟨.inr (.inl ⟨m', j, x0, off, hop, e1⟩), rfl⟩
      ·exact .inl rfl
     refine walk (oneBlk (H i).nx (H i).lo b0 ((H i).get b0)) _ rfl hlonx hone (by rw [hop]; exact e6 _ (by rw [oneBlk_get, if_pos rfl]) rfl) ?_
     intro x w' M' ρ' g1 g2 g3
     obtain ⟨C2, k1, k2⟩ := invH_store fx nx iv hop hg e1 e2 e3 e5 e4 e0 q0 g1 g2
     rw [← hoa.dst]
     exact hK _ w' M' ρ _ _ (put_defers _ _ _) (invS_next fx nx is g2.mem (Rle.refl _) hS (VRel.mono (Mle.refl _) k1 _ g3) hdst) k2
   ·have hk5 : kindOf y.op = 5 := by omega
    by_cases happ : ∃ sz bytes t x, y.op = .app sz bytes (.t t) x
    ·obtain ⟨sz, bytes, t, x0, hop⟩ := happ
     have hst' := hst
     rw [hop] at hst'
     obtain ⟨n', cs', F, f1, f2, f3, f4, f5⟩ := app_step (stepOp_opE hst' rfl).1
     have hev : (Opd.t t).ev (S i) = (S i).at t := rfl
     rw [hev] at f4 f5
     obtain ⟨hv, u1, u2, u3, u4⟩ : ∃ hv : Heap, hv.nx = (H i).nx ∧ hv.lo = (H i).lo ∧ (∀ b, BlkOf ((S i).at t) b → hv.get b = (H i).get b) ∧ (∀ b, ¬ BlkOf ((S i).at t) b → hv.get b = .dead) := by
      cases hq : (S i).at t with
      | sl b off len cap sz' =>
       refine ⟨oneBlk (H i).nx (H i).lo b ((H i).get b), rfl, rfl, ?_, ?_⟩
       ·rintro c (⟨_, _, _, _, q⟩ | ⟨_, q⟩)
        ·cases q
         rw [oneBlk_get, if_pos rfl]
        ·cases q
       ·intro c hc
        rw [oneBlk_get, if_neg (fun q => hc (.inl ⟨off, len, cap, sz', by rw [q]⟩))]
      | ptr b off =>
       refine ⟨oneBlk (H i).nx (H i).lo b ((H i).get b), rfl, rfl, ?_, ?_⟩
       ·rintro c (⟨_, _, _, _, q⟩ | ⟨_, q⟩)
        ·cases q
        ·cases q
         rw [oneBlk_get, if_pos rfl]
       ·intro c hc
        rw [oneBlk_get, if_neg (fun q => hc (.inr ⟨off, by rw [q]⟩))]
      | _ =>
       refine ⟨{ bare (H i).nx with lo := (H i).lo }, rfl, rfl, ?_, fun c _ => bare_get (H i).nx c⟩
       rintro c (⟨_, _, _, _, q⟩ | ⟨_, q⟩) <;> cases q
     have hsome := f5 hv u1 u2 (fun b off len cap sz' q => u3 b (.inl ⟨off, len, cap, sz', q⟩))
     have hnar : Nar y.op t := .inl ⟨_, _, _, hop⟩
     have hwi : ∀ b, b < (H (i + 1)).nx → ((H i).nx ≤ b ∨ BlkOf ((S i).at t) b) → Wr ys S H i b := fun b hb hq =>
      ⟨y, nx.at_, hg, .inr (.inr ⟨hk5, hb, fun t2 e2 => by rw [e2.one hnar]; exact hq⟩)⟩
     have hiw : ∀ b, Wr ys S H i b → (H i).nx ≤ b ∨ BlkOf ((S i).at t) b := by
      rintro b ⟨z, hz, _, ⟨h1', _⟩ | ⟨m', j, x, off, h1', _⟩ | ⟨_, _, h1'⟩⟩
      ·rw [nx.at_] at hz; cases hz; omega
      ·rw [nx.at_] at hz; cases hz; rw [h1'] at hop; cases hop
      ·rw [nx.at_] at hz
       cases hz
       exact h1' _ hnar
     have hnx1 := (fx.run.heap hi).nx
     have hview : ∀ b, hv.get b = .dead ∨ (View y.op (S i) b ∧ hv.get b = (H i).get b) := by
      intro b
      by_cases hb : BlkOf ((S i).at t) b
      ·exact .inr ⟨.inr (.inr (.inr (.inl hk5))), u3 b hb⟩
      ·exact .inl (u4 b hb)
     have hrel := view_rel fx nx iv u1 (by rw [u1, u2]; exact hlonx) hview
     have hrelx := view_rel fx nx iv (hv := H i) rfl hlonx (fun b => .inr ⟨.inr (.inr (.inr (.inl hk5))), rfl⟩)
     have hc : compOp P gl pu o = some (.app sz bytes (.t t) x0) := by
      have := hoa.op
      rw [hop] at this
      exact (okd_some this (by intro q; cases q)).1
     have ex0 : x0.ev s2 = x0.ev (S i) := opd_congr (fun q hq => hs2 q (by rw [hop]; simp only [rdOp, List.mem_append]; exact .inr hq))
     have ea0 : (Opd.t t).ev s2 = (S i).at t := hs2 t (by rw [hop]; simp [rdOp, opdR])
     obtain ⟨ρ', w', x, g1, g2, g3, g4⟩ := app_sim2 hrelx hrel hsr hc (by rw [ex0]; exact f1) (by rw [ex0]; exact f2) (by rw [ea0]; exact hsome)
     obtain ⟨ρ2, C2, k1, k2, k3⟩ := invH_eff fx nx iv hk5 hg (hv := hv) (hv' := F.app hv) u1 u2 (by rw [F.nx, u1, f3, F.nx]) (fun b hb hw => by
       rcases hiw b hw with q | q
       ·omega
       ·exact u3 b q) (fun b hb hw => u4 b (fun q => hw (hwi b (by omega) (.inr q)))) (fun b hb hw => by
       rw [f3]
       by_cases hold : (H i).nx ≤ b ∨ F.old b
       ·refine F.inn _ _ u1 (fun c hc => ?_) b hold
        rw [hwf c hc]
        by_cases q : BlkOf ((S i).at t) c
        ·rw [u3 c q, hwf c hc]
        ·exact u4 c q
       ·have hbn : b < (H i).nx := by
         rcases Nat.lt_or_ge b (H i).nx with q | q
         ·exact q
         ·exact absurd (.inl q) hold
        rw [F.out _ _ (by rw [u1]; exact hbn) (fun q => hold (.inr q)), F.out _ _ hbn (fun q => hold (.inr q))]
        rcases hiw b hw with q | q
        ·omega
        ·exact u3 b q) (fun b h1' h2' => hwi b h2' (.inl h1')) g1 g2
     have hp : K (a.put o.dst x) w' := by
      rw [← hoa.dst]
      exact hK _ w' M ρ2 _ _ (put_defers _ _ _) (invS_next fx nx is g2.mem k1 hS (VRel.mono (Mle.refl _) k2 _ g3) hdst) k3
     refine ⟨fun _ _ => trivial, ?_⟩
     rw [show o.semAt (Fw r).round a.eval = execOp a.eval o from Oper.semAt_eq _ _ _ (not_defer hoa.op (by rw [hop]; intro q; cases q))]
     rcases g4 with g4 | ⟨g4, rfl⟩
     ·rw [g4]; exact hp
     ·rw [g4]; exact hp
    by_cases hcc : ∃ f as t, y.op = .callc f as t
    ·obtain ⟨f, as, t, hop⟩ := hcc
     have hnar : Nar y.op t := .inr ⟨_, _, hop⟩
     have hst' := hst
     rw [hop] at hst'
     simp only [stepOp] at hst'
     split at hst'
     case h_2 => cases hst'
     rename_i b0 off0 hb0
     simp only [Bool.cond_eq_ite] at hst'
     split at hst'
     case isFalse => cases hst'
     rename_i hq
     simp only [ble_dec, blt_dec, Bool.and_eq_true, decide_eq_true_eq] at hq
     obtain ⟨hq1, hq2⟩ := hq
     split at hst'
     case h_2 => cases hst'
     rename_i v1 h1' hr
     have e1 : v1 = v := (Prod.mk.inj (Option.some.inj hst')).1
     have e2 : H (i + 1) = backH (H i) h1' b0 := (Prod.mk.inj (Option.some.inj hst')).2.symm
     have hstep := (run_step vp m).2.2.2.2 _ _ _ _ _ hr
     have hnx2 : (H (i + 1)).nx = h1'.nx := by rw [e2, backH_nx]
     have hnn := hstep.nx
     rw [cutH_nx] at hnn
     have hcut : stepOp vp (m + 1) y.op (S i) (cutH (H i) b0) = some (v, backH (cutH (H i) b0) h1' b0) := by
      rw [hop]
      simp only [stepOp, hb0, Bool.cond_eq_ite]
      rw [if_pos (by simp only [ble_dec, blt_dec, Bool.and_eq_true, decide_eq_true_eq]; exact ⟨Nat.le_refl _, by rw [cutH_nx]; exact hq2⟩)]
      have : cutH (cutH (H i) b0) b0 = cutH (H i) b0 := cutH_cut _ _
      rw [this, hr, e1]
     have hwi : ∀ b, b < (H (i + 1)).nx → ((H i).nx ≤ b ∨ b = b0) → Wr ys S H i b := fun b hb hq =>
      ⟨y, nx.at_, hg, .inr (.inr ⟨hk5, hb, fun t2 e2 => by rw [e2.one hnar]; exact hq.imp id (fun q => .inr ⟨off0, by rw [q]; exact hb0⟩)⟩)⟩
     have hiw : ∀ b, Wr ys S H i b → (H i).nx ≤ b ∨ b = b0 := by
      rintro b ⟨z, hz, _, ⟨h1', _⟩ | ⟨m', j, x, off, h1', _⟩ | ⟨_, _, h1'⟩⟩
      ·rw [nx.at_] at hz; cases hz; omega
      ·rw [nx.at_] at hz; cases hz; rw [h1'] at hop; cases hop
      ·rw [nx.at_] at hz
       cases hz
       rcases h1' _ hnar with q | ⟨o', l', c', s', q⟩ | ⟨off, q⟩
       ·exact .inl q
       ·rw [hb0] at q; cases q
       ·rw [hb0] at q; cases q; exact .inr rfl
     refine walk (cutH (H i) b0) _ (cutH_nx _ _) (by rw [cutH_nx, cutH_lo]; omega) (fun b => ?_) hcut ?_
     ·rw [cutH_get]
      split
      ·exact .inl rfl
      ·exact .inr ⟨.inr (.inr (.inr (.inl hk5))), rfl⟩
     intro x w' M' ρ' g1 g2 g3
     obtain ⟨ρ2, C2, k1, k2, k3⟩ := invH_effc fx nx iv hk5 hg (hv := cutH (H i) b0) (hv' := backH (cutH (H i) b0) h1' b0) (cutH_nx _ _) (by rw [cutH_lo]; exact hq1)
      (fun b hw => by
       rw [cutH_lo]
       rcases hiw b hw with q | q <;> omega)
      (by rw [backH_nx, hnx2])
      (fun b hb hw => by
       rcases hiw b hw with q | q
       ·omega
       ·rw [cutH_get, if_neg (by omega)])
      (fun b hb hw => by
       rw [cutH_get, cutH_lo]
       by_cases q : b0 < b ∧ b < (H i).nx
       ·rw [if_pos q]; exact .inl rfl
       ·rcases Nat.lt_trichotomy b b0 with r | r | r
        ·exact .inr r
        ·exact absurd (hwi b (by omega) (.inr r)) hw
        ·omega)
      (fun b hb hw => by
       rw [e2, backH_get, backH_get, cutH_nx]
       rcases hiw b hw with q | q
       ·rw [if_neg (by omega), if_neg (by omega)]
       ·rw [if_neg (by omega), if_neg (by omega)])
      (fun b h1' h2' => hwi b h2' (.inl h1')) g1 g2
     rw [← hoa.dst]
     exact hK _ w' M' ρ2 _ _ (put_defers _ _ _) (invS_next fx nx is g2.mem k1 hS (VRel.mono (Mle.refl _) k2 _ g3) hdst) k3
    ·refine walk (H i) _ rfl hlonx (fun b => .inr ⟨.inr (.inr (.inr (.inl hk5))), rfl⟩) hst ?_
     intro x w' M' ρ' g1 g2 g3
     have hwi : ∀ b, b < (H (i + 1)).nx → Wr ys S H i b := fun b hb => ⟨y, nx.at_, hg, .inr (.inr ⟨hk5, hb, fun t2 e2 => by
      rcases e2 with ⟨_, _, _, e2⟩ | ⟨_, _, e2⟩
      ·exact absurd ⟨_, _, _, _, e2⟩ happ
      ·exact absurd ⟨_, _, _, e2⟩ hcc⟩)⟩
     have hnx1 := (fx.run.heap hi).nx
     obtain ⟨ρ2, C2, k1, k2, k3⟩ := invH_eff fx nx iv hk5 hg (hv := H i) (hv' := H (i + 1)) rfl rfl rfl (fun b _ _ => rfl) (fun b hb hw => absurd (hwi b (by omega)) hw) (fun b _ _ => rfl) (fun b _ hb => hwi b hb) g1 g2
     rw [← hoa.dst]
     exact hK _ w' M' ρ2 _ _ (put_defers _ _ _) (invS_next fx nx is g2.mem k1 hS (VRel.mono (Mle.refl _) k2 _ g3) hdst) k3
 ·rw [hgr false hg]
  simp only [Bool.false_eq_true, if_false]
  rw [← hoa.dst]
  refine ⟨fun _ _ => trivial, ?_⟩
  refine hK _ w M ρ _ _ (put_defers _ _ _) (invS_next fx nx is (Mle.refl _) (Rle.refl _) hS undef_rel hdst)
   (invH_quiet iv ?_ (Mle.refl _) iv.mem (fun _ _ q => .inl q) rfl rfl rfl (Nat.le_refl _) (fun _ _ => rfl) ?_)
  ·rintro b ⟨z, hz, hgz, _⟩
   rw [nx.at_] at hz
   cases hz
   rw [hg] at hgz
   cases hgz
  ·intro b m' j x' off z hz hop hgz hp
   rw [nx.at_] at hz
   cases hz
   rw [hg] at hgz
   cases hgz
end
end Go.VE
end
section
namespace Go.VE
section
variable {P : Program} {gl : Nat → Option (List V)} {pu : Nat → Nat} {N B : Nat} {vp : Nat → Option VFn} {n : Nat} {ops : Array Oper} {ys : List VOper} {chk : List (Nat × Nat)} {S : Nat → Slots} {H : Nat → Heap} {M0 : Mem} {ρ0 : Rho} {w0 : World}
 {E : Nat → Prop} {M : Mem} {ρ : Rho} {C D : Nat → Nat} {a : Act} {w : World} {i : Nat} {y : VOper}
def done (listed : Array Bool) (k : Nat) : Prop := listed.getD k false = true
def undone (ops : Array Oper) (listed : Array Bool) : Nat := ((List.range ops.size).filter fun k => !listed.getD k false).length
theorem done_set {listed : Array Bool} {i : Nat} (hi : i < listed.size) : done (listed.setIfInBounds i true) = fun k => done listed k ∨ k = i := by
 funext k
 apply propext
 unfold done
 by_cases h : k = i
 ·subst h; simp [hi]
 ·rw [getD_set_ne false (Ne.symm h)]
  simp [h]
theorem filter_drop {p q : Nat → Bool} {i : Nat} : ∀ {l : List Nat}, l.Nodup → i ∈ l → p i = true → q i = false → (∀ k, k ≠ i → q k = p k) → (l.filter q).length + 1 = (l.filter p).length
 | [], _, h, _, _, _ => by simp at h
 | x :: r, hn, h, hp, hq, hpq => by
  have hn' := (List.nodup_cons.1 hn)
  by_cases hx : x = i
  ·subst hx
   have e : r.filter q = r.filter p := List.filter_congr (fun k hk => hpq k (fun e => hn'.1 (e ▸ hk)))
   simp [hp, hq, e]
  ·have hi : i ∈ r := (List.mem_cons.1 h).resolve_left (Ne.symm hx)
   have := filter_drop hn'.2 hi hp hq hpq
   rw [List.filter_cons, List.filter_cons, hpq x hx]
   split
   ·simp only [List.length_cons]; omega
   ·exact this
theorem undone_set {listed : Array Bool} {i : Nat} (hi : i < ops.size) (hs : i < listed.size) (hn : ¬ done listed i) : undone ops (listed.setIfInBounds i true) + 1 = undone ops listed := by
 unfold undone
 refine filter_drop (i := i) List.nodup_range (List.mem_range.2 hi) ?_ ?_ (fun k hk => ?_)
 ·unfold done at hn
  simpa using hn
 ·simp [hs]
 ·rw [getD_set_ne false (Ne.symm hk)]
theorem undone_zero {listed : Array Bool} (h : undone ops listed = 0) {k : Nat} (hk : k < ops.size) : done listed k := by
 unfold undone at h
 have h1 : (List.range ops.size).filter (fun k => !listed.getD k false) = [] := List.length_eq_zero_iff.1 h
 have := List.filter_eq_nil_iff.1 h1 k (List.mem_range.2 hk)
 unfold done
 simpa using this
theorem wpAny_inv {pu0 : Nat → Nat} (ht : TabOK P gl pu0 vp) (ih : ∀ m, m < n → AllOK P gl B vp m) (fx : Fix P gl B vp n ops ys chk S H M0 ρ0 w0) (hlen : ys.length = ops.size) (hoa : ∀ (i : Nat) o y, ops[i]? = some o → ys[i]? = some y → OpAs P gl pu N ops o y)
  (hback : ∀ (j : Nat) o, ops[j]? = some o → ∀ e ∈ o.after, Region.binds .any e = true → e.on < j) {r : Option Nat} {Q : Exit → Act → World → Prop} {df : List Deferred}
  (hQ : ∀ (E : Nat → Prop) (M : Mem) (ρ : Rho) (C D : Nat → Nat) (a : Act) (w : World), a.defers = df → (∀ k, k < ys.length → E k) → InvS ys S H N E M ρ D a.tmps → InvH P gl B ys S H M0 ρ0 w0 E M ρ C w → Q .normal a w) :
  ∀ (fuel : Nat) (listed : Array Bool) (a : Act) (w : World) (M : Mem) (ρ : Rho) (C D : Nat → Nat), undone ops listed = fuel → listed.size = ops.size → Closed ops (done listed) → a.defers = df →
   InvS ys S H N (done listed) M ρ D a.tmps → InvH P gl B ys S H M0 ρ0 w0 (done listed) M ρ C w → wpAnyIn (Fw r) 0 P .any ops Q fuel listed a w := by
 intro fuel
 have none_ready : ∀ (listed : Array Bool), listed.size = ops.size → Region.ready .any ops listed = [] → ∀ k, k < ops.size → done listed k := by
  intro listed hs hr k
  induction k using Nat.strongRecOn with
  | _ k ihk =>
   intro hk
   cases hd : listed.getD k false with
   | true => exact hd
   | false =>
    exfalso
    have : k ∈ Region.ready .any ops listed := by
     refine mem_ready.2 ⟨?_, ops[k], by simp [hk], fun e he hb => ?_⟩
     ·exact getD_in (by omega) hd
     ·have := hback k ops[k] (by simp [hk]) e he hb
      exact ihk e.on this (by omega)
    rw [hr] at this
    cases this
 induction fuel with
 | zero =>
  intro listed a w M ρ C D hu hs hcl hdf is iv
  have hall : ∀ k, k < ops.size → done listed k := fun k hk => undone_zero hu hk
  refine ⟨?_, hQ _ M ρ C D a w hdf (fun k hk => hall k (by omega)) is iv⟩
  cases hr : Region.ready .any ops listed with
  | nil => rfl
  | cons x r =>
   exfalso
   have hx : x ∈ Region.ready .any ops listed := by rw [hr]; simp
   obtain ⟨h1, o, h2, _⟩ := mem_ready.1 hx
   have := hall x (Array.getElem?_eq_some_iff.1 h2).1
   unfold done at this
   rw [getD_both h1] at this
   cases this
 | succ fuel ihf =>
  intro listed a w M ρ C D hu hs hcl hdf is iv
  refine ⟨fun hr => hQ _ M ρ C D a w hdf (fun k hk => none_ready listed hs hr k (by omega)) is iv, fun i hi => ?_⟩
  obtain ⟨h1, o, h2, h3⟩ := mem_ready.1 hi
  have hilt : i < ops.size := (Array.getElem?_eq_some_iff.1 h2).1
  have hnd : ¬ done listed i := by
   unfold done
   rw [getD_both h1]
   simp
  have hy : ys[i]? = some (ys[i]'(by omega)) := by simp
  have hset := done_set (listed := listed) (i := i) (by omega)
  have nx : Next ops ys (done listed) i (ys[i]'(by omega)) := by
   refine ⟨hy, hnd, fun k hk => ?_, hcl, ?_⟩
   ·rcases Nat.lt_or_ge k listed.size with q | q
    ·omega
    ·unfold done at hk
     simp [Array.getElem?_eq_none q] at hk
   ·intro k o' ho' hk e he hb
    rcases hk with hk | hk
    ·exact .inl (hcl k o' ho' hk e he hb)
    ·subst hk
     rw [h2] at ho'
     cases ho'
     exact .inl (h3 e he hb)
  refine one_op ht ih fx nx is iv h2 (hoa i o _ h2 hy) ?_
  intro a' w' M' ρ' C' D' q1 q2 q3
  have hcl' := nx.closed'
  rw [← hset] at q2 q3 hcl'
  refine ihf _ a' w' M' ρ' C' D' ?_ (by simpa using hs) hcl' (q1.trans hdf) q2 q3
  have := undone_set hilt (by omega) hnd
  omega
theorem inv_end (fx : Fix P gl B vp n ops ys chk S H M0 ρ0 w0) (hall : ∀ k, k < ys.length → E k) (is : InvS ys S H N E M ρ D a.tmps) (iv : InvH P gl B ys S H M0 ρ0 w0 E M ρ C w) :
  HRel P gl B M ρ (H ys.length) w ∧ Evo M0 ρ0 (H 0) w0 M ρ (H ys.length) w ∧ SRel M ρ N (S ys.length) a.tmps := by
 have hnow : ∀ b l, ρ b = some l → (H ys.length).get b = (H (C b)).get b := by
  intro b l e
  refine stable fx.run (iv.le b l e) (Nat.le_refl _) (iv.lt b l e) (fun k h1 h2 hw => ?_)
  have := iv.all b l e k (hall k h2) hw
  omega
 have hlo := fx.run.lo (Nat.le_refl ys.length)
 have hnx := fx.run.nx (k := 0) (j := ys.length) (by omega) (Nat.le_refl _)
 have hlive : ∀ b l, ρ b = some l → live (H ys.length) b → (H (C b)).get b ≠ .dead := by
  intro b l e hl
  unfold live at hl
  rw [hnow b l e] at hl
  exact hl
 refine ⟨⟨fun b l e => ?_, fun b l e => ?_, fun b b' l l' e e' hl hl' heq => iv.inj b b' l l' e e' (hlive b l e hl) (hlive b' l' e' hl') heq, iv.mem, fun b l e hl => iv.sep b l e (hlive b l e hl), fun b l e hl => iv.base b l e (hlive b l e hl),
  fx.run.wfs (Nat.le_refl _), iv.room, ?_, iv.glob⟩, ⟨iv.rho, iv.mle, hlo, hnx, iv.os, iv.tape, iv.output, iv.wsize, fun b l e hl hb => iv.wr b l e (hlive b l e hl) hb, iv.frame, fun b l e hb => ?_, iv.new, iv.mnew⟩, ⟨is.size, fun t => ?_⟩⟩
 ·exact Nat.lt_of_lt_of_le (iv.lt b l e) (fx.run.nx (iv.le b l e) (Nat.le_refl _))
 ·rw [hnow b l e]
  exact BRel.mono (Mle.refl _) (below_le _ _) (iv.blk b l e)
 ·have := fx.rel.lonx
  omega
 ·rw [hnow b l (iv.rho b l e)]
  exact iv.low b l e hb
 ·rw [fx.run.slots (k := D t) (is.le t) (Nat.le_refl _) (fun k z h1 h2 h3 h4 => by
   have := is.all t k z (hall k h2) h3 h4
   omega)]
  exact VRel.mono (Mle.refl _) (below_le _ _) _ (is.slot t)
theorem inv_start (hh : HRel P gl B M ρ (H 0) w) (hs : SRel M ρ N (S 0) a.tmps) (hE : ∀ k, ¬ E k) : InvS ys S H N E M ρ (fun _ => 0) a.tmps ∧ InvH P gl B ys S H M ρ w E M ρ (fun _ => 0) w := by
 have hb : ρ.below (H 0).nx = ρ := by
  funext b
  unfold Rho.below
  split
  ·rfl
  ·cases e : ρ b with
   | none => rfl
   | some l => have := hh.bound b l e; omega
 refine ⟨⟨hs.size, fun _ => Nat.zero_le _, fun _ => .inl rfl, fun t k y hk => absurd hk (hE k), fun t => by rw [hb]; exact hs.rel t⟩, ?_⟩
 exact ⟨fun _ _ _ => Nat.zero_le _, hh.bound, fun _ _ _ => .inl rfl, fun b l e k hk => absurd hk (hE k), fun b l e => by rw [hb]; exact hh.blk b l e, hh.inj, hh.mem, hh.sep, hh.base, hh.room, hh.glob, fun b l e => .inl (hh.bound b l e),
  fun k b m i x off y hk => absurd hk (hE k), Rle.refl _, Mle.refl _, fun _ _ q => .inl q, rfl, rfl, rfl, Nat.le_refl _, fun b l e hl hlo => .inr ⟨b, l, e, hl, hlo, rfl⟩, fun _ _ _ => rfl, fun _ _ _ _ => rfl, fun b l e1 e2 => by rw [e2] at e1; cases e1⟩
theorem region_drawn {pu0 : Nat → Nat} (ht : TabOK P gl pu0 vp) (ih : ∀ m, m < n → AllOK P gl B vp m) {id : Nat} {ops : Array Oper} {l : List VOper} {chk : List (Nat × Nat)} (hc : compOps P gl pu N ops ops.toList = some l) (hd : dregGo chk [] [] ops.toList l = true)
  {M : Mem} {ρ : Rho} {h h' : Heap} {w : World} {s s' : Slots} {a : Act} (hh : HRel P gl B M ρ h w) (hs : SRel M ρ N s a.tmps) (he : runOps vp n l s h = some (s', h')) (hk : chkOk chk s' = true)
  {r : Option Nat} {Q : Exit → Act → World → Prop} (hQ : ∀ a' w', PostS P gl B N M ρ h w a s' h' a' w' → Q .normal a' w') : (Code.region id ops true).wpIn (Fw r) 0 P Q a w := by
 obtain ⟨hlen, hall⟩ := compOps_as hc
 have hlen' : l.length = ops.size := by simpa using hlen
 obtain ⟨S, H, rfl, rfl, rfl, rfl, hstep⟩ := trace_of n l s s' h h' he
 obtain ⟨hback, hpair⟩ := dregGo_spec (ops := ops) (ys := l) ops.toList l [] [] hd (by simp) rfl (fun j => by simp) (fun k m hk => by simp at hk)
 have hhd := hh.drew
 have fx : Fix P gl B vp n ops l chk S H M ρ w.drew := ⟨⟨hstep, hh.fresh, hk⟩, fun i j x y hij hx hy => hpair i j x y (Nat.zero_le _) hij hx hy, hhd⟩
 refine wpIn_region_any ht.mixed ?_
 have hE : ∀ k, ¬ done (Array.replicate ops.size false) k := by
  intro k hk
  unfold done at hk
  rw [getD_replicate_false] at hk
  cases hk
 obtain ⟨is, iv⟩ := inv_start (N := N) (ys := l) (H := H) (S := S) (a := a) (E := done (Array.replicate ops.size false)) hhd hs hE
 refine wpAny_inv ht ih fx hlen' (fun i o y h1 h2 => hall i o y (by simpa using h1) h2) (fun j o hj e he hb => hback j o (Nat.zero_le _) hj e he hb) (df := a.defers) ?_ ops.size _ a _ M ρ _ _ ?_ (by simp) ?_ rfl is iv
 ·intro E M' ρ' C D a' w' q1 q2 q3 q4
  obtain ⟨k1, k2, k3⟩ := inv_end fx q2 q3 q4
  refine hQ a' w' ⟨q1, M', ρ', k1, ?_, k3⟩
  exact ⟨k2.rho, k2.mem, k2.lo, k2.nx, k2.os, k2.tape, k2.output, k2.size, k2.wr, k2.frame, k2.low, k2.new, k2.mnew⟩
 ·unfold undone
  have : (List.range ops.size).filter (fun k => !(Array.replicate ops.size false).getD k false) = List.range ops.size := by
   apply List.filter_eq_self.2
   intro k _
   rw [getD_replicate_false]
   rfl
  rw [this]
  simp
 ·intro k o ho hk
  exact absurd hk (hE k)
end
end Go.VE
end

