/- A part of a proof that a small evaluator of the translated code agrees with the model (part DrawA). No statement of the program stands here. -/
import Derived.Test.YtpbggddmfgjmlaaGreatVeSound
set_option linter.all false
section
namespace Go.VE
theorem memN_iff {t : Nat} {l : List Nat} : memN t l = true ↔ t ∈ l := by
 induction l with
 | nil => simp [memN]
 | cons x r ih =>
  simp only [memN, beq_dec, Bool.cond_eq_ite, List.mem_cons]
  by_cases h : x = t
  ·simp [h]
  ·simp [h, ih, Ne.symm h]
theorem memP_iff {a b : Nat} {l : List (Nat × Nat)} (h : memP a b l = true) : (a, b) ∈ l := by
 induction l with
 | nil => simp [memP] at h
 | cons x r ih =>
  simp only [memP, beq_dec, Bool.cond_eq_ite] at h
  split at h
  ·rename_i q
   simp at q
   obtain ⟨x1, x2⟩ := x
   simp at q
   simp [q.1, q.2]
  ·exact List.mem_cons_of_mem _ (ih h)
theorem sameDst_iff {a b : Option Nat} : sameDst a b = true ↔ ∃ d, a = some d ∧ b = some d := by
 cases a <;> cases b <;> simp [sameDst, beq_dec]
 exact eq_comm
theorem noDst_spec {t : Nat} : ∀ {l : List VOper}, noDst t l = true → ∀ o ∈ l, o.dst ≠ some t
 | [], _, o, ho => by simp at ho
 | x :: r, h, o, ho => by
  simp only [noDst, Bool.cond_eq_ite] at h
  split at h
  ·cases h
  ·rename_i hx
   rcases List.mem_cons.1 ho with rfl | ho
   ·intro q
    exact hx (sameDst_iff.2 ⟨t, q, rfl⟩)
   ·exact noDst_spec h o ho
structure Apart (x y : VOper) : Prop where
 xy : ∀ d, x.dst = some d → d ∉ y.reads
 same : ∀ d, x.dst = some d → y.dst ≠ some d
 yx : ∀ d, y.dst = some d → d ∉ x.reads
theorem apartOps_spec {x y : VOper} (h : apartOps x y = true) : Apart x y := by
 simp only [apartOps, Bool.and_eq_true, Bool.not_eq_true'] at h
 obtain ⟨⟨h1, h2⟩, h3⟩ := h
 refine ⟨fun d hd hm => ?_, fun d hd hy => ?_, fun d hd hm => ?_⟩
 ·rw [hd] at h1
  simp only [dstIn] at h1
  rw [memN_iff.2 hm] at h1
  cases h1
 ·rw [sameDst_iff.2 ⟨d, hd, hy⟩] at h2
  cases h2
 ·rw [hd] at h3
  simp only [dstIn] at h3
  rw [memN_iff.2 hm] at h3
  cases h3
theorem Apart.symm {x y : VOper} (h : Apart x y) : Apart y x := ⟨h.yx, fun d hd hy => h.same d hy hd, h.xy⟩
structure Pair (chk : List (Nat × Nat)) (ys : List VOper) (i j : Nat) (x y : VOper) : Prop where
 apart : Apart x y
 kind : compatK (kindOf x.op) (kindOf y.op) = true ∨ ∃ a b, ldst x.op y.op = some (a, b) ∧ (a, b) ∈ chk ∧ (∀ (k : Nat) o, i ≤ k → ys[k]? = some o → o.dst ≠ some a) ∧ (∀ (k : Nat) o, j ≤ k → ys[k]? = some o → o.dst ≠ some b)
def Nar (o : VOp) (t : Nat) : Prop := (∃ m q z, o = .app m q (.t t) z) ∨ ∃ f as, o = .callc f as t
theorem Nar.kind {o : VOp} {t : Nat} (h : Nar o t) : kindOf o = 5 := by
 rcases h with ⟨m, q, z, rfl⟩ | ⟨f, as, rfl⟩ <;> rfl
theorem Nar.one {o : VOp} {t t' : Nat} (h : Nar o t) (h' : Nar o t') : t = t' := by
 rcases h with ⟨m, q, z, rfl⟩ | ⟨f, as, rfl⟩
 ·rcases h' with ⟨m', q', z', e⟩ | ⟨f', as', e⟩ <;> cases e
  rfl
 ·rcases h' with ⟨m', q', z', e⟩ | ⟨f', as', e⟩ <;> cases e
  rfl
def BlkOf (v : V) (b : Nat) : Prop := (∃ off len cap sz, v = .sl b off len cap sz) ∨ ∃ off, v = .ptr b off
theorem ldst_spec {x y : VOp} {p : Nat × Nat} (h : ldst x y = some p) : (∃ n m z, x = .ld n (.t p.1) ∧ y = .st m (.t p.2) z) ∨ (∃ n, x = .ld n (.t p.1) ∧ Nar y p.2) ∨ (∃ n, Nar x p.1 ∧ y = .ld n (.t p.2)) := by
 unfold ldst at h
 split at h
 ·cases h; exact .inl ⟨_, _, _, rfl, rfl⟩
 ·cases h; exact .inr (.inl ⟨_, rfl, .inl ⟨_, _, _, rfl⟩⟩)
 ·cases h; exact .inr (.inr ⟨_, .inl ⟨_, _, _, rfl⟩, rfl⟩)
 ·cases h; exact .inr (.inl ⟨_, rfl, .inr ⟨_, _, rfl⟩⟩)
 ·cases h; exact .inr (.inr ⟨_, .inr ⟨_, _, rfl⟩, rfl⟩)
 ·cases h
theorem pairOk_spec {chk : List (Nat × Nat)} {x y : VOper} {xs rest : List VOper} (h : pairOk chk x y xs rest = true) {ys : List VOper} {i j : Nat} (hsplit : ys.drop i = xs ++ rest) (hj : ys.drop j = rest) : Pair chk ys i j x y := by
 unfold pairOk at h
 simp only [Bool.cond_eq_ite] at h
 split at h
 ·rename_i hap
  refine ⟨apartOps_spec hap, ?_⟩
  split at h
  ·rename_i hk; exact .inl hk
  ·right
   split at h
   ·rename_i a b hl
    simp only [Bool.and_eq_true] at h
    obtain ⟨⟨⟨h1, h2⟩, h3⟩, h4⟩ := h
    refine ⟨a, b, hl, memP_iff h1, fun k o hk ho => ?_, fun k o hk ho => ?_⟩
    ·have : o ∈ ys.drop i := List.mem_of_getElem? (i := k - i) (by rw [List.getElem?_drop, Nat.add_sub_cancel' hk]; exact ho)
     rw [hsplit] at this
     rcases List.mem_append.1 this with q | q
     ·exact noDst_spec h2 o q
     ·exact noDst_spec h3 o q
    ·have : o ∈ ys.drop j := List.mem_of_getElem? (i := k - j) (by rw [List.getElem?_drop, Nat.add_sub_cancel' hk]; exact ho)
     rw [hj] at this
     exact noDst_spec h4 o this
   ·cases h
 ·cases h
theorem okAgainst_spec {chk : List (Nat × Nat)} {y : VOper} {rest ys : List VOper} {j : Nat} (hj : ys.drop j = rest) : ∀ (xs : List VOper) (m i : Nat), okAgainst chk y rest m xs = true → ys.drop i = xs ++ rest →
  ∀ (k : Nat) x, xs[k]? = some x → m.testBit k = true ∨ Pair chk ys (i + k) j x y
 | [], m, i, _, _, k, x, hx => by simp at hx
 | x0 :: xs, m, i, h, hs, k, x, hx => by
  have hs' : ys.drop (i + 1) = xs ++ rest := by
   rw [← List.drop_drop, hs]
   rfl
  have hrec : okAgainst chk y rest (m / 2) xs = true := by
   simp only [okAgainst, Bool.cond_eq_ite] at h
   split at h
   ·exact h
   ·split at h
    ·exact h
    ·cases h
  cases k with
  | zero =>
   simp at hx
   subst hx
   simp only [okAgainst, Bool.cond_eq_ite, beq_dec] at h
   split at h
   ·rename_i hm
    left
    simp at hm
    simp [Nat.testBit_zero, hm]
   ·split at h
    ·rename_i hp
     exact .inr (pairOk_spec hp hs hj)
    ·cases h
  | succ k =>
   rcases okAgainst_spec hj xs (m / 2) (i + 1) hrec hs' k x (by simpa using hx) with q | q
   ·left
    rw [Nat.testBit_succ]
    exact q
   ·right
    rw [show i + (k + 1) = i + 1 + k by omega]
    exact q
def Closed (ops : Array Oper) (E : Nat → Prop) : Prop := ∀ (k : Nat) o, ops[k]? = some o → E k → ∀ e ∈ o.after, Region.binds .any e = true → E e.on
def Dep (ops : Array Oper) (i j : Nat) : Prop := ∀ E : Nat → Prop, Closed ops E → E j → E i
theorem maskOf_spec {ops : Array Oper} {masks : List Nat} (hm : ∀ (k m : Nat), masks[k]? = some m → ∀ i, m.testBit i = true → Dep ops i k) : ∀ (es : List Edge) (m : Nat), maskOf masks es = some m →
  (∀ e ∈ es, Region.binds .any e = true → e.on < masks.length) ∧ ∀ i, m.testBit i = true → ∀ E, Closed ops E → (∀ e ∈ es, Region.binds .any e = true → E e.on) → E i
 | [], m, h => by
  cases h
  exact ⟨fun e he => by simp at he, fun i hi => by simp at hi⟩
 | e :: es, m, h => by
  unfold maskOf at h
  split at h
  ·cases h
  ·rename_i m' hm'
   obtain ⟨k1, k2⟩ := maskOf_spec hm es m' hm'
   have weak : ∀ i, m'.testBit i = true → ∀ E, Closed ops E → (∀ e' ∈ e :: es, Region.binds .any e' = true → E e'.on) → E i :=
    fun i hi E hE he => k2 i hi E hE (fun e' h' => he e' (List.mem_cons_of_mem _ h'))
   split at h
   ·rename_i hg
    cases h
    refine ⟨fun e' he' hb => ?_, weak⟩
    rcases List.mem_cons.1 he' with rfl | he'
    ·simp [Region.binds, hg] at hb
    ·exact k1 e' he' hb
   ·rename_i hg
    cases h
    refine ⟨fun e' he' hb => ?_, weak⟩
    rcases List.mem_cons.1 he' with rfl | he'
    ·simp [Region.binds, hg] at hb
    ·exact k1 e' he' hb
   ·rename_i n1 n2
    have hb : Region.binds .any e = true := by
     unfold Region.binds
     split
     ·rename_i q; exact absurd q (n1 _)
     ·rename_i q; exact absurd q (n2 _)
     ·rfl
    split at h
    ·rename_i k hk
     cases h
     have hlt : e.on < masks.length := (List.getElem?_eq_some_iff.1 hk).1
     refine ⟨fun e' he' hb' => ?_, fun i hi E hE he => ?_⟩
     ·rcases List.mem_cons.1 he' with rfl | he'
      ·exact hlt
      ·exact k1 e' he' hb'
     ·rw [Nat.testBit_or, Nat.testBit_or, Bool.or_eq_true, Bool.or_eq_true] at hi
      have hon := he e (by simp) hb
      rcases hi with hi | hi | hi
      ·exact weak i hi E hE he
      ·have : e.on = i := by
        rw [Nat.testBit_shiftLeft] at hi
        simp only [Bool.and_eq_true, decide_eq_true_eq, Nat.testBit_one_eq_true_iff_self_eq_zero] at hi
        omega
       rw [← this]
       exact hon
      ·exact hm e.on k hk i hi E hE hon
    ·cases h
theorem dregGo_spec {ops : Array Oper} {chk : List (Nat × Nat)} {ys : List VOper} : ∀ (os : List Oper) (rest done : List VOper) (masks : List Nat), dregGo chk done masks os rest = true → ys = done ++ rest → masks.length = done.length →
  (∀ j : Nat, os[j]? = ops[done.length + j]?) → (∀ (k m : Nat), masks[k]? = some m → ∀ i, m.testBit i = true → Dep ops i k) →
  (∀ (j : Nat) o, done.length ≤ j → ops[j]? = some o → ∀ e ∈ o.after, Region.binds .any e = true → e.on < j) ∧
  ∀ (i j : Nat) x y, done.length ≤ j → i < j → ys[i]? = some x → ys[j]? = some y → Dep ops i j ∨ Pair chk ys i j x y
 | [], [], done, masks, _, hys, _, hops, _ => by
  constructor
  ·intro j o hj ho
   have := hops (j - done.length)
   rw [Nat.add_sub_cancel' hj, ho] at this
   simp at this
  ·intro i j x y hj hij hx hy
   rw [hys, List.append_nil] at hy
   have := (List.getElem?_eq_some_iff.1 hy).1
   omega
 | [], y :: rest, done, masks, h, _, _, _, _ => by simp [dregGo] at h
 | o :: os, [], done, masks, h, _, _, _, _ => by simp [dregGo] at h
 | o :: os, y0 :: rest, done, masks, h, hys, hlen, hops, hm => by
  simp only [dregGo] at h
  have h0 : ops[done.length]? = some o := by simpa using (hops 0).symm
  split at h
  ·cases h
  ·rename_i m hmask
   simp only [Bool.cond_eq_ite] at h
   split at h
   ·rename_i hok
    obtain ⟨b1, b2⟩ := maskOf_spec hm o.after.toList m hmask
    have hdep : ∀ i, m.testBit i = true → Dep ops i done.length := fun i hi E hE hEj =>
     b2 i hi E hE (fun e he hb => hE done.length o h0 hEj e (Array.mem_toList_iff.1 he) hb)
    obtain ⟨c1, c2⟩ := dregGo_spec (ops := ops) (ys := ys) os rest (done ++ [y0]) (masks ++ [m]) h (by simp [hys]) (by simp [hlen])
     (fun j => by have := hops (j + 1); simpa [Nat.add_assoc, Nat.add_comm 1 j] using this)
     (fun k m' hk => by
      by_cases hk' : k < masks.length
      ·rw [List.getElem?_append_left hk'] at hk
       exact hm k m' hk
      ·have : k = done.length := by
        have := (List.getElem?_eq_some_iff.1 hk).1
        simp at this
        omega
       subst this
       rw [List.getElem?_append_right (by omega), hlen] at hk
       simp at hk
       subst hk
       exact hdep)
    constructor
    ·intro j o' hj ho e he hb
     by_cases hjd : j = done.length
     ·subst hjd
      rw [h0] at ho
      cases ho
      have := b1 e (Array.mem_toList_iff.2 he) hb
      omega
     ·exact c1 j o' (by simp; omega) ho e he hb
    ·intro i j x y hj hij hx hy
     by_cases hjd : j = done.length
     ·subst hjd
      have hy0 : y = y0 := by
       rw [hys, List.getElem?_append_right (Nat.le_refl _)] at hy
       simpa using hy.symm
      subst hy0
      have hx' : done[i]? = some x := by
       rw [hys, List.getElem?_append_left hij] at hx
       exact hx
      rcases okAgainst_spec (ys := ys) (j := done.length) (by rw [hys]; simp) done m 0 hok (by rw [hys]; simp) i x hx' with q | q
      ·exact .inl (hdep i q)
      ·right
       simpa using q
     ·exact c2 i j x y (by simp; omega) hij hx hy
   ·cases h
end Go.VE
end
section
namespace Go.VE
def StepAt (vp : Nat → Option VFn) (n : Nat) (y : VOper) (s : Slots) (h : Heap) (s1 : Slots) (h1 : Heap) : Prop :=
 (gEval y.g s = some true ∧ ∃ m v, m < n ∧ stepOp vp m y.op s h = some (v, h1) ∧ s1 = slotsPut s y.dst v) ∨
 (gEval y.g s = some false ∧ h1 = h ∧ s1 = slotsPut s y.dst (.tup []))
theorem StepAt.mono {vp : Nat → Option VFn} {n n' : Nat} {y : VOper} {s s1 : Slots} {h h1 : Heap} (hn : n ≤ n') (x : StepAt vp n y s h s1 h1) : StepAt vp n' y s h s1 h1 := by
 rcases x with ⟨a, m, v, b, c⟩ | x
 ·exact .inl ⟨a, m, v, by omega, c⟩
 ·exact .inr x
theorem trace_of {vp : Nat → Option VFn} : ∀ (n : Nat) (l : List VOper) (s s' : Slots) (h h' : Heap), runOps vp n l s h = some (s', h') →
  ∃ (S : Nat → Slots) (H : Nat → Heap), S 0 = s ∧ H 0 = h ∧ S l.length = s' ∧ H l.length = h' ∧ ∀ (k : Nat) y, l[k]? = some y → StepAt vp n y (S k) (H k) (S (k + 1)) (H (k + 1))
 | 0, l, s, s', h, h', e => by simp [runOps] at e
 | n + 1, [], s, s', h, h', e => by
  simp only [runOps] at e
  cases e
  exact ⟨fun _ => s, fun _ => h, rfl, rfl, rfl, rfl, fun k y hy => by simp at hy⟩
 | n + 1, y :: l, s, s', h, h', e => by
  simp only [runOps] at e
  have key : ∀ (s1 : Slots) (h1 : Heap), StepAt vp (n + 1) y s h s1 h1 → runOps vp n l s1 h1 = some (s', h') →
    ∃ (S : Nat → Slots) (H : Nat → Heap), S 0 = s ∧ H 0 = h ∧ S (y :: l).length = s' ∧ H (y :: l).length = h' ∧ ∀ (k : Nat) z, (y :: l)[k]? = some z → StepAt vp (n + 1) z (S k) (H k) (S (k + 1)) (H (k + 1)) := by
   intro s1 h1 hst hr
   obtain ⟨S, H, a1, a2, a3, a4, a5⟩ := trace_of n l s1 s' h1 h' hr
   refine ⟨fun k => match k with | 0 => s | k + 1 => S k, fun k => match k with | 0 => h | k + 1 => H k, rfl, rfl, a3, a4, ?_⟩
   intro k z hz
   cases k with
   | zero =>
    simp at hz
    subst hz
    show StepAt vp (n + 1) y s h (S 0) (H 0)
    rw [a1, a2]
    exact hst
   | succ k => exact (a5 k z (by simpa using hz)).mono (by omega)
  split at e
  ·rename_i hg
   split at e
   ·rename_i v h1 hst
    exact key _ _ (.inl ⟨hg, n, v, by omega, hst, rfl⟩) e
   ·cases e
  ·rename_i hg
   exact key _ _ (.inr ⟨hg, rfl, rfl⟩) e
  ·cases e
structure Run (vp : Nat → Option VFn) (n : Nat) (ys : List VOper) (chk : List (Nat × Nat)) (S : Nat → Slots) (H : Nat → Heap) : Prop where
 step : ∀ (k : Nat) y, ys[k]? = some y → StepAt vp n y (S k) (H k) (S (k + 1)) (H (k + 1))
 wf : wf (H 0)
 chk : chkOk chk (S ys.length) = true
section
variable {vp : Nat → Option VFn} {n : Nat} {ys : List VOper} {chk : List (Nat × Nat)} {S : Nat → Slots} {H : Nat → Heap}
theorem Run.heap (r : Run vp n ys chk S H) {k : Nat} (hk : k < ys.length) : Step (H k) (H (k + 1)) := by
 rcases r.step k ys[k] (by simp [hk]) with ⟨_, m, v, _, h2, _⟩ | ⟨_, h2, _⟩
 ·exact (run_step vp m).2.2.1 _ _ _ _ _ h2
 ·rw [h2]; exact .refl _
theorem Run.heaps (r : Run vp n ys chk S H) {k : Nat} : ∀ {j : Nat}, k ≤ j → j ≤ ys.length → Step (H k) (H j)
 | 0, hkj, _ => by
  have : k = 0 := by omega
  subst this
  exact .refl _
 | j + 1, hkj, hj => by
  by_cases e : k = j + 1
  ·subst e; exact .refl _
  ·exact (r.heaps (j := j) (by omega) (by omega)).trans (r.heap (by omega))
theorem Run.nx (r : Run vp n ys chk S H) {k j : Nat} (hkj : k ≤ j) (hj : j ≤ ys.length) : (H k).nx ≤ (H j).nx := (r.heaps hkj hj).nx
theorem Run.lo (r : Run vp n ys chk S H) {k : Nat} (hk : k ≤ ys.length) : (H k).lo = (H 0).lo := (r.heaps (Nat.zero_le _) hk).lo
theorem Run.wfs (r : Run vp n ys chk S H) {k : Nat} (hk : k ≤ ys.length) : VE.wf (H k) := (r.heaps (Nat.zero_le _) hk).wf r.wf
theorem slotsPut_at {s : Slots} {d : Option Nat} {v : V} {t : Nat} (h : d ≠ some t) : (slotsPut s d v).at t = s.at t := by
 cases d with
 | none => rfl
 | some i =>
  simp only [slotsPut]
  rw [Slots.at_set, if_neg (fun e => h (by rw [e]))]
theorem slotsPut_same {s : Slots} {v : V} {t : Nat} : (slotsPut s (some t) v).at t = v := by
 simp only [slotsPut]
 rw [Slots.at_set, if_pos rfl]
theorem Run.slot1 (r : Run vp n ys chk S H) {k : Nat} {y : VOper} (hy : ys[k]? = some y) {t : Nat} (ht : y.dst ≠ some t) : (S (k + 1)).at t = (S k).at t := by
 rcases r.step k y hy with ⟨_, m, v, _, _, h2⟩ | ⟨_, _, h2⟩
 ·rw [h2, slotsPut_at ht]
 ·rw [h2, slotsPut_at ht]
theorem Run.slots (r : Run vp n ys chk S H) {t k : Nat} : ∀ {j : Nat}, k ≤ j → j ≤ ys.length → (∀ (i : Nat) y, k ≤ i → i < j → ys[i]? = some y → y.dst ≠ some t) → (S j).at t = (S k).at t
 | 0, hkj, _, _ => by
  have : k = 0 := by omega
  subst this
  rfl
 | j + 1, hkj, hj, hno => by
  by_cases e : k = j + 1
  ·subst e; rfl
  ·rw [r.slot1 (k := j) (y := ys[j]'(by omega)) (by simp) (hno j _ (by omega) (by omega) (by simp))]
   exact r.slots (j := j) (by omega) (by omega) (fun i y h1 h2 => hno i y h1 (by omega))
def Tch (o : VOp) (s : Slots) (h : Heap) (b : Nat) : Prop := ∀ t, Nar o t → h.nx ≤ b ∨ BlkOf (s.at t) b
def Wr (ys : List VOper) (S : Nat → Slots) (H : Nat → Heap) (k b : Nat) : Prop :=
 ∃ y, ys[k]? = some y ∧ gEval y.g (S k) = some true ∧
  (((kindOf y.op = 1 ∨ kindOf y.op = 6) ∧ (H k).nx ≤ b ∧ b < (H (k + 1)).nx) ∨ (∃ m i x off, y.op = .st m (.t i) x ∧ (S k).at i = .ptr b off ∧ m ≠ 0) ∨ (kindOf y.op = 5 ∧ b < (H (k + 1)).nx ∧ Tch y.op (S k) (H k) b))
theorem isoArgs_two (args : List V) : isoArgs 2 args = none := rfl
theorem callp_same {m : Nat} {f : Nat} {as : List Opd} {s : Slots} {h h' : Heap} {v : V} (he : stepOp vp m (.callp f as) s h = some (v, h')) : h' = h ∧ stepOp vp m (.callp f as) s { h with lo := h.nx } = some (v, { h with lo := h.nx }) := by
 cases m with
 | zero => simp [stepOp] at he
 | succ m =>
  simp only [stepOp] at he ⊢
  split at he
  ·rename_i fn hfn
   split at he
   ·rename_i hprim
    rw [Bool.cond_eq_ite] at he ⊢
    split at he
    ·rename_i hm
     rw [if_pos hm]
     rw [beq_dec] at hm
     have hm : fn.mode = 1 := by simpa using hm
     cases m with
     | zero => simp [callF] at he
     | succ m =>
      simp only [callF, hfn, hprim, hm, finish, finishI, enterH] at he ⊢
      split at he
      ·split at he
       ·split at he
        ·obtain ⟨u, e1, e2⟩ := map_some he
         cases e2
         refine ⟨rfl, ?_⟩
         rw [e1]
         rfl
        ·cases he
       ·split at he
        ·obtain ⟨u, e1, e2⟩ := map_some he
         cases e2
         refine ⟨rfl, ?_⟩
         rw [e1]
         rfl
        ·cases he
       ·cases he
      ·split at he
       ·rename_i hx
        split at he
        ·rename_i hres
         obtain ⟨u, e1, e2⟩ := map_some he
         cases e2
         refine ⟨rfl, ?_⟩
         rw [e1]
         rfl
        ·cases he
       ·rename_i hx
        split at he
        ·rename_i hres
         obtain ⟨u, e1, e2⟩ := map_some he
         cases e2
         refine ⟨rfl, ?_⟩
         rw [e1]
         rfl
        ·cases he
       ·cases he
    ·cases he
   ·cases he
  ·cases he
theorem callvo_same {m : Nat} {x : Opd} {as : List Opd} {s : Slots} {h h' : Heap} {v : V} (he : stepOp vp m (.callvo x as) s h = some (v, h')) : stepOp vp m (.callvo x as) s { h with lo := h.nx } = some (v, { h' with lo := h.nx }) := by
 cases m with
 | zero => simp [stepOp] at he
 | succ m =>
  simp only [stepOp] at he ⊢
  split at he
  case h_2 => cases he
  split at he
  ·rename_i fn hfn
   split at he
   ·rename_i hprim
    rw [Bool.cond_eq_ite] at he ⊢
    split at he
    ·rename_i hm
     rw [if_pos hm]
     rw [beq_dec] at hm
     have hm : fn.mode = 2 := by simpa using hm
     cases m with
     | zero => simp [callF] at he
     | succ m =>
      simp only [callF, hfn, hprim, hm, finish, enterH, isoArgs_two] at he ⊢
      split at he
      ·rename_i hx
       split at he
       ·rename_i hres
        cases he
        rfl
       ·cases he
      ·rename_i hx
       split at he
       ·rename_i hres
        cases he
        rfl
       ·cases he
      ·cases he
    ·cases he
   ·cases he
  ·cases he
theorem callo_same {m : Nat} {f : Nat} {as : List Opd} {s : Slots} {h h' : Heap} {v : V} (he : stepOp vp m (.callo f as) s h = some (v, h')) : stepOp vp m (.callo f as) s { h with lo := h.nx } = some (v, { h' with lo := h.nx }) := by
 cases m with
 | zero => simp [stepOp] at he
 | succ m =>
  simp only [stepOp] at he ⊢
  split at he
  ·rename_i fn hfn
   split at he
   ·rename_i hprim
    rw [Bool.cond_eq_ite] at he ⊢
    split at he
    ·rename_i hm
     rw [if_pos hm]
     rw [beq_dec] at hm
     have hm : fn.mode = 2 := by simpa using hm
     cases m with
     | zero => simp [callF] at he
     | succ m =>
      simp only [callF, hfn, hprim, hm, finish, enterH, isoArgs_two] at he ⊢
      split at he
      ·rename_i hx
       split at he
       ·rename_i hres
        cases he
        rfl
       ·cases he
      ·rename_i hx
       split at he
       ·rename_i hres
        cases he
        rfl
       ·cases he
      ·cases he
    ·cases he
   ·cases he
  ·cases he
end
end Go.VE
end
section
namespace Go.VE
theorem stepOp_congr {vp : Nat → Option VFn} {m : Nat} {o : VOp} {s t : Slots} {h : Heap} (hr : ∀ i ∈ rdOp o, s.at i = t.at i) : stepOp vp m o s h = stepOp vp m o t h := by
 cases m with
 | zero => simp [stepOp]
 | succ m =>
  cases o
  case call f xs => simp only [rdOp] at hr; simp only [stepOp, opds_congr hr]
  case callp f xs => simp only [rdOp] at hr; simp only [stepOp, opds_congr hr]
  case callo f xs => simp only [rdOp] at hr; simp only [stepOp, opds_congr hr]
  case callc f xs t0 =>
   simp only [rdOp, List.mem_cons] at hr
   simp only [stepOp]
   rw [opds_congr (fun i q => hr i (.inr q)), hr t0 (.inl rfl)]
  case callvo x xs =>
   simp only [rdOp, List.mem_append] at hr
   simp only [stepOp]
   rw [opds_congr (fun i q => hr i (.inr q)), opd_congr (x := x) (fun i q => hr i (.inl q))]
  case callv x xs =>
   simp only [rdOp, List.mem_append] at hr
   simp only [stepOp]
   rw [opds_congr (fun i q => hr i (.inr q)), opd_congr (x := x) (fun i q => hr i (.inl q))]
  all_goals
   simp only [stepOp]
   exact opE_congr hr
def View (o : VOp) (s : Slots) (b : Nat) : Prop :=
 (∃ n i off, o = .ld n (.t i) ∧ s.at i = .ptr b off) ∨ (∃ n i x off, o = .st n (.t i) x ∧ s.at i = .ptr b off) ∨ kindOf o = 4 ∨ kindOf o = 5 ∨ kindOf o = 6
theorem stepOp_opE {vp : Nat → Option VFn} {m : Nat} {o : VOp} {s : Slots} {h h' : Heap} {v : V} (he : stepOp vp m o s h = some (v, h')) (hc : isCall o = false) : opE o s h = some (v, h') ∧ ∀ s2 h2, stepOp vp m o s2 h2 = opE o s2 h2 := by
 cases m with
 | zero => simp [stepOp] at he
 | succ m => cases o <;> first | (cases hc; done) | (exact ⟨by simpa [stepOp] using he, fun s2 h2 => by simp [stepOp]⟩)
theorem kind_call {o : VOp} (hc : isCall o = true) : kindOf o = 5 ∨ (∃ f xs, o = .callp f xs) ∨ kindOf o = 6 := by
 cases o <;> first | (cases hc; done) | exact .inl rfl | exact .inr (.inl ⟨_, _, rfl⟩) | exact .inr (.inr rfl)
def bare (m : Nat) : Heap := { nx := m, lo := m, tr := .lf }
theorem bare_get (m b : Nat) : (bare m).get b = .dead := by simp [bare, Heap.get, Tr.get_lf]
theorem slca_lo {n sz : Nat} {x : Opd} {lo hi mx : Option Opd} {s : Slots} {h h' : Heap} {v : V} {l : Nat} (he : op_slca n sz x lo hi mx s h = some (v, h')) : op_slca n sz x lo hi mx s { h with lo := l } = some (v, { h with lo := l }) := by
 simp only [op_slca, Bool.cond_eq_ite] at he ⊢
 split at he
 ·cases he
 ·split at he
  ·cases he
  ·split at he
   ·cases he
   ·split at he
    ·split at he
     ·rename_i c o hg
      have hg' : ({ h with lo := l } : Heap).get _ = .cells c o := hg
      rw [hg']
      simp only
      split at he
      ·cases he
      ·rename_i h1
       rw [if_neg h1]
       split at he
       ·rename_i h2
        cases he
        rw [if_pos h2]
       ·cases he
     ·cases he
    ·cases hq : takeN _ _ with
     | none => rw [hq] at he; cases he
     | some z => rw [hq] at he; cases he; rfl
    ·cases he
theorem slc_lo {sz : Nat} {x : Opd} {lo hi mx : Option Opd} {s : Slots} {h h' : Heap} {v : V} {l : Nat} (he : op_slc sz x lo hi mx s h = some (v, h')) : op_slc sz x lo hi mx s { h with lo := l } = some (v, { h with lo := l }) := by
 simp only [op_slc] at he ⊢
 obtain ⟨e1, _⟩ := map_pair he
 have : ∀ u a b c, sliceV { h with lo := l } sz u a b c = sliceV h sz u a b c := by
  intro u a b c
  unfold sliceV
  rfl
 rw [this, e1]
 rfl
theorem quiet_view {vp : Nat → Option VFn} {m : Nat} {o : VOp} {s : Slots} {h h' : Heap} {v : V} (hwf : wf h) (hk : kindOf o = 0 ∨ kindOf o = 2 ∨ kindOf o = 4) (he : stepOp vp m o s h = some (v, h')) :
  h' = h ∧ ∃ hv : Heap, hv.nx = h.nx ∧ hv.lo = h.nx ∧ (∀ b, hv.get b = .dead ∨ (View o s b ∧ hv.get b = h.get b)) ∧ stepOp vp m o s hv = some (v, hv) := by
 cases hc : isCall o with
 | true =>
  rcases kind_call hc with q | ⟨f, xs, rfl⟩ | q
  ·omega
  case inr.inr => omega
  ·obtain ⟨e1, e2⟩ := callp_same he
   exact ⟨e1, { h with lo := h.nx }, rfl, rfl, fun b => .inr ⟨.inr (.inr (.inl rfl)), rfl⟩, e2⟩
 | false =>
  obtain ⟨he', hall⟩ := stepOp_opE he hc
  rcases hk with hk | hk | hk
  ·obtain ⟨e1, e2⟩ := kind0 hk he'
   exact ⟨e1, bare h.nx, rfl, rfl, fun b => .inl (bare_get _ _), by rw [hall]; exact e2 _⟩
  ·obtain ⟨n, i, rfl⟩ := kind2_is hk
   obtain ⟨e1, ⟨b, off, e2, _, e3⟩ | ⟨e2, e3⟩⟩ := kind2 he'
   ·refine ⟨e1, (bare h.nx).set b (h.get b), rfl, rfl, fun c => ?_, ?_⟩
    ·rw [Heap.get_set]
     split
     ·rename_i e; subst e; exact .inr ⟨.inl ⟨n, i, off, rfl, e2⟩, rfl⟩
     ·exact .inl (bare_get _ _)
    ·rw [hall]
     exact e3 _ (by rw [Heap.get_set, if_pos rfl])
   ·exact ⟨e1, bare h.nx, rfl, rfl, fun b => .inl (bare_get _ _), by rw [hall]; exact e3 _⟩
  ·have e1 := kind4 hk (fun f xs q => by subst q; cases hc) he'
   refine ⟨e1, { h with lo := h.nx }, rfl, rfl, fun b => .inr ⟨.inr (.inr (.inl hk)), rfl⟩, ?_⟩
   rw [hall]
   cases o <;> simp only [kindOf] at hk <;> (try (cases hk; done))
   case callp => cases hc
   case slc sz x lo hi mx => exact slc_lo he'
   case slca n sz x lo hi mx => exact slca_lo he'
   case ld n a => cases a with
    | t i => simp [kLd] at hk
    | k u => cases u <;> simp [kLd] at hk
   case st n a x => cases a <;> simp [kSt] at hk
theorem new_view {vp : Nat → Option VFn} {m : Nat} {o : VOp} {s : Slots} {h h' : Heap} {v : V} (hk : kindOf o = 1) (he : stepOp vp m o s h = some (v, h')) :
  ∃ X, h' = h.new X ∧ stepOp vp m o s (bare h.nx) = some (v, (bare h.nx).new X) := by
 have hc : isCall o = false := by cases o <;> first | rfl | (cases hk; done)
 obtain ⟨he', hall⟩ := stepOp_opE he hc
 obtain ⟨X, e1, e2⟩ := kind1 hk he'
 exact ⟨X, e1, by rw [hall]; exact e2 _ rfl⟩
theorem own_view {vp : Nat → Option VFn} {m : Nat} {o : VOp} {s : Slots} {h h' : Heap} {v : V} (hk : kindOf o = 6) (he : stepOp vp m o s h = some (v, h')) :
  (∀ b, b < h.nx → h'.get b = h.get b) ∧ stepOp vp m o s { h with lo := h.nx } = some (v, { h' with lo := h.nx }) := by
 cases o <;> simp only [kindOf] at hk <;> (try (cases hk; done))
 case callvo f xs =>
  have e := callvo_same he
  have st := (run_step vp m).2.2.1 _ _ _ _ _ e
  exact ⟨fun b hb => st.low (Nat.le_refl _) b hb, e⟩
 case callo f xs =>
  have e := callo_same he
  have st := (run_step vp m).2.2.1 _ _ _ _ _ e
  exact ⟨fun b hb => st.low (Nat.le_refl _) b hb, e⟩
 case slc sz x lo hi mx => cases mx <;> simp [kMx] at hk
 case ld n a => cases a with
  | t i => simp [kLd] at hk
  | k u => cases u <;> simp [kLd] at hk
 case st n a x => cases a <;> simp [kSt] at hk
theorem store_view {vp : Nat → Option VFn} {m n i : Nat} {x : Opd} {s : Slots} {h h' : Heap} {v : V} (he : stepOp vp m (.st n (.t i) x) s h = some (v, h')) :
  ∃ b off, s.at i = .ptr b off ∧ ((n = 0 ∧ h' = h ∧ stepOp vp m (.st n (.t i) x) s (bare h.nx) = some (v, bare h.nx)) ∨
   (n ≠ 0 ∧ h.lo ≤ b ∧ (∃ c o, h.get b = .cells c o) ∧ ∃ y, h' = h.set b y ∧ y ≠ .dead ∧ ∀ h2 : Heap, h2.get b = h.get b → h2.lo = h.lo → stepOp vp m (.st n (.t i) x) s h2 = some (v, h2.set b y))) := by
 obtain ⟨he', hall⟩ := stepOp_opE he rfl
 obtain ⟨b, off, e1, ⟨e0, e2, e3⟩ | ⟨e0, e2, e3, y, e4, e5, e6⟩⟩ := kind3 he'
 ·exact ⟨b, off, e1, .inl ⟨e0, e2, by rw [hall]; exact e3 _⟩⟩
 ·exact ⟨b, off, e1, .inr ⟨e0, e2, e3, y, e4, e5, fun h2 q1 q2 => by rw [hall]; exact e6 h2 q1 q2⟩⟩
theorem mask_slots (s : Slots) (l : List Nat) (K : Nat) : ∃ s2 : Slots, (∀ t, t ∈ l → s2.at t = s.at t) ∧ (∀ t, t ∉ l → t < K → s2.at t = .top) ∧ (∀ t, t ∉ l → K ≤ t → s2.at t = .tup []) := by
 have base : ∀ K, ∃ s0 : Slots, (∀ t, t < K → s0.at t = .top) ∧ (∀ t, K ≤ t → s0.at t = .tup []) := by
  intro K
  induction K with
  | zero => exact ⟨.lf, fun t h => by omega, fun t _ => by simp [Slots.at, Tr.get_lf]⟩
  | succ K ih =>
   obtain ⟨s0, h1, h2⟩ := ih
   refine ⟨Tr.set s0 K .top, fun t ht => ?_, fun t ht => ?_⟩
   ·rw [Slots.at_set]
    split
    ·rfl
    ·exact h1 t (by omega)
   ·rw [Slots.at_set, if_neg (by omega)]
    exact h2 t (by omega)
 induction l with
 | nil =>
  obtain ⟨s0, h1, h2⟩ := base K
  exact ⟨s0, fun t h => by simp at h, fun t _ h => h1 t h, fun t _ h => h2 t h⟩
 | cons i l ih =>
  obtain ⟨s0, h1, h2, h3⟩ := ih
  refine ⟨Tr.set s0 i (s.at i), fun t ht => ?_, fun t ht hK => ?_, fun t ht hK => ?_⟩
  ·rw [Slots.at_set]
   split
   ·rename_i e; rw [e]
   ·rename_i e
    exact h1 t ((List.mem_cons.1 ht).resolve_left e)
  ·simp at ht
   rw [Slots.at_set, if_neg ht.1]
   exact h2 t ht.2 hK
  ·simp at ht
   rw [Slots.at_set, if_neg ht.1]
   exact h3 t ht.2 hK
def Rho.below (ρ : Rho) (m : Nat) : Rho := fun b => if b < m then ρ b else none
theorem Rho.below_some {ρ : Rho} {m b : Nat} {l : Loc} : ρ.below m b = some l ↔ b < m ∧ ρ b = some l := by
 unfold Rho.below
 by_cases h : b < m
 ·simp [h]
 ·simp [h]
theorem below_le (ρ : Rho) (m : Nat) : Rle (ρ.below m) ρ := fun b l e => (Rho.below_some.1 e).2
theorem below_mono {ρ ρ' : Rho} (h : Rle ρ ρ') {m m' : Nat} (hm : m ≤ m') : Rle (ρ.below m) (ρ'.below m') := fun b l e => by
 obtain ⟨h1, h2⟩ := Rho.below_some.1 e
 exact Rho.below_some.2 ⟨by omega, h b l h2⟩
end Go.VE
end
section
namespace Go.VE

inductive Eff where
  | none
  | new (x : Blk)
  | set (b : Nat) (x : Blk)
  | kn (b : Nat) (x : Blk)
def Eff.app (h : Heap) : Eff → Heap
  | .none => h
  | .new x => h.new x
  | .set b x => h.set b x
  | .kn b x => (h.set b .dead).new x
def Eff.old : Eff → Nat → Prop
  | .none, _ => False
  | .new _, _ => False
  | .set b _, c => c = b
  | .kn b _, c => c = b
def Eff.made : Eff → Nat
  | .none => 0
  | .new _ => 1
  | .set _ _ => 0
  | .kn _ _ => 1

theorem Eff.nx (F : Eff) (h : Heap) : (F.app h).nx = h.nx + F.made := by cases F <;> simp [Eff.app, Eff.made]
theorem Eff.lo (F : Eff) (h : Heap) : (F.app h).lo = h.lo := by cases F <;> simp [Eff.app]
theorem Eff.out (F : Eff) (h : Heap) (c : Nat) (hc : c < h.nx) (ho : ¬ F.old c) : (F.app h).get c = h.get c := by
  cases F with
  | none => rfl
  | new x => simp only [Eff.app]; rw [Heap.get_new, if_neg (by omega)]
  | set b x => simp only [Eff.app, Eff.old] at ho ⊢; rw [Heap.get_set, if_neg ho]
  | kn b x => simp only [Eff.app, Eff.old] at ho ⊢; rw [Heap.get_new, Heap.get_set, if_neg (by simp; omega), if_neg ho]
theorem Eff.inn (F : Eff) (h h2 : Heap) (hn : h2.nx = h.nx) (hf : ∀ c, h.nx ≤ c → h2.get c = h.get c) (c : Nat) (ho : h.nx ≤ c ∨ F.old c) : (F.app h2).get c = (F.app h).get c := by
  cases F with
  | none => rcases ho with ho | ho
            · exact hf c ho
            · exact absurd ho id
  | new x =>
    simp only [Eff.app, Eff.old] at ho ⊢
    rw [Heap.get_new, Heap.get_new, hn]
    split
    · rfl
    · rcases ho with ho | ho
      · exact hf c ho
      · exact absurd ho id
  | set b x =>
    simp only [Eff.app, Eff.old] at ho ⊢
    rw [Heap.get_set, Heap.get_set]
    split
    · rfl
    · rcases ho with ho | ho
      · exact hf c ho
      · contradiction
  | kn b x =>
    simp only [Eff.app, Eff.old] at ho ⊢
    rw [Heap.get_new, Heap.get_new, Heap.get_set, Heap.get_set, Heap.nx_set, Heap.nx_set, hn]
    split
    · rfl
    · split
      · rfl
      · rcases ho with ho | ho
        · exact hf c ho
        · contradiction

def blkOf (h : Heap) (s : V) : Blk :=
  match s with
  | .sl b _ _ _ _ => h.get b
  | _ => .dead

def appendF (hnx hlo : Nat) (blk : Blk) (sz bytes : Nat) (s : V) (n : Nat) (new : List V) : Option (V × Eff) :=
  match n with
  | 0 => match s with
    | .nils | .sl .. | .isl .. => some (s, .none)
    | _ => none
  | _ =>
  match s with
  | .nils => bif Nat.blt 140737488355328 (n * bytes) then none else some (.sl hnx 0 n n sz, .new (.cells new .op))
  | .isl cs len (some c) =>
    bif Nat.ble (len + n) c then none else bif Nat.blt 140737488355328 ((len + n) * bytes) then none else
    bif Nat.beq cs.length (len * sz) then some (.sl hnx 0 (len + n) (len + n) sz, .new (.cells (cs ++ new) .op)) else none
  | .sl b off len cap sz' => bif Nat.beq sz sz' then match blk with
    | .cells c o =>
      bif Nat.ble (len + n) cap then
        bif Nat.blt b hlo then none else match over (off + len * sz) c new with
          | some c' => some (.sl b off (len + n) cap sz, .set b (.cells c' o))
          | none => none
      else bif Nat.blt 140737488355328 ((len + n) * bytes) then none else
      match takeN (len * sz) (c.drop off) with
      | none => none
      | some old =>
        bif o.opn && Nat.beq (off + cap * sz) c.length then
          bif Nat.blt b hlo || !(new.all oneCell) then none else some (.sl hnx 0 (len + n) (len + n) sz, .kn b (.cells (old ++ new) .op))
        else some (.sl hnx 0 (len + n) (len + n) sz, .new (.cells (old ++ new) .op))
    | _ => none
    else none
  | _ => none

theorem appendV_eq (h : Heap) (sz bytes : Nat) (s : V) (n : Nat) (new : List V) : appendV h none sz bytes s n new = (appendF h.nx h.lo (blkOf h s) sz bytes s n new).map fun p => (p.1, p.2.app h) := by
  cases n with
  | zero => cases s <;> rfl
  | succ n =>
    cases s with
    | nils => simp only [appendV, appendF, Bool.cond_eq_ite]; split <;> rfl
    | isl cs len cap =>
      cases cap with
      | none => rfl
      | some c =>
        simp only [appendV, appendF, Bool.cond_eq_ite]
        split
        · rfl
        · split
          · rfl
          · split <;> rfl
    | sl b off len cap sz' =>
      simp only [appendV, appendF, blkOf, Bool.cond_eq_ite]
      split
      · cases hb : h.get b with
        | cells c o =>
          simp only
          split
          · split
            · rfl
            · cases over (off + len * sz) c new <;> rfl
          · split
            · rfl
            · cases takeN (len * sz) (c.drop off) with
              | none => rfl
              | some old =>
                simp only
                split
                · split <;> rfl
                · rfl
        | _ => rfl
      · rfl
    | _ => rfl

theorem appendF_old {hnx hlo : Nat} {blk : Blk} {sz bytes n : Nat} {s v : V} {new : List V} {F : Eff} (h : appendF hnx hlo blk sz bytes s n new = some (v, F)) {c : Nat} (hc : F.old c) : ∃ off len cap sz', s = .sl c off len cap sz' := by
  cases n with
  | zero => cases s <;> simp [appendF] at h <;> (obtain ⟨_, rfl⟩ := h; exact absurd hc id)
  | succ n =>
    cases s with
    | nils =>
      simp only [appendF, Bool.cond_eq_ite] at h
      split at h
      · cases h
      · cases h; exact absurd hc id
    | isl cs len cap =>
      cases cap with
      | none => cases h
      | some k =>
        simp only [appendF, Bool.cond_eq_ite] at h
        split at h
        · cases h
        · split at h
          · cases h
          · split at h
            · cases h; exact absurd hc id
            · cases h
    | sl b off len cap sz' =>
      simp only [appendF, Bool.cond_eq_ite] at h
      split at h
      · split at h
        · split at h
          · split at h
            · cases h
            · split at h
              · cases h
                simp only [Eff.old] at hc
                subst hc
                exact ⟨_, _, _, _, rfl⟩
              · cases h
          · split at h
            · cases h
            · split at h
              · cases h
              · split at h
                · split at h
                  · cases h
                  · cases h
                    simp only [Eff.old] at hc
                    subst hc
                    exact ⟨_, _, _, _, rfl⟩
                · cases h; exact absurd hc id
        · cases h
      · cases h
    | _ => cases h

theorem append_local {h h' : Heap} {sz bytes n : Nat} {s v : V} {new : List V} (he : appendV h none sz bytes s n new = some (v, h')) :
    ∃ F : Eff, h' = F.app h ∧ (∀ c, F.old c → ∃ off len cap sz', s = .sl c off len cap sz') ∧
      ∀ h2 : Heap, h2.nx = h.nx → h2.lo = h.lo → (∀ b off len cap sz', s = .sl b off len cap sz' → h2.get b = h.get b) → appendV h2 none sz bytes s n new = some (v, F.app h2) := by
  rw [appendV_eq] at he
  cases hF : appendF h.nx h.lo (blkOf h s) sz bytes s n new with
  | none => rw [hF] at he; cases he
  | some p =>
    obtain ⟨v', F⟩ := p
    rw [hF] at he
    cases he
    refine ⟨F, rfl, fun c hc => appendF_old hF hc, fun h2 h1 h3 h4 => ?_⟩
    have hb : blkOf h2 s = blkOf h s := by
      cases s with
      | sl b off len cap sz' => exact h4 b off len cap sz' rfl
      | _ => rfl
    rw [appendV_eq, h1, h3, hb, hF]
    rfl

theorem app_step {sz bytes : Nat} {a x : Opd} {s : Slots} {h h' : Heap} {v : V} (he : opE (.app sz bytes a x) s h = some (v, h')) :
    ∃ n cs F, lenOf (x.ev s) = some n ∧ rowOf h sz (x.ev s) = some cs ∧ h' = Eff.app h F ∧ (∀ c, F.old c → ∃ off len cap sz', a.ev s = .sl c off len cap sz') ∧
      ∀ h2 : Heap, h2.nx = h.nx → h2.lo = h.lo → (∀ b off len cap sz', a.ev s = .sl b off len cap sz' → h2.get b = h.get b) → appendV h2 none sz bytes (a.ev s) n cs = some (v, F.app h2) := by
  simp only [opE, op_app] at he
  split at he
  · rename_i n cs e1 e2
    obtain ⟨F, k1, k2, k3⟩ := append_local he
    exact ⟨n, cs, F, e1, e2, k1, k2, k3⟩
  · cases he

section
variable {P : Program} {gl : Nat → Option (List V)} {pu : Nat → Nat} {N B : Nat} {M : Mem} {ρ : Rho} {h : Heap} {w : World} {s : Slots} {a : Act}

theorem app_inv {o : Oper} {sz bytes : Nat} {s' x' : Opd} (hc : compOp P gl pu o = some (.app sz bytes s' x')) :
    ∃ c x y t u e e' i zl, o.op = .call c ∧ c.callee = .builtin .append ∧ c.args.toList = [x, y] ∧ c.argTypes.toList = [t, u] ∧ P.underlying t = some (.slice e) ∧ P.underlying u = some (.slice e') ∧ P.info? e = some i ∧ zeroOf P e = some zl ∧ zl.length ≠ 0 ∧ i.bytes ≠ 0 ∧
      opd gl x = some s' ∧ opd gl y = some x' ∧ sz = i.size ∧ bytes = i.bytes := by
  have hcall : ∃ c, o.op = .call c ∧ compCall P gl pu c = some (.app sz bytes s' x') := by
    unfold compOp at hc
    split at hc
    case h_23 c ho => exact ⟨c, ho, hc⟩
    all_goals
      exfalso
      repeat' split at hc
      all_goals first
        | (cases hc; done)
        | (obtain ⟨_, _, e⟩ := map_some hc; cases e; done)
        | (obtain ⟨_, _, e⟩ := negOf_spec hc; cases e; done)
  obtain ⟨c, ho, hc⟩ := hcall
  unfold compCall at hc
  split at hc
  · exfalso
    split at hc
    · split at hc
      · split at hc
        · split at hc
          · cases hc
          · have := congrArg isCall (Option.some.inj hc)
            rw [isCall_callAs] at this
            cases this
        · repeat' split at hc
          all_goals (cases hc; done)
      · cases hc
    · obtain ⟨_, _, e⟩ := map_some hc
      rw [Bool.cond_eq_ite] at e
      split at e <;> cases e
  · rename_i b as e1 e2
    split at hc
    case h_2 =>
      rename_i sl x t u e3
      obtain ⟨x0, y0, hx, ex, ey⟩ := opds2 e2
      split at hc
      · rename_i el ht
        split at hc
        · rename_i i z el' hi hz hu
          split at hc
          · cases hc
          · rename_i hn
            cases hc
            exact ⟨c, x0, y0, t, u, el, el', i, z, ho, e1, hx, e3, ht, hu, hi, hz, fun q => hn (.inl q), fun q => hn (.inr q), ex, ey, rfl, rfl⟩
        · cases hc
      · cases hc
    all_goals
      exfalso
      repeat' split at hc
      all_goals first
        | (cases hc; done)
        | (obtain ⟨_, _, e⟩ := map_some hc; cases e; done)
  · cases hc

theorem app_sim2 {hx hv hv' : Heap} (hhx : HRel P gl B M ρ hx w) (hh : HRel P gl B M ρ hv w) (hs : SRel M ρ N s a.tmps) {o : Oper} {sz bytes : Nat} {s' x' : Opd} (hc : compOp P gl pu o = some (.app sz bytes s' x')) {n : Nat} {cs : List V}
    (hn : lenOf (x'.ev s) = some n) (hcs : rowOf hx sz (x'.ev s) = some cs) {v : V} (he : appendV hv none sz bytes (s'.ev s) n cs = some (v, hv')) :
    Good P gl B M ρ hv w v hv' ((execOp a.eval o).run P w) := by
  obtain ⟨c, x, y, t, u, e, e', i, zl, ho, hca, hxy, hty, ht, hu, hi, hz, h0, hb0, e1, e2, rfl, rfl⟩ := app_inv hc
  have hX := opd_rel hh hs e1
  have hY := opd_rel hhx hs e2
  obtain ⟨i', zv, q1, q2, q3, q4, q5⟩ := zeroOf_spec hz
  rw [hi] at q1
  cases q1
  obtain ⟨consts, hrun⟩ := builtin_run (a := a) ho hca
  rw [hrun, args2 hxy, arr2 hty]
  obtain ⟨ys, n1, n2⟩ := slice_cells (sz := i.size) hhx hY hcs hn
  obtain ⟨ρ', w', z, k1, k2, k3, k4⟩ := append_sim (ty := o.type) hh ht hi q2 (by omega) (by omega) hb0 hX (.inl ⟨.inr ⟨_, hu⟩, n1⟩) n2 (rowOf_len hcs hn) (fun _ q => by cases q) he
  exact ⟨ρ', w', z, k1, k2, k3, .inl (by simp [Go.builtin, k4])⟩
end
end Go.VE
end

