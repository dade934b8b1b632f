/- A part of a proof that a small evaluator of the translated code agrees with the model (part Draw1). No statement of the program stands here. -/
import Derived.Test.YtocgoabopiikoaaGreatDoorVeSound4
set_option linter.all false
namespace Go.VE

-- ------------------------------------------------------------------ what the check of a drawn region says

theorem memN_iff {t : Nat} {l : List Nat} : memN t l = true ↔ t ∈ l := by
  induction l with
  | nil => simp [memN]
  | cons x r ih =>
    simp only [memN, beq_dec, Bool.cond_eq_ite, List.mem_cons]
    by_cases h : x = t
    · simp [h]
    · simp [h, ih, Ne.symm h]
theorem memP_iff {a b : Nat} {l : List (Nat × Nat)} (h : memP a b l = true) : (a, b) ∈ l := by
  induction l with
  | nil => simp [memP] at h
  | cons x r ih =>
    simp only [memP, beq_dec, Bool.cond_eq_ite] at h
    split at h
    · rename_i q
      simp at q
      obtain ⟨x1, x2⟩ := x
      simp at q
      simp [q.1, q.2]
    · exact List.mem_cons_of_mem _ (ih h)
theorem sameDst_iff {a b : Option Nat} : sameDst a b = true ↔ ∃ d, a = some d ∧ b = some d := by
  cases a <;> cases b <;> simp [sameDst, beq_dec]
  exact eq_comm
theorem noDst_spec {t : Nat} : ∀ {l : List VOper}, noDst t l = true → ∀ o ∈ l, o.dst ≠ some t
  | [], _, o, ho => by simp at ho
  | x :: r, h, o, ho => by
    simp only [noDst, Bool.cond_eq_ite] at h
    split at h
    · cases h
    · rename_i hx
      rcases List.mem_cons.1 ho with rfl | ho
      · intro q
        exact hx (sameDst_iff.2 ⟨t, q, rfl⟩)
      · exact noDst_spec h o ho

structure Apart (x y : VOper) : Prop where
  xy : ∀ d, x.dst = some d → d ∉ y.reads
  same : ∀ d, x.dst = some d → y.dst ≠ some d
  yx : ∀ d, y.dst = some d → d ∉ x.reads
theorem apartOps_spec {x y : VOper} (h : apartOps x y = true) : Apart x y := by
  simp only [apartOps, Bool.and_eq_true, Bool.not_eq_true'] at h
  obtain ⟨⟨h1, h2⟩, h3⟩ := h
  refine ⟨fun d hd hm => ?_, fun d hd hy => ?_, fun d hd hm => ?_⟩
  · rw [hd] at h1
    simp only [dstIn] at h1
    rw [memN_iff.2 hm] at h1
    cases h1
  · rw [sameDst_iff.2 ⟨d, hd, hy⟩] at h2
    cases h2
  · rw [hd] at h3
    simp only [dstIn] at h3
    rw [memN_iff.2 hm] at h3
    cases h3
theorem Apart.symm {x y : VOper} (h : Apart x y) : Apart y x := ⟨h.yx, fun d hd hy => h.same d hy hd, h.xy⟩

/-- number i of the list, the first one, and number j may come in either order -/
structure Pair (chk : List (Nat × Nat)) (ys : List VOper) (i j : Nat) (x y : VOper) : Prop where
  apart : Apart x y
  kind : compatK (kindOf x.op) (kindOf y.op) = true ∨ ∃ n a m b z, x.op = .ld n (.t a) ∧ y.op = .st m (.t b) z ∧ (a, b) ∈ chk ∧ (∀ (k : Nat) o, i ≤ k → ys[k]? = some o → o.dst ≠ some a) ∧ (∀ (k : Nat) o, j ≤ k → ys[k]? = some o → o.dst ≠ some b)

theorem ldst_spec {x y : VOp} {p : Nat × Nat} (h : ldst x y = some p) : ∃ n m z, x = .ld n (.t p.1) ∧ y = .st m (.t p.2) z := by
  unfold ldst at h
  split at h
  · cases h; exact ⟨_, _, _, rfl, rfl⟩
  · cases h

theorem pairOk_spec {chk : List (Nat × Nat)} {x y : VOper} {xs rest : List VOper} (h : pairOk chk x y xs rest = true) {ys : List VOper} {i j : Nat} (hsplit : ys.drop i = xs ++ rest) (hj : ys.drop j = rest) : Pair chk ys i j x y := by
  unfold pairOk at h
  simp only [Bool.cond_eq_ite] at h
  split at h
  · rename_i hap
    refine ⟨apartOps_spec hap, ?_⟩
    split at h
    · rename_i hk; exact .inl hk
    · right
      split at h
      · rename_i a b hl
        obtain ⟨n, m, z, e1, e2⟩ := ldst_spec hl
        simp only [Bool.and_eq_true] at h
        obtain ⟨⟨⟨h1, h2⟩, h3⟩, h4⟩ := h
        refine ⟨n, a, m, b, z, e1, e2, memP_iff h1, fun k o hk ho => ?_, fun k o hk ho => ?_⟩
        · have : o ∈ ys.drop i := List.mem_of_getElem? (i := k - i) (by rw [List.getElem?_drop, Nat.add_sub_cancel' hk]; exact ho)
          rw [hsplit] at this
          rcases List.mem_append.1 this with q | q
          · exact noDst_spec h2 o q
          · exact noDst_spec h3 o q
        · have : o ∈ ys.drop j := List.mem_of_getElem? (i := k - j) (by rw [List.getElem?_drop, Nat.add_sub_cancel' hk]; exact ho)
          rw [hj] at this
          exact noDst_spec h4 o this
      · cases h
  · cases h

theorem okAgainst_spec {chk : List (Nat × Nat)} {y : VOper} {rest ys : List VOper} {j : Nat} (hj : ys.drop j = rest) : ∀ (xs : List VOper) (m i : Nat), okAgainst chk y rest m xs = true → ys.drop i = xs ++ rest →
    ∀ (k : Nat) x, xs[k]? = some x → m.testBit k = true ∨ Pair chk ys (i + k) j x y
  | [], m, i, _, _, k, x, hx => by simp at hx
  | x0 :: xs, m, i, h, hs, k, x, hx => by
    have hs' : ys.drop (i + 1) = xs ++ rest := by
      rw [← List.drop_drop, hs]
      rfl
    have hrec : okAgainst chk y rest (m / 2) xs = true := by
      simp only [okAgainst, Bool.cond_eq_ite] at h
      split at h
      · exact h
      · split at h
        · exact h
        · cases h
    cases k with
    | zero =>
      simp at hx
      subst hx
      simp only [okAgainst, Bool.cond_eq_ite, beq_dec] at h
      split at h
      · rename_i hm
        left
        simp at hm
        simp [Nat.testBit_zero, hm]
      · split at h
        · rename_i hp
          exact .inr (pairOk_spec hp hs hj)
        · cases h
    | succ k =>
      rcases okAgainst_spec hj xs (m / 2) (i + 1) hrec hs' k x (by simpa using hx) with q | q
      · left
        rw [Nat.testBit_succ]
        exact q
      · right
        rw [show i + (k + 1) = i + 1 + k by omega]
        exact q

/-- Whatever set holds, with each, those that its edges name: if it holds j, it holds i. -/
def Closed (ops : Array Oper) (E : Nat → Prop) : Prop := ∀ (k : Nat) o, ops[k]? = some o → E k → ∀ e ∈ o.after, Region.binds .any e = true → E e.on
def Dep (ops : Array Oper) (i j : Nat) : Prop := ∀ E : Nat → Prop, Closed ops E → E j → E i

theorem maskOf_spec {ops : Array Oper} {masks : List Nat} (hm : ∀ (k m : Nat), masks[k]? = some m → ∀ i, m.testBit i = true → Dep ops i k) : ∀ (es : List Edge) (m : Nat), maskOf masks es = some m →
    (∀ e ∈ es, Region.binds .any e = true → e.on < masks.length) ∧ ∀ i, m.testBit i = true → ∀ E, Closed ops E → (∀ e ∈ es, Region.binds .any e = true → E e.on) → E i
  | [], m, h => by
    cases h
    exact ⟨fun e he => by simp at he, fun i hi => by simp at hi⟩
  | e :: es, m, h => by
    unfold maskOf at h
    split at h
    · cases h
    · rename_i m' hm'
      obtain ⟨k1, k2⟩ := maskOf_spec hm es m' hm'
      have weak : ∀ i, m'.testBit i = true → ∀ E, Closed ops E → (∀ e' ∈ e :: es, Region.binds .any e' = true → E e'.on) → E i :=
        fun i hi E hE he => k2 i hi E hE (fun e' h' => he e' (List.mem_cons_of_mem _ h'))
      split at h
      · rename_i hg
        cases h
        refine ⟨fun e' he' hb => ?_, weak⟩
        rcases List.mem_cons.1 he' with rfl | he'
        · simp [Region.binds, hg] at hb
        · exact k1 e' he' hb
      · rename_i hg
        cases h
        refine ⟨fun e' he' hb => ?_, weak⟩
        rcases List.mem_cons.1 he' with rfl | he'
        · simp [Region.binds, hg] at hb
        · exact k1 e' he' hb
      · rename_i n1 n2
        have hb : Region.binds .any e = true := by
          unfold Region.binds
          split
          · rename_i q; exact absurd q (n1 _)
          · rename_i q; exact absurd q (n2 _)
          · rfl
        split at h
        · rename_i k hk
          cases h
          have hlt : e.on < masks.length := (List.getElem?_eq_some_iff.1 hk).1
          refine ⟨fun e' he' hb' => ?_, fun i hi E hE he => ?_⟩
          · rcases List.mem_cons.1 he' with rfl | he'
            · exact hlt
            · exact k1 e' he' hb'
          · rw [Nat.testBit_or, Nat.testBit_or, Bool.or_eq_true, Bool.or_eq_true] at hi
            have hon := he e (by simp) hb
            rcases hi with hi | hi | hi
            · exact weak i hi E hE he
            · have : e.on = i := by
                rw [Nat.testBit_shiftLeft] at hi
                simp only [Bool.and_eq_true, decide_eq_true_eq, Nat.testBit_one_eq_true_iff_self_eq_zero] at hi
                omega
              rw [← this]
              exact hon
            · exact hm e.on k hk i hi E hE hon
        · cases h

theorem dregGo_spec {ops : Array Oper} {chk : List (Nat × Nat)} {ys : List VOper} : ∀ (os : List Oper) (rest done : List VOper) (masks : List Nat), dregGo chk done masks os rest = true → ys = done ++ rest → masks.length = done.length →
    (∀ j : Nat, os[j]? = ops[done.length + j]?) → (∀ (k m : Nat), masks[k]? = some m → ∀ i, m.testBit i = true → Dep ops i k) →
    (∀ (j : Nat) o, done.length ≤ j → ops[j]? = some o → ∀ e ∈ o.after, Region.binds .any e = true → e.on < j) ∧
    ∀ (i j : Nat) x y, done.length ≤ j → i < j → ys[i]? = some x → ys[j]? = some y → Dep ops i j ∨ Pair chk ys i j x y
  | [], [], done, masks, _, hys, _, hops, _ => by
    constructor
    · intro j o hj ho
      have := hops (j - done.length)
      rw [Nat.add_sub_cancel' hj, ho] at this
      simp at this
    · intro i j x y hj hij hx hy
      rw [hys, List.append_nil] at hy
      have := (List.getElem?_eq_some_iff.1 hy).1
      omega
  | [], y :: rest, done, masks, h, _, _, _, _ => by simp [dregGo] at h
  | o :: os, [], done, masks, h, _, _, _, _ => by simp [dregGo] at h
  | o :: os, y0 :: rest, done, masks, h, hys, hlen, hops, hm => by
    simp only [dregGo] at h
    have h0 : ops[done.length]? = some o := by simpa using (hops 0).symm
    split at h
    · cases h
    · rename_i m hmask
      simp only [Bool.cond_eq_ite] at h
      split at h
      · rename_i hok
        obtain ⟨b1, b2⟩ := maskOf_spec hm o.after.toList m hmask
        have hdep : ∀ i, m.testBit i = true → Dep ops i done.length := fun i hi E hE hEj =>
          b2 i hi E hE (fun e he hb => hE done.length o h0 hEj e (Array.mem_toList_iff.1 he) hb)
        obtain ⟨c1, c2⟩ := dregGo_spec (ops := ops) (ys := ys) os rest (done ++ [y0]) (masks ++ [m]) h (by simp [hys]) (by simp [hlen])
          (fun j => by have := hops (j + 1); simpa [Nat.add_assoc, Nat.add_comm 1 j] using this)
          (fun k m' hk => by
            by_cases hk' : k < masks.length
            · rw [List.getElem?_append_left hk'] at hk
              exact hm k m' hk
            · have : k = done.length := by
                have := (List.getElem?_eq_some_iff.1 hk).1
                simp at this
                omega
              subst this
              rw [List.getElem?_append_right (by omega), hlen] at hk
              simp at hk
              subst hk
              exact hdep)
        constructor
        · intro j o' hj ho e he hb
          by_cases hjd : j = done.length
          · subst hjd
            rw [h0] at ho
            cases ho
            have := b1 e (Array.mem_toList_iff.2 he) hb
            omega
          · exact c1 j o' (by simp; omega) ho e he hb
        · intro i j x y hj hij hx hy
          by_cases hjd : j = done.length
          · subst hjd
            have hy0 : y = y0 := by
              rw [hys, List.getElem?_append_right (Nat.le_refl _)] at hy
              simpa using hy.symm
            subst hy0
            have hx' : done[i]? = some x := by
              rw [hys, List.getElem?_append_left hij] at hx
              exact hx
            rcases okAgainst_spec (ys := ys) (j := done.length) (by rw [hys]; simp) done m 0 hok (by rw [hys]; simp) i x hx' with q | q
            · exact .inl (hdep i q)
            · right
              simpa using q
          · exact c2 i j x y (by simp; omega) hij hx hy
      · cases h
end Go.VE
