/- A part of a proof that a small evaluator of the translated code agrees with the model (part Sim5). No statement of the program stands here. -/
import Derived.Test.YtocgoabopiikoaaGreatDoorVeSim4
set_option linter.all false
namespace Go.VE
section
variable {P : Program} {gl : Nat → Option (List V)} {N B : Nat} {M : Mem} {ρ : Rho} {h : Heap} {w : World} {s : Slots} {a : Act}

def aggT (P : Program) (t : TypeId) : Bool :=
  match P.underlying t with
  | some d => aggD d
  | none => false

def valOf (P : Program) (t : TypeId) (xs : List Value) : Value := if aggT P t then .agg xs.toArray else xs.headD undef

theorem part_run {t : TypeId} {d : TypeDesc} (ht : P.underlying t = some d) {n : Nat} (hn : szOf P t = some n) {cs : Array Value} {off : Nat} (hfit : off + n ≤ cs.size) (h1 : aggT P t = false → n = 1) :
    (Go.part t cs off).run P w = .ok (valOf P t ((cs.toList.drop off).take n)) w := by
  obtain ⟨i, hi, rfl⟩ := szOf_spec hn
  have ha : aggT P t = aggD d := by simp [aggT, ht]
  simp only [Go.part, Sem.run_bind, isAgg_run ht, Result.andThen_ok, valOf, ha]
  cases q : aggD d with
  | true =>
    simp only [if_true, Sem.run_bind, sizeOf, typeInfo, run_program, Result.andThen_ok, hi, Sem.run_pure]
    congr 2
    apply Array.ext'
    simp [Array.toList_extract]
  | false =>
    have h1' := h1 (by rw [ha]; exact q)
    have hlt : off < cs.size := by omega
    simp only [Bool.false_eq_true, if_false, h1']
    rw [Array.getElem?_eq_getElem hlt]
    simp only [Sem.run_pure]
    congr 1
    rw [List.take_one, List.head?_drop]
    simp [hlt]

theorem eqCells_append : ∀ {k1 k2 : List Nat} {u1 u2 v1 v2 : List V} {b : Bool}, u1.length = k1.length → v1.length = k1.length → eqCells (k1 ++ k2) (u1 ++ u2) (v1 ++ v2) = some b →
    ∃ b1, eqCells k1 u1 v1 = some b1 ∧ (b1 = false → b = false) ∧ (b1 = true → eqCells k2 u2 v2 = some b)
  | [], k2, u1, u2, v1, v2, b, h1, h2, h => by
    cases u1 <;> cases v1 <;> simp_all [eqCells]
  | k :: k1, k2, [], u2, v1, v2, b, h1, h2, h => by simp at h1
  | k :: k1, k2, u :: u1, u2, [], v2, b, h1, h2, h => by simp at h2
  | k :: k1, k2, u :: u1, u2, v :: v1, v2, b, h1, h2, h => by
    cases q : eqK k u v with
    | none => simp [eqCells, q] at h
    | some r =>
      cases r with
      | true =>
        simp only [List.cons_append, eqCells, q] at h ⊢
        exact eqCells_append (by simpa using h1) (by simpa using h2) h
      | false =>
        simp only [List.cons_append, eqCells, q, Option.some.injEq] at h ⊢
        exact ⟨false, rfl, fun _ => h.symm, fun q => by cases q⟩

/-- What '==' answers at a type, of values whose cells are related. -/
def FlatEq (P : Program) (M : Mem) (ρ : Rho) (m : Nat) (t : TypeId) (ks : List Nat) : Prop :=
  ∀ (xs ys : List Value) (us vs : List V) (b : Bool) (w : World), VRels M ρ us xs → VRels M ρ vs ys → us.length = ks.length → vs.length = ks.length → xs.length = ks.length → ys.length = ks.length →
    eqCells ks us vs = some b → (Op.equalIn m t (valOf P t xs) (valOf P t ys)).run P w = .ok b w

theorem split_at {us : List V} {n m : Nat} (h : us.length = n + m) : us = us.take n ++ us.drop n ∧ (us.take n).length = n ∧ (us.drop n).length = m :=
  ⟨(List.take_append_drop n us).symm, by simp; omega, by simp; omega⟩

theorem VRels.split {us : List V} {xs : List Value} (n : Nat) (h : VRels M ρ us xs) : VRels M ρ (us.take n) (xs.take n) ∧ VRels M ρ (us.drop n) (xs.drop n) := by
  refine ⟨?_, VRels.drop n h⟩
  induction n generalizing us xs with
  | zero => simp [VRels.nil]
  | succ n ih =>
    cases us with
    | nil => simp [VRels.nil]
    | cons u us =>
      obtain ⟨x, ys, rfl, h1, h2⟩ := VRels.cons_iff.1 h
      simp only [List.take_succ_cons]
      exact VRels.cons_iff.2 ⟨x, _, rfl, h1, ih h2⟩

theorem plain_scalar {d : Nat} {t : TypeId} {ks : List Nat} (hp : plainK P d t = some ks) : aggT P t = false → ks.length = 1 := by
  cases d with
  | zero => simp [plainK] at hp
  | succ d =>
    intro ha
    unfold aggT at ha
    simp only [plainK] at hp
    split at hp <;> first
      | (cases hp; rfl)
      | (rename_i q; rw [q] at ha; simp [aggD] at ha; done)
      | cases hp

theorem plain_under {d : Nat} {t : TypeId} {ks : List Nat} (hp : plainK P d t = some ks) : ∃ e, P.underlying t = some e := by
  cases d with
  | zero => simp [plainK] at hp
  | succ d =>
    simp only [plainK] at hp
    split at hp <;> first
      | (rename_i q; exact ⟨_, q⟩)
      | (rename_i q _; exact ⟨_, q⟩)
      | cases hp

theorem fields_flat {d m : Nat} (ih : ∀ t ks, plainK P d t = some ks → FlatEq P M ρ m t ks) {X Y : Array Value} : ∀ (fs : List Field) (off : Nat) (ks : List Nat), plainFs P (plainK P d) off fs = some ks →
    ∀ (us vs : List V) (b : Bool) (w : World), VRels M ρ us (X.toList.drop off) → VRels M ρ vs (Y.toList.drop off) → us.length = ks.length → vs.length = ks.length →
      off + ks.length ≤ X.size → off + ks.length ≤ Y.size → eqCells ks us vs = some b → (Op.eqFields m X Y fs).run P w = .ok b w
  | [], off, ks, hp, us, vs, b, w, hu, hv, l1, l2, s1, s2, he => by
    simp [plainFs] at hp
    subst hp
    cases us <;> cases vs <;> simp_all [eqCells, Op.eqFields]
  | f :: fs, off, ks, hp, us, vs, b, w, hu, hv, l1, l2, s1, s2, he => by
    simp only [plainFs] at hp
    split at hp
    · rename_i hf
      split at hp
      · rename_i l n hl hn
        split at hp
        · rename_i hln
          cases q : plainFs P (plainK P d) (off + n) fs with
          | none => simp [q] at hp
          | some r =>
            simp only [q, Option.map_some, Option.some.injEq] at hp
            subst hp
            simp only [List.length_append] at l1 l2 s1 s2
            obtain ⟨eu, au, bu⟩ := split_at l1
            obtain ⟨ev, av, bv⟩ := split_at l2
            rw [eu, ev] at he
            obtain ⟨b1, c1, c2, c3⟩ := eqCells_append au av he
            obtain ⟨hu1, hu2⟩ := VRels.split l.length hu
            obtain ⟨hv1, hv2⟩ := VRels.split l.length hv
            obtain ⟨e', hun⟩ := plain_under hl
            have hsc := plain_scalar hl
            have px := part_run (w := w) hun hn (cs := X) (off := off) (by omega) (fun q => by have := hsc q; omega)
            have py := part_run (w := w) hun hn (cs := Y) (off := off) (by omega) (fun q => by have := hsc q; omega)
            have hq := ih f.type l hl ((X.toList.drop off).take n) ((Y.toList.drop off).take n) _ _ b1 w (by rw [← hln]; exact hu1) (by rw [← hln]; exact hv1) au av (by simp; omega) (by simp; omega) c1
            simp only [Op.eqFields, hf.1, ne_eq, not_false_eq_true, if_true, Sem.run_bind, hf.2, px, py, Result.andThen_ok, hq]
            cases b1 with
            | false => simp [c2 rfl]
            | true =>
              simp only [Bool.not_true, Bool.false_eq_true, if_false]
              refine fields_flat ih fs (off + n) r q _ _ b w ?_ ?_ bu bv (by omega) (by omega) (c3 rfl)
              · rw [← hln, ← List.drop_drop]; exact hu2
              · rw [← hln, ← List.drop_drop]; exact hv2
        · cases hp
      · cases hp
    · cases hp

theorem array_loop {m : Nat} {e : TypeId} {l : List Nat} (ihe : FlatEq P M ρ m e l) {d' : TypeDesc} (hun : P.underlying e = some d') (hn : szOf P e = some l.length) (hsc : aggT P e = false → l.length = 1) {X Y : Array Value} :
    ∀ (k i : Nat) (us vs : List V) (b : Bool) (w : World), VRels M ρ us (X.toList.drop (i * l.length)) → VRels M ρ vs (Y.toList.drop (i * l.length)) → us.length = k * l.length → vs.length = k * l.length →
      (i + k) * l.length ≤ X.size → (i + k) * l.length ≤ Y.size → eqCells ((List.replicate k l).flatten) us vs = some b →
      (forIn (List.range' i k 1) ((none, ()) : Option Bool × Unit) (fun j (_ : Option Bool × Unit) => (do
        let x ← Go.part e X (j * l.length)
        let y ← Go.part e Y (j * l.length)
        let r ← Op.equalIn m e x y
        if (!r) = true then pure (ForInStep.done (some false, ())) else pure (ForInStep.yield (none, ())) : Sem (ForInStep (Option Bool × Unit))))).run P w
        = .ok (if b then (none, ()) else (some false, ())) w
  | 0, i, us, vs, b, w, hu, hv, l1, l2, s1, s2, he => by
    have : us = [] := List.eq_nil_of_length_eq_zero (by simpa using l1)
    subst this
    have : vs = [] := List.eq_nil_of_length_eq_zero (by simpa using l2)
    subst this
    simp [eqCells] at he
    subst he
    simp
  | k + 1, i, us, vs, b, w, hu, hv, l1, l2, s1, s2, he => by
    have l1' : us.length = l.length + k * l.length := by rw [l1, Nat.add_mul]; omega
    have l2' : vs.length = l.length + k * l.length := by rw [l2, Nat.add_mul]; omega
    have s1' : i * l.length + l.length ≤ X.size := by
      have : (i + (k + 1)) * l.length = i * l.length + l.length + k * l.length := by rw [Nat.add_mul, Nat.add_mul]; omega
      omega
    have s2' : i * l.length + l.length ≤ Y.size := by
      have : (i + (k + 1)) * l.length = i * l.length + l.length + k * l.length := by rw [Nat.add_mul, Nat.add_mul]; omega
      omega
    obtain ⟨eu, au, bu⟩ := split_at l1'
    obtain ⟨ev, av, bv⟩ := split_at l2'
    rw [eu, ev, List.replicate_succ, List.flatten_cons] at he
    obtain ⟨b1, c1, c2, c3⟩ := eqCells_append au av he
    obtain ⟨hu1, hu2⟩ := VRels.split l.length hu
    obtain ⟨hv1, hv2⟩ := VRels.split l.length hv
    have px := part_run (w := w) hun hn (cs := X) (off := i * l.length) s1' hsc
    have py := part_run (w := w) hun hn (cs := Y) (off := i * l.length) s2' hsc
    have hq := ihe _ _ _ _ b1 w hu1 hv1 au av (by simp; omega) (by simp; omega) c1
    simp only [List.range'_succ, List.forIn_cons, Sem.run_bind, px, py, Result.andThen_ok, hq]
    cases b1 with
    | false => simp [c2 rfl]
    | true =>
      simp only [Bool.not_true, Bool.false_eq_true, if_false, Sem.run_pure, Result.andThen_ok]
      refine array_loop ihe hun hn hsc k (i + 1) _ _ b w ?_ ?_ bu bv ?_ ?_ (c3 rfl)
      · rw [Nat.add_mul, Nat.one_mul, ← List.drop_drop]; exact hu2
      · rw [Nat.add_mul, Nat.one_mul, ← List.drop_drop]; exact hv2
      · rw [show i + 1 + k = i + (k + 1) by omega]; exact s1
      · rw [show i + 1 + k = i + (k + 1) by omega]; exact s2
end
end Go.VE
