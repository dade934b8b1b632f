/- A part of a proof that a small evaluator of the translated code agrees with the model (part Fit). No statement of the program stands here. -/
import Derived.Test.YtpbggddmfgjmlaaGreatVeFinal
import Derived.Test.YtpbggddmfgjmlaaGreatVeLogic
import Derived.ProofKit
set_option linter.all false
section
namespace Go.VE
section
variable {H : Type}
mutual
def Fit : Sh → DataW H → Prop
 | .bool, d => ∃ b, d = .lit (.bool b)
 | .int k, d => ∃ n, d = .lit (.int k n) ∧ (Lit.int k n).wf = true
 | .str, d => ∃ l, d = .lit (.string l) ∧ l.length ≤ maxLen
 | .ptr s, d => d = .nil ∨ ∃ x, d = .ptr x ∧ Fit s x
 | .sl s, d => d = .nil ∨ ∃ es sp, d = .slice es sp ∧ es.length + sp.length ≤ maxLen ∧ ∀ e ∈ es, Fit s e
 | .st l, d => ∃ ps, d = .agg ps ∧ FitL l ps
 | .arr n s, d => ∃ ps, d = .agg ps ∧ ps.length = n ∧ ∀ e ∈ ps, Fit s e
def FitL : List Sh → List (DataW H) → Prop
 | [], ds => ds = []
 | s :: l, ds => ∃ d r, ds = d :: r ∧ Fit s d ∧ FitL l r
end
end
section
variable {H : Type} {enc : TypeId × Value → H} {P : Program} {w : World} {base : Nat} {spare : Nat → Bool} {held : Bool}
def FitOK (enc : TypeId × Value → H) (P : Program) (w : World) (base : Nat) (spare : Nat → Bool) (held : Bool) (fuel : Nat) : Prop :=
 ∀ n t sh cs d ps, shOf P n t = some sh → DataW.trod enc P w base spare held fuel t cs = some (d, ps) → Fit sh d
theorem mapM_mem {α β : Type} {f : α → Option β} : ∀ {l : List α} {r : List β}, l.mapM f = some r → ∀ y ∈ r, ∃ x ∈ l, f x = some y
 | [], r, h, y, hy => by simp at h; subst h; simp at hy
 | x :: l, r, h, y, hy => by
  obtain ⟨z, zs, h1, h2, rfl⟩ := mapM_cons h
  rcases List.mem_cons.1 hy with rfl | hy
  ·exact ⟨x, by simp, h1⟩
  ·obtain ⟨u, hu, e⟩ := mapM_mem h2 y hy
   exact ⟨u, by simp [hu], e⟩
theorem fit_fields {fuel n : Nat} (ih : FitOK enc P w base spare held fuel) : ∀ (fs : List Field) (k : Nat) (l : List Sh) (e : Nat) (cs : List Value) (xs : List (DataW H × List MemPlace)),
  shFs P (shOf P n) k fs = some (l, e) → (fs.mapM fun f => DataW.trod enc P w base spare held fuel f.type ((cs.drop f.offset).take (P.cellsOf f.type))) = some xs → FitL l (xs.map (·.1))
 | [], k, l, e, cs, xs, h1, h3 => by
  simp [shFs] at h1
  obtain ⟨rfl, rfl⟩ := h1
  simp at h3
  subst h3
  simp [FitL]
 | f :: fs, k, l, e, cs, xs, h1, h3 => by
  unfold shFs at h1
  split at h1
  ·split at h1
   ·rename_i s0 l0 e0 q1 q2
    cases h1
    obtain ⟨y, ys, g1, g2, rfl⟩ := mapM_cons h3
    simp only [FitL, List.map_cons]
    exact ⟨_, _, rfl, ih _ _ _ _ _ _ q1 g1, fit_fields ih fs _ l0 _ cs ys q2 g2⟩
   ·cases h1
  ·cases h1
theorem fit_ok (hsp : ∀ b, spare b = true) : ∀ fuel, FitOK enc P w base spare held fuel
 | 0 => by
  intro n t sh cs d ps _ h
  simp [DataW.trod] at h
 | fuel + 1 => by
  have ih := fit_ok hsp fuel
  intro n t sh cs d ps hs h
  cases n with
  | zero => simp [shOf] at hs
  | succ n =>
   unfold shOf at hs
   unfold DataW.trod at h
   split at hs
   ·rename_i hu
    cases hs
    split at h <;> rename_i q <;> first | (rw [hu] at q; cases q; done) | (cases h; done) | skip
    cases h
    simp [Fit]
   ·rename_i k hu
    cases hs
    split at h <;> rename_i q <;> first | (rw [hu] at q; cases q; done) | (cases h; done) | skip
    rw [hu] at q
    cases q
    split at h
    ·rename_i hk
     cases h
     simp only [Fit]
     exact ⟨_, rfl, hk.2⟩
    ·cases h
   ·rename_i hu
    cases hs
    split at h <;> rename_i q <;> first | (rw [hu] at q; cases q; done) | (cases h; done) | skip
    split at h
    ·rename_i hl
     cases h
     simp only [Fit]
     exact ⟨_, rfl, hl⟩
    ·cases h
   ·rename_i e hu
    split at hs
    ·cases hs
    rename_i hz
    obtain ⟨s0, hs0, rfl⟩ := Option.map_eq_some_iff.1 hs
    split at h <;> rename_i q <;> first | (rw [hu] at q; cases q; done) | (cases h; done) | skip
    ·cases h
     simp [Fit]
    ·rw [hu] at q
     cases q
     obtain ⟨x, hx, e1⟩ := Option.map_eq_some_iff.1 h
     cases e1
     rename_i a
     cases hc : w.cells? base a (P.cellsOf e) with
     | none => rw [hc] at hx; cases hx
     | some cs0 =>
      rw [hc] at hx
      obtain ⟨d0, ps0⟩ := x
      simp only [Fit]
      exact .inr ⟨_, rfl, ih _ _ _ _ _ _ hs0 hx⟩
   ·rename_i e hu
    obtain ⟨s0, hs0, rfl⟩ := Option.map_eq_some_iff.1 hs
    split at h <;> rename_i q <;> first | (rw [hu] at q; cases q; done) | (cases h; done) | skip
    ·cases h
     simp [Fit]
    ·rw [hu] at q
     cases q
     split at h
     ·rename_i a len cap hle
      obtain ⟨elems, h1, h2⟩ := Option.bind_eq_some_iff.1 h
      obtain ⟨rest, h3, h4⟩ := Option.map_eq_some_iff.1 h2
      cases h4
      simp only [Fit]
      have hl1 := mapM_length h1
      have hl2 : rest.length = cap - len := by
       rw [if_pos (hsp _)] at h3
       simpa using mapM_length h3
      simp only [List.length_range] at hl1
      refine .inr ⟨_, _, rfl, by simp only [List.length_map]; omega, fun e0 he0 => ?_⟩
      obtain ⟨y, hy, rfl⟩ := List.mem_map.1 he0
      obtain ⟨i, _, hi⟩ := mapM_mem h1 y hy
      obtain ⟨cs1, _, hx⟩ := Option.bind_eq_some_iff.1 hi
      exact ih _ _ _ _ _ y.2 hs0 hx
     ·cases h
   ·rename_i fs hu
    split at hs
    ·rename_i l e hfs
     split at hs
     ·rename_i he
      cases hs
      split at h <;> rename_i q <;> first | (rw [hu] at q; cases q; done) | (cases h; done) | skip
      rw [hu] at q
      cases q
      split at h
      ·obtain ⟨xs, h1, h2⟩ := Option.map_eq_some_iff.1 h
       cases h2
       simp only [Fit]
       exact ⟨_, rfl, fit_fields ih _ 0 _ _ _ xs hfs h1⟩
      ·cases h
     ·cases hs
    ·cases hs
   ·rename_i k e hu
    split at hs
    ·rename_i hk
     obtain ⟨s0, hs0, rfl⟩ := Option.map_eq_some_iff.1 hs
     split at h <;> rename_i q <;> first | (rw [hu] at q; cases q; done) | (cases h; done) | skip
     rw [hu] at q
     cases q
     split at h
     ·obtain ⟨xs, h1, h2⟩ := Option.map_eq_some_iff.1 h
      cases h2
      simp only [Fit]
      have hl1 := mapM_length h1
      simp only [List.length_range] at hl1
      refine ⟨_, rfl, by simp only [List.length_map]; exact hl1, fun e0 he0 => ?_⟩
      obtain ⟨y, hy, rfl⟩ := List.mem_map.1 he0
      obtain ⟨i, _, hi⟩ := mapM_mem h1 y hy
      exact ih _ _ _ _ _ y.2 hs0 hi
     ·cases h
    ·cases hs
   ·cases hs
theorem arg_rel {t : TypeId} {v : Value} {d : DataW H} {ps : List MemPlace} {n : Nat} {sh : Sh} (hs : shOf P n t = some sh) (h : DataW.Trod enc P w base spare held t v d ps) (hsp : ∀ b, spare b = true) :
  VRels (rowsOf w) (fun _ => none) (dvs sh d) v.cells.toList ∧ (dvs sh d).length = v.cells.toList.length ∧ Fit sh d := by
 obtain ⟨fuel, h⟩ := h
 exact ⟨(rel_ok hsp fuel _ _ _ _ _ _ hs h).1, (rel_ok hsp fuel _ _ _ _ _ _ hs h).2, fit_ok hsp fuel _ _ _ _ _ _ hs h⟩
theorem cells_one {t : TypeId} {v : Value} {r : Reach} {b0 : Nat} (hv : Value.okWide P w r b0 t v) (h1 : ∀ fs, P.underlying t ≠ some (.struct fs)) (h2 : ∀ n e, P.underlying t ≠ some (.array n e)) : v.cells.toList = [v] := by
 unfold Value.okWide at hv
 split at hv
 ·rename_i fs h; exact absurd h (h1 fs)
 ·rename_i n e h; exact absurd h (h2 n e)
 ·cases v <;> first | rfl | skip
  unfold Cell.okWide at hv
  split at hv <;> first | (rename_i q; cases q; done) | skip
  all_goals first | (simp_all [Cell.ok]; done) | skip
theorem arg_one {t : TypeId} {v : Value} {d : DataW H} {ps : List MemPlace} {n : Nat} {sh : Sh} {x : V} {r : Reach} {b0 : Nat} (hs : shOf P n t = some sh) (h : DataW.Trod enc P w base spare held t v d ps) (hsp : ∀ b, spare b = true)
  (hv : Value.okWide P w r b0 t v) (h1 : ∀ fs, P.underlying t ≠ some (.struct fs)) (h2 : ∀ n e, P.underlying t ≠ some (.array n e)) (hd : dvs sh d = [x]) : VRel (rowsOf w) (fun _ => none) x v := by
 obtain ⟨q1, q2, q3⟩ := arg_rel hs h hsp
 rw [cells_one hv h1 h2, hd] at q1
 obtain ⟨y, ys, e, r1, _⟩ := VRels.cons_iff.1 q1
 cases e
 exact r1
theorem arg_agg {t : TypeId} {v : Value} {d : DataW H} {ps : List MemPlace} {n : Nat} {sh : Sh} {r : Reach} {b0 : Nat} (hs : shOf P n t = some sh) (h : DataW.Trod enc P w base spare held t v d ps) (hsp : ∀ b, spare b = true)
  (hv : Value.okWide P w r b0 t v) (h1 : (∃ fs, P.underlying t = some (.struct fs)) ∨ ∃ n e, P.underlying t = some (.array n e)) : VRel (rowsOf w) (fun _ => none) (.agg (dvs sh d)) v := by
 obtain ⟨q1, q2, q3⟩ := arg_rel hs h hsp
 have : ∃ cs, v = .agg cs := by
  unfold Value.okWide at hv
  rcases h1 with ⟨fs, e⟩ | ⟨k, e', e⟩ <;> rw [e] at hv <;> obtain ⟨cs, hc, _⟩ := hv <;> exact ⟨cs, hc⟩
 obtain ⟨cs, rfl⟩ := this
 simp only [VRel]
 exact ⟨cs.toList, by simp, q2, q1⟩
end
theorem fit_sl {H : Type} {α : Type} {enc : α → List V} {sh : Sh} (hf : ∀ d : DataW H, Fit sh d → ∃ x, dvs sh d = enc x) {d : DataW H} (h : Fit (.sl sh) d) : ∃ c : Sl α, dvs (.sl sh) d = [c.v enc] ∧ c.l.length ≤ maxLen := by
 simp only [Fit] at h
 rcases h with rfl | ⟨es, sp, rfl, hl, he⟩
 ·exact ⟨.nil, by simp [dvs, Sl.v], by simp [Sl.l]⟩
 ·have : ∃ l : List α, (es.flatMap fun d => dvs sh d) = l.flatMap enc ∧ l.length = es.length := by
   clear hl
   induction es with
   | nil => exact ⟨[], rfl, rfl⟩
   | cons e es ih =>
    obtain ⟨x, hx⟩ := hf e (he e (by simp))
    obtain ⟨l, h1, h2⟩ := ih (fun e h => he e (by simp [h]))
    exact ⟨x :: l, by simp [hx, h1], by simp [h2]⟩
  obtain ⟨l, h1, h2⟩ := this
  exact ⟨.mk l (some (es.length + sp.length)), by simp [dvs, Sl.v, h1, h2], by simp only [Sl.l]; omega⟩
end Go.VE
end

