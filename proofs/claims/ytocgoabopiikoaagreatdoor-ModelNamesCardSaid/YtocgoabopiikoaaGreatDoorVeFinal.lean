/- A part of a proof that a small evaluator of the translated code agrees with the model (part Final). No statement of the program stands here. -/
import Derived.Test.YtocgoabopiikoaaGreatDoorVeSound6
import Derived.ChangeSame
import Derived.Below
set_option linter.all false
namespace Go.VE
open Go.ChangeShapes Go.WideShapes Go.RowKit

/-- the rows of a world -/
def rowsOf (W : World) : Mem := fun k =>
  match W.heap[k]? with
  | some (.cells cur _ _) => some cur.toList
  | _ => none

section
variable {P : Program} {gl : Nat → Option (List V)} {pu : Nat → Nat} {vp : Nat → Option VFn} {W : World}

theorem start_rel (hg : ∀ g cs, gl g = some cs → ∃ row, rowsOf W g = some row ∧ VRels (rowsOf W) (fun _ => none) cs row) : HRel P gl W.heap.size (rowsOf W) (fun _ => none) h0 W := by
  refine ⟨fun b l e => (by cases e), fun b l e => (by cases e), fun b b' l l' e => (by cases e), fun k cs e => ?_, fun b l e => (by cases e), fun b l e => (by cases e), fun b _ => ?_, Nat.le_refl _, Nat.le_refl _, hg⟩
  · unfold rowsOf at e
    split at e
    · rename_i cur e' fr hk
      cases e
      exact ⟨e', fr, by rw [hk]⟩
    · cases e
  · simp [h0, Heap.get, Tr.get_lf]

/-- A law: run here, it holds there. -/
theorem law_run (ht : TabOK P gl pu vp) {n f : Nat} {args : List V} {xs : List Value} (hg : ∀ g cs, gl g = some cs → ∃ row, rowsOf W g = some row ∧ VRels (rowsOf W) (fun _ => none) cs row)
    (hx : VRels (rowsOf W) (fun _ => none) args xs) (hl : args.length = xs.length) {b : Bool} {h' : Heap} (he : callF vp n f args h0 = some (.bool b, h')) :
    Calls P f xs.toArray W fun e W' => e = .returned (.bool b) ∧ Below W.heap.size W W' := by
  refine (call_sound (B := W.heap.size) ht n (start_rel hg) hx hl he).mono ?_
  rintro e W' ⟨x, rfl, M', ρ', g1, g2, g3⟩
  simp only [VRel] at g3
  subst g3
  exact ⟨rfl, g2.os, g2.tape, g2.output, g2.size, fun k hk => g2.frame k hk (fun b l e => (by cases e))⟩

variable {H : Type} {enc : TypeId × Value → H}

/-- The statement's ending, where nothing below has turned. -/
theorem post_of_below {f : Func} {s : ChangeSpec} {apart fresh handsOn again : Bool} {W W' : World} {args : Array Value} {v : Value} {ds gs : List (DataW H)} {before pa pv : List MemPlace}
    (hW : DataW.Whole enc P f.params.toList s.vars apart W args.toList ds gs before)
    (hres : ∀ (b : Nat) (sp : Nat → Bool) (hd : Bool), DataW.TrodAll enc P W' b sp hd f.resultTypes.toList (v.resultList f.resultTypes.size) (s.fn H (ds ++ gs)).results [])
    (hargs : ∀ sp : Nat → Bool, (∀ p ∈ before, sp p.block = true) → DataW.TrodAll enc P W' 0 sp true f.params.toList args.toList (s.fn H (ds ++ gs)).args pa)
    (hvars : ∀ sp : Nat → Bool, (∀ p ∈ before, sp p.block = true) → DataW.TrodVars enc P W' sp s.vars (s.fn H (ds ++ gs)).vars pv)
    (hps : before = pa ++ pv) (hb : Below W.heap.size W W')
    (hok : ∀ (j : Nat) (t : TypeId) (r : Value), f.resultTypes[j]? = some t → (v.resultList f.resultTypes.size)[j]? = some r → Value.okWide P W' .any 0 t r) :
    s.post enc P f apart fresh handsOn again W args v W' := by
  have hold : ∀ p ∈ before, (fun b => decide (b < W.heap.size)) p.block = true := fun p hp => by simpa using hW.lt p hp
  have hlt := hW.lt
  refine ⟨ds, gs, before, [], pa, pv, hW, hres _ _ _, hargs _ hold, hvars _ hold, World.keptBut_mono (fun p hp => ⟨hp, ?_⟩) (hb.frame (· ∈ before)), fun _ => ?_⟩
  · rw [hps, List.mem_append] at hp
    exact Or.inr hp
  · obtain ⟨_, _, _, _, _, hz, hn⟩ := hW
    refine ⟨hok, _, _, ([] ++ pa) ++ pv, ⟨[] ++ pa, pv, trodAll_append (hargs _ (fun _ _ => rfl)) (hres _ _ _), hvars _ (fun _ _ => rfl), rfl, ?_, ?_⟩, ?_⟩
    · intro b off hp
      have hp' : MemPlace.cell b off ∈ before := by rw [hps]; simpa using hp
      have := hb.frozen (p := ⟨b, off, none⟩) (hlt _ hp')
      rw [this]
      exact hz b off hp'
    · intro ha
      have := hn ha
      rw [hps] at this
      simpa using this
    · intro p hp _
      rw [hps]
      simpa using hp
end

section
variable {P : Program} {gl : Nat → Option (List V)} {pu : Nat → Nat}
/-- One function of a table is what the compiler makes. -/
def TabQ (P : Program) (gl : Nat → Option (List V)) (pu : Nat → Nat) (i : Nat) (v : VFn) : Prop := (∃ fn, P.funcs[i]? = some fn ∧ compFn P gl pu v.mode fn = some v) ∧ (v.prim = none ∨ ∃ t e it ti z, InsW P i t e it ti z ∧ v.prim = some (ti.size, ti.bytes))
def TabOk (P : Program) (gl : Nat → Option (List V)) (pu : Nat → Nat) (i : Nat) (o : Option VFn) : Prop := ∀ v, o = some v → TabQ P gl pu i v
theorem ok_bif {i : Nat} {b : Bool} {x y : Option VFn} (hx : TabOk P gl pu i x) (hy : TabOk P gl pu i y) : TabOk P gl pu i (bif b then x else y) := by
  cases b
  · exact hy
  · exact hx
theorem ok_leaf {i k : Nat} {v : VFn} (h : TabQ P gl pu k v) : TabOk P gl pu i (bif Nat.beq i k then some v else none) := by
  intro v' e
  cases hb : Nat.beq i k with
  | false => rw [hb] at e; cases e
  | true =>
    rw [hb] at e
    cases e
    rw [Nat.eq_of_beq_eq_true hb]
    exact h
theorem tabOK_of {vp : Nat → Option VFn} (h : ∀ i, TabOk P gl pu i (vp i)) (hm : P.follows .mixedOrders = true) : TabOK P gl pu vp :=
  ⟨fun f vf e => (h f vf e).1, fun f vf sz bytes e hp => by
    rcases (h f vf e).2 with q | ⟨t, e', it, ti, z, q1, q2⟩
    · rw [hp] at q; cases q
    · rw [hp] at q2
      cases q2
      exact ⟨t, e', it, ti, z, q1, rfl, rfl⟩, hm⟩
end
end Go.VE
