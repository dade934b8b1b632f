/- The law ModelNames: whatever the heap and the world: it returns true. (The listed package variables start as the program lays them; the card ties them.) -/
import Derived.Test.YtocgoabopiikoaaGreatDoorModelNamesC1
import Derived.Test.YtocgoabopiikoaaGreatDoorModelNamesC2
import Derived.Test.YtocgoabopiikoaaGreatDoorModelNamesC3
import Derived.Test.YtocgoabopiikoaaGreatDoorModelNamesR
import Derived.Test.YtocgoabopiikoaaGreatDoorRows
import Derived.Test.YtocgoabopiikoaaGreatDoorCards
import Derived.Test.YtocgoabopiikoaaGreatDoorTie
import Derived.WalkKit
import Derived.ProofKit
import Derived.OpenShut
import Derived.LaidMore
import Derived.Stop.Joined
import Derived.Deep.DeepHandedRow
namespace Go.Proofs.YtocgoabopiikoaaGreatDoor.modelNames
open Go Go.VE Go.ChangeShapes Go.WideShapes Go.ChangeAt Go.RowKit
set_option maxRecDepth 100000
theorem tabs (i : Nat) : TabOk Tryz.prog gl pu i (vp i) := by
  unfold vp
  exact (ok_bif (ok_bif (ok_bif (ok_bif (ok_bif (ok_bif (ok_leaf q3) (ok_leaf q4)) (ok_bif (ok_leaf q5) (ok_leaf q6))) (ok_bif (ok_bif (ok_leaf q7) (ok_leaf q8)) (ok_bif (ok_leaf q9) (ok_leaf q10)))) (ok_bif (ok_bif (ok_bif (ok_leaf q11) (ok_leaf q12)) (ok_bif (ok_leaf q13) (ok_leaf q14))) (ok_bif (ok_bif (ok_leaf q15) (ok_leaf q16)) (ok_bif (ok_leaf q17) (ok_leaf q18))))) (ok_bif (ok_bif (ok_bif (ok_bif (ok_leaf q19) (ok_leaf q21)) (ok_bif (ok_leaf q22) (ok_leaf q23))) (ok_bif (ok_bif (ok_leaf q24) (ok_leaf q25)) (ok_bif (ok_leaf q26) (ok_leaf q27)))) (ok_bif (ok_bif (ok_bif (ok_leaf q28) (ok_leaf q29)) (ok_bif (ok_leaf q30) (ok_leaf q31))) (ok_bif (ok_bif (ok_leaf q32) (ok_leaf q33)) (ok_bif (ok_leaf q34) (ok_bif (ok_leaf q35) (ok_leaf q36))))))) (ok_bif (ok_bif (ok_bif (ok_bif (ok_bif (ok_leaf q37) (ok_leaf q38)) (ok_bif (ok_leaf q39) (ok_leaf q40))) (ok_bif (ok_bif (ok_leaf q41) (ok_leaf q46)) (ok_bif (ok_leaf q47) (ok_leaf q48)))) (ok_bif (ok_bif (ok_bif (ok_leaf q49) (ok_leaf q51)) (ok_bif (ok_leaf q52) (ok_leaf q53))) (ok_bif (ok_bif (ok_leaf q54) (ok_leaf q55)) (ok_bif (ok_leaf q56) (ok_bif (ok_leaf q57) (ok_leaf q58)))))) (ok_bif (ok_bif (ok_bif (ok_bif (ok_leaf q59) (ok_leaf q60)) (ok_bif (ok_leaf q68) (ok_leaf q69))) (ok_bif (ok_bif (ok_leaf q70) (ok_leaf q77)) (ok_bif (ok_leaf q80) (ok_leaf q81)))) (ok_bif (ok_bif (ok_bif (ok_leaf q82) (ok_leaf q83)) (ok_bif (ok_leaf q91) (ok_leaf q104))) (ok_bif (ok_bif (ok_leaf q105) (ok_leaf q106)) (ok_bif (ok_leaf q107) (ok_bif (ok_leaf q108) (ok_leaf q136))))))))
theorem tab : TabOK Tryz.prog gl pu vp := tabOK_of tabs (by kernel_rfl)
theorem own : ownKnob Tryz.prog.godebug = none := by kernel_rfl
theorem walk (W : World) : Calls Tryz.prog 3 #[] W fun e W' => e = .returned (.bool true) ∧ Below W.heap.size W W' := by
  obtain ⟨h, e⟩ := ran_ex
  exact law_run (xs := []) tab (fun g cs h => by cases h) VRels.nil rfl e
theorem contract (H : Type) (enc : TypeId × Value → H) (W : World) (args : Array Value) (ds gs : List (DataW H)) (before : List MemPlace)
    (hW : DataW.Whole enc Tryz.prog Tryz.f3.params.toList Rows.modelNamesSpec.vars false W args.toList ds gs before) :
    Calls Tryz.prog 3 args W fun e W' => ∃ v, e = .returned v ∧ Rows.modelNamesSpec.post enc Tryz.prog Tryz.f3 false true false false W args v W' := by
  have hW' := hW
  obtain ⟨p, q, hA0, hV, rfl, hfz, hnd⟩ := hW
  have hA : DataW.TrodAll enc Tryz.prog W 0 (fun _ => true) true Tryz.f3.params.toList args.toList ds p := hA0
  rw [Tryz.params3] at hA
  obtain ⟨ha, rfl, rfl⟩ := trodAll_nil hA
  obtain rfl : args = #[] := by cases args; simp_all
  obtain ⟨rfl, rfl⟩ := trodVars_none hV
  simp only [List.append_nil] at hW'
  refine (walk W).mono fun e W' ⟨he, hb⟩ => ?_
  subst he
  exact ⟨_, rfl, post_of_below (pa := []) (pv := []) hW' (fun _ _ _ => trodAll_cons_mk (shut_bool Tryz.underlying4 _) trodAll_mk0) (fun _ _ => trodAll_mk0) (fun _ _ => rfl) rfl hb
    (ok_one (by kernel_rfl) rfl (okWide_bool_mk Tryz.underlying4 _))⟩
theorem door_met (os : Os) : laidMetH Tryz.prog Rows.modelNamesRow.laid ((World.doorLaid Tryz.prog 19 os).forCall (fun _ _ => 0) ⟨#[], #[], []⟩).memory :=
  laidMetH_of_parts3 (fuel := 8) (laidMet_of_run' 8 (by kernel_rfl) (by kernel_rfl)) (by kernel_rfl) (by kernel_rfl)
theorem lifted (os : Os) (started : os.Started) (H : Type) (enc : TypeId × Value → H) :
    ReturnsInHanded {} Tryz.checked os 3 .any (fun w args => (Rows.modelNamesSpec.pre enc Tryz.prog Tryz.f3 [] false w args ∧ laidMetH Tryz.prog Rows.modelNamesRow.laid w) ∧ sizedMet enc Tryz.prog Tryz.f3 (OpenSpec.ofChange Rows.modelNamesSpec) false w args)
      (Rows.modelNamesSpec.post enc Tryz.prog Tryz.f3 false true false false) := by
  refine returnsInHanded_of_change_and (C := Tryz.checked) (X := fun w _ => laidMetH Tryz.prog Rows.modelNamesRow.laid w) (fun _ _ _ hh h => h.of_heap hh) own started (by kernel_rfl) Tryz.func3
    (ChangeSpec.witness_shaped (enc := enc) (C := Tryz.checked) (os := os) (X := fun w _ => laidMetH Tryz.prog Rows.modelNamesRow.laid w) false (World.doorLaid Tryz.prog 19 os) #[] 8 rfl (World.shaped_of_RefB (by kernel_rfl) (by kernel_rfl)) (by kernel_rfl) (by kernel_rfl) (by kernel_rfl) (door_met os)) ?_
  intro W base args ds gs before _ hW _ _ _ _
  exact contract H enc W args ds gs before hW
theorem said : Rows.ModelNamesSaid :=
  OpenClaim.holds_of_wide 3 Tryz.f3 rfl rfl rfl rfl rfl rfl rfl ⟨rfl, rfl, rfl, rfl, rfl⟩ rfl rfl rfl rfl rfl (by kernel_rfl) Tryz.func3 (by kernel_rfl)
    (of_decide_eq_true (by kernel_rfl)) (by unfold Func.isWrapper; first | (rw [if_pos (by decide +kernel)]; kernel_rfl) | (rw [if_neg (by decide +kernel)]; exact ⟨rfl, rfl⟩))
    (fun os started H enc _ => lifted os started H enc)
theorem plain (f : FuncId) (fn : Func) (hf : Tryz.pinned.checked.prog.funcNamed "spigot/spigotlaw25.ModelNames" = some f) (hfn : Tryz.pinned.checked.prog.funcs[f]? = some fn) :
    false = Tryz.pinned.checked.prog.looks [] ∧ ∀ (j : Nat) t, fn.params[j]? = some t → Tryz.pinned.checked.prog.wantsStandIn t = false := by
  obtain rfl : f = 3 := Option.some.inj ((show Tryz.prog.funcNamed "spigot/spigotlaw25.ModelNames" = some 3 by kernel_rfl).symm.trans hf) |>.symm
  obtain rfl : fn = Tryz.f3 := (Option.some.inj (Tryz.func3.symm.trans hfn)).symm
  refine ⟨by kernel_rfl, fun j t ht => ?_⟩
  rw [Tryz.params3] at ht
  simp at ht
theorem proved : Rows.ModelNamesCardSaid :=
  Claim7.holds_tied_plain_at .later [] _ _ _ _ said (fun _ h => by cases h) (by kernel_rfl) (fun _ h => by cases h) modelNames_row_tie rfl ⟨rfl, rfl⟩ (by kernel_rfl) rfl plain (by kernel_rfl)
#print axioms proved
end Go.Proofs.YtocgoabopiikoaaGreatDoor.modelNames
