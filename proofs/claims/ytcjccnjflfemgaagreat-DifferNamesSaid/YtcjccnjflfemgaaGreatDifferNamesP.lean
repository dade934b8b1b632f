/- The law DifferNames: whatever the heap and the world: it returns true. (The listed package variables start as the program lays them; the card ties them.) -/
import Derived.Test.YtcjccnjflfemgaaGreatDifferNamesC1
import Derived.Test.YtcjccnjflfemgaaGreatDifferNamesC2
import Derived.Test.YtcjccnjflfemgaaGreatDifferNamesC3
import Derived.Test.YtcjccnjflfemgaaGreatDifferNamesR
import Derived.Test.YtcjccnjflfemgaaGreatRows
import Derived.WalkKit
import Derived.ProofKit
import Derived.OpenShut
import Derived.LaidMore
import Derived.Stop.Joined
import Derived.Deep.DeepHandedRow
namespace Go.Proofs.YtcjccnjflfemgaaGreat.differNames
open Go Go.VE Go.ChangeShapes Go.WideShapes Go.ChangeAt Go.RowKit
set_option maxRecDepth 100000
theorem tabs (i : Nat) : TabOk Tryz.prog gl pu i (vp i) := by
  unfold vp
  exact (ok_bif (ok_bif (ok_bif (ok_bif (ok_bif (ok_bif (ok_leaf q3) (ok_leaf q4)) (ok_bif (ok_leaf q5) (ok_bif (ok_leaf q6) (ok_leaf q7)))) (ok_bif (ok_bif (ok_leaf q8) (ok_bif (ok_leaf q9) (ok_leaf q10))) (ok_bif (ok_leaf q11) (ok_bif (ok_leaf q12) (ok_leaf q13))))) (ok_bif (ok_bif (ok_bif (ok_leaf q14) (ok_bif (ok_leaf q15) (ok_leaf q16))) (ok_bif (ok_leaf q17) (ok_bif (ok_leaf q18) (ok_leaf q19)))) (ok_bif (ok_bif (ok_leaf q20) (ok_bif (ok_leaf q21) (ok_leaf q22))) (ok_bif (ok_leaf q23) (ok_bif (ok_leaf q24) (ok_leaf q25)))))) (ok_bif (ok_bif (ok_bif (ok_bif (ok_leaf q26) (ok_leaf q27)) (ok_bif (ok_leaf q28) (ok_bif (ok_leaf q29) (ok_leaf q30)))) (ok_bif (ok_bif (ok_leaf q31) (ok_bif (ok_leaf q32) (ok_leaf q33))) (ok_bif (ok_leaf q34) (ok_bif (ok_leaf q35) (ok_leaf q37))))) (ok_bif (ok_bif (ok_bif (ok_leaf q38) (ok_bif (ok_leaf q39) (ok_leaf q40))) (ok_bif (ok_leaf q41) (ok_bif (ok_leaf q42) (ok_leaf q43)))) (ok_bif (ok_bif (ok_leaf q44) (ok_bif (ok_leaf q46) (ok_leaf q47))) (ok_bif (ok_leaf q48) (ok_bif (ok_leaf q49) (ok_leaf q50))))))) (ok_bif (ok_bif (ok_bif (ok_bif (ok_bif (ok_leaf q51) (ok_leaf q54)) (ok_bif (ok_leaf q55) (ok_bif (ok_leaf q56) (ok_leaf q57)))) (ok_bif (ok_bif (ok_leaf q58) (ok_bif (ok_leaf q59) (ok_leaf q60))) (ok_bif (ok_leaf q61) (ok_bif (ok_leaf q62) (ok_leaf q63))))) (ok_bif (ok_bif (ok_bif (ok_leaf q64) (ok_bif (ok_leaf q65) (ok_leaf q66))) (ok_bif (ok_leaf q67) (ok_bif (ok_leaf q68) (ok_leaf q69)))) (ok_bif (ok_bif (ok_leaf q70) (ok_bif (ok_leaf q72) (ok_leaf q73))) (ok_bif (ok_leaf q74) (ok_bif (ok_leaf q75) (ok_leaf q76)))))) (ok_bif (ok_bif (ok_bif (ok_bif (ok_leaf q86) (ok_bif (ok_leaf q87) (ok_leaf q88))) (ok_bif (ok_leaf q89) (ok_bif (ok_leaf q90) (ok_leaf q92)))) (ok_bif (ok_bif (ok_leaf q93) (ok_bif (ok_leaf q94) (ok_leaf q95))) (ok_bif (ok_leaf q96) (ok_bif (ok_leaf q97) (ok_leaf q100))))) (ok_bif (ok_bif (ok_bif (ok_leaf q103) (ok_bif (ok_leaf q107) (ok_leaf q113))) (ok_bif (ok_leaf q114) (ok_bif (ok_leaf q115) (ok_leaf q116)))) (ok_bif (ok_bif (ok_leaf q117) (ok_bif (ok_leaf q118) (ok_leaf q119))) (ok_bif (ok_leaf q121) (ok_bif (ok_leaf q122) (ok_leaf q124))))))))
theorem tab : TabOK Tryz.prog gl pu vp := tabOK_of tabs (by kernel_rfl)
theorem own : ownKnob Tryz.prog.godebug = none := by kernel_rfl
theorem walk (W : World) : Calls Tryz.prog 3 #[] W fun e W' => e = .returned (.bool true) ∧ Below W.heap.size W W' := by
  obtain ⟨n, h, e⟩ := ran_ex
  exact law_run (xs := []) tab (fun g cs h => by cases h) VRels.nil rfl e
theorem contract (H : Type) (enc : TypeId × Value → H) (W : World) (args : Array Value) (ds gs : List (DataW H)) (before : List MemPlace)
    (hW : DataW.Whole enc Tryz.prog Tryz.f3.params.toList Rows.differNamesSpec.vars false W args.toList ds gs before) :
    Calls Tryz.prog 3 args W fun e W' => ∃ v, e = .returned v ∧ Rows.differNamesSpec.post enc Tryz.prog Tryz.f3 false true false false W args v W' := by
  have hW' := hW
  obtain ⟨p, q, hA0, hV, rfl, hfz, hnd⟩ := hW
  have hA : DataW.TrodAll enc Tryz.prog W 0 (fun _ => true) true Tryz.f3.params.toList args.toList ds p := hA0
  rw [Tryz.params3] at hA
  obtain ⟨ha, rfl, rfl⟩ := trodAll_nil hA
  obtain rfl : args = #[] := by cases args; simp_all
  obtain ⟨rfl, rfl⟩ := trodVars_none hV
  simp only [List.append_nil] at hW'
  refine (walk W).mono fun e W' ⟨he, hb⟩ => ?_
  subst he
  exact ⟨_, rfl, post_of_below (pa := []) (pv := []) hW' (fun _ _ _ => trodAll_cons_mk (shut_bool Tryz.underlying4 _) trodAll_mk0) (fun _ _ => trodAll_mk0) (fun _ _ => rfl) rfl hb
    (ok_one (by kernel_rfl) rfl (okWide_bool_mk Tryz.underlying4 _))⟩
theorem lifted (os : Os) (started : os.Started) (H : Type) (enc : TypeId × Value → H) :
    ReturnsInHanded {} Tryz.checked os 3 .any (Rows.differNamesSpec.pre6 enc Tryz.prog Tryz.f3 [] false) (Rows.differNamesSpec.post enc Tryz.prog Tryz.f3 false true false false) := by
  refine returnsInHanded_of_change own started (by kernel_rfl) Tryz.func3 (ChangeSpec.witness6 (fn := Tryz.f3) false ⟨#[], #[], []⟩ 8 (by kernel_rfl) (by kernel_rfl) (by kernel_rfl) (by kernel_rfl)) ?_
  intro W base args ds gs before _ hW _ _
  exact contract H enc W args ds gs before hW
theorem said : Rows.DifferNamesSaid :=
  OpenClaim.holds_of_wide 3 Tryz.f3 rfl rfl rfl rfl rfl rfl rfl ⟨rfl, rfl, rfl, rfl, rfl⟩ rfl rfl rfl rfl rfl (by kernel_rfl) Tryz.func3 (by kernel_rfl)
    (of_decide_eq_true (by kernel_rfl)) (by unfold Func.isWrapper; first | (rw [if_pos (by decide +kernel)]; kernel_rfl) | (rw [if_neg (by decide +kernel)]; exact ⟨rfl, rfl⟩))
    (fun os started H enc _ => lifted os started H enc)
theorem proved : Rows.DifferNamesSaid := said
#print axioms proved
end Go.Proofs.YtcjccnjflfemgaaGreat.differNames
