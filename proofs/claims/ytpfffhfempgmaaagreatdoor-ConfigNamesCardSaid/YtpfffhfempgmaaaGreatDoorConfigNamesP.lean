/- The law ConfigNames: whatever the heap and the world: it returns true. (The listed package variables start as the program lays them; the card ties them.) -/
import Derived.Test.YtpfffhfempgmaaaGreatDoorConfigNamesC1
import Derived.Test.YtpfffhfempgmaaaGreatDoorConfigNamesC2
import Derived.Test.YtpfffhfempgmaaaGreatDoorConfigNamesC3
import Derived.Test.YtpfffhfempgmaaaGreatDoorConfigNamesR
import Derived.Test.YtpfffhfempgmaaaGreatDoorRows
import Derived.Test.YtpfffhfempgmaaaGreatDoorCards
import Derived.Test.YtpfffhfempgmaaaGreatDoorTie
import Derived.WalkKit
import Derived.ProofKit
import Derived.OpenShut
import Derived.LaidMore
import Derived.Stop.Joined
import Derived.Deep.DeepHandedRow
import Derived.LaidLaws
import Derived.Lay
import Derived.MakeChecks
import Derived.SevenTiedAt
namespace Go.Proofs.YtpfffhfempgmaaaGreatDoor.configNames
open Go Go.VE Go.ChangeShapes Go.WideShapes Go.ChangeAt Go.RowKit
set_option maxRecDepth 100000
theorem tabs (i : Nat) : TabOk Tryz.prog gl pu i (vp i) := by
  unfold vp
  exact (ok_bif (ok_bif (ok_bif (ok_bif (ok_bif (ok_bif (ok_leaf q3) (ok_leaf q4)) (ok_bif (ok_leaf q5) (ok_leaf q6))) (ok_bif (ok_bif (ok_leaf q7) (ok_leaf q8)) (ok_bif (ok_leaf q9) (ok_bif (ok_leaf q10) (ok_leaf q11))))) (ok_bif (ok_bif (ok_bif (ok_leaf q12) (ok_leaf q13)) (ok_bif (ok_leaf q14) (ok_leaf q15))) (ok_bif (ok_bif (ok_leaf q16) (ok_leaf q17)) (ok_bif (ok_leaf q18) (ok_bif (ok_leaf q19) (ok_leaf q20)))))) (ok_bif (ok_bif (ok_bif (ok_bif (ok_leaf q21) (ok_leaf q22)) (ok_bif (ok_leaf q23) (ok_leaf q24))) (ok_bif (ok_bif (ok_leaf q25) (ok_leaf q27)) (ok_bif (ok_leaf q28) (ok_bif (ok_leaf q29) (ok_leaf q30))))) (ok_bif (ok_bif (ok_bif (ok_leaf q31) (ok_leaf q32)) (ok_bif (ok_leaf q33) (ok_leaf q34))) (ok_bif (ok_bif (ok_leaf q35) (ok_leaf q36)) (ok_bif (ok_leaf q37) (ok_bif (ok_leaf q38) (ok_leaf q39))))))) (ok_bif (ok_bif (ok_bif (ok_bif (ok_bif (ok_leaf q40) (ok_leaf q41)) (ok_bif (ok_leaf q42) (ok_leaf q43))) (ok_bif (ok_bif (ok_leaf q44) (ok_leaf q45)) (ok_bif (ok_leaf q46) (ok_bif (ok_leaf q47) (ok_leaf q48))))) (ok_bif (ok_bif (ok_bif (ok_leaf q49) (ok_leaf q50)) (ok_bif (ok_leaf q51) (ok_leaf q54))) (ok_bif (ok_bif (ok_leaf q55) (ok_leaf q56)) (ok_bif (ok_leaf q57) (ok_bif (ok_leaf q58) (ok_leaf q59)))))) (ok_bif (ok_bif (ok_bif (ok_bif (ok_leaf q60) (ok_leaf q62)) (ok_bif (ok_leaf q63) (ok_leaf q64))) (ok_bif (ok_bif (ok_leaf q65) (ok_leaf q70)) (ok_bif (ok_leaf q71) (ok_bif (ok_leaf q72) (ok_leaf q73))))) (ok_bif (ok_bif (ok_bif (ok_leaf q74) (ok_leaf q75)) (ok_bif (ok_leaf q76) (ok_leaf q84))) (ok_bif (ok_bif (ok_leaf q85) (ok_leaf q86)) (ok_bif (ok_leaf q90) (ok_bif (ok_leaf q105) (ok_leaf q107))))))))
theorem tab : TabOK Tryz.prog gl pu vp := tabOK_of tabs (by kernel_rfl)
theorem own : ownKnob Tryz.prog.godebug = none := by kernel_rfl
theorem hgl (W : World) (hl : laidMetH Tryz.prog Rows.configNamesRow.laid W) : ∀ g cs, gl g = some cs → ∃ row, rowsOf W g = some row ∧ VRels (rowsOf W) (fun _ => none) cs row := by
  intro g cs h
  by_cases h1 : g = 1
  · subst h1
    obtain rfl : g1 = cs := Option.some.inj h
    exact glob_ifc (sh := .ptr (.st [.str])) (name := "*errors.errorString") (d0 := .agg [.lit (.string [105, 110, 118, 97, 108, 105, 100, 32, 115, 121, 110, 116, 97, 120])]) (n := "strconv.ErrSyntax") (t := 65) (u0 := 198) (k := 5) hl (by simp [Rows.configNamesRow, Rows.laid_strconv_ErrSyntax]) (by kernel_rfl) (by kernel_rfl) (by kernel_rfl) (by kernel_rfl) (fun u h => typeName_ptr_named (nm := "errors.errorString") (by rw [show "*" ++ "errors.errorString" = "*errors.errorString" by decide]; kernel_rfl) (by kernel_rfl) (by decide) u (by rw [show "*" ++ "errors.errorString" = "*errors.errorString" by decide]; exact h)) (by kernel_rfl) (by kernel_rfl) (by kernel_rfl)
  by_cases h2 : g = 2
  · subst h2
    obtain rfl : g2 = cs := Option.some.inj h
    exact glob_ifc (sh := .ptr (.st [.str])) (name := "*errors.errorString") (d0 := .agg [.lit (.string [118, 97, 108, 117, 101, 32, 111, 117, 116, 32, 111, 102, 32, 114, 97, 110, 103, 101])]) (n := "strconv.ErrRange") (t := 65) (u0 := 198) (k := 5) hl (by simp [Rows.configNamesRow, Rows.laid_strconv_ErrRange]) (by kernel_rfl) (by kernel_rfl) (by kernel_rfl) (by kernel_rfl) (fun u h => typeName_ptr_named (nm := "errors.errorString") (by rw [show "*" ++ "errors.errorString" = "*errors.errorString" by decide]; kernel_rfl) (by kernel_rfl) (by decide) u (by rw [show "*" ++ "errors.errorString" = "*errors.errorString" by decide]; exact h)) (by kernel_rfl) (by kernel_rfl) (by kernel_rfl)
  by_cases h3 : g = 3
  · subst h3
    obtain rfl : g3 = cs := Option.some.inj h
    exact glob_rel (sh := .arr 20 (.int .u64)) (n := "internal/strconv.uint64pow10") (d := Rows.laid_internal_strconv_uint64pow10) (t := 183) (k := 5) hl (by simp [Rows.configNamesRow]) (by kernel_rfl) (by kernel_rfl) (by kernel_rfl) (by kernel_rfl) (by kernel_rfl)
  exfalso
  unfold gl at h
  simp [beq_dec, h1, h2, h3] at h
theorem walk (W : World) (hl : laidMetH Tryz.prog Rows.configNamesRow.laid W) : Calls Tryz.prog 3 #[] W fun e W' => e = .returned (.bool true) ∧ Below W.heap.size W W' := by
  obtain ⟨n, h, e⟩ := ran_ex
  exact law_run (xs := []) tab (hgl W hl) VRels.nil rfl e
theorem contract (H : Type) (enc : TypeId × Value → H) (W : World) (args : Array Value) (ds gs : List (DataW H)) (before : List MemPlace) (hl : laidMetH Tryz.prog Rows.configNamesRow.laid W) 
    (hW : DataW.Whole enc Tryz.prog Tryz.f3.params.toList Rows.configNamesSpec.vars false W args.toList ds gs before) :
    Calls Tryz.prog 3 args W fun e W' => ∃ v, e = .returned v ∧ Rows.configNamesSpec.post enc Tryz.prog Tryz.f3 false true false false W args v W' := by
  have hW' := hW
  obtain ⟨p, q, hA0, hV, rfl, hfz, hnd⟩ := hW
  have hA : DataW.TrodAll enc Tryz.prog W 0 (fun _ => true) true Tryz.f3.params.toList args.toList ds p := hA0
  rw [Tryz.params3] at hA
  obtain ⟨ha, rfl, rfl⟩ := trodAll_nil hA
  obtain rfl : args = #[] := by cases args; simp_all
  obtain ⟨rfl, rfl⟩ := trodVars_none hV
  simp only [List.append_nil] at hW'
  refine (walk W hl).mono fun e W' ⟨he, hb⟩ => ?_
  subst he
  exact ⟨_, rfl, post_of_below (pa := []) (pv := []) hW' (fun _ _ _ => trodAll_cons_mk (shut_bool Tryz.underlying4 _) trodAll_mk0) (fun _ _ => trodAll_mk0) (fun _ _ => rfl) rfl hb
    (ok_one (by kernel_rfl) rfl (okWide_bool_mk Tryz.underlying4 _))⟩
theorem door_met (os : Os) : laidMetH Tryz.prog Rows.configNamesRow.laid ((World.laidAll Tryz.prog os Rows.configNamesRow.laid).forCall (fun _ _ => 0) ⟨#[], #[], []⟩).memory := by
  rw [MakeChecks.laidMetH_plain _ _ _ (by kernel_rfl)]
  exact laidMet_laidAll _ (by kernel_rfl) (by kernel_rfl)
theorem lifted (os : Os) (started : os.Started) (H : Type) (enc : TypeId × Value → H) :
    ReturnsInHanded {} Tryz.checked os 3 .any (fun w args => (Rows.configNamesSpec.pre enc Tryz.prog Tryz.f3 [] false w args ∧ laidMetH Tryz.prog Rows.configNamesRow.laid w) ∧ sizedMet enc Tryz.prog Tryz.f3 (OpenSpec.ofChange Rows.configNamesSpec) false w args)
      (Rows.configNamesSpec.post enc Tryz.prog Tryz.f3 false true false false) := by
  refine returnsInHanded_of_change_and (C := Tryz.checked) (X := fun w _ => laidMetH Tryz.prog Rows.configNamesRow.laid w) (fun _ _ _ hh h => h.of_heap hh) own started (by kernel_rfl) Tryz.func3
    (ChangeSpec.witness_shaped (enc := enc) (C := Tryz.checked) (os := os) (X := fun w _ => laidMetH Tryz.prog Rows.configNamesRow.laid w) false (World.laidAll Tryz.prog os Rows.configNamesRow.laid) #[] 8 (World.laidAll_os _ _ _) (World.shaped_of_ZipB (by kernel_rfl) (by kernel_rfl)) (by kernel_rfl) (by kernel_rfl) (by kernel_rfl) (door_met os)) ?_
  intro W base args ds gs before h1 hW h2 h3 h4 h5
  exact contract H enc W args ds gs before (by first | exact h1 | exact h2 | exact h3 | exact h4 | exact h5) hW
theorem said : Rows.ConfigNamesSaid :=
  OpenClaim.holds_of_wide 3 Tryz.f3 rfl rfl rfl rfl rfl rfl rfl ⟨rfl, rfl, rfl, rfl, rfl⟩ rfl rfl rfl rfl rfl (by kernel_rfl) Tryz.func3 (by kernel_rfl)
    (of_decide_eq_true (by kernel_rfl)) (by unfold Func.isWrapper; first | (rw [if_pos (by decide +kernel)]; kernel_rfl) | (rw [if_neg (by decide +kernel)]; exact ⟨rfl, rfl⟩))
    (fun os started H enc _ => lifted os started H enc)
theorem plain (f : FuncId) (fn : Func) (hf : Tryz.pinned.checked.prog.funcNamed "spigot/spigotlaw43.ConfigNames" = some f) (hfn : Tryz.pinned.checked.prog.funcs[f]? = some fn) :
    true = Tryz.pinned.checked.prog.looks [] ∧ ∀ (j : Nat) t, fn.params[j]? = some t → Tryz.pinned.checked.prog.wantsStandIn t = false := by
  obtain rfl : f = 3 := Option.some.inj ((show Tryz.prog.funcNamed "spigot/spigotlaw43.ConfigNames" = some 3 by kernel_rfl).symm.trans hf) |>.symm
  obtain rfl : fn = Tryz.f3 := (Option.some.inj (Tryz.func3.symm.trans hfn)).symm
  refine ⟨by kernel_rfl, fun j t ht => ?_⟩
  rw [Tryz.params3] at ht
  simp at ht
theorem proved : Rows.ConfigNamesCardSaid :=
  Claim7.holds_tied_plain_at .later [] _ _ _ _ said (fun _ h => by cases h) (by kernel_rfl) (fun _ h => by cases h) configNames_row_tie rfl ⟨rfl, rfl⟩ (by kernel_rfl) rfl plain (by kernel_rfl)
#print axioms proved
end Go.Proofs.YtpfffhfempgmaaaGreatDoor.configNames
